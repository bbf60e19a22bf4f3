/-
  Marks: more memory, more steps; many as one.
-/
import Derived.Test.YteekbpohocfmpaaCd18
namespace Go.Proofs.Yteekbpohocfmpaa
set_option linter.unusedSimpArgs false
set_option linter.unusedVariables false
set_option maxRecDepth 20000
set_option maxHeartbeats 4000000
open Go.RowKit Go.Pm

theorem Mk.mono {m : M3} {A : HP} {wb N N' : Nat} {F : Int → List Sp → List Sp} (h : Mk m A wb N F) (hN : N ≤ N') : Mk m A wb N' F := ⟨h.1, h.2.1, fun z a c T T2 h1 h2 h3 => h.2.2 z a c T T2 (by omega) h2 h3⟩
/-- Two parts as one. -/
def two (A B : HP) : HP := sats [A, B]
theorem Mk.wideL {m : M3} {A B : HP} {wb N : Nat} {F : Int → List Sp → List Sp} (h : Mk m A wb N F) : Mk m (two A B) wb N F := ⟨h.1, h.2.1, fun z a c T T2 h1 h2 h3 => fun W K w hK H => by
  obtain ⟨_, H2⟩ := Ow.open (A := two A B) H .here (Bs := fun _ : Unit => [A, B]) (fun k h => ⟨(), h⟩)
  simp only [List.cons_append, List.nil_append] at H2
  refine (h.2.2 z a c T T2 h1 h2 h3).call H2 (L := [A, B, pts wb [.slice a T.length c] 52, Ar 38 7 spC (.slice a T.length c) T]) (R := [B]) (by (first | ((with_reducible (repeat (first | exact Sb.nil | apply Sb.cons | exact Tk.here | apply Tk.there))); done) | (repeat (first | exact Sb.nil | apply Sb.cons | exact Tk.here | apply Tk.there)))) Kr.true ?_
  rintro v L' rfl w' H'
  exact ⟨v, _, rfl, rfl, (Ow.shut (A := two A B) (M := [A, B]) H' (by simp only [List.cons_append, List.nil_append]; (first | ((with_reducible (repeat (first | exact Sb.nil | apply Sb.cons | exact Tk.here | apply Tk.there))); done) | (repeat (first | exact Sb.nil | apply Sb.cons | exact Tk.here | apply Tk.there)))) (fun _ h => h)).sel (by (first | ((with_reducible (repeat (first | exact Sb.nil | apply Sb.cons | exact Tk.here | apply Tk.there))); done) | (repeat (first | exact Sb.nil | apply Sb.cons | exact Tk.here | apply Tk.there))))⟩⟩
theorem Mk.wideR {m : M3} {A B : HP} {wb N : Nat} {F : Int → List Sp → List Sp} (h : Mk m B wb N F) : Mk m (two A B) wb N F := ⟨h.1, h.2.1, fun z a c T T2 h1 h2 h3 => fun W K w hK H => by
  obtain ⟨_, H2⟩ := Ow.open (A := two A B) H .here (Bs := fun _ : Unit => [A, B]) (fun k h => ⟨(), h⟩)
  simp only [List.cons_append, List.nil_append] at H2
  refine (h.2.2 z a c T T2 h1 h2 h3).call H2 (L := [A, B, pts wb [.slice a T.length c] 52, Ar 38 7 spC (.slice a T.length c) T]) (R := [A]) (by (first | ((with_reducible (repeat (first | exact Sb.nil | apply Sb.cons | exact Tk.here | apply Tk.there))); done) | (repeat (first | exact Sb.nil | apply Sb.cons | exact Tk.here | apply Tk.there)))) Kr.true ?_
  rintro v L' rfl w' H'
  exact ⟨v, _, rfl, rfl, (Ow.shut (A := two A B) (M := [A, B]) H' (by simp only [List.cons_append, List.nil_append]; (first | ((with_reducible (repeat (first | exact Sb.nil | apply Sb.cons | exact Tk.here | apply Tk.there))); done) | (repeat (first | exact Sb.nil | apply Sb.cons | exact Tk.here | apply Tk.there)))) (fun _ h => h)).sel (by (first | ((with_reducible (repeat (first | exact Sb.nil | apply Sb.cons | exact Tk.here | apply Tk.there))); done) | (repeat (first | exact Sb.nil | apply Sb.cons | exact Tk.here | apply Tk.there))))⟩⟩
/-- Many, one behind the other. -/
def foldF (z : Int) : List (Int → List Sp → List Sp) → List Sp → List Sp
  | [], T => T
  | F :: r, T => foldF z r (F z T)
theorem foldF_append (z : Int) : ∀ (Fs Gs : List (Int → List Sp → List Sp)) (T : List Sp), foldF z (Fs ++ Gs) T = foldF z Gs (foldF z Fs T)
  | [], _, _ => rfl
  | F :: r, Gs, T => foldF_append z r Gs (F z T)
def Mks (A : HP) (wb N : Nat) (ms : List M3) (Fs : List (Int → List Sp → List Sp)) : Prop := ms.length = Fs.length ∧ ∀ (i : Nat) (m : M3) (F : Int → List Sp → List Sp), ms[i]? = some m → Fs[i]? = some F → Mk m A wb N F
theorem foldF_len (z : Int) : ∀ (Fs : List (Int → List Sp → List Sp)) (T : List Sp), (∀ F ∈ Fs, ∀ z T, (F z T).length = T.length) → (foldF z Fs T).length = T.length
  | [], _, _ => rfl
  | F :: r, T, h => by
    rw [foldF, foldF_len z r _ fun G hG => h G (List.mem_cons_of_mem _ hG), h F (by simp)]
def allA (A : HP) (lb : Nat) (oa : Option Addr) (oc : Nat) (ms : List M3) : HP := two A (two (pts lb [.slice oa ms.length oc] 77) (Ar 70 1 m3C (.slice oa ms.length oc) ms))
structure Lm where
  i : Nat
  T : List Sp
theorem allmark_s (A : HP) (wb N lb : Nat) (oa : Option Addr) (oc : Nat) (ms : List M3) (Fs : List (Int → List Sp → List Sp)) (hM : Mks A wb N ms Fs) (hl : ms.length ≤ 5) : Mk ⟨52, #[], #[.pointer (some ⟨lb, 0, none⟩)]⟩ (allA A lb oa oc ms) wb N (fun z => foldF z Fs) := by
  have hlen : ∀ F ∈ Fs, ∀ z T, (F z T).length = T.length := fun F hF => by
    obtain ⟨i, hi, rfl⟩ := List.mem_iff_getElem.1 hF
    exact (hM.2 i _ _ (List.getElem?_eq_getElem (by rw [hM.1]; exact hi)) (List.getElem?_eq_getElem hi)).2.1
  refine ⟨by show ownB Try.prog 52 = true; decide +kernel, fun z T => foldF_len z Fs T hlen, fun z a c T0 T9 hN hT h9 => ?_⟩
  have hT9 : T9.length = T0.length := by rw [← h9]; exact foldF_len z Fs T0 hlen
  refine pact Try.func52 rfl Try.ntmps52 rfl ?_
  intro W K _
  refine J_heap (L' := [A, pts lb [.slice oa ms.length oc] 77, Ar 70 1 m3C (.slice oa ms.length oc) ms, pts wb [.slice a T0.length c] 52, Ar 38 7 spC (.slice a T0.length c) T0]) (fun w H => ?_) ?_
  · obtain ⟨_, H2⟩ := Ow.open (A := allA A lb oa oc ms) H .here (Bs := fun _ : Unit => [A, two (pts lb [.slice oa ms.length oc] 77) (Ar 70 1 m3C (.slice oa ms.length oc) ms)]) (fun k h => ⟨(), h⟩)
    simp only [List.cons_append, List.nil_append] at H2
    obtain ⟨_, H3⟩ := Ow.open (A := two (pts lb [.slice oa ms.length oc] 77) (Ar 70 1 m3C (.slice oa ms.length oc) ms)) H2 (by (first | ((with_reducible (repeat (first | exact Tk.here | apply Tk.there))); done) | ((simp only [List.cons_append, List.nil_append]); (with_reducible (repeat (first | exact Tk.here | apply Tk.there))); done) | fail)) (Bs := fun _ : Unit => [pts lb [.slice oa ms.length oc] 77, Ar 70 1 m3C (.slice oa ms.length oc) ms]) (fun k h => ⟨(), h⟩)
    exact H3.sel (by simp only [List.cons_append, List.nil_append]; (first | ((with_reducible (repeat (first | exact Sb.nil | apply Sb.cons | exact Tk.here | apply Tk.there))); done) | (repeat (first | exact Sb.nil | apply Sb.cons | exact Tk.here | apply Tk.there))))
  (repeat' (first | ((with_reducible apply gJ); (first | refine J_seq ?_ | refine J_reg ?_ | refine J_skip ?_ | refine J_block ?_ | refine J_blk ?_ | refine J_exit rfl ?_ | refine J_goto rfl ?_ | ((with_reducible apply gJ_if); (first | refine J_ift rfl ?_ | refine J_iff rfl ?_ | (refine J_if xR ?_ ?_ <;> intro _ <;> (try (exfalso; first | contradiction | omega))) | (refine J_ifb xR ?_ ?_ <;> (intro hgb; subst hgb)) | (refine J_ifb xR ?_ ?_ <;> intro _) | fail)) | refine J_label ?_ | fail)) | ((with_reducible apply gL); (first | refine JL_nil ?_ | refine L_move ?_ | refine L_assign ?_ | refine L_load ?_ | refine L_indexAddr ?_ | refine L_c_len ?_ | refine L_bin_lss ?_ | refine L_bin_add_i64 ?_ | refine L_bin_add_r ?_ | fail)) | fail))
  refine J_loop (α := Lm) ⟨0, T0⟩ (fun x => ms.length - x.i) (fun x => x.i ≤ ms.length ∧ x.T.length = T0.length ∧ foldF z (Fs.drop x.i) x.T = T9) (fun x => [(0, .int .i64 z), (5, .slice oa ms.length oc), (6, .int .i64 ms.length), (7, .int .i64 x.i)]) (fun x => [A, pts lb [.slice oa ms.length oc] 77, Ar 70 1 m3C (.slice oa ms.length oc) ms, pts wb [.slice a x.T.length c] 52, Ar 38 7 spC (.slice a x.T.length c) x.T]) ⟨Nat.zero_le _, rfl, h9⟩ ⟨rfl, rfl, rfl, rfl, trivial⟩ (fun w H => H.sel (by (first | ((with_reducible (repeat (first | exact Sb.nil | apply Sb.cons | exact Tk.here | apply Tk.there))); done) | (repeat (first | exact Sb.nil | apply Sb.cons | exact Tk.here | apply Tk.there))))) ?_
  rintro ⟨i, T⟩ ⟨hi, hTl, hf⟩
  dsimp only at hi hTl hf ⊢
  by_cases hlt : i < ms.length
  · obtain ⟨m, hs⟩ : ∃ m, ms[i]? = some m := ⟨_, List.getElem?_eq_getElem hlt⟩
    obtain ⟨F, hF⟩ : ∃ F, Fs[i]? = some F := ⟨_, List.getElem?_eq_getElem (by rw [← hM.1]; exact hlt)⟩
    have hMk := hM.2 i m F hs hF
    have ho := hMk.1
    obtain ⟨T2, h2⟩ : ∃ T2, F z T = T2 := ⟨_, rfl⟩
    have h2l : T2.length = T.length := by rw [← h2]; exact hMk.2.1 z T
    rw [drop_cons hF, foldF, h2] at hf
    (repeat' (first | ((with_reducible apply gJ); (first | refine J_seq ?_ | refine J_reg ?_ | refine J_skip ?_ | refine J_block ?_ | refine J_blk ?_ | refine J_exit rfl ?_ | refine J_goto rfl ?_ | ((with_reducible apply gJ_if); (first | refine J_ift rfl ?_ | refine J_iff rfl ?_ | (refine J_if xR ?_ ?_ <;> intro _ <;> (try (exfalso; first | contradiction | omega))) | (refine J_ifb xR ?_ ?_ <;> (intro hgb; subst hgb)) | (refine J_ifb xR ?_ ?_ <;> intro _) | fail)) | refine J_label ?_ | fail)) | ((with_reducible apply gL); (first | refine JL_nil ?_ | refine L_move ?_ | refine L_assign ?_ | refine L_load ?_ | refine L_indexAddr ?_ | refine L_c_len ?_ | refine L_bin_lss ?_ | refine L_bin_add_i64 ?_ | refine L_bin_add_r ?_ | ((with_reducible apply gL_go); (first | (refine JL_goq (hMk.2.2 z a c T T2 (by omega) (by omega) h2) (hφ := xF) (h := ?_); rintro _ _ rfl; try simp only [List.cons_append, List.nil_append]) | fail)) | fail)) | fail))
    exact J_again ⟨i + 1, T2⟩ (by dsimp only; omega) ⟨by dsimp only; omega, by dsimp only; omega, hf⟩ ⟨rfl, rfl, rfl, rfl, trivial⟩ (fun w H => H.sel (by (first | ((with_reducible (repeat (first | exact Sb.nil | apply Sb.cons | exact Tk.here | apply Tk.there))); done) | (repeat (first | exact Sb.nil | apply Sb.cons | exact Tk.here | apply Tk.there)))))
  · obtain rfl : i = ms.length := by omega
    rw [hM.1, List.drop_length, foldF] at hf
    subst hf
    (iterate 7 (first | ((with_reducible apply gJ); (first | refine J_seq ?_ | refine J_reg ?_ | refine J_skip ?_ | refine J_block ?_ | refine J_blk ?_ | refine J_exit rfl ?_ | refine J_goto rfl ?_ | ((with_reducible apply gJ_if); (first | refine J_ift rfl ?_ | refine J_iff rfl ?_ | (refine J_if xR ?_ ?_ <;> intro _ <;> (try (exfalso; first | contradiction | omega))) | (refine J_ifb xR ?_ ?_ <;> (intro hgb; subst hgb)) | (refine J_ifb xR ?_ ?_ <;> intro _) | fail)) | refine J_label ?_ | fail)) | ((with_reducible apply gL); (first | refine JL_nil ?_ | refine L_move ?_ | refine L_assign ?_ | refine L_load ?_ | refine L_indexAddr ?_ | refine L_c_len ?_ | refine L_bin_lss ?_ | refine L_bin_add_i64 ?_ | refine L_bin_add_r ?_ | fail)) | fail))
    refine J_end0 rfl fun w H => ⟨_, rfl, ?_⟩
    refine Ow.sel (Ow.shut (A := allA A lb oa oc ms) (M := [A, two (pts lb [.slice oa ms.length oc] 77) (Ar 70 1 m3C (.slice oa ms.length oc) ms)]) (Ow.shut (A := two (pts lb [.slice oa ms.length oc] 77) (Ar 70 1 m3C (.slice oa ms.length oc) ms)) (M := [pts lb [.slice oa ms.length oc] 77, Ar 70 1 m3C (.slice oa ms.length oc) ms]) H (by (first | ((with_reducible (repeat (first | exact Sb.nil | apply Sb.cons | exact Tk.here | apply Tk.there))); done) | (repeat (first | exact Sb.nil | apply Sb.cons | exact Tk.here | apply Tk.there)))) (fun _ h => h)) (by (first | ((with_reducible (repeat (first | exact Sb.nil | apply Sb.cons | exact Tk.here | apply Tk.there))); done) | (repeat (first | exact Sb.nil | apply Sb.cons | exact Tk.here | apply Tk.there)))) (fun _ h => h)) (by (first | ((with_reducible (repeat (first | exact Sb.nil | apply Sb.cons | exact Tk.here | apply Tk.there))); done) | (repeat (first | exact Sb.nil | apply Sb.cons | exact Tk.here | apply Tk.there))))
theorem all_s (oa : Option Addr) (n oc : Nat) : Pact Try.prog 51 #[.slice oa n oc] (fun _ => True) [] (fun u L' => ∃ lb, u = .func (.func 52) #[] #[.pointer (some ⟨lb, 0, none⟩)] ∧ L' = [pts lb [.slice oa n oc] 77]) := by
  refine pact Try.func51 rfl Try.ntmps51 rfl ?_
  intro W K _
  (repeat' (first | ((with_reducible apply gJ); (first | refine J_seq ?_ | refine J_reg ?_ | refine J_skip ?_ | refine J_block ?_ | refine J_blk ?_ | refine J_exit rfl ?_ | refine J_goto rfl ?_ | ((with_reducible apply gJ_if); (first | refine J_ift rfl ?_ | refine J_iff rfl ?_ | (refine J_if xR ?_ ?_ <;> intro _ <;> (try (exfalso; first | contradiction | omega))) | (refine J_ifb xR ?_ ?_ <;> (intro hgb; subst hgb)) | (refine J_ifb xR ?_ ?_ <;> intro _) | fail)) | refine J_label ?_ | fail)) | ((with_reducible apply gL); (first | refine JL_nil ?_ | refine L_assign ?_ | refine L_makeFunc ?_ | ((with_reducible apply gL_box); (first | (refine JL_mc rfl xR xR (al_boxA xR) ?_; intro _) | (refine JL_mc rfl xR xR (al_boxC xR xR) ?_; intro _) | fail)) | fail)) | fail))
  exact J_ret1 rfl (by rfl) fun w H => ⟨_, ⟨_, rfl, rfl⟩, H.sel (by (first | ((with_reducible (repeat (first | exact Sb.nil | apply Sb.cons | exact Tk.here | apply Tk.there))); done) | (repeat (first | exact Sb.nil | apply Sb.cons | exact Tk.here | apply Tk.there))))⟩
end Go.Proofs.Yteekbpohocfmpaa
