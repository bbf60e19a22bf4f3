/-
  The document's store.
-/
import Derived.Test.YtimamemekdmpeaaAs16
namespace Go.Proofs.Ytimamemekdmpeaa
set_option linter.unusedSimpArgs false
set_option linter.unusedVariables false
set_option maxRecDepth 20000
set_option maxHeartbeats 4000000
open Go.RowKit Go.Pm

structure Re where
  id : Int
  n : Int
  d : At
def Re.e (r : Re) : En := ⟨r.id, r.n, r.d.nf⟩
def reC (r : Re) : List Value := [.int .i64 r.id, .int .i64 r.n, .int .i64 r.d.origin, .slice r.d.pa r.d.path.length r.d.pc, .int .u32 r.d.next, .bool r.d.hasMed, .int .u32 r.d.med, .bool r.d.hasLocal, .int .u32 r.d.loc, .bool r.d.atomic, .bool r.d.hasMaker, .int .u32 r.d.makerAS, .int .u32 r.d.maker, .slice r.d.ca r.d.comms.length r.d.cc, .slice r.d.oa r.d.others.length r.d.oc]
structure ROk (L : List Re) (S : List En) : Prop where
  e : L.map Re.e = S
  d : ∀ r ∈ L, AtF r.d
abbrev refL (rb : Nat) (ad : Option Addr) (c : Nat) (L : List Re) (cnt : Int) : List HP := [pts rb [.slice ad L.length c, .int .i64 cnt] 46, Ar 76 15 reC (.slice ad L.length c) L, has (fun w => ∀ r ∈ L, AtV w r.d)]
def refA (rb : Nat) (S : List En) (cnt : Int) : HP := fun h => ∃ (ad : Option Addr) (c : Nat) (L : List Re), ROk L S ∧ sats (refL rb ad c L cnt) h
structure Rx where
  ad : Option Addr
  c : Nat
  L : List Re
theorem refOpen {W : World} {K : Hl} {L R : List HP} {w : World} {rb : Nat} {S : List En} {cnt : Int} (H : Ow W K L w) (t : Tk L (refA rb S cnt) R) : ∃ x : {x : Rx // ROk x.L S}, Ow W K (pts rb [.slice x.1.ad x.1.L.length x.1.c, .int .i64 cnt] 46 :: Ar 76 15 reC (.slice x.1.ad x.1.L.length x.1.c) x.1.L :: has (fun w => ∀ r ∈ x.1.L, AtV w r.d) :: R) w :=
  H.open t (Bs := fun x : {x : Rx // ROk x.L S} => refL rb x.1.ad x.1.c x.1.L cnt) (fun k ⟨ad, c, L, hL, h⟩ => ⟨⟨⟨ad, c, L⟩, hL⟩, h⟩)
theorem refShut {W : World} {K : Hl} {L R : List HP} {w : World} {rb c n : Nat} {ad : Option Addr} {l : List Re} {S : List En} {cnt : Int} (hL : ROk l S) (hn : l.length = n) (H : Ow W K L w) (t : Sb L [pts rb [.slice ad n c, .int .i64 cnt] 46, Ar 76 15 reC (.slice ad n c) l, has (fun w => ∀ r ∈ l, AtV w r.d)] R) : Ow W K (refA rb S cnt :: R) w := by
  subst hn
  exact H.shut t (fun k hk => ⟨ad, c, l, hL, hk⟩)
theorem ROk.split {L : List Re} {A C : List En} {e : En} (h : ROk L (A ++ e :: C)) : ∃ LA r LC, L = LA ++ r :: LC ∧ r.e = e ∧ LA.map Re.e = A ∧ LC.map Re.e = C ∧ AtF r.d := by
  obtain ⟨LA, L2, rfl, h1, h2⟩ := List.map_eq_append_iff.1 h.e
  obtain ⟨r, LC, rfl, h3, h4⟩ := List.map_eq_cons_iff.1 h2
  exact ⟨LA, r, LC, rfl, h3, h1, h4, h.d r (by simp)⟩
theorem rat_hit (rb : Nat) (ad : Option Addr) (c : Nat) (cnt id : Int) (A C : List Re) (r : Re) (hl : (A ++ r :: C).length ≤ 5000) (hid : r.id = id) (hA : ∀ a ∈ A, a.id ≠ id) : Pact Try.prog 31 #[.pointer (some ⟨rb, 0, none⟩), .int .i64 id] (fun _ => True) (refL rb ad c (A ++ r :: C) cnt) (fun u L' => u = .int .i64 A.length ∧ L' = refL rb ad c (A ++ r :: C) cnt) := by
  refine pact Try.func31 rfl Try.ntmps31 rfl ?_
  intro W K _
  obtain ⟨L, hL⟩ : ∃ L, A ++ r :: C = L := ⟨_, rfl⟩
  have hr : L[A.length]? = some r := by rw [← hL]; simp
  have hAL : A.length < L.length := (List.getElem?_eq_some_iff.1 hr).1
  rw [hL] at hl ⊢
  (repeat' (first | ((with_reducible apply gJ); (first | refine J_seq ?_ | refine J_reg ?_ | refine J_skip ?_ | refine J_block ?_ | refine J_blk ?_ | refine J_exit rfl ?_ | refine J_goto rfl ?_ | ((with_reducible apply gJ_if); (first | refine J_ift rfl ?_ | refine J_iff rfl ?_ | (refine J_if xR ?_ ?_ <;> intro _ <;> (try (exfalso; first | contradiction | omega))) | (refine J_ifb xR ?_ ?_ <;> (intro hgb; subst hgb)) | (refine J_ifb xR ?_ ?_ <;> intro _) | fail)) | refine J_label ?_ | fail)) | ((with_reducible apply gL); (first | refine JL_nil ?_ | refine L_move ?_ | refine L_assign ?_ | refine L_fieldAddr ?_ | refine L_load ?_ | refine L_nilCheck ?_ | refine L_indexAddr ?_ | refine L_c_len ?_ | refine L_bin_eql ?_ | refine L_bin_lss ?_ | refine L_bin_add_i64 ?_ | refine L_bin_add_r ?_ | fail)) | fail))
  refine J_loop (α := Nat) 0 (fun x => L.length - x) (fun x => x ≤ A.length) (fun x => [(0, .pointer (some ⟨rb, 0, none⟩)), (1, .int .i64 id), (5, .int .i64 x)]) (fun _ => refL rb ad c L cnt) (Nat.zero_le _) ⟨rfl, rfl, rfl, trivial⟩ (fun w H => H.sel (by (first | ((with_reducible (repeat (first | exact Sb.nil | apply Sb.cons | exact Tk.here | apply Tk.there))); done) | (repeat (first | exact Sb.nil | apply Sb.cons | exact Tk.here | apply Tk.there))))) ?_
  intro k hk
  obtain ⟨x, hx⟩ : ∃ x, L[k]? = some x := ⟨_, List.getElem?_eq_getElem (by omega)⟩
  by_cases hkA : k = A.length
  · subst hkA
    rw [hr] at hx
    cases hx
    (repeat' (first | ((with_reducible apply gJ); (first | refine J_seq ?_ | refine J_reg ?_ | refine J_skip ?_ | refine J_block ?_ | refine J_blk ?_ | refine J_exit rfl ?_ | refine J_goto rfl ?_ | ((with_reducible apply gJ_if); (first | refine J_ift rfl ?_ | refine J_iff rfl ?_ | (refine J_if xR ?_ ?_ <;> intro _ <;> (try (exfalso; first | contradiction | omega))) | (refine J_ifb xR ?_ ?_ <;> (intro hgb; subst hgb)) | (refine J_ifb xR ?_ ?_ <;> intro _) | fail)) | refine J_label ?_ | fail)) | ((with_reducible apply gL); (first | refine JL_nil ?_ | refine L_move ?_ | refine L_assign ?_ | refine L_fieldAddr ?_ | refine L_load ?_ | refine L_nilCheck ?_ | refine L_indexAddr ?_ | refine L_c_len ?_ | refine L_bin_eql ?_ | refine L_bin_lss ?_ | refine L_bin_add_i64 ?_ | refine L_bin_add_r ?_ | fail)) | fail))
    all_goals (first | (exfalso; omega) | skip)
    exact J_ret1 rfl (by rfl) fun w H => ⟨_, ⟨rfl, rfl⟩, H.sel (by (first | ((with_reducible (repeat (first | exact Sb.nil | apply Sb.cons | exact Tk.here | apply Tk.there))); done) | (repeat (first | exact Sb.nil | apply Sb.cons | exact Tk.here | apply Tk.there))))⟩
  · have hxA : x.id ≠ id := by
      have : A[k]? = some x := by rw [← hx, ← hL, List.getElem?_append_left (by omega)]
      exact hA x (List.mem_of_getElem? this)
    (repeat' (first | ((with_reducible apply gJ); (first | refine J_seq ?_ | refine J_reg ?_ | refine J_skip ?_ | refine J_block ?_ | refine J_blk ?_ | refine J_exit rfl ?_ | refine J_goto rfl ?_ | ((with_reducible apply gJ_if); (first | refine J_ift rfl ?_ | refine J_iff rfl ?_ | (refine J_if xR ?_ ?_ <;> intro _ <;> (try (exfalso; first | contradiction | omega))) | (refine J_ifb xR ?_ ?_ <;> (intro hgb; subst hgb)) | (refine J_ifb xR ?_ ?_ <;> intro _) | fail)) | refine J_label ?_ | fail)) | ((with_reducible apply gL); (first | refine JL_nil ?_ | refine L_move ?_ | refine L_assign ?_ | refine L_fieldAddr ?_ | refine L_load ?_ | refine L_nilCheck ?_ | refine L_indexAddr ?_ | refine L_c_len ?_ | refine L_bin_eql ?_ | refine L_bin_lss ?_ | refine L_bin_add_i64 ?_ | refine L_bin_add_r ?_ | fail)) | fail))
    all_goals (first | (exfalso; omega) | skip)
    exact J_again (k + 1) (by omega) (by omega) ⟨rfl, rfl, rfl, trivial⟩ (fun w H => H.sel (by (first | ((with_reducible (repeat (first | exact Sb.nil | apply Sb.cons | exact Tk.here | apply Tk.there))); done) | (repeat (first | exact Sb.nil | apply Sb.cons | exact Tk.here | apply Tk.there)))))
theorem rat_miss (rb : Nat) (ad : Option Addr) (c : Nat) (cnt id : Int) (L : List Re) (hl : L.length ≤ 5000) (hA : ∀ a ∈ L, a.id ≠ id) : Pact Try.prog 31 #[.pointer (some ⟨rb, 0, none⟩), .int .i64 id] (fun _ => True) (refL rb ad c L cnt) (fun u L' => u = .int .i64 (-1) ∧ L' = refL rb ad c L cnt) := by
  refine pact Try.func31 rfl Try.ntmps31 rfl ?_
  intro W K _
  (repeat' (first | ((with_reducible apply gJ); (first | refine J_seq ?_ | refine J_reg ?_ | refine J_skip ?_ | refine J_block ?_ | refine J_blk ?_ | refine J_exit rfl ?_ | refine J_goto rfl ?_ | ((with_reducible apply gJ_if); (first | refine J_ift rfl ?_ | refine J_iff rfl ?_ | (refine J_if xR ?_ ?_ <;> intro _ <;> (try (exfalso; first | contradiction | omega))) | (refine J_ifb xR ?_ ?_ <;> (intro hgb; subst hgb)) | (refine J_ifb xR ?_ ?_ <;> intro _) | fail)) | refine J_label ?_ | fail)) | ((with_reducible apply gL); (first | refine JL_nil ?_ | refine L_move ?_ | refine L_assign ?_ | refine L_fieldAddr ?_ | refine L_load ?_ | refine L_nilCheck ?_ | refine L_indexAddr ?_ | refine L_c_len ?_ | refine L_bin_eql ?_ | refine L_bin_lss ?_ | refine L_bin_add_i64 ?_ | refine L_bin_add_r ?_ | fail)) | fail))
  refine J_loop (α := Nat) 0 (fun x => L.length - x) (fun x => x ≤ L.length) (fun x => [(0, .pointer (some ⟨rb, 0, none⟩)), (1, .int .i64 id), (5, .int .i64 x)]) (fun _ => refL rb ad c L cnt) (Nat.zero_le _) ⟨rfl, rfl, rfl, trivial⟩ (fun w H => H.sel (by (first | ((with_reducible (repeat (first | exact Sb.nil | apply Sb.cons | exact Tk.here | apply Tk.there))); done) | (repeat (first | exact Sb.nil | apply Sb.cons | exact Tk.here | apply Tk.there))))) ?_
  intro k hk
  by_cases hkA : k = L.length
  · subst hkA
    (repeat' (first | ((with_reducible apply gJ); (first | refine J_seq ?_ | refine J_reg ?_ | refine J_skip ?_ | refine J_block ?_ | refine J_blk ?_ | refine J_exit rfl ?_ | refine J_goto rfl ?_ | ((with_reducible apply gJ_if); (first | refine J_ift rfl ?_ | refine J_iff rfl ?_ | (refine J_if xR ?_ ?_ <;> intro _ <;> (try (exfalso; first | contradiction | omega))) | (refine J_ifb xR ?_ ?_ <;> (intro hgb; subst hgb)) | (refine J_ifb xR ?_ ?_ <;> intro _) | fail)) | refine J_label ?_ | fail)) | ((with_reducible apply gL); (first | refine JL_nil ?_ | refine L_move ?_ | refine L_assign ?_ | refine L_fieldAddr ?_ | refine L_load ?_ | refine L_nilCheck ?_ | refine L_indexAddr ?_ | refine L_c_len ?_ | refine L_bin_eql ?_ | refine L_bin_lss ?_ | refine L_bin_add_i64 ?_ | refine L_bin_add_r ?_ | fail)) | fail))
    all_goals (first | (exfalso; omega) | skip)
    exact J_ret1 rfl (by rfl) fun w H => ⟨_, ⟨rfl, rfl⟩, H.sel (by (first | ((with_reducible (repeat (first | exact Sb.nil | apply Sb.cons | exact Tk.here | apply Tk.there))); done) | (repeat (first | exact Sb.nil | apply Sb.cons | exact Tk.here | apply Tk.there))))⟩
  · obtain ⟨x, hx⟩ : ∃ x, L[k]? = some x := ⟨_, List.getElem?_eq_getElem (by omega)⟩
    have hxA := hA x (List.mem_of_getElem? hx)
    (repeat' (first | ((with_reducible apply gJ); (first | refine J_seq ?_ | refine J_reg ?_ | refine J_skip ?_ | refine J_block ?_ | refine J_blk ?_ | refine J_exit rfl ?_ | refine J_goto rfl ?_ | ((with_reducible apply gJ_if); (first | refine J_ift rfl ?_ | refine J_iff rfl ?_ | (refine J_if xR ?_ ?_ <;> intro _ <;> (try (exfalso; first | contradiction | omega))) | (refine J_ifb xR ?_ ?_ <;> (intro hgb; subst hgb)) | (refine J_ifb xR ?_ ?_ <;> intro _) | fail)) | refine J_label ?_ | fail)) | ((with_reducible apply gL); (first | refine JL_nil ?_ | refine L_move ?_ | refine L_assign ?_ | refine L_fieldAddr ?_ | refine L_load ?_ | refine L_nilCheck ?_ | refine L_indexAddr ?_ | refine L_c_len ?_ | refine L_bin_eql ?_ | refine L_bin_lss ?_ | refine L_bin_add_i64 ?_ | refine L_bin_add_r ?_ | fail)) | fail))
    all_goals (first | (exfalso; omega) | skip)
    exact J_again (k + 1) (by omega) (by omega) ⟨rfl, rfl, rfl, trivial⟩ (fun w H => H.sel (by (first | ((with_reducible (repeat (first | exact Sb.nil | apply Sb.cons | exact Tk.here | apply Tk.there))); done) | (repeat (first | exact Sb.nil | apply Sb.cons | exact Tk.here | apply Tk.there)))))
end Go.Proofs.Ytimamemekdmpeaa
