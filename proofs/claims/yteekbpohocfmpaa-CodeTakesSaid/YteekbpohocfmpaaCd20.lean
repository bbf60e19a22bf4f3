/-
  The maker's members and cond.
-/
import Derived.Test.YteekbpohocfmpaaCd19
namespace Go.Proofs.Yteekbpohocfmpaa
set_option linter.unusedSimpArgs false
set_option linter.unusedVariables false
set_option maxRecDepth 20000
set_option maxHeartbeats 4000000
open Go.RowKit Go.Pm

def OnOk (F : Int → List Sp → List Sp) (p : Int → Int → List Sp) (k : Nat) : Prop := ∀ (T0 R : List Sp) (A B z : Int), T0.length = k → F z (T0 ++ p A B ++ R) = T0 ++ p z B ++ R
def OffOk (F : Int → List Sp → List Sp) (p : Int → Int → List Sp) (k : Nat) : Prop := ∀ (T0 R : List Sp) (A B z : Int), T0.length = k → F z (T0 ++ p A B ++ R) = T0 ++ p A z ++ R
theorem OnOk.swap {F : Int → List Sp → List Sp} {p : Int → Int → List Sp} {k : Nat} (h : OnOk F p k) : OffOk F (fun A B => p B A) k := fun T0 R A B z h0 => h T0 R B A z h0
theorem OffOk.swap {F : Int → List Sp → List Sp} {p : Int → Int → List Sp} {k : Nat} (h : OffOk F p k) : OnOk F (fun A B => p B A) k := fun T0 R A B z h0 => h T0 R B A z h0
/-- Members, one behind the other: the last one's first place, and the other place of all, are told from outside. -/
def seqQ (f : Nat → Cd → Int → Int → List Sp) (t : Cd → Nat) (A B : Int) : Nat → List Cd → List Sp
  | _, [] => []
  | k, y :: r => f k y (if r = [] then A else (k : Int) + t y) B ++ seqQ f t A B (k + t y) r
theorem seqP_false {f : Nat → Cd → Int → Int → List Sp} {t : Cd → Nat} (X Y : Int) : ∀ {l : List Cd} {k : Nat}, (∀ y ∈ l, ∀ k A B, (f k y A B).length = t y) → seqP f t false X Y k l = seqQ f t X Y k l
  | [], _, _ => rfl
  | y :: r, k, hf => by
    simp only [seqP, seqQ, Bool.false_eq_true, if_false, hf y (by simp)]
    rw [seqP_false X Y fun z hz => hf z (List.mem_cons_of_mem _ hz)]
theorem seqP_true {f : Nat → Cd → Int → Int → List Sp} {t : Cd → Nat} (X Y : Int) : ∀ {l : List Cd} {k : Nat}, (∀ y ∈ l, ∀ k A B, (f k y A B).length = t y) → seqP f t true X Y k l = seqQ (fun k y A B => f k y B A) t Y X k l
  | [], _, _ => rfl
  | y :: r, k, hf => by
    simp only [seqP, seqQ, if_true, hf y (by simp)]
    rw [seqP_true X Y fun z hz => hf z (List.mem_cons_of_mem _ hz)]
theorem seqQ_len {f : Nat → Cd → Int → Int → List Sp} {t : Cd → Nat} (A B : Int) : ∀ {l : List Cd} {k : Nat}, (∀ y ∈ l, ∀ k A B, (f k y A B).length = t y) → (seqQ f t A B k l).length = (l.map t).sum
  | [], _, _ => rfl
  | y :: r, k, hf => by
    simp only [seqQ, List.length_append, hf y (by simp), List.map_cons, List.sum_cons]
    rw [seqQ_len A B fun z hz => hf z (List.mem_cons_of_mem _ hz)]
theorem seqQ_snoc {f : Nat → Cd → Int → Int → List Sp} {t : Cd → Nat} (A B : Int) : ∀ {l : List Cd} {k : Nat} (y : Cd), seqQ f t A B k (l ++ [y]) = seqQ f t ((k : Int) + ((l.map t).sum : Nat)) B k l ++ f (k + (l.map t).sum) y A B
  | [], k, y => by simp [seqQ]
  | x :: r, k, y => by
    have hne : r ++ [y] ≠ [] := by simp
    simp only [List.cons_append, seqQ, if_neg hne, List.map_cons, List.sum_cons]
    rw [seqQ_snoc A B y, List.append_assoc, Nat.add_assoc]
    by_cases hr : r = []
    · subst hr; simp [seqQ]
    · simp only [if_neg hr]
      congr 3
      push_cast
      omega
structure Lw2 where
  i : Nat
  T : List Sp
  a : Option Addr
  c : Nat
  lv : Value
  ms : List M3
  oa : Option Addr
  oc : Nat
  A : HP
  Fs : List (Int → List Sp → List Sp)
  Fl : Int → List Sp → List Sp
structure MemOk (f : Nat → Cd → Int → Int → List Sp) (t : Cd → Nat) (l : List Cd) (wb : Nat) (T0 : List Sp) (z : Lw2) : Prop where
  i : z.i ≤ l.length
  T : T0 ++ seqQ f t 0 0 T0.length (l.take z.i) = z.T
  ms : Mks z.A wb z.T.length z.ms z.Fs
  n : z.ms.length = z.i
  off : OffOk (fun v => foldF v z.Fs) (fun A B => seqQ f t A B T0.length (l.take z.i)) T0.length
  on : 0 < z.i → ∃ m : M3, z.lv = .func (.func m.f) m.first m.caps ∧ Mk m z.A wb z.T.length z.Fl ∧ OnOk z.Fl (fun A B => seqQ f t A B T0.length (l.take z.i)) T0.length
/-- What is asked of the maker's cond. -/
def CondRes (wb : Nat) (g : Nat → Int → Int → List Sp) (T T2 : List Sp) (u : Value) (L' : List HP) : Prop := ∃ (m1 m2 : M3) (A : HP) (a' : Option Addr) (c' : Nat) (F1 F2 : Int → List Sp → List Sp), u = .tuple #[.func (.func m1.f) m1.first m1.caps, .func (.func m2.f) m2.first m2.caps] ∧ L' = [A, pts wb [.slice a' T2.length c'] 52, Ar 38 7 spC (.slice a' T2.length c') T2] ∧ Mk m1 A wb T2.length F1 ∧ Mk m2 A wb T2.length F2 ∧ OnOk F1 (g T.length) T.length ∧ OffOk F2 (g T.length) T.length
def CondOk (F : FuncId) (y : Cd) (φ : World → Prop) (g : Nat → Int → Int → List Sp) : Prop := ∀ (wb : Nat) (a : Option Addr) (c : Nat) (T T2 : List Sp), T2.length ≤ 400000000 → T ++ g T.length 0 0 = T2 → Pact Try.prog F #[.pointer (some ⟨wb, 0, none⟩), .agg (cdC y).toArray] φ [pts wb [.slice a T.length c] 52, Ar 38 7 spC (.slice a T.length c) T] (CondRes wb g T T2)
theorem on_app {F : Int → List Sp → List Sp} {f : Nat → Cd → Int → Int → List Sp} {t : Cd → Nat} {l : List Cd} {y : Cd} {k : Nat} (hf : ∀ y ∈ l, ∀ k A B, (f k y A B).length = t y) (h : OnOk F (f (k + (l.map t).sum) y) (k + (l.map t).sum)) : OnOk F (fun A B => seqQ f t A B k (l ++ [y])) k := by
  intro T0 R A B z h0
  simp only [seqQ_snoc]
  have := h (T0 ++ seqQ f t ((k : Int) + ((l.map t).sum : Nat)) B k l) R A B z (by rw [List.length_append, seqQ_len _ _ hf, h0])
  simpa only [List.append_assoc] using this
theorem off_app {F : Int → List Sp → List Sp} {Fs : List (Int → List Sp → List Sp)} {f : Nat → Cd → Int → Int → List Sp} {t : Cd → Nat} {l : List Cd} {y : Cd} {k : Nat} (hf : ∀ y ∈ l, ∀ k A B, (f k y A B).length = t y) (h1 : OffOk (fun v => foldF v Fs) (fun A B => seqQ f t A B k l) k) (h : OffOk F (f (k + (l.map t).sum) y) (k + (l.map t).sum)) : OffOk (fun v => foldF v (Fs ++ [F])) (fun A B => seqQ f t A B k (l ++ [y])) k := by
  intro T0 R A B z h0
  simp only [seqQ_snoc, foldF_append, foldF]
  have e1 := h1 T0 (f (k + (l.map t).sum) y A B ++ R) ((k : Int) + ((l.map t).sum : Nat)) B z h0
  have e2 := h (T0 ++ seqQ f t ((k : Int) + ((l.map t).sum : Nat)) z k l) R A B z (by rw [List.length_append, seqQ_len _ _ hf, h0])
  simp only [List.append_assoc] at e1 e2 ⊢
  rw [e1, e2]
theorem Mks.wide {A B : HP} {wb N N' : Nat} {ms : List M3} {Fs : List (Int → List Sp → List Sp)} (h : Mks A wb N ms Fs) (hN : N ≤ N') : Mks (two A B) wb N' ms Fs := ⟨h.1, fun i m F h1 h2 => ((h.2 i m F h1 h2).mono hN).wideL⟩
theorem Mks.snoc {A B : HP} {wb N N' : Nat} {ms : List M3} {Fs : List (Int → List Sp → List Sp)} {m : M3} {F : Int → List Sp → List Sp} (h : Mks A wb N ms Fs) (hN : N ≤ N') (hm : Mk m B wb N' F) : Mks (two A B) wb N' (ms ++ [m]) (Fs ++ [F]) := by
  refine ⟨by rw [List.length_append, List.length_append, h.1]; rfl, fun i m' F' h1 h2 => ?_⟩
  by_cases hi : i < ms.length
  · rw [List.getElem?_append_left hi] at h1
    rw [List.getElem?_append_left (by rw [← h.1]; exact hi)] at h2
    exact ((h.2 i m' F' h1 h2).mono hN).wideL
  · rw [List.getElem?_append_right (by omega)] at h1
    rw [List.getElem?_append_right (by rw [← h.1]; omega), ← h.1] at h2
    have h0 : i - ms.length = 0 := by
      have := (List.getElem?_eq_some_iff.1 h1).1
      simp at this
      omega
    rw [h0] at h1 h2
    cases h1
    cases h2
    exact hm.wideR
theorem members_every (x : Cd) (φ : Cd → World → Prop) (f : Nat → Cd → Int → Int → List Sp) (t : Cd → Nat) (ho : x.op = 1) (hl : x.l.length ≤ 5) (hne : x.l ≠ [])
    (hf : ∀ y ∈ x.l, ∀ k A B, (f k y A B).length = t y)
    (hP : ∀ y ∈ x.l, CondOk 43 y (φ y) (fun k X Y => f k y X Y)) : CondOk 47 x (Kids φ x) (fun k X Y => seqQ f t X Y k x.l) := by
  intro wb a0 c0 T0 T9 hb h9
  refine pact Try.func47 rfl Try.ntmps47 rfl ?_
  intro W K hK
  dsimp only at h9
  have hkv : Kn K (fun w => Vw w (.slice x.a x.l.length x.c) 5 x.l.length (flat cdC x.l)) := hK.imp fun w h => h.1 hne
  (repeat' (first | ((with_reducible apply gJ); (first | refine J_seq ?_ | refine J_reg ?_ | refine J_skip ?_ | refine J_block ?_ | refine J_blk ?_ | refine J_exit rfl ?_ | refine J_goto rfl ?_ | ((with_reducible apply gJ_if); (first | refine J_ift rfl ?_ | refine J_iff rfl ?_ | (refine J_if xR ?_ ?_ <;> intro _ <;> (try (exfalso; first | contradiction | omega))) | (refine J_ifb xR ?_ ?_ <;> (intro hgb; subst hgb)) | (refine J_ifb xR ?_ ?_ <;> intro _) | fail)) | refine J_label ?_ | fail)) | ((with_reducible apply gL); (first | refine JL_nil ?_ | refine L_move ?_ | refine L_assign ?_ | refine L_fieldAddr ?_ | refine L_load ?_ | refine L_nilCheck ?_ | refine L_indexAddr ?_ | refine L_extract ?_ | refine L_c_len ?_ | refine L_bin_eql ?_ | refine L_bin_lss ?_ | refine L_bin_gtr ?_ | refine L_bin_add_i64 ?_ | refine L_bin_add_r ?_ | ((with_reducible apply gL_box); (first | (refine JL_mc rfl xR xR (al_boxA xR) ?_; intro _) | (refine JL_mc rfl xR xR (al_boxC xR xR) ?_; intro _) | fail)) | ((with_reducible apply gL_alloc); (first | (refine JL_mc rfl xR xR (al_alloc xN xK) ?_; intro _) | fail)) | ((with_reducible apply gL_buildSlice); (first | (refine JL_mc rfl xR xR (al_bs1 xR (tabE etab_ok xR) xK) ?_; intro _) | (refine JL_mc rfl xR xR (al_bs xR (tabE etab_ok xR) xN xK) ?_; intro _) | fail)) | ((with_reducible apply gL_store); (first | refine JL_st xR xR xT xC xR xE xR ?_ | refine JL_stW xR xR xT xW xR xR xR ?_ | refine JL_stS xR xR xT xW xP xR xR ?_ | refine JL_stEl xR xR xT xR xL xR (tabS stab_ok xR) xR xR xO ?_ | fail)) | ((with_reducible apply gL_c_append); (first | (refine JL_ap1 (tabE etab_ok xR) xR xR xT xT xC xR xL xR xO xR xR ?_; intro _ _ _ _) | (refine JL_app (tabE etab_ok xR) xR xR xT xV xC xL xU xO xR xR ?_; intro _ _ _ _) | fail)) | fail)) | fail))
  rename Nat => b3
  refine J_loop (α := Lw2) ⟨0, T0, a0, c0, _, [], none, 0, sats [], [], fun _ T => T⟩ (fun z => x.l.length - z.i) (MemOk f t x.l wb T0) (fun z => [(0, .pointer (some ⟨wb, 0, none⟩)), (3, .pointer (some ⟨b3, 0, none⟩)), (6, .slice z.oa z.ms.length z.oc), (7, z.lv), (13, .slice x.a x.l.length x.c), (14, .int .i64 x.l.length), (15, .int .i64 z.i)])
    (fun z => [z.A, pts b3 (cdC x) 45, pts wb [.slice z.a z.T.length z.c] 52, Ar 38 7 spC (.slice z.a z.T.length z.c) z.T, Ar 70 1 m3C (.slice z.oa z.ms.length z.oc) z.ms])
    ⟨Nat.zero_le _, by simp [seqQ], ⟨rfl, fun i m F h1 _ => by simp at h1⟩, rfl, fun T0 R A B z h0 => by simp [seqQ, foldF], fun h => absurd h (by simp)⟩ ⟨rfl, rfl, rfl, rfl, rfl, rfl, rfl, trivial⟩ (fun w H => (Ow.satsNil (Ow.arNil (e := 70) (sz := 1) (enc := m3C) H)).sel (by (first | ((with_reducible (repeat (first | exact Sb.nil | apply Sb.cons | exact Tk.here | apply Tk.there))); done) | (repeat (first | exact Sb.nil | apply Sb.cons | exact Tk.here | apply Tk.there))))) ?_
  rintro ⟨i, T, a, c, lv, ms, oa, oc, A, Fs, Fl⟩ ⟨hi, hT, hms, hn, hoff, hon⟩
  dsimp only at hi hT hms hn hoff hon ⊢
  by_cases hlt : i < x.l.length
  · obtain ⟨y, hs⟩ : ∃ y, x.l[i]? = some y := ⟨_, List.getElem?_eq_getElem hlt⟩
    have hm := List.mem_of_getElem? hs
    have htk : x.l.take (i + 1) = x.l.take i ++ [y] := by rw [List.take_add_one, hs]; rfl
    have hft : ∀ y ∈ x.l.take i, ∀ k A B, (f k y A B).length = t y := fun y hy => hf y (List.mem_of_mem_take hy)
    have hTl : T.length = T0.length + ((x.l.take i).map t).sum := by rw [← hT, List.length_append, seqQ_len _ _ hft]
    -- the table behind the last one's place, and behind this member
    obtain ⟨T1, h1⟩ : ∃ T1, T0 ++ seqQ f t (T.length : Int) 0 T0.length (x.l.take i) = T1 := ⟨_, rfl⟩
    have h1l : T1.length = T.length := by rw [← h1, List.length_append, seqQ_len _ _ hft, hTl]
    obtain ⟨T2, h2⟩ : ∃ T2, T1 ++ f T1.length y 0 0 = T2 := ⟨_, rfl⟩
    have hT2 : T0 ++ seqQ f t 0 0 T0.length (x.l.take (i + 1)) = T2 := by
      rw [htk, seqQ_snoc, ← List.append_assoc, ← h2, h1l, hTl, ← h1, hTl]
      push_cast
      rfl
    have hT2l : T2.length ≤ T9.length := by
      rw [← hT2, ← h9, List.length_append, List.length_append, seqQ_len _ _ (fun y hy => hf y (List.mem_of_mem_take hy)), seqQ_len _ _ hf]
      have := sum_part (f := t) x.l (i + 1)
      omega
    have h12 : T1.length ≤ T2.length := by rw [← h2, List.length_append]; omega
    have hcnd := hP y hm wb
    by_cases hi0 : 0 < i
    · obtain ⟨m, rfl, hmk, honk⟩ := hon hi0
      have hown := hmk.1
      have hFl : Fl (T.length : Int) T = T1 := by
        have := honk T0 [] 0 0 (T.length : Int) rfl
        rw [List.append_nil, List.append_nil] at this
        rw [← h1, ← this, hT]
      (repeat' (first | ((with_reducible apply gJ); (first | refine J_seq ?_ | refine J_reg ?_ | refine J_skip ?_ | refine J_block ?_ | refine J_blk ?_ | refine J_exit rfl ?_ | refine J_goto rfl ?_ | ((with_reducible apply gJ_if); (first | refine J_ift rfl ?_ | refine J_iff rfl ?_ | (refine J_if xR ?_ ?_ <;> intro _ <;> (try (exfalso; first | contradiction | omega))) | (refine J_ifb xR ?_ ?_ <;> (intro hgb; subst hgb)) | (refine J_ifb xR ?_ ?_ <;> intro _) | fail)) | refine J_label ?_ | fail)) | ((with_reducible apply gL); (first | refine JL_nil ?_ | ((with_reducible apply gL_c_append); (first | (first | (refine JL_ap1 (z := m2) (tabE etab_ok xR) xR xR xA xA xC xR xL xR (by omega) xR xR ?_; intro ad4 c4 _ _) | (refine JD_ap1 (z := m2) (tabE etab_ok xR) xR xR xA xA xC xR xL xR (by omega) xR ?_; intro ad4 c4 _ _)) | fail)) | refine L_move ?_ | refine L_assign ?_ | refine L_fieldAddr ?_ | refine L_load ?_ | refine L_nilCheck ?_ | refine L_indexAddr ?_ | refine L_extract ?_ | refine L_c_len ?_ | refine L_bin_eql ?_ | refine L_bin_lss ?_ | refine L_bin_gtr ?_ | refine L_bin_add_i64 ?_ | refine L_bin_add_r ?_ | ((with_reducible apply gL_box); (first | (refine JL_mc rfl xR xR (al_boxA xR) ?_; intro _) | (refine JL_mc rfl xR xR (al_boxC xR xR) ?_; intro _) | fail)) | ((with_reducible apply gL_alloc); (first | (refine JL_mc rfl xR xR (al_alloc xN xK) ?_; intro _) | fail)) | ((with_reducible apply gL_buildSlice); (first | (refine JL_mc rfl xR xR (al_bs1 xR (tabE etab_ok xR) xK) ?_; intro _) | (refine JL_mc rfl xR xR (al_bs xR (tabE etab_ok xR) xN xK) ?_; intro _) | fail)) | ((with_reducible apply gL_store); (first | refine JL_st xR xR xT xC xR xE xR ?_ | refine JL_stW xR xR xT xW xR xR xR ?_ | refine JL_stS xR xR xT xW xP xR xR ?_ | refine JL_stEl xR xR xT xR xL xR (tabS stab_ok xR) xR xR xO ?_ | fail)) | ((with_reducible apply gL_c_append); (first | (refine JL_ap1 (tabE etab_ok xR) xR xR xT xT xC xR xL xR xO xR xR ?_; intro _ _ _ _) | (refine JL_app (tabE etab_ok xR) xR xR xT xV xC xL xU xO xR xR ?_; intro _ _ _ _) | fail)) | ((with_reducible apply gL_go); (first | (refine JL_goq (hmk.2.2 (T.length : Int) a c T T1 (by omega) (by omega) hFl) (hφ := xF) (h := ?_); rintro _ _ rfl; try simp only [List.cons_append, List.nil_append]) | (refine JL_goq (hcnd a c T1 T2 (by omega) h2) (hφ := (by (try simp only [List.cons_append, List.nil_append]); exact fun w hr => (hK w hr.1).2 y hm)) (h := ?_); rintro _ _ ⟨m1, m2, A2, a2, c2, F1, F2, rfl, rfl, k1, k2, k3, k4⟩; try simp only [List.cons_append, List.nil_append]) | fail)) | fail)) | fail))
      all_goals (first | (exfalso; omega) | skip)
      refine J_again ⟨i + 1, T2, a2, c2, _, ms ++ [m2], ad4, c4, two A A2, Fs ++ [F2], F1⟩ (by dsimp only; omega) ⟨by dsimp only; omega, hT2, Mks.snoc hms (by first | omega | (dsimp only; omega)) (k2), by simp [hn], ?_, fun _ => ⟨m1, rfl, (k1).wideR, ?_⟩⟩ ⟨rfl, rfl, ?_, rfl, rfl, rfl, rfl, trivial⟩ (fun w H => ?_)
      · dsimp only
        rw [htk]
        exact off_app hft hoff (by rw [← hTl, ← h1l]; exact k4)
      · dsimp only
        rw [htk]
        exact on_app hft (by rw [← hTl, ← h1l]; exact k3)
      · show some _ = some _
        simp
      · simp only [List.length_append, List.length_cons, List.length_nil]
        exact (Ow.shut (A := two A A2) (M := [A, A2]) H (by (first | ((with_reducible (repeat (first | exact Sb.nil | apply Sb.cons | exact Tk.here | apply Tk.there))); done) | (repeat (first | exact Sb.nil | apply Sb.cons | exact Tk.here | apply Tk.there)))) (fun _ h => h)).sel (by (first | ((with_reducible (repeat (first | exact Sb.nil | apply Sb.cons | exact Tk.here | apply Tk.there))); done) | (repeat (first | exact Sb.nil | apply Sb.cons | exact Tk.here | apply Tk.there))))
    · have hi00 : i = 0 := by omega
      subst hi00
      have hT10 : T1 = T := by rw [← h1, ← hT]; simp [seqQ]
      subst hT10
      (repeat' (first | ((with_reducible apply gJ); (first | refine J_seq ?_ | refine J_reg ?_ | refine J_skip ?_ | refine J_block ?_ | refine J_blk ?_ | refine J_exit rfl ?_ | refine J_goto rfl ?_ | ((with_reducible apply gJ_if); (first | refine J_ift rfl ?_ | refine J_iff rfl ?_ | (refine J_if xR ?_ ?_ <;> intro _ <;> (try (exfalso; first | contradiction | omega))) | (refine J_ifb xR ?_ ?_ <;> (intro hgb; subst hgb)) | (refine J_ifb xR ?_ ?_ <;> intro _) | fail)) | refine J_label ?_ | fail)) | ((with_reducible apply gL); (first | refine JL_nil ?_ | ((with_reducible apply gL_c_append); (first | (first | (refine JL_ap1 (z := m2) (tabE etab_ok xR) xR xR xA xA xC xR xL xR (by omega) xR xR ?_; intro ad4 c4 _ _) | (refine JD_ap1 (z := m2) (tabE etab_ok xR) xR xR xA xA xC xR xL xR (by omega) xR ?_; intro ad4 c4 _ _)) | fail)) | refine L_move ?_ | refine L_assign ?_ | refine L_fieldAddr ?_ | refine L_load ?_ | refine L_nilCheck ?_ | refine L_indexAddr ?_ | refine L_extract ?_ | refine L_c_len ?_ | refine L_bin_eql ?_ | refine L_bin_lss ?_ | refine L_bin_gtr ?_ | refine L_bin_add_i64 ?_ | refine L_bin_add_r ?_ | ((with_reducible apply gL_box); (first | (refine JL_mc rfl xR xR (al_boxA xR) ?_; intro _) | (refine JL_mc rfl xR xR (al_boxC xR xR) ?_; intro _) | fail)) | ((with_reducible apply gL_alloc); (first | (refine JL_mc rfl xR xR (al_alloc xN xK) ?_; intro _) | fail)) | ((with_reducible apply gL_buildSlice); (first | (refine JL_mc rfl xR xR (al_bs1 xR (tabE etab_ok xR) xK) ?_; intro _) | (refine JL_mc rfl xR xR (al_bs xR (tabE etab_ok xR) xN xK) ?_; intro _) | fail)) | ((with_reducible apply gL_store); (first | refine JL_st xR xR xT xC xR xE xR ?_ | refine JL_stW xR xR xT xW xR xR xR ?_ | refine JL_stS xR xR xT xW xP xR xR ?_ | refine JL_stEl xR xR xT xR xL xR (tabS stab_ok xR) xR xR xO ?_ | fail)) | ((with_reducible apply gL_c_append); (first | (refine JL_ap1 (tabE etab_ok xR) xR xR xT xT xC xR xL xR xO xR xR ?_; intro _ _ _ _) | (refine JL_app (tabE etab_ok xR) xR xR xT xV xC xL xU xO xR xR ?_; intro _ _ _ _) | fail)) | ((with_reducible apply gL_go); (first | (refine JL_goq (hcnd a c T1 T2 (by omega) h2) (hφ := (by (try simp only [List.cons_append, List.nil_append]); exact fun w hr => (hK w hr.1).2 y hm)) (h := ?_); rintro _ _ ⟨m1, m2, A2, a2, c2, F1, F2, rfl, rfl, k1, k2, k3, k4⟩; try simp only [List.cons_append, List.nil_append]) | fail)) | fail)) | fail))
      all_goals (first | (exfalso; omega) | skip)
      refine J_again ⟨0 + 1, T2, a2, c2, _, ms ++ [m2], ad4, c4, two A A2, Fs ++ [F2], F1⟩ (by dsimp only; omega) ⟨by dsimp only; omega, hT2, Mks.snoc hms (by first | omega | (dsimp only; omega)) (k2), by simp [hn], ?_, fun _ => ⟨m1, rfl, (k1).wideR, ?_⟩⟩ ⟨rfl, rfl, ?_, rfl, rfl, rfl, rfl, trivial⟩ (fun w H => ?_)
      · dsimp only
        rw [htk]
        exact off_app hft hoff (by rw [← hTl, ← h1l]; exact k4)
      · dsimp only
        rw [htk]
        exact on_app hft (by rw [← hTl, ← h1l]; exact k3)
      · show some _ = some _
        simp
      · simp only [List.length_append, List.length_cons, List.length_nil]
        exact (Ow.shut (A := two A A2) (M := [A, A2]) H (by (first | ((with_reducible (repeat (first | exact Sb.nil | apply Sb.cons | exact Tk.here | apply Tk.there))); done) | (repeat (first | exact Sb.nil | apply Sb.cons | exact Tk.here | apply Tk.there)))) (fun _ h => h)).sel (by (first | ((with_reducible (repeat (first | exact Sb.nil | apply Sb.cons | exact Tk.here | apply Tk.there))); done) | (repeat (first | exact Sb.nil | apply Sb.cons | exact Tk.here | apply Tk.there))))
  · obtain rfl : i = x.l.length := by omega
    rw [List.take_length] at hT hoff hon
    have hpos : 0 < x.l.length := List.length_pos_iff.2 hne
    obtain ⟨m, rfl, hmk, honk⟩ := hon hpos
    have hT9 : T = T9 := by rw [← hT, ← h9]
    subst hT9
    (repeat' (first | ((with_reducible apply gJ); (first | refine J_seq ?_ | refine J_reg ?_ | refine J_skip ?_ | refine J_block ?_ | refine J_blk ?_ | refine J_exit rfl ?_ | refine J_goto rfl ?_ | ((with_reducible apply gJ_if); (first | refine J_ift rfl ?_ | refine J_iff rfl ?_ | (refine J_if xR ?_ ?_ <;> intro _ <;> (try (exfalso; first | contradiction | omega))) | (refine J_ifb xR ?_ ?_ <;> (intro hgb; subst hgb)) | (refine J_ifb xR ?_ ?_ <;> intro _) | fail)) | refine J_label ?_ | fail)) | ((with_reducible apply gL); (first | refine JL_nil ?_ | refine L_move ?_ | refine L_assign ?_ | refine L_fieldAddr ?_ | refine L_load ?_ | refine L_nilCheck ?_ | refine L_indexAddr ?_ | refine L_extract ?_ | refine L_c_len ?_ | refine L_bin_eql ?_ | refine L_bin_lss ?_ | refine L_bin_gtr ?_ | refine L_bin_add_i64 ?_ | refine L_bin_add_r ?_ | ((with_reducible apply gL_box); (first | (refine JL_mc rfl xR xR (al_boxA xR) ?_; intro _) | (refine JL_mc rfl xR xR (al_boxC xR xR) ?_; intro _) | fail)) | ((with_reducible apply gL_alloc); (first | (refine JL_mc rfl xR xR (al_alloc xN xK) ?_; intro _) | fail)) | ((with_reducible apply gL_buildSlice); (first | (refine JL_mc rfl xR xR (al_bs1 xR (tabE etab_ok xR) xK) ?_; intro _) | (refine JL_mc rfl xR xR (al_bs xR (tabE etab_ok xR) xN xK) ?_; intro _) | fail)) | ((with_reducible apply gL_store); (first | refine JL_st xR xR xT xC xR xE xR ?_ | refine JL_stW xR xR xT xW xR xR xR ?_ | refine JL_stS xR xR xT xW xP xR xR ?_ | refine JL_stEl xR xR xT xR xL xR (tabS stab_ok xR) xR xR xO ?_ | fail)) | ((with_reducible apply gL_c_append); (first | (refine JL_ap1 (tabE etab_ok xR) xR xR xT xT xC xR xL xR xO xR xR ?_; intro _ _ _ _) | (refine JL_app (tabE etab_ok xR) xR xR xT xV xC xL xU xO xR xR ?_; intro _ _ _ _) | fail)) | ((with_reducible apply gL_go); (first | (refine JL_goq (all_s oa ms.length oc) (hφ := xF) (h := ?_); rintro _ _ ⟨lb, rfl, rfl⟩; try simp only [List.cons_append, List.nil_append]) | fail)) | fail)) | fail))
    refine J_ret2 rfl (by rfl) (by rfl) fun w H => ⟨_, ⟨m, ⟨52, #[], #[.pointer (some ⟨lb, 0, none⟩)]⟩, allA A lb oa oc ms, a, c, Fl, (fun z => foldF z Fs), rfl, rfl, (hmk.wideL : Mk m (allA A lb oa oc ms) wb T.length Fl), allmark_s A wb T.length lb oa oc ms Fs hms (by omega), honk, hoff⟩, ?_⟩
    refine Ow.sel (Ow.shut (A := allA A lb oa oc ms) (M := [A, two (pts lb [.slice oa ms.length oc] 77) (Ar 70 1 m3C (.slice oa ms.length oc) ms)]) (Ow.shut (A := two (pts lb [.slice oa ms.length oc] 77) (Ar 70 1 m3C (.slice oa ms.length oc) ms)) (M := [pts lb [.slice oa ms.length oc] 77, Ar 70 1 m3C (.slice oa ms.length oc) ms]) H (by (first | ((with_reducible (repeat (first | exact Sb.nil | apply Sb.cons | exact Tk.here | apply Tk.there))); done) | (repeat (first | exact Sb.nil | apply Sb.cons | exact Tk.here | apply Tk.there)))) (fun _ h => h)) (by (first | ((with_reducible (repeat (first | exact Sb.nil | apply Sb.cons | exact Tk.here | apply Tk.there))); done) | (repeat (first | exact Sb.nil | apply Sb.cons | exact Tk.here | apply Tk.there)))) (fun _ h => h)) (by (first | ((with_reducible (repeat (first | exact Sb.nil | apply Sb.cons | exact Tk.here | apply Tk.there))); done) | (repeat (first | exact Sb.nil | apply Sb.cons | exact Tk.here | apply Tk.there))))
theorem members_some (x : Cd) (φ : Cd → World → Prop) (f : Nat → Cd → Int → Int → List Sp) (t : Cd → Nat) (ho : x.op = 2) (hl : x.l.length ≤ 5) (hne : x.l ≠ [])
    (hf : ∀ y ∈ x.l, ∀ k A B, (f k y A B).length = t y)
    (hP : ∀ y ∈ x.l, CondOk 43 y (φ y) (fun k X Y => f k y Y X)) : CondOk 47 x (Kids φ x) (fun k X Y => seqQ f t Y X k x.l) := by
  intro wb a0 c0 T0 T9 hb h9
  refine pact Try.func47 rfl Try.ntmps47 rfl ?_
  intro W K hK
  dsimp only at h9
  have hkv : Kn K (fun w => Vw w (.slice x.a x.l.length x.c) 5 x.l.length (flat cdC x.l)) := hK.imp fun w h => h.1 hne
  (repeat' (first | ((with_reducible apply gJ); (first | refine J_seq ?_ | refine J_reg ?_ | refine J_skip ?_ | refine J_block ?_ | refine J_blk ?_ | refine J_exit rfl ?_ | refine J_goto rfl ?_ | ((with_reducible apply gJ_if); (first | refine J_ift rfl ?_ | refine J_iff rfl ?_ | (refine J_if xR ?_ ?_ <;> intro _ <;> (try (exfalso; first | contradiction | omega))) | (refine J_ifb xR ?_ ?_ <;> (intro hgb; subst hgb)) | (refine J_ifb xR ?_ ?_ <;> intro _) | fail)) | refine J_label ?_ | fail)) | ((with_reducible apply gL); (first | refine JL_nil ?_ | refine L_move ?_ | refine L_assign ?_ | refine L_fieldAddr ?_ | refine L_load ?_ | refine L_nilCheck ?_ | refine L_indexAddr ?_ | refine L_extract ?_ | refine L_c_len ?_ | refine L_bin_eql ?_ | refine L_bin_lss ?_ | refine L_bin_gtr ?_ | refine L_bin_add_i64 ?_ | refine L_bin_add_r ?_ | ((with_reducible apply gL_box); (first | (refine JL_mc rfl xR xR (al_boxA xR) ?_; intro _) | (refine JL_mc rfl xR xR (al_boxC xR xR) ?_; intro _) | fail)) | ((with_reducible apply gL_alloc); (first | (refine JL_mc rfl xR xR (al_alloc xN xK) ?_; intro _) | fail)) | ((with_reducible apply gL_buildSlice); (first | (refine JL_mc rfl xR xR (al_bs1 xR (tabE etab_ok xR) xK) ?_; intro _) | (refine JL_mc rfl xR xR (al_bs xR (tabE etab_ok xR) xN xK) ?_; intro _) | fail)) | ((with_reducible apply gL_store); (first | refine JL_st xR xR xT xC xR xE xR ?_ | refine JL_stW xR xR xT xW xR xR xR ?_ | refine JL_stS xR xR xT xW xP xR xR ?_ | refine JL_stEl xR xR xT xR xL xR (tabS stab_ok xR) xR xR xO ?_ | fail)) | ((with_reducible apply gL_c_append); (first | (refine JL_ap1 (tabE etab_ok xR) xR xR xT xT xC xR xL xR xO xR xR ?_; intro _ _ _ _) | (refine JL_app (tabE etab_ok xR) xR xR xT xV xC xL xU xO xR xR ?_; intro _ _ _ _) | fail)) | fail)) | fail))
  rename Nat => b3
  refine J_loop (α := Lw2) ⟨0, T0, a0, c0, _, [], none, 0, sats [], [], fun _ T => T⟩ (fun z => x.l.length - z.i) (MemOk f t x.l wb T0) (fun z => [(0, .pointer (some ⟨wb, 0, none⟩)), (3, .pointer (some ⟨b3, 0, none⟩)), (6, .slice z.oa z.ms.length z.oc), (7, z.lv), (13, .slice x.a x.l.length x.c), (14, .int .i64 x.l.length), (15, .int .i64 z.i)])
    (fun z => [z.A, pts b3 (cdC x) 45, pts wb [.slice z.a z.T.length z.c] 52, Ar 38 7 spC (.slice z.a z.T.length z.c) z.T, Ar 70 1 m3C (.slice z.oa z.ms.length z.oc) z.ms])
    ⟨Nat.zero_le _, by simp [seqQ], ⟨rfl, fun i m F h1 _ => by simp at h1⟩, rfl, fun T0 R A B z h0 => by simp [seqQ, foldF], fun h => absurd h (by simp)⟩ ⟨rfl, rfl, rfl, rfl, rfl, rfl, rfl, trivial⟩ (fun w H => (Ow.satsNil (Ow.arNil (e := 70) (sz := 1) (enc := m3C) H)).sel (by (first | ((with_reducible (repeat (first | exact Sb.nil | apply Sb.cons | exact Tk.here | apply Tk.there))); done) | (repeat (first | exact Sb.nil | apply Sb.cons | exact Tk.here | apply Tk.there))))) ?_
  rintro ⟨i, T, a, c, lv, ms, oa, oc, A, Fs, Fl⟩ ⟨hi, hT, hms, hn, hoff, hon⟩
  dsimp only at hi hT hms hn hoff hon ⊢
  by_cases hlt : i < x.l.length
  · obtain ⟨y, hs⟩ : ∃ y, x.l[i]? = some y := ⟨_, List.getElem?_eq_getElem hlt⟩
    have hm := List.mem_of_getElem? hs
    have htk : x.l.take (i + 1) = x.l.take i ++ [y] := by rw [List.take_add_one, hs]; rfl
    have hft : ∀ y ∈ x.l.take i, ∀ k A B, (f k y A B).length = t y := fun y hy => hf y (List.mem_of_mem_take hy)
    have hTl : T.length = T0.length + ((x.l.take i).map t).sum := by rw [← hT, List.length_append, seqQ_len _ _ hft]
    -- the table behind the last one's place, and behind this member
    obtain ⟨T1, h1⟩ : ∃ T1, T0 ++ seqQ f t (T.length : Int) 0 T0.length (x.l.take i) = T1 := ⟨_, rfl⟩
    have h1l : T1.length = T.length := by rw [← h1, List.length_append, seqQ_len _ _ hft, hTl]
    obtain ⟨T2, h2⟩ : ∃ T2, T1 ++ f T1.length y 0 0 = T2 := ⟨_, rfl⟩
    have hT2 : T0 ++ seqQ f t 0 0 T0.length (x.l.take (i + 1)) = T2 := by
      rw [htk, seqQ_snoc, ← List.append_assoc, ← h2, h1l, hTl, ← h1, hTl]
      push_cast
      rfl
    have hT2l : T2.length ≤ T9.length := by
      rw [← hT2, ← h9, List.length_append, List.length_append, seqQ_len _ _ (fun y hy => hf y (List.mem_of_mem_take hy)), seqQ_len _ _ hf]
      have := sum_part (f := t) x.l (i + 1)
      omega
    have h12 : T1.length ≤ T2.length := by rw [← h2, List.length_append]; omega
    have hcnd := hP y hm wb
    by_cases hi0 : 0 < i
    · obtain ⟨m, rfl, hmk, honk⟩ := hon hi0
      have hown := hmk.1
      have hFl : Fl (T.length : Int) T = T1 := by
        have := honk T0 [] 0 0 (T.length : Int) rfl
        rw [List.append_nil, List.append_nil] at this
        rw [← h1, ← this, hT]
      (repeat' (first | ((with_reducible apply gJ); (first | refine J_seq ?_ | refine J_reg ?_ | refine J_skip ?_ | refine J_block ?_ | refine J_blk ?_ | refine J_exit rfl ?_ | refine J_goto rfl ?_ | ((with_reducible apply gJ_if); (first | refine J_ift rfl ?_ | refine J_iff rfl ?_ | (refine J_if xR ?_ ?_ <;> intro _ <;> (try (exfalso; first | contradiction | omega))) | (refine J_ifb xR ?_ ?_ <;> (intro hgb; subst hgb)) | (refine J_ifb xR ?_ ?_ <;> intro _) | fail)) | refine J_label ?_ | fail)) | ((with_reducible apply gL); (first | refine JL_nil ?_ | ((with_reducible apply gL_c_append); (first | (first | (refine JL_ap1 (z := m1) (tabE etab_ok xR) xR xR xA xA xC xR xL xR (by omega) xR xR ?_; intro ad4 c4 _ _) | (refine JD_ap1 (z := m1) (tabE etab_ok xR) xR xR xA xA xC xR xL xR (by omega) xR ?_; intro ad4 c4 _ _)) | fail)) | refine L_move ?_ | refine L_assign ?_ | refine L_fieldAddr ?_ | refine L_load ?_ | refine L_nilCheck ?_ | refine L_indexAddr ?_ | refine L_extract ?_ | refine L_c_len ?_ | refine L_bin_eql ?_ | refine L_bin_lss ?_ | refine L_bin_gtr ?_ | refine L_bin_add_i64 ?_ | refine L_bin_add_r ?_ | ((with_reducible apply gL_box); (first | (refine JL_mc rfl xR xR (al_boxA xR) ?_; intro _) | (refine JL_mc rfl xR xR (al_boxC xR xR) ?_; intro _) | fail)) | ((with_reducible apply gL_alloc); (first | (refine JL_mc rfl xR xR (al_alloc xN xK) ?_; intro _) | fail)) | ((with_reducible apply gL_buildSlice); (first | (refine JL_mc rfl xR xR (al_bs1 xR (tabE etab_ok xR) xK) ?_; intro _) | (refine JL_mc rfl xR xR (al_bs xR (tabE etab_ok xR) xN xK) ?_; intro _) | fail)) | ((with_reducible apply gL_store); (first | refine JL_st xR xR xT xC xR xE xR ?_ | refine JL_stW xR xR xT xW xR xR xR ?_ | refine JL_stS xR xR xT xW xP xR xR ?_ | refine JL_stEl xR xR xT xR xL xR (tabS stab_ok xR) xR xR xO ?_ | fail)) | ((with_reducible apply gL_c_append); (first | (refine JL_ap1 (tabE etab_ok xR) xR xR xT xT xC xR xL xR xO xR xR ?_; intro _ _ _ _) | (refine JL_app (tabE etab_ok xR) xR xR xT xV xC xL xU xO xR xR ?_; intro _ _ _ _) | fail)) | ((with_reducible apply gL_go); (first | (refine JL_goq (hmk.2.2 (T.length : Int) a c T T1 (by omega) (by omega) hFl) (hφ := xF) (h := ?_); rintro _ _ rfl; try simp only [List.cons_append, List.nil_append]) | (refine JL_goq (hcnd a c T1 T2 (by omega) h2) (hφ := (by (try simp only [List.cons_append, List.nil_append]); exact fun w hr => (hK w hr.1).2 y hm)) (h := ?_); rintro _ _ ⟨m1, m2, A2, a2, c2, F1, F2, rfl, rfl, k1, k2, k3, k4⟩; try simp only [List.cons_append, List.nil_append]) | fail)) | fail)) | fail))
      all_goals (first | (exfalso; omega) | skip)
      refine J_again ⟨i + 1, T2, a2, c2, _, ms ++ [m1], ad4, c4, two A A2, Fs ++ [F1], F2⟩ (by dsimp only; omega) ⟨by dsimp only; omega, hT2, Mks.snoc hms (by first | omega | (dsimp only; omega)) (k1), by simp [hn], ?_, fun _ => ⟨m2, rfl, (k2).wideR, ?_⟩⟩ ⟨rfl, rfl, ?_, rfl, rfl, rfl, rfl, trivial⟩ (fun w H => ?_)
      · dsimp only
        rw [htk]
        exact off_app hft hoff (by rw [← hTl, ← h1l]; exact k3.swap)
      · dsimp only
        rw [htk]
        exact on_app hft (by rw [← hTl, ← h1l]; exact k4.swap)
      · show some _ = some _
        simp
      · simp only [List.length_append, List.length_cons, List.length_nil]
        exact (Ow.shut (A := two A A2) (M := [A, A2]) H (by (first | ((with_reducible (repeat (first | exact Sb.nil | apply Sb.cons | exact Tk.here | apply Tk.there))); done) | (repeat (first | exact Sb.nil | apply Sb.cons | exact Tk.here | apply Tk.there)))) (fun _ h => h)).sel (by (first | ((with_reducible (repeat (first | exact Sb.nil | apply Sb.cons | exact Tk.here | apply Tk.there))); done) | (repeat (first | exact Sb.nil | apply Sb.cons | exact Tk.here | apply Tk.there))))
    · have hi00 : i = 0 := by omega
      subst hi00
      have hT10 : T1 = T := by rw [← h1, ← hT]; simp [seqQ]
      subst hT10
      (repeat' (first | ((with_reducible apply gJ); (first | refine J_seq ?_ | refine J_reg ?_ | refine J_skip ?_ | refine J_block ?_ | refine J_blk ?_ | refine J_exit rfl ?_ | refine J_goto rfl ?_ | ((with_reducible apply gJ_if); (first | refine J_ift rfl ?_ | refine J_iff rfl ?_ | (refine J_if xR ?_ ?_ <;> intro _ <;> (try (exfalso; first | contradiction | omega))) | (refine J_ifb xR ?_ ?_ <;> (intro hgb; subst hgb)) | (refine J_ifb xR ?_ ?_ <;> intro _) | fail)) | refine J_label ?_ | fail)) | ((with_reducible apply gL); (first | refine JL_nil ?_ | ((with_reducible apply gL_c_append); (first | (first | (refine JL_ap1 (z := m1) (tabE etab_ok xR) xR xR xA xA xC xR xL xR (by omega) xR xR ?_; intro ad4 c4 _ _) | (refine JD_ap1 (z := m1) (tabE etab_ok xR) xR xR xA xA xC xR xL xR (by omega) xR ?_; intro ad4 c4 _ _)) | fail)) | refine L_move ?_ | refine L_assign ?_ | refine L_fieldAddr ?_ | refine L_load ?_ | refine L_nilCheck ?_ | refine L_indexAddr ?_ | refine L_extract ?_ | refine L_c_len ?_ | refine L_bin_eql ?_ | refine L_bin_lss ?_ | refine L_bin_gtr ?_ | refine L_bin_add_i64 ?_ | refine L_bin_add_r ?_ | ((with_reducible apply gL_box); (first | (refine JL_mc rfl xR xR (al_boxA xR) ?_; intro _) | (refine JL_mc rfl xR xR (al_boxC xR xR) ?_; intro _) | fail)) | ((with_reducible apply gL_alloc); (first | (refine JL_mc rfl xR xR (al_alloc xN xK) ?_; intro _) | fail)) | ((with_reducible apply gL_buildSlice); (first | (refine JL_mc rfl xR xR (al_bs1 xR (tabE etab_ok xR) xK) ?_; intro _) | (refine JL_mc rfl xR xR (al_bs xR (tabE etab_ok xR) xN xK) ?_; intro _) | fail)) | ((with_reducible apply gL_store); (first | refine JL_st xR xR xT xC xR xE xR ?_ | refine JL_stW xR xR xT xW xR xR xR ?_ | refine JL_stS xR xR xT xW xP xR xR ?_ | refine JL_stEl xR xR xT xR xL xR (tabS stab_ok xR) xR xR xO ?_ | fail)) | ((with_reducible apply gL_c_append); (first | (refine JL_ap1 (tabE etab_ok xR) xR xR xT xT xC xR xL xR xO xR xR ?_; intro _ _ _ _) | (refine JL_app (tabE etab_ok xR) xR xR xT xV xC xL xU xO xR xR ?_; intro _ _ _ _) | fail)) | ((with_reducible apply gL_go); (first | (refine JL_goq (hcnd a c T1 T2 (by omega) h2) (hφ := (by (try simp only [List.cons_append, List.nil_append]); exact fun w hr => (hK w hr.1).2 y hm)) (h := ?_); rintro _ _ ⟨m1, m2, A2, a2, c2, F1, F2, rfl, rfl, k1, k2, k3, k4⟩; try simp only [List.cons_append, List.nil_append]) | fail)) | fail)) | fail))
      all_goals (first | (exfalso; omega) | skip)
      refine J_again ⟨0 + 1, T2, a2, c2, _, ms ++ [m1], ad4, c4, two A A2, Fs ++ [F1], F2⟩ (by dsimp only; omega) ⟨by dsimp only; omega, hT2, Mks.snoc hms (by first | omega | (dsimp only; omega)) (k1), by simp [hn], ?_, fun _ => ⟨m2, rfl, (k2).wideR, ?_⟩⟩ ⟨rfl, rfl, ?_, rfl, rfl, rfl, rfl, trivial⟩ (fun w H => ?_)
      · dsimp only
        rw [htk]
        exact off_app hft hoff (by rw [← hTl, ← h1l]; exact k3.swap)
      · dsimp only
        rw [htk]
        exact on_app hft (by rw [← hTl, ← h1l]; exact k4.swap)
      · show some _ = some _
        simp
      · simp only [List.length_append, List.length_cons, List.length_nil]
        exact (Ow.shut (A := two A A2) (M := [A, A2]) H (by (first | ((with_reducible (repeat (first | exact Sb.nil | apply Sb.cons | exact Tk.here | apply Tk.there))); done) | (repeat (first | exact Sb.nil | apply Sb.cons | exact Tk.here | apply Tk.there)))) (fun _ h => h)).sel (by (first | ((with_reducible (repeat (first | exact Sb.nil | apply Sb.cons | exact Tk.here | apply Tk.there))); done) | (repeat (first | exact Sb.nil | apply Sb.cons | exact Tk.here | apply Tk.there))))
  · obtain rfl : i = x.l.length := by omega
    rw [List.take_length] at hT hoff hon
    have hpos : 0 < x.l.length := List.length_pos_iff.2 hne
    obtain ⟨m, rfl, hmk, honk⟩ := hon hpos
    have hT9 : T = T9 := by rw [← hT, ← h9]
    subst hT9
    (repeat' (first | ((with_reducible apply gJ); (first | refine J_seq ?_ | refine J_reg ?_ | refine J_skip ?_ | refine J_block ?_ | refine J_blk ?_ | refine J_exit rfl ?_ | refine J_goto rfl ?_ | ((with_reducible apply gJ_if); (first | refine J_ift rfl ?_ | refine J_iff rfl ?_ | (refine J_if xR ?_ ?_ <;> intro _ <;> (try (exfalso; first | contradiction | omega))) | (refine J_ifb xR ?_ ?_ <;> (intro hgb; subst hgb)) | (refine J_ifb xR ?_ ?_ <;> intro _) | fail)) | refine J_label ?_ | fail)) | ((with_reducible apply gL); (first | refine JL_nil ?_ | refine L_move ?_ | refine L_assign ?_ | refine L_fieldAddr ?_ | refine L_load ?_ | refine L_nilCheck ?_ | refine L_indexAddr ?_ | refine L_extract ?_ | refine L_c_len ?_ | refine L_bin_eql ?_ | refine L_bin_lss ?_ | refine L_bin_gtr ?_ | refine L_bin_add_i64 ?_ | refine L_bin_add_r ?_ | ((with_reducible apply gL_box); (first | (refine JL_mc rfl xR xR (al_boxA xR) ?_; intro _) | (refine JL_mc rfl xR xR (al_boxC xR xR) ?_; intro _) | fail)) | ((with_reducible apply gL_alloc); (first | (refine JL_mc rfl xR xR (al_alloc xN xK) ?_; intro _) | fail)) | ((with_reducible apply gL_buildSlice); (first | (refine JL_mc rfl xR xR (al_bs1 xR (tabE etab_ok xR) xK) ?_; intro _) | (refine JL_mc rfl xR xR (al_bs xR (tabE etab_ok xR) xN xK) ?_; intro _) | fail)) | ((with_reducible apply gL_store); (first | refine JL_st xR xR xT xC xR xE xR ?_ | refine JL_stW xR xR xT xW xR xR xR ?_ | refine JL_stS xR xR xT xW xP xR xR ?_ | refine JL_stEl xR xR xT xR xL xR (tabS stab_ok xR) xR xR xO ?_ | fail)) | ((with_reducible apply gL_c_append); (first | (refine JL_ap1 (tabE etab_ok xR) xR xR xT xT xC xR xL xR xO xR xR ?_; intro _ _ _ _) | (refine JL_app (tabE etab_ok xR) xR xR xT xV xC xL xU xO xR xR ?_; intro _ _ _ _) | fail)) | ((with_reducible apply gL_go); (first | (refine JL_goq (all_s oa ms.length oc) (hφ := xF) (h := ?_); rintro _ _ ⟨lb, rfl, rfl⟩; try simp only [List.cons_append, List.nil_append]) | fail)) | fail)) | fail))
    refine J_ret2 rfl (by rfl) (by rfl) fun w H => ⟨_, ⟨⟨52, #[], #[.pointer (some ⟨lb, 0, none⟩)]⟩, m, allA A lb oa oc ms, a, c, (fun z => foldF z Fs), Fl, rfl, rfl, allmark_s A wb T.length lb oa oc ms Fs hms (by omega), (hmk.wideL : Mk m (allA A lb oa oc ms) wb T.length Fl), hoff.swap, honk.swap⟩, ?_⟩
    refine Ow.sel (Ow.shut (A := allA A lb oa oc ms) (M := [A, two (pts lb [.slice oa ms.length oc] 77) (Ar 70 1 m3C (.slice oa ms.length oc) ms)]) (Ow.shut (A := two (pts lb [.slice oa ms.length oc] 77) (Ar 70 1 m3C (.slice oa ms.length oc) ms)) (M := [pts lb [.slice oa ms.length oc] 77, Ar 70 1 m3C (.slice oa ms.length oc) ms]) H (by (first | ((with_reducible (repeat (first | exact Sb.nil | apply Sb.cons | exact Tk.here | apply Tk.there))); done) | (repeat (first | exact Sb.nil | apply Sb.cons | exact Tk.here | apply Tk.there)))) (fun _ h => h)) (by (first | ((with_reducible (repeat (first | exact Sb.nil | apply Sb.cons | exact Tk.here | apply Tk.there))); done) | (repeat (first | exact Sb.nil | apply Sb.cons | exact Tk.here | apply Tk.there)))) (fun _ h => h)) (by (first | ((with_reducible (repeat (first | exact Sb.nil | apply Sb.cons | exact Tk.here | apply Tk.there))); done) | (repeat (first | exact Sb.nil | apply Sb.cons | exact Tk.here | apply Tk.there))))
end Go.Proofs.Yteekbpohocfmpaa
