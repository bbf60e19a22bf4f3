/-
  Cq20, Cq21, Cq12, Cq16, Cq17: merged.
-/
import Derived.Test.YtmbgbhambgoejaaZRunOrder19
namespace Go.Proofs.Ytmbgbhambgoejaa.C
set_option linter.unusedSimpArgs false
set_option linter.unusedVariables false
set_option maxRecDepth 20000
set_option maxHeartbeats 4000000
open Go.RowKit Go.Pm

def OnOk (F : Int → List Sp → List Sp) (p : Int → Int → List Sp) (k : Nat) : Prop := ∀ (T0 R : List Sp) (A B z : Int), T0.length = k → F z (T0 ++ p A B ++ R) = T0 ++ p z B ++ R
def OffOk (F : Int → List Sp → List Sp) (p : Int → Int → List Sp) (k : Nat) : Prop := ∀ (T0 R : List Sp) (A B z : Int), T0.length = k → F z (T0 ++ p A B ++ R) = T0 ++ p A z ++ R
theorem OnOk.swap {F : Int → List Sp → List Sp} {p : Int → Int → List Sp} {k : Nat} (h : OnOk F p k) : OffOk F (fun A B => p B A) k := fun T0 R A B z h0 => h T0 R B A z h0
theorem OffOk.swap {F : Int → List Sp → List Sp} {p : Int → Int → List Sp} {k : Nat} (h : OffOk F p k) : OnOk F (fun A B => p B A) k := fun T0 R A B z h0 => h T0 R B A z h0
def seqQ (f : Nat → Cd → Int → Int → List Sp) (t : Cd → Nat) (A B : Int) : Nat → List Cd → List Sp
  | _, [] => []
  | k, y :: r => f k y (if r = [] then A else (k : Int) + t y) B ++ seqQ f t A B (k + t y) r
theorem seqP_false {f : Nat → Cd → Int → Int → List Sp} {t : Cd → Nat} (X Y : Int) : ∀ {l : List Cd} {k : Nat}, (∀ y ∈ l, ∀ k A B, (f k y A B).length = t y) → seqP f t false X Y k l = seqQ f t X Y k l
  | [], _, _ => rfl
  | y :: r, k, hf => by
    simp only [seqP, seqQ, Bool.false_eq_true, if_false, hf y (by simp)]
    rw [seqP_false X Y fun z hz => hf z (List.mem_cons_of_mem _ hz)]
theorem seqP_true {f : Nat → Cd → Int → Int → List Sp} {t : Cd → Nat} (X Y : Int) : ∀ {l : List Cd} {k : Nat}, (∀ y ∈ l, ∀ k A B, (f k y A B).length = t y) → seqP f t true X Y k l = seqQ (fun k y A B => f k y B A) t Y X k l
  | [], _, _ => rfl
  | y :: r, k, hf => by
    simp only [seqP, seqQ, if_true, hf y (by simp)]
    rw [seqP_true X Y fun z hz => hf z (List.mem_cons_of_mem _ hz)]
theorem seqQ_len {f : Nat → Cd → Int → Int → List Sp} {t : Cd → Nat} (A B : Int) : ∀ {l : List Cd} {k : Nat}, (∀ y ∈ l, ∀ k A B, (f k y A B).length = t y) → (seqQ f t A B k l).length = (l.map t).sum
  | [], _, _ => rfl
  | y :: r, k, hf => by
    simp only [seqQ, List.length_append, hf y (by simp), List.map_cons, List.sum_cons]
    rw [seqQ_len A B fun z hz => hf z (List.mem_cons_of_mem _ hz)]
theorem seqQ_snoc {f : Nat → Cd → Int → Int → List Sp} {t : Cd → Nat} (A B : Int) : ∀ {l : List Cd} {k : Nat} (y : Cd), seqQ f t A B k (l ++ [y]) = seqQ f t ((k : Int) + ((l.map t).sum : Nat)) B k l ++ f (k + (l.map t).sum) y A B
  | [], k, y => by simp [seqQ]
  | x :: r, k, y => by
    have hne : r ++ [y] ≠ [] := by simp
    simp only [List.cons_append, seqQ, if_neg hne, List.map_cons, List.sum_cons]
    rw [seqQ_snoc A B y, List.append_assoc, Nat.add_assoc]
    by_cases hr : r = []
    · subst hr; simp [seqQ]
    · simp only [if_neg hr]
      congr 3
      push_cast
      omega
structure Lw2 where
  i : Nat
  T : List Sp
  a : Option Addr
  c : Nat
  lv : Value
  ms : List M3
  oa : Option Addr
  oc : Nat
  A : HP
  Fs : List (Int → List Sp → List Sp)
  Fl : Int → List Sp → List Sp
structure MemOk (f : Nat → Cd → Int → Int → List Sp) (t : Cd → Nat) (l : List Cd) (wb : Nat) (T0 : List Sp) (z : Lw2) : Prop where
  i : z.i ≤ l.length
  T : T0 ++ seqQ f t 0 0 T0.length (l.take z.i) = z.T
  ms : Mks z.A wb z.T.length z.ms z.Fs
  n : z.ms.length = z.i
  off : OffOk (fun v => foldF v z.Fs) (fun A B => seqQ f t A B T0.length (l.take z.i)) T0.length
  on : 0 < z.i → ∃ m : M3, z.lv = .func (.func m.f) m.first m.caps ∧ Mk m z.A wb z.T.length z.Fl ∧ OnOk z.Fl (fun A B => seqQ f t A B T0.length (l.take z.i)) T0.length
def CondRes (wb : Nat) (g : Nat → Int → Int → List Sp) (T T2 : List Sp) (u : Value) (L' : List HP) : Prop := ∃ (m1 m2 : M3) (A : HP) (a' : Option Addr) (c' : Nat) (F1 F2 : Int → List Sp → List Sp), u = .tuple #[.func (.func m1.f) m1.first m1.caps, .func (.func m2.f) m2.first m2.caps] ∧ L' = [A, pts wb [.slice a' T2.length c'] 60, Ar 63 7 spC (.slice a' T2.length c') T2] ∧ Mk m1 A wb T2.length F1 ∧ Mk m2 A wb T2.length F2 ∧ OnOk F1 (g T.length) T.length ∧ OffOk F2 (g T.length) T.length
def CondOk (F : FuncId) (y : Cd) (φ : World → Prop) (g : Nat → Int → Int → List Sp) : Prop := ∀ (wb : Nat) (a : Option Addr) (c : Nat) (T T2 : List Sp), T2.length ≤ 450000000 → T ++ g T.length 0 0 = T2 → Pact Try.prog F #[.pointer (some ⟨wb, 0, none⟩), .agg (cdC y).toArray] φ [pts wb [.slice a T.length c] 60, Ar 63 7 spC (.slice a T.length c) T] (CondRes wb g T T2)
theorem on_app {F : Int → List Sp → List Sp} {f : Nat → Cd → Int → Int → List Sp} {t : Cd → Nat} {l : List Cd} {y : Cd} {k : Nat} (hf : ∀ y ∈ l, ∀ k A B, (f k y A B).length = t y) (h : OnOk F (f (k + (l.map t).sum) y) (k + (l.map t).sum)) : OnOk F (fun A B => seqQ f t A B k (l ++ [y])) k := by
  intro T0 R A B z h0
  simp only [seqQ_snoc]
  have := h (T0 ++ seqQ f t ((k : Int) + ((l.map t).sum : Nat)) B k l) R A B z (by rw [List.length_append, seqQ_len _ _ hf, h0])
  simpa only [List.append_assoc] using this
theorem off_app {F : Int → List Sp → List Sp} {Fs : List (Int → List Sp → List Sp)} {f : Nat → Cd → Int → Int → List Sp} {t : Cd → Nat} {l : List Cd} {y : Cd} {k : Nat} (hf : ∀ y ∈ l, ∀ k A B, (f k y A B).length = t y) (h1 : OffOk (fun v => foldF v Fs) (fun A B => seqQ f t A B k l) k) (h : OffOk F (f (k + (l.map t).sum) y) (k + (l.map t).sum)) : OffOk (fun v => foldF v (Fs ++ [F])) (fun A B => seqQ f t A B k (l ++ [y])) k := by
  intro T0 R A B z h0
  simp only [seqQ_snoc, foldF_append, foldF]
  have e1 := h1 T0 (f (k + (l.map t).sum) y A B ++ R) ((k : Int) + ((l.map t).sum : Nat)) B z h0
  have e2 := h (T0 ++ seqQ f t ((k : Int) + ((l.map t).sum : Nat)) z k l) R A B z (by rw [List.length_append, seqQ_len _ _ hf, h0])
  simp only [List.append_assoc] at e1 e2 ⊢
  rw [e1, e2]
theorem Mks.wide {A B : HP} {wb N N' : Nat} {ms : List M3} {Fs : List (Int → List Sp → List Sp)} (h : Mks A wb N ms Fs) (hN : N ≤ N') : Mks (two A B) wb N' ms Fs := ⟨h.1, fun i m F h1 h2 => ((h.2 i m F h1 h2).mono hN).wideL⟩
theorem Mks.snoc {A B : HP} {wb N N' : Nat} {ms : List M3} {Fs : List (Int → List Sp → List Sp)} {m : M3} {F : Int → List Sp → List Sp} (h : Mks A wb N ms Fs) (hN : N ≤ N') (hm : Mk m B wb N' F) : Mks (two A B) wb N' (ms ++ [m]) (Fs ++ [F]) := by
  refine ⟨by rw [List.length_append, List.length_append, h.1]; rfl, fun i m' F' h1 h2 => ?_⟩
  by_cases hi : i < ms.length
  · rw [List.getElem?_append_left hi] at h1
    rw [List.getElem?_append_left (by rw [← h.1]; exact hi)] at h2
    exact ((h.2 i m' F' h1 h2).mono hN).wideL
  · rw [List.getElem?_append_right (by omega)] at h1
    rw [List.getElem?_append_right (by rw [← h.1]; omega), ← h.1] at h2
    have h0 : i - ms.length = 0 := by
      have := (List.getElem?_eq_some_iff.1 h1).1
      simp at this
      omega
    rw [h0] at h1 h2
    cases h1
    cases h2
    exact hm.wideR
theorem members_every (x : Cd) (φ : Cd → World → Prop) (f : Nat → Cd → Int → Int → List Sp) (t : Cd → Nat) (ho : x.op = 1) (hl : x.l.length ≤ 5) (hne : x.l ≠ [])
    (hf : ∀ y ∈ x.l, ∀ k A B, (f k y A B).length = t y)
    (hP : ∀ y ∈ x.l, CondOk 52 y (φ y) (fun k X Y => f k y X Y)) : CondOk 69 x (Kids φ x) (fun k X Y => seqQ f t X Y k x.l) := by
  intro wb a0 c0 T0 T9 hb h9
  refine pact Try.func69 rfl Try.ntmps69 rfl ?_
  intro W K hK
  dsimp only at h9
  have hkv : Kn K (fun w => Vw w (.slice x.a x.l.length x.c) 5 x.l.length (flat cdC x.l)) := hK.imp fun w h => h.1 hne
  (repeat' (first | ((with_reducible apply gL); (first | refine yL0 ?_ | refine yL ?_ | (refine yM ?_; intro _) | (refine yA ?_; intro _ _ _ _) | fail)) | refine yJ ?_ | ((with_reducible apply gJ_if); (first | (refine J_if xR ?_ ?_ <;> intro _ <;> (try (exfalso; first | contradiction | omega))) | (refine J_ifb xR ?_ ?_ <;> (intro hgb; subst hgb)) | (refine J_ifb xR ?_ ?_ <;> intro _) | fail)) | fail))
  rename Nat => b3
  refine J_loop (α := Lw2) ⟨0, T0, a0, c0, _, [], none, 0, sats [], [], fun _ T => T⟩ (fun z => x.l.length - z.i) (MemOk f t x.l wb T0) (fun z => [(0, .pointer (some ⟨wb, 0, none⟩)), (3, .pointer (some ⟨b3, 0, none⟩)), (6, .slice z.oa z.ms.length z.oc), (7, z.lv), (13, .slice x.a x.l.length x.c), (14, .int .i64 x.l.length), (15, .int .i64 z.i)])
    (fun z => [z.A, pts b3 (cdC x) 50, pts wb [.slice z.a z.T.length z.c] 60, Ar 63 7 spC (.slice z.a z.T.length z.c) z.T, Ar 99 1 m3C (.slice z.oa z.ms.length z.oc) z.ms])
    ⟨Nat.zero_le _, by simp [seqQ], ⟨rfl, fun i m F h1 _ => by simp at h1⟩, rfl, fun T0 R A B z h0 => by simp [seqQ, foldF], fun h => absurd h (by simp)⟩ ⟨rfl, rfl, rfl, rfl, rfl, rfl, rfl, trivial⟩ (fun w H => (Ow.satsNil (Ow.arNil (e := 99) (sz := 1) (enc := m3C) H)).sel xZ) ?_
  rintro ⟨i, T, a, c, lv, ms, oa, oc, A, Fs, Fl⟩ ⟨hi, hT, hms, hn, hoff, hon⟩
  dsimp only at hi hT hms hn hoff hon ⊢
  by_cases hlt : i < x.l.length
  · obtain ⟨y, hs⟩ : ∃ y, x.l[i]? = some y := ⟨_, List.getElem?_eq_getElem hlt⟩
    have hm := List.mem_of_getElem? hs
    have htk : x.l.take (i + 1) = x.l.take i ++ [y] := by rw [List.take_add_one, hs]; rfl
    have hft : ∀ y ∈ x.l.take i, ∀ k A B, (f k y A B).length = t y := fun y hy => hf y (List.mem_of_mem_take hy)
    have hTl : T.length = T0.length + ((x.l.take i).map t).sum := by rw [← hT, List.length_append, seqQ_len _ _ hft]
    -- the table behind the last one's place, and behind this member
    obtain ⟨T1, h1⟩ : ∃ T1, T0 ++ seqQ f t (T.length : Int) 0 T0.length (x.l.take i) = T1 := ⟨_, rfl⟩
    have h1l : T1.length = T.length := by rw [← h1, List.length_append, seqQ_len _ _ hft, hTl]
    obtain ⟨T2, h2⟩ : ∃ T2, T1 ++ f T1.length y 0 0 = T2 := ⟨_, rfl⟩
    have hT2 : T0 ++ seqQ f t 0 0 T0.length (x.l.take (i + 1)) = T2 := by
      rw [htk, seqQ_snoc, ← List.append_assoc, ← h2, h1l, hTl, ← h1, hTl]
      push_cast
      rfl
    have hT2l : T2.length ≤ T9.length := by
      rw [← hT2, ← h9, List.length_append, List.length_append, seqQ_len _ _ (fun y hy => hf y (List.mem_of_mem_take hy)), seqQ_len _ _ hf]
      have := sum_part (f := t) x.l (i + 1)
      omega
    have h12 : T1.length ≤ T2.length := by rw [← h2, List.length_append]; omega
    have hcnd := hP y hm wb
    by_cases hi0 : 0 < i
    · obtain ⟨m, rfl, hmk, honk⟩ := hon hi0
      have hown := hmk.1
      have hFl : Fl (T.length : Int) T = T1 := by
        have := honk T0 [] 0 0 (T.length : Int) rfl
        rw [List.append_nil, List.append_nil] at this
        rw [← h1, ← this, hT]
      (repeat' (first | ((with_reducible apply gL); (first | refine yL0 ?_ | ((with_reducible apply gL_c_append); (first | (first | (refine JL_ap1 (z := m2) (tabE etab_ok xR) xR xR xA xA xC xR xL xR (by omega) xR xR ?_; intro ad4 c4 _ _) | (refine JD_ap1 (z := m2) (tabE etab_ok xR) xR xR xA xA xC xR xL xR (by omega) xR ?_; intro ad4 c4 _ _)) | fail)) | refine yL ?_ | ((with_reducible apply gL_go); (first | (refine JL_goq (hmk.2.2 (T.length : Int) a c T T1 (by omega) (by omega) hFl) (hφ := xF) (h := ?_); rintro _ _ rfl; try simp only [List.cons_append, List.nil_append]) | (refine JL_goq (hcnd a c T1 T2 (by omega) h2) (hφ := (by (try simp only [List.cons_append, List.nil_append]); exact fun w hr => (hK w hr.1).2 y hm)) (h := ?_); rintro _ _ ⟨m1, m2, A2, a2, c2, F1, F2, rfl, rfl, k1, k2, k3, k4⟩; try simp only [List.cons_append, List.nil_append]) | fail)) | (refine yM ?_; intro _) | (refine yA ?_; intro _ _ _ _) | fail)) | refine yJ ?_ | ((with_reducible apply gJ_if); (first | (refine J_if xR ?_ ?_ <;> intro _ <;> (try (exfalso; first | contradiction | omega))) | (refine J_ifb xR ?_ ?_ <;> (intro hgb; subst hgb)) | (refine J_ifb xR ?_ ?_ <;> intro _) | fail)) | fail))
      all_goals (first | (exfalso; omega) | skip)
      refine J_again ⟨i + 1, T2, a2, c2, _, ms ++ [m2], ad4, c4, two A A2, Fs ++ [F2], F1⟩ (by dsimp only; omega) ⟨by dsimp only; omega, hT2, Mks.snoc hms (by first | omega | (dsimp only; omega)) (k2), by simp [hn], ?_, fun _ => ⟨m1, rfl, (k1).wideR, ?_⟩⟩ ⟨rfl, rfl, ?_, rfl, rfl, rfl, rfl, trivial⟩ (fun w H => ?_)
      · dsimp only
        rw [htk]
        exact off_app hft hoff (by rw [← hTl, ← h1l]; exact k4)
      · dsimp only
        rw [htk]
        exact on_app hft (by rw [← hTl, ← h1l]; exact k3)
      · show some _ = some _
        simp
      · simp only [List.length_append, List.length_cons, List.length_nil]
        exact (Ow.shut (A := two A A2) (M := [A, A2]) H xZ (fun _ h => h)).sel xZ
    · have hi00 : i = 0 := by omega
      subst hi00
      have hT10 : T1 = T := by rw [← h1, ← hT]; simp [seqQ]
      subst hT10
      (repeat' (first | ((with_reducible apply gL); (first | refine yL0 ?_ | ((with_reducible apply gL_c_append); (first | (first | (refine JL_ap1 (z := m2) (tabE etab_ok xR) xR xR xA xA xC xR xL xR (by omega) xR xR ?_; intro ad4 c4 _ _) | (refine JD_ap1 (z := m2) (tabE etab_ok xR) xR xR xA xA xC xR xL xR (by omega) xR ?_; intro ad4 c4 _ _)) | fail)) | refine yL ?_ | ((with_reducible apply gL_go); (first | (refine JL_goq (hcnd a c T1 T2 (by omega) h2) (hφ := (by (try simp only [List.cons_append, List.nil_append]); exact fun w hr => (hK w hr.1).2 y hm)) (h := ?_); rintro _ _ ⟨m1, m2, A2, a2, c2, F1, F2, rfl, rfl, k1, k2, k3, k4⟩; try simp only [List.cons_append, List.nil_append]) | fail)) | (refine yM ?_; intro _) | (refine yA ?_; intro _ _ _ _) | fail)) | refine yJ ?_ | ((with_reducible apply gJ_if); (first | (refine J_if xR ?_ ?_ <;> intro _ <;> (try (exfalso; first | contradiction | omega))) | (refine J_ifb xR ?_ ?_ <;> (intro hgb; subst hgb)) | (refine J_ifb xR ?_ ?_ <;> intro _) | fail)) | fail))
      all_goals (first | (exfalso; omega) | skip)
      refine J_again ⟨0 + 1, T2, a2, c2, _, ms ++ [m2], ad4, c4, two A A2, Fs ++ [F2], F1⟩ (by dsimp only; omega) ⟨by dsimp only; omega, hT2, Mks.snoc hms (by first | omega | (dsimp only; omega)) (k2), by simp [hn], ?_, fun _ => ⟨m1, rfl, (k1).wideR, ?_⟩⟩ ⟨rfl, rfl, ?_, rfl, rfl, rfl, rfl, trivial⟩ (fun w H => ?_)
      · dsimp only
        rw [htk]
        exact off_app hft hoff (by rw [← hTl, ← h1l]; exact k4)
      · dsimp only
        rw [htk]
        exact on_app hft (by rw [← hTl, ← h1l]; exact k3)
      · show some _ = some _
        simp
      · simp only [List.length_append, List.length_cons, List.length_nil]
        exact (Ow.shut (A := two A A2) (M := [A, A2]) H xZ (fun _ h => h)).sel xZ
  · obtain rfl : i = x.l.length := by omega
    rw [List.take_length] at hT hoff hon
    have hpos : 0 < x.l.length := List.length_pos_iff.2 hne
    obtain ⟨m, rfl, hmk, honk⟩ := hon hpos
    have hT9 : T = T9 := by rw [← hT, ← h9]
    subst hT9
    (repeat' (first | ((with_reducible apply gL); (first | refine yL0 ?_ | refine yL ?_ | ((with_reducible apply gL_go); (first | (refine JL_goq (all_s oa ms.length oc) (hφ := xF) (h := ?_); rintro _ _ ⟨lb, rfl, rfl⟩; try simp only [List.cons_append, List.nil_append]) | fail)) | (refine yM ?_; intro _) | (refine yA ?_; intro _ _ _ _) | fail)) | refine yJ ?_ | ((with_reducible apply gJ_if); (first | (refine J_if xR ?_ ?_ <;> intro _ <;> (try (exfalso; first | contradiction | omega))) | (refine J_ifb xR ?_ ?_ <;> (intro hgb; subst hgb)) | (refine J_ifb xR ?_ ?_ <;> intro _) | fail)) | fail))
    refine J_ret2 rfl (by rfl) (by rfl) fun w H => ⟨_, ⟨m, ⟨92, #[], #[.pointer (some ⟨lb, 0, none⟩)]⟩, allA A lb oa oc ms, a, c, Fl, (fun z => foldF z Fs), rfl, rfl, (hmk.wideL : Mk m (allA A lb oa oc ms) wb T.length Fl), allmark_s A wb T.length lb oa oc ms Fs hms (by omega), honk, hoff⟩, ?_⟩
    refine Ow.sel (Ow.shut (A := allA A lb oa oc ms) (M := [A, two (pts lb [.slice oa ms.length oc] 120) (Ar 99 1 m3C (.slice oa ms.length oc) ms)]) (Ow.shut (A := two (pts lb [.slice oa ms.length oc] 120) (Ar 99 1 m3C (.slice oa ms.length oc) ms)) (M := [pts lb [.slice oa ms.length oc] 120, Ar 99 1 m3C (.slice oa ms.length oc) ms]) H xZ (fun _ h => h)) xZ (fun _ h => h)) xZ
theorem members_some (x : Cd) (φ : Cd → World → Prop) (f : Nat → Cd → Int → Int → List Sp) (t : Cd → Nat) (ho : x.op = 2) (hl : x.l.length ≤ 5) (hne : x.l ≠ [])
    (hf : ∀ y ∈ x.l, ∀ k A B, (f k y A B).length = t y)
    (hP : ∀ y ∈ x.l, CondOk 52 y (φ y) (fun k X Y => f k y Y X)) : CondOk 69 x (Kids φ x) (fun k X Y => seqQ f t Y X k x.l) := by
  intro wb a0 c0 T0 T9 hb h9
  refine pact Try.func69 rfl Try.ntmps69 rfl ?_
  intro W K hK
  dsimp only at h9
  have hkv : Kn K (fun w => Vw w (.slice x.a x.l.length x.c) 5 x.l.length (flat cdC x.l)) := hK.imp fun w h => h.1 hne
  (repeat' (first | ((with_reducible apply gL); (first | refine yL0 ?_ | refine yL ?_ | (refine yM ?_; intro _) | (refine yA ?_; intro _ _ _ _) | fail)) | refine yJ ?_ | ((with_reducible apply gJ_if); (first | (refine J_if xR ?_ ?_ <;> intro _ <;> (try (exfalso; first | contradiction | omega))) | (refine J_ifb xR ?_ ?_ <;> (intro hgb; subst hgb)) | (refine J_ifb xR ?_ ?_ <;> intro _) | fail)) | fail))
  rename Nat => b3
  refine J_loop (α := Lw2) ⟨0, T0, a0, c0, _, [], none, 0, sats [], [], fun _ T => T⟩ (fun z => x.l.length - z.i) (MemOk f t x.l wb T0) (fun z => [(0, .pointer (some ⟨wb, 0, none⟩)), (3, .pointer (some ⟨b3, 0, none⟩)), (6, .slice z.oa z.ms.length z.oc), (7, z.lv), (13, .slice x.a x.l.length x.c), (14, .int .i64 x.l.length), (15, .int .i64 z.i)])
    (fun z => [z.A, pts b3 (cdC x) 50, pts wb [.slice z.a z.T.length z.c] 60, Ar 63 7 spC (.slice z.a z.T.length z.c) z.T, Ar 99 1 m3C (.slice z.oa z.ms.length z.oc) z.ms])
    ⟨Nat.zero_le _, by simp [seqQ], ⟨rfl, fun i m F h1 _ => by simp at h1⟩, rfl, fun T0 R A B z h0 => by simp [seqQ, foldF], fun h => absurd h (by simp)⟩ ⟨rfl, rfl, rfl, rfl, rfl, rfl, rfl, trivial⟩ (fun w H => (Ow.satsNil (Ow.arNil (e := 99) (sz := 1) (enc := m3C) H)).sel xZ) ?_
  rintro ⟨i, T, a, c, lv, ms, oa, oc, A, Fs, Fl⟩ ⟨hi, hT, hms, hn, hoff, hon⟩
  dsimp only at hi hT hms hn hoff hon ⊢
  by_cases hlt : i < x.l.length
  · obtain ⟨y, hs⟩ : ∃ y, x.l[i]? = some y := ⟨_, List.getElem?_eq_getElem hlt⟩
    have hm := List.mem_of_getElem? hs
    have htk : x.l.take (i + 1) = x.l.take i ++ [y] := by rw [List.take_add_one, hs]; rfl
    have hft : ∀ y ∈ x.l.take i, ∀ k A B, (f k y A B).length = t y := fun y hy => hf y (List.mem_of_mem_take hy)
    have hTl : T.length = T0.length + ((x.l.take i).map t).sum := by rw [← hT, List.length_append, seqQ_len _ _ hft]
    -- the table behind the last one's place, and behind this member
    obtain ⟨T1, h1⟩ : ∃ T1, T0 ++ seqQ f t (T.length : Int) 0 T0.length (x.l.take i) = T1 := ⟨_, rfl⟩
    have h1l : T1.length = T.length := by rw [← h1, List.length_append, seqQ_len _ _ hft, hTl]
    obtain ⟨T2, h2⟩ : ∃ T2, T1 ++ f T1.length y 0 0 = T2 := ⟨_, rfl⟩
    have hT2 : T0 ++ seqQ f t 0 0 T0.length (x.l.take (i + 1)) = T2 := by
      rw [htk, seqQ_snoc, ← List.append_assoc, ← h2, h1l, hTl, ← h1, hTl]
      push_cast
      rfl
    have hT2l : T2.length ≤ T9.length := by
      rw [← hT2, ← h9, List.length_append, List.length_append, seqQ_len _ _ (fun y hy => hf y (List.mem_of_mem_take hy)), seqQ_len _ _ hf]
      have := sum_part (f := t) x.l (i + 1)
      omega
    have h12 : T1.length ≤ T2.length := by rw [← h2, List.length_append]; omega
    have hcnd := hP y hm wb
    by_cases hi0 : 0 < i
    · obtain ⟨m, rfl, hmk, honk⟩ := hon hi0
      have hown := hmk.1
      have hFl : Fl (T.length : Int) T = T1 := by
        have := honk T0 [] 0 0 (T.length : Int) rfl
        rw [List.append_nil, List.append_nil] at this
        rw [← h1, ← this, hT]
      (repeat' (first | ((with_reducible apply gL); (first | refine yL0 ?_ | ((with_reducible apply gL_c_append); (first | (first | (refine JL_ap1 (z := m1) (tabE etab_ok xR) xR xR xA xA xC xR xL xR (by omega) xR xR ?_; intro ad4 c4 _ _) | (refine JD_ap1 (z := m1) (tabE etab_ok xR) xR xR xA xA xC xR xL xR (by omega) xR ?_; intro ad4 c4 _ _)) | fail)) | refine yL ?_ | ((with_reducible apply gL_go); (first | (refine JL_goq (hmk.2.2 (T.length : Int) a c T T1 (by omega) (by omega) hFl) (hφ := xF) (h := ?_); rintro _ _ rfl; try simp only [List.cons_append, List.nil_append]) | (refine JL_goq (hcnd a c T1 T2 (by omega) h2) (hφ := (by (try simp only [List.cons_append, List.nil_append]); exact fun w hr => (hK w hr.1).2 y hm)) (h := ?_); rintro _ _ ⟨m1, m2, A2, a2, c2, F1, F2, rfl, rfl, k1, k2, k3, k4⟩; try simp only [List.cons_append, List.nil_append]) | fail)) | (refine yM ?_; intro _) | (refine yA ?_; intro _ _ _ _) | fail)) | refine yJ ?_ | ((with_reducible apply gJ_if); (first | (refine J_if xR ?_ ?_ <;> intro _ <;> (try (exfalso; first | contradiction | omega))) | (refine J_ifb xR ?_ ?_ <;> (intro hgb; subst hgb)) | (refine J_ifb xR ?_ ?_ <;> intro _) | fail)) | fail))
      all_goals (first | (exfalso; omega) | skip)
      refine J_again ⟨i + 1, T2, a2, c2, _, ms ++ [m1], ad4, c4, two A A2, Fs ++ [F1], F2⟩ (by dsimp only; omega) ⟨by dsimp only; omega, hT2, Mks.snoc hms (by first | omega | (dsimp only; omega)) (k1), by simp [hn], ?_, fun _ => ⟨m2, rfl, (k2).wideR, ?_⟩⟩ ⟨rfl, rfl, ?_, rfl, rfl, rfl, rfl, trivial⟩ (fun w H => ?_)
      · dsimp only
        rw [htk]
        exact off_app hft hoff (by rw [← hTl, ← h1l]; exact k3.swap)
      · dsimp only
        rw [htk]
        exact on_app hft (by rw [← hTl, ← h1l]; exact k4.swap)
      · show some _ = some _
        simp
      · simp only [List.length_append, List.length_cons, List.length_nil]
        exact (Ow.shut (A := two A A2) (M := [A, A2]) H xZ (fun _ h => h)).sel xZ
    · have hi00 : i = 0 := by omega
      subst hi00
      have hT10 : T1 = T := by rw [← h1, ← hT]; simp [seqQ]
      subst hT10
      (repeat' (first | ((with_reducible apply gL); (first | refine yL0 ?_ | ((with_reducible apply gL_c_append); (first | (first | (refine JL_ap1 (z := m1) (tabE etab_ok xR) xR xR xA xA xC xR xL xR (by omega) xR xR ?_; intro ad4 c4 _ _) | (refine JD_ap1 (z := m1) (tabE etab_ok xR) xR xR xA xA xC xR xL xR (by omega) xR ?_; intro ad4 c4 _ _)) | fail)) | refine yL ?_ | ((with_reducible apply gL_go); (first | (refine JL_goq (hcnd a c T1 T2 (by omega) h2) (hφ := (by (try simp only [List.cons_append, List.nil_append]); exact fun w hr => (hK w hr.1).2 y hm)) (h := ?_); rintro _ _ ⟨m1, m2, A2, a2, c2, F1, F2, rfl, rfl, k1, k2, k3, k4⟩; try simp only [List.cons_append, List.nil_append]) | fail)) | (refine yM ?_; intro _) | (refine yA ?_; intro _ _ _ _) | fail)) | refine yJ ?_ | ((with_reducible apply gJ_if); (first | (refine J_if xR ?_ ?_ <;> intro _ <;> (try (exfalso; first | contradiction | omega))) | (refine J_ifb xR ?_ ?_ <;> (intro hgb; subst hgb)) | (refine J_ifb xR ?_ ?_ <;> intro _) | fail)) | fail))
      all_goals (first | (exfalso; omega) | skip)
      refine J_again ⟨0 + 1, T2, a2, c2, _, ms ++ [m1], ad4, c4, two A A2, Fs ++ [F1], F2⟩ (by dsimp only; omega) ⟨by dsimp only; omega, hT2, Mks.snoc hms (by first | omega | (dsimp only; omega)) (k1), by simp [hn], ?_, fun _ => ⟨m2, rfl, (k2).wideR, ?_⟩⟩ ⟨rfl, rfl, ?_, rfl, rfl, rfl, rfl, trivial⟩ (fun w H => ?_)
      · dsimp only
        rw [htk]
        exact off_app hft hoff (by rw [← hTl, ← h1l]; exact k3.swap)
      · dsimp only
        rw [htk]
        exact on_app hft (by rw [← hTl, ← h1l]; exact k4.swap)
      · show some _ = some _
        simp
      · simp only [List.length_append, List.length_cons, List.length_nil]
        exact (Ow.shut (A := two A A2) (M := [A, A2]) H xZ (fun _ h => h)).sel xZ
  · obtain rfl : i = x.l.length := by omega
    rw [List.take_length] at hT hoff hon
    have hpos : 0 < x.l.length := List.length_pos_iff.2 hne
    obtain ⟨m, rfl, hmk, honk⟩ := hon hpos
    have hT9 : T = T9 := by rw [← hT, ← h9]
    subst hT9
    (repeat' (first | ((with_reducible apply gL); (first | refine yL0 ?_ | refine yL ?_ | ((with_reducible apply gL_go); (first | (refine JL_goq (all_s oa ms.length oc) (hφ := xF) (h := ?_); rintro _ _ ⟨lb, rfl, rfl⟩; try simp only [List.cons_append, List.nil_append]) | fail)) | (refine yM ?_; intro _) | (refine yA ?_; intro _ _ _ _) | fail)) | refine yJ ?_ | ((with_reducible apply gJ_if); (first | (refine J_if xR ?_ ?_ <;> intro _ <;> (try (exfalso; first | contradiction | omega))) | (refine J_ifb xR ?_ ?_ <;> (intro hgb; subst hgb)) | (refine J_ifb xR ?_ ?_ <;> intro _) | fail)) | fail))
    refine J_ret2 rfl (by rfl) (by rfl) fun w H => ⟨_, ⟨⟨92, #[], #[.pointer (some ⟨lb, 0, none⟩)]⟩, m, allA A lb oa oc ms, a, c, (fun z => foldF z Fs), Fl, rfl, rfl, allmark_s A wb T.length lb oa oc ms Fs hms (by omega), (hmk.wideL : Mk m (allA A lb oa oc ms) wb T.length Fl), hoff.swap, honk.swap⟩, ?_⟩
    refine Ow.sel (Ow.shut (A := allA A lb oa oc ms) (M := [A, two (pts lb [.slice oa ms.length oc] 120) (Ar 99 1 m3C (.slice oa ms.length oc) ms)]) (Ow.shut (A := two (pts lb [.slice oa ms.length oc] 120) (Ar 99 1 m3C (.slice oa ms.length oc) ms)) (M := [pts lb [.slice oa ms.length oc] 120, Ar 99 1 m3C (.slice oa ms.length oc) ms]) H xZ (fun _ h => h)) xZ (fun _ h => h)) xZ
end Go.Proofs.Ytmbgbhambgoejaa.C
namespace Go.Proofs.Ytmbgbhambgoejaa.C
set_option linter.unusedSimpArgs false
set_option linter.unusedVariables false
set_option maxRecDepth 20000
set_option maxHeartbeats 4000000
open Go.RowKit Go.Pm

theorem on_leaf (x : Cd) (k : Nat) : OnOk (setX k) (fun A B => [leafS x A B]) k := by
  intro T0 R A B z h0
  have h : (T0 ++ [leafS x A B] ++ R)[k]? = some (leafS x A B) := by subst h0; simp
  dsimp only
  rw [setX_some h]
  subst h0
  simp [leafS]
theorem off_leaf (x : Cd) (k : Nat) : OffOk (setY k) (fun A B => [leafS x A B]) k := by
  intro T0 R A B z h0
  have h : (T0 ++ [leafS x A B] ++ R)[k]? = some (leafS x A B) := by subst h0; simp
  dsimp only
  rw [setY_some h]
  subst h0
  simp [leafS]
theorem CondOk.cong {F : FuncId} {y : Cd} {φ ψ : World → Prop} {g g' : Nat → Int → Int → List Sp} (h : CondOk F y φ g) (e : ∀ k X Y, g' k X Y = g k X Y) (hφ : ∀ w, ψ w → φ w) : CondOk F y ψ g' := by
  have : g' = g := by funext k X Y; exact e k X Y
  subst this
  exact fun wb a c T T2 h1 h2 => preP (h wb a c T T2 h1 h2) hφ
theorem mcond_core (x : Cd) (φ : Cd → World → Prop) (f : Nat → Cd → Int → Int → List Sp) (t : Cd → Nat) (hl : x.l.length ≤ 5) (h3 : x.op = 3 → x.l.length = 1) (h12 : 1 ≤ x.op → x.op < 3 → x.l ≠ [])
    (hf : ∀ y ∈ x.l, ∀ k A B, (f k y A B).length = t y)
    (hP : ∀ y ∈ x.l, CondOk 52 y (φ y) (fun k X Y => f k y X Y)) : CondOk 52 x (Kids φ x) (fun k X Y => putG f t k x X Y) := by
  intro wb a c T T2 hb h2
  refine pact Try.func52 rfl Try.ntmps52 rfl ?_
  intro W K hK
  dsimp only at h2
  by_cases o1 : x.op = 1
  · have hM := members_every x φ f t o1 hl (h12 (by omega) (by omega)) hf hP
    have hM2 := (hM.cong (g' := fun k X Y => putG f t k x X Y) (fun k X Y => by unfold putG; rw [if_pos o1, seqP_false X Y hf]) (fun w h => h)) wb a c T T2 hb h2
    (repeat' (first | ((with_reducible apply gL); (first | refine yL0 ?_ | refine yL ?_ | ((with_reducible apply gL_go); (first | (refine JL_goq (hM2) (hφ := (by (try simp only [List.cons_append, List.nil_append]); exact fun w hr => hK w hr.1)) (h := ?_); rintro _ _ ⟨m1, m2, A, a2, c2, F1, F2, rfl, rfl, k1, k2, k3, k4⟩; try simp only [List.cons_append, List.nil_append]) | fail)) | (refine yM ?_; intro _) | fail)) | ((with_reducible apply gD); (first | (refine JD_nil ?_; try simp only [List.cons_append, List.nil_append]) | (refine JD_bar ?_; try simp only [List.cons_append, List.nil_append]) | refine yD ?_ | ((with_reducible apply gD_go); (first | (refine JD_goq (hM2) (hφ := (by (try simp only [List.cons_append, List.nil_append]); exact fun w hr => hK w hr.1)) (h := ?_); rintro _ _ ⟨m1, m2, A, a2, c2, F1, F2, rfl, rfl, k1, k2, k3, k4⟩; try simp only [List.cons_append, List.nil_append]) | fail)) | (refine yE ?_; intro _) | (refine yB ?_; intro _ _ _ _) | fail)) | refine yJ ?_ | ((with_reducible apply gJ_if); (first | (refine J_if xR ?_ ?_ <;> intro _ <;> (try (exfalso; first | contradiction | omega))) | (refine J_ifb xR ?_ ?_ <;> (intro hgb; subst hgb)) | (refine J_ifb xR ?_ ?_ <;> intro _) | fail)) | refine J_draw (id := 3) [0, 1, 2, 3, 4] [5, 6, 7, 8, 9, 10] mixed xC xD xD ?_ | refine J_draw (id := 9) [0, 1, 2, 3, 4, 5, 6, 7, 8, 9, 10, 11, 12, 13] [14, 15, 16] mixed xC xD xD ?_ | fail))
    exact J_ret2 rfl (by rfl) (by rfl) fun w H => ⟨_, ⟨m1, m2, A, a2, c2, F1, F2, rfl, rfl, k1, k2, k3, k4⟩, H.sel xZ⟩
  by_cases o2 : x.op = 2
  · have hM := members_some x φ (fun k y A B => f k y B A) t o2 hl (h12 (by omega) (by omega)) (fun y hy k A B => hf y hy k B A) hP
    have hM2 := (hM.cong (g' := fun k X Y => putG f t k x X Y) (fun k X Y => by unfold putG; rw [if_neg o1, if_pos o2, seqP_true X Y hf]) (fun w h => h)) wb a c T T2 hb h2
    (repeat' (first | ((with_reducible apply gL); (first | refine yL0 ?_ | refine yL ?_ | ((with_reducible apply gL_go); (first | (refine JL_goq (hM2) (hφ := (by (try simp only [List.cons_append, List.nil_append]); exact fun w hr => hK w hr.1)) (h := ?_); rintro _ _ ⟨m1, m2, A, a2, c2, F1, F2, rfl, rfl, k1, k2, k3, k4⟩; try simp only [List.cons_append, List.nil_append]) | fail)) | (refine yM ?_; intro _) | fail)) | ((with_reducible apply gD); (first | (refine JD_nil ?_; try simp only [List.cons_append, List.nil_append]) | (refine JD_bar ?_; try simp only [List.cons_append, List.nil_append]) | refine yD ?_ | ((with_reducible apply gD_go); (first | (refine JD_goq (hM2) (hφ := (by (try simp only [List.cons_append, List.nil_append]); exact fun w hr => hK w hr.1)) (h := ?_); rintro _ _ ⟨m1, m2, A, a2, c2, F1, F2, rfl, rfl, k1, k2, k3, k4⟩; try simp only [List.cons_append, List.nil_append]) | fail)) | (refine yE ?_; intro _) | (refine yB ?_; intro _ _ _ _) | fail)) | refine yJ ?_ | ((with_reducible apply gJ_if); (first | (refine J_if xR ?_ ?_ <;> intro _ <;> (try (exfalso; first | contradiction | omega))) | (refine J_ifb xR ?_ ?_ <;> (intro hgb; subst hgb)) | (refine J_ifb xR ?_ ?_ <;> intro _) | fail)) | refine J_draw (id := 3) [0, 1, 2, 3, 4] [5, 6, 7, 8, 9, 10] mixed xC xD xD ?_ | refine J_draw (id := 9) [0, 1, 2, 3, 4, 5, 6, 7, 8, 9, 10, 11, 12, 13] [14, 15, 16] mixed xC xD xD ?_ | fail))
    exact J_ret2 rfl (by rfl) (by rfl) fun w H => ⟨_, ⟨m1, m2, A, a2, c2, F1, F2, rfl, rfl, k1, k2, k3, k4⟩, H.sel xZ⟩
  by_cases o3 : x.op = 3
  · have h3l := h3 o3
    obtain ⟨y, r, hyr⟩ := List.exists_cons_of_ne_nil (l := x.l) (fun e => by rw [e] at h3l; simp at h3l)
    have hs : x.l[0]? = some y := by rw [hyr]; rfl
    have hm := List.mem_of_getElem? hs
    have hkv : Kn K (fun w => Vw w (.slice x.a x.l.length x.c) 5 x.l.length (flat cdC x.l)) := hK.imp fun w h => h.1 (List.ne_nil_of_mem hm)
    have e : ∀ k X Y, putG f t k x X Y = f k y Y X := fun k X Y => by
      unfold putG
      rw [if_neg o1, if_neg o2, if_pos o3, hyr]
      rfl
    rw [e] at h2
    have hY := hP y hm wb a c T T2 hb h2
    (repeat' (first | ((with_reducible apply gL); (first | refine yL0 ?_ | refine yL ?_ | ((with_reducible apply gL_go); (first | (refine JL_goq (hY) (hφ := (by (try simp only [List.cons_append, List.nil_append]); exact fun w hr => (hK w hr.1).2 y hm)) (h := ?_); rintro _ _ ⟨m1, m2, A, a2, c2, F1, F2, rfl, rfl, k1, k2, k3, k4⟩; try simp only [List.cons_append, List.nil_append]) | fail)) | (refine yM ?_; intro _) | fail)) | ((with_reducible apply gD); (first | (refine JD_nil ?_; try simp only [List.cons_append, List.nil_append]) | (refine JD_bar ?_; try simp only [List.cons_append, List.nil_append]) | refine yD ?_ | ((with_reducible apply gD_go); (first | (refine JD_goq (hY) (hφ := (by (try simp only [List.cons_append, List.nil_append]); exact fun w hr => (hK w hr.1).2 y hm)) (h := ?_); rintro _ _ ⟨m1, m2, A, a2, c2, F1, F2, rfl, rfl, k1, k2, k3, k4⟩; try simp only [List.cons_append, List.nil_append]) | fail)) | (refine yE ?_; intro _) | (refine yB ?_; intro _ _ _ _) | fail)) | refine yJ ?_ | ((with_reducible apply gJ_if); (first | (refine J_if xR ?_ ?_ <;> intro _ <;> (try (exfalso; first | contradiction | omega))) | (refine J_ifb xR ?_ ?_ <;> (intro hgb; subst hgb)) | (refine J_ifb xR ?_ ?_ <;> intro _) | fail)) | refine J_draw (id := 3) [0, 1, 2, 3, 4] [5, 6, 7, 8, 9, 10] mixed xC xD xD ?_ | refine J_draw (id := 9) [0, 1, 2, 3, 4, 5, 6, 7, 8, 9, 10, 11, 12, 13] [14, 15, 16] mixed xC xD xD ?_ | fail))
    refine J_ret2 rfl (by rfl) (by rfl) fun w H => ⟨_, ⟨m2, m1, A, a2, c2, F2, F1, rfl, rfl, k2, k1, ?_, ?_⟩, H.sel xZ⟩
    · rw [show (fun k X Y => putG f t k x X Y) T.length = fun X Y => f T.length y Y X from by funext X Y; exact e _ X Y]
      exact k4.swap
    · rw [show (fun k X Y => putG f t k x X Y) T.length = fun X Y => f T.length y Y X from by funext X Y; exact e _ X Y]
      exact k3.swap
  have e : ∀ k X Y, putG f t k x X Y = [leafS x X Y] := fun k X Y => by
    unfold putG
    rw [if_neg o1, if_neg o2, if_neg o3]
  rw [e] at h2
  have h2l : T2.length = T.length + 1 := by rw [← h2, List.length_append]; rfl
  (repeat' (first | ((with_reducible apply gL); (first | refine yL0 ?_ | refine yL ?_ | (refine yM ?_; intro _) | fail)) | ((with_reducible apply gD); (first | (refine JD_nil ?_; try simp only [List.cons_append, List.nil_append]) | (refine JD_bar ?_; try simp only [List.cons_append, List.nil_append]) | ((with_reducible apply gD_c_append); (first | (refine JD_ap1 (z := leafS x 0 0) (tabE etab_ok xR) xR xR xA xA xC xR xL xR (by omega) xR ?_; intro ad4 c4 _ _) | fail)) | refine yD ?_ | (refine yE ?_; intro _) | (refine yB ?_; intro _ _ _ _) | fail)) | refine yJ ?_ | ((with_reducible apply gJ_if); (first | (refine J_if xR ?_ ?_ <;> intro _ <;> (try (exfalso; first | contradiction | omega))) | (refine J_ifb xR ?_ ?_ <;> (intro hgb; subst hgb)) | (refine J_ifb xR ?_ ?_ <;> intro _) | fail)) | refine J_draw (id := 3) [0, 1, 2, 3, 4] [5, 6, 7, 8, 9, 10] mixed xC xD xD ?_ | refine J_draw (id := 9) [0, 1, 2, 3, 4, 5, 6, 7, 8, 9, 10, 11, 12, 13] [14, 15, 16] mixed xC xD xD ?_ | fail))
  rw [h2, ← h2l]
  rename_i b2 b3 e1 e2 e3 kb bs q1 q2
  refine J_ret2 rfl (by rfl) (by rfl) fun w H => ⟨_, ⟨⟨70, #[], #[.pointer (some ⟨b2, 0, none⟩), .pointer (some ⟨kb, 0, none⟩)]⟩, ⟨71, #[], #[.pointer (some ⟨b2, 0, none⟩), .pointer (some ⟨kb, 0, none⟩)]⟩, leafA wb kb b2 T.length, ad4, c4, setX T.length, setY T.length, rfl, rfl, ?_, ?_, ?_, ?_⟩, ?_⟩
  · rw [h2l]; exact mark1_s wb kb b2 T.length
  · rw [h2l]; exact mark2_s wb kb b2 T.length
  · rw [show (fun k X Y => putG f t k x X Y) T.length = fun X Y => [leafS x X Y] from by funext X Y; exact e _ X Y]
    exact on_leaf x T.length
  · rw [show (fun k X Y => putG f t k x X Y) T.length = fun X Y => [leafS x X Y] from by funext X Y; exact e _ X Y]
    exact off_leaf x T.length
  · exact (Ow.shut (A := leafA wb kb b2 T.length) (M := [pts b2 [.pointer (some ⟨wb, 0, none⟩)] 58, pts kb [.int .i64 T.length] 3]) H xZ (fun _ h => h)).sel xZ
theorem mcond_s : ∀ (d : Nat) (x : Cd), CdF d x → condB d x = true → CondOk 52 x (fun w => CdV w d x) (fun k X Y => putL d k x X Y) := by
  intro d
  induction d with
  | zero =>
    intro x hx hc
    have hno : ∀ s ∈ x.l, False := fun s hs => by rw [hx.2] at hs; cases hs
    have hz := cond_zero hx hc
    exact (mcond_core x (fun y w => CdV w (0 - 1) y) (putL (0 - 1)) (tests (0 - 1)) hx.len (fun h => by omega) (fun h1 h2 => by omega) (fun y hy => (hno y hy).elim) (fun y hy => (hno y hy).elim)).cong (fun k X Y => putL_eq hx hc k X Y) fun w h => hx.kids h
  | succ d ih =>
    intro x hx hc
    have hk : ∀ y ∈ x.l, condB d y = true := fun y hy => by
      by_cases ho : 1 ≤ x.op ∧ x.op ≤ 3
      · exact (cond_head hx hc ho).2.2 y hy
      · rw [(cond_leaf hx hc ho).1] at hy; cases hy
    exact (mcond_core x (fun y w => CdV w d y) (putL d) (tests d) hx.len (fun h => (cond_head hx hc (by omega)).1 h) (fun h1 h2 e => by
      have := (cond_head hx hc (by omega)).2.1 h2
      rw [e] at this
      simp at this) (fun y hy k A B => putL_len (hx.2.2 y hy) (hk y hy) k A B) (fun y hy => ih y (hx.2.2 y hy) (hk y hy))).cong (fun k X Y => putL_eq hx hc k X Y) fun w h => hx.kids h
end Go.Proofs.Ytmbgbhambgoejaa.C
namespace Go.Proofs.Ytmbgbhambgoejaa.C
set_option linter.unusedSimpArgs false
set_option linter.unusedVariables false
set_option maxRecDepth 20000
set_option maxHeartbeats 4000000
open Go.RowKit Go.Pm

end Go.Proofs.Ytmbgbhambgoejaa.C
namespace Go.Proofs.Ytmbgbhambgoejaa.C
set_option linter.unusedSimpArgs false
set_option linter.unusedVariables false
open Go.RowKit Go.Pm

def CodeOk (F : FuncId) (la : Option Addr) (lc n : Nat) (φ : World → Prop) (g : Nat → List Sp) : Prop := ∀ (a : Option Addr) (c : Nat) (T T2 : List Sp), T2.length ≤ 450000000 → T ++ g T.length = T2 → Pact Try.prog F #[.slice a T.length c, .slice la n lc] φ [Ar 63 7 spC (.slice a T.length c) T] (fun u L' => ∃ a' c', u = .slice a' T2.length c' ∧ L' = [Ar 63 7 spC (.slice a' T2.length c') T2])
theorem codeG_step {g : Nat → List St → List Sp} {gs : List St → Nat} {T T2 : List Sp} {s : St} {r : List St} (h : T ++ codeS g gs T.length s = T2) : T ++ codeG g gs T.length (s :: r) = T2 ++ codeG g gs T2.length r := by
  rw [codeG, ← List.append_assoc, h, ← h, List.length_append]
theorem codeS_one {g : Nat → List St → List Sp} {gs : List St → Nat} {T T2 T3 : List Sp} {s : St} (ho : s.op = 1) (he : s.el.length = 0) (h2 : T ++ putL 5 T.length s.cd ((T.length : Int) + tests 5 s.cd) ((T.length : Int) + tests 5 s.cd + gs s.th) = T2) (h3 : T2 ++ g T2.length s.th = T3) : T ++ codeS g gs T.length s = T3 := by
  rw [codeS, if_pos ho, if_pos he, ← List.append_assoc, h2]
  rw [show T.length + (putL 5 T.length s.cd ((T.length : Int) + tests 5 s.cd) ((T.length : Int) + tests 5 s.cd + gs s.th)).length = T2.length by rw [← h2, List.length_append]]
  exact h3
theorem codeS_two {g : Nat → List St → List Sp} {gs : List St → Nat} {T T2 T3 T4 T5 : List Sp} {s : St} (ho : s.op = 1) (he : ¬ s.el.length = 0) (h2 : T ++ putL 5 T.length s.cd ((T.length : Int) + tests 5 s.cd) ((T.length : Int) + tests 5 s.cd + gs s.th + 1) = T2) (h3 : T2 ++ g T2.length s.th = T3) (h4 : T3 ++ [⟨21, 0, 0, 0, 0, (T.length : Int) + tests 5 s.cd + gs s.th + 1 + gs s.el, 0⟩] = T4) (h5 : T4 ++ g T4.length s.el = T5) : T ++ codeS g gs T.length s = T5 := by
  rw [codeS, if_pos ho, if_neg he]
  have e2 : T.length + (putL 5 T.length s.cd ((T.length : Int) + tests 5 s.cd) ((T.length : Int) + tests 5 s.cd + gs s.th + 1)).length = T2.length := by rw [← h2, List.length_append]
  simp only [e2]
  rw [← List.append_assoc, ← List.append_assoc, ← List.append_assoc, h2, h3, h4]
  rw [show T.length + (putL 5 T.length s.cd ((T.length : Int) + tests 5 s.cd) ((T.length : Int) + tests 5 s.cd + gs s.th + 1) ++ g T2.length s.th).length + 1 = T4.length by
    rw [List.length_append, ← h4, ← h3, List.length_append, List.length_append, List.length_cons, List.length_nil]; omega]
  exact h5
end Go.Proofs.Ytmbgbhambgoejaa.C
namespace Go.Proofs.Ytmbgbhambgoejaa.C
set_option linter.unusedSimpArgs false
set_option linter.unusedVariables false
open Go.RowKit Go.Pm

theorem CodeOk.pre {F : FuncId} {la : Option Addr} {lc n : Nat} {φ ψ : World → Prop} {g : Nat → List Sp} (h : CodeOk F la lc n φ g) (hφ : ∀ w, ψ w → φ w) : CodeOk F la lc n ψ g := fun a c T T2 h1 h2 => preP (h a c T T2 h1 h2) hφ
theorem act_range {op n m : Int} (h : ActOk op n m) : 2 ≤ op ∧ op ≤ 9 := by unfold ActOk at h; omega
def endS : Sp := ⟨23, 0, 0, 0, 0, 0, 0⟩
def makeT (l : List St) : List Sp := if rightB 5 l = true ∧ sizeL 5 l < 4096 then codeL 5 0 l ++ [endS] else []
def makeE (l : List St) : Int := if rightB 5 l = true then if sizeL 5 l < 4096 then 0 else 3 else 260
end Go.Proofs.Ytmbgbhambgoejaa.C
