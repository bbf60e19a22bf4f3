/-
  Fs27, Fs28, Fs29: merged.
-/
import Derived.Test.YtfonbpmdbpdncaaZFsmSpeaks22
namespace Go.Proofs.Ytfonbpmdbpdncaa
set_option linter.unusedSimpArgs false
set_option linter.unusedVariables false
open Go.RowKit Go.Pm

inductive Stp (b0 b1 : Int) : Int → Int → List (Int × Int × Int) → Int → Int → Prop
  | fail0 {x0 x1 : Int} (h : 3 ≤ x0) : Stp b0 b1 x0 x1 (failL x0 0) 0 x1
  | gone0 {x0 x1 : Int} : Stp b0 b1 x0 x1 ((2, 0, 0) :: dnL x0 0) 0 x1
  | open0 {x0 x1 : Int} (h : x0 < 3) : Stp b0 b1 x0 x1 [(3, 0, 1)] 3 x1
  | keep0 {x0 x1 z : Int} (h : 3 ≤ x0) (hz : z = x0 ∨ x0 = 3 ∧ z = 4) : Stp b0 b1 x0 x1 [(3, 0, 4)] z x1
  | up0 {x0 x1 : Int} (hb : b0 = 4) (h : x0 = 4) (ho : x1 ≠ 5) : Stp b0 b1 x0 x1 [(4, 0, 0)] 5 x1
  | upd0 {x0 x1 kd : Int} (hb : b0 = 5) (h : x0 = 5) (hk : kd = 6 ∨ kd = 7) : Stp b0 b1 x0 x1 [(kd, 0, 0)] x0 x1
  | fail1 {x0 x1 : Int} (h : 3 ≤ x1) : Stp b0 b1 x0 x1 (failL x1 1) x0 0
  | gone1 {x0 x1 : Int} : Stp b0 b1 x0 x1 ((2, 1, 0) :: dnL x1 1) x0 0
  | open1 {x0 x1 : Int} (h : x1 < 3) : Stp b0 b1 x0 x1 [(3, 1, 1)] x0 3
  | keep1 {x0 x1 z : Int} (h : 3 ≤ x1) (hz : z = x1 ∨ x1 = 3 ∧ z = 4) : Stp b0 b1 x0 x1 [(3, 1, 4)] x0 z
  | up1 {x0 x1 : Int} (hb : b1 = 4) (h : x1 = 4) (ho : x0 ≠ 5) : Stp b0 b1 x0 x1 [(4, 1, 0)] x0 5
  | upd1 {x0 x1 kd : Int} (hb : b1 = 5) (h : x1 = 5) (hk : kd = 6 ∨ kd = 7) : Stp b0 b1 x0 x1 [(kd, 1, 0)] x0 x1
  | dial {x0 x1 : Int} (h : x0 < 3) : Stp b0 b1 x0 x1 [(1, 0, 0)] 1 x1
inductive Stps (b0 b1 : Int) : Int → Int → List (Int × Int × Int) → Int → Int → Prop
  | nil {x0 x1 : Int} : Stps b0 b1 x0 x1 [] x0 x1
  | cons {x0 x1 y0 y1 z0 z1 : Int} {us vs : List (Int × Int × Int)} (h : Stp b0 b1 x0 x1 us y0 y1) (t : Stps b0 b1 y0 y1 vs z0 z1) : Stps b0 b1 x0 x1 (us ++ vs) z0 z1
theorem Stps.one {b0 b1 x0 x1 y0 y1 : Int} {us : List (Int × Int × Int)} (h : Stp b0 b1 x0 x1 us y0 y1) : Stps b0 b1 x0 x1 us y0 y1 := by
  have := Stps.cons h .nil
  rwa [List.append_nil] at this
theorem Stps.app {b0 b1 x0 x1 y0 y1 z0 z1 : Int} {us vs : List (Int × Int × Int)} (h : Stps b0 b1 x0 x1 us y0 y1) (t : Stps b0 b1 y0 y1 vs z0 z1) : Stps b0 b1 x0 x1 (us ++ vs) z0 z1 := by
  induction h with
  | nil => exact t
  | cons h _ ih => rw [List.append_assoc]; exact .cons h (ih t)
inductive Evt (b0 b1 : Int) : Int → Int → List (Int × Int × Int) → Int → Int → Prop
  | steps {x0 x1 y0 y1 : Int} {us : List (Int × Int × Int)} (h : Stps b0 b1 x0 x1 us y0 y1) : Evt b0 b1 x0 x1 us y0 y1
  | lose0 {x0 x1 : Int} : Evt b0 b1 x0 x1 (dnL x0 0) 0 x1
  | lose1 {x0 x1 : Int} : Evt b0 b1 x0 x1 (dnL x1 1) x0 0
structure SInv (s : Qse) : Prop where
  off : s.on = false → s.t0.st = 0 ∧ s.t1.st = 0
  pd : s.again ≠ -1 → s.t0.st < 3 ∧ s.t1.st < 3
  rg : (s.t0.st = 0 ∨ s.t0.st = 1 ∨ 3 ≤ s.t0.st) ∧ (s.t1.st = 0 ∨ s.t1.st = 1 ∨ 3 ≤ s.t1.st)
theorem SInv.same {s s' : Qse} (h : SInv s) (e : Same s s') : SInv s' := by
  obtain ⟨e1, e2, e3, e4⟩ := e
  exact ⟨by rw [e1, e3, e4]; exact h.off, by rw [e2, e3, e4]; exact h.pd, by rw [e3, e4]; exact h.rg⟩
def St (s s' : Qse) (ys : List (Int × Int × Int)) (b : Qse) : Prop := Stps b.t0.st b.t1.st s.t0.st s.t1.st ys s'.t0.st s'.t1.st
theorem St.same {s s' b : Qse} (e : Same s s') : St s s' [] b := by
  obtain ⟨_, _, e3, e4⟩ := e
  unfold St
  rw [e3, e4]
  exact .nil
theorem dn_nil {st k : Int} (h : st ≠ 5) : dnL st k = [] := if_neg h
theorem SInv.lose0 {s s' : Qse} (h : SInv s) (e1 : s'.on = s.on) (e2 : s'.again = s.again ∨ s.t1.st = 0) (e3 : s'.t0 = tr0) (e4 : s'.t1 = s.t1) : SInv s' := by
  have e3' : s'.t0.st = 0 := by rw [e3]
  have e4' : s'.t1.st = s.t1.st := by rw [e4]
  have hg := h.rg
  refine ⟨fun ho => ?_, fun ha => ?_, by omega⟩
  · have := h.off (by rw [← e1]; exact ho)
    omega
  · rcases e2 with e2 | e2
    · have := h.pd (by rw [← e2]; exact ha)
      omega
    · omega
theorem fail0_st {s s' b : Qse} {ys : List (Int × Int × Int)} (h3 : 3 ≤ s.t0.st) (e3 : s'.t0 = tr0) (e4 : s'.t1 = s.t1) (ey : ys = failL s.t0.st 0) : St s s' ys b := by
  have e3' : s'.t0.st = 0 := by rw [e3]
  subst ey
  unfold St
  rw [e3', e4]
  exact .one (.fail0 h3)
theorem gone0_st {s s' b : Qse} {ys : List (Int × Int × Int)} (e3 : s'.t0 = tr0) (e4 : s'.t1 = s.t1) (ey : ys = (2, 0, 0) :: dnL s.t0.st 0) : St s s' ys b := by
  have e3' : s'.t0.st = 0 := by rw [e3]
  subst ey
  unfold St
  rw [e3', e4]
  exact .one .gone0
theorem RFail0_ok {s s' b : Qse} {ys : List (Int × Int × Int)} (h : SInv s) (r : RFail0 s s' ys) : St s s' ys b ∧ SInv s' := by
  rcases r with ⟨_, e, rfl⟩ | ⟨h3, e1, e2, e3, e4, ey⟩
  · exact ⟨.same e, h.same e⟩
  · exact ⟨fail0_st h3 e3 e4 ey, h.lose0 e1 e2 e3 e4⟩
theorem RUp0_ok {s s' b : Qse} {ys : List (Int × Int × Int)} (h : SInv s) (r : RUp0 s s' ys) : St s s' ys b ∧ SInv s' := by
  rcases r with ⟨_, e, rfl⟩ | ⟨h3, _, e1, e2, e3, e4, rfl⟩ | ⟨h3, h4, _, h5, e1, e2, e3, e4, rfl⟩
  · exact ⟨.same e, h.same e⟩
  · exact ⟨gone0_st e3 e4 (by rw [dn_nil (by omega)]), h.lose0 e1 (.inl e2) e3 e4⟩
  · have hg := h.rg
    refine ⟨?_, ⟨fun ho => ?_, fun ha => absurd e2 ha, by first | (rw [e3, e4]; omega) | omega⟩⟩
    · unfold St
      rw [e3, e4]
      exact .one (.open0 h3)
    · rw [e1] at ho; cases ho
theorem RGone0_ok {s s' : Qse} {ys : List (Int × Int × Int)} (h : SInv s) (r : RGone0 s s' ys) : Evt s.t0.st s.t1.st s.t0.st s.t1.st ys s'.t0.st s'.t1.st ∧ SInv s' := by
  rcases r with ⟨_, e, rfl⟩ | ⟨_, e1, e2, e3, e4, rfl⟩
  · exact ⟨.steps (St.same (b := s) e), h.same e⟩
  · refine ⟨?_, h.lose0 e1 e2 e3 e4⟩
    rw [e3, e4]
    exact .lose0
theorem RT0_ok {s s' b : Qse} {ys : List (Int × Int × Int)} (h : SInv s) (r : RT0 s s' ys) : St s s' ys b ∧ SInv s' := by
  rcases r with ⟨e, rfl⟩ | ⟨h3, e1, e2, e3, e4, ey⟩ | ⟨h3, e1, e2, e3, e4, rfl⟩
  · exact ⟨.same e, h.same e⟩
  · exact ⟨fail0_st h3 e3 e4 ey, h.lose0 e1 e2 e3 e4⟩
  · refine ⟨?_, ⟨fun ho => ?_, fun ha => ?_, by rw [e3, e4]; exact h.rg⟩⟩
    · unfold St
      rw [e3, e4]
      exact .one (.keep0 h3 (.inl rfl))
    · rw [e3, e4]; exact h.off (by rw [← e1]; exact ho)
    · rw [e3, e4]; exact h.pd (by rw [← e2]; exact ha)
theorem SInv.lose1 {s s' : Qse} (h : SInv s) (e1 : s'.on = s.on) (e2 : s'.again = s.again ∨ s.t0.st = 0) (e3 : s'.t1 = tr0) (e4 : s'.t0 = s.t0) : SInv s' := by
  have e3' : s'.t1.st = 0 := by rw [e3]
  have e4' : s'.t0.st = s.t0.st := by rw [e4]
  have hg := h.rg
  refine ⟨fun ho => ?_, fun ha => ?_, by omega⟩
  · have := h.off (by rw [← e1]; exact ho)
    omega
  · rcases e2 with e2 | e2
    · have := h.pd (by rw [← e2]; exact ha)
      omega
    · omega
theorem fail1_st {s s' b : Qse} {ys : List (Int × Int × Int)} (h3 : 3 ≤ s.t1.st) (e3 : s'.t1 = tr0) (e4 : s'.t0 = s.t0) (ey : ys = failL s.t1.st 1) : St s s' ys b := by
  have e3' : s'.t1.st = 0 := by rw [e3]
  subst ey
  unfold St
  rw [e3', e4]
  exact .one (.fail1 h3)
theorem gone1_st {s s' b : Qse} {ys : List (Int × Int × Int)} (e3 : s'.t1 = tr0) (e4 : s'.t0 = s.t0) (ey : ys = (2, 1, 0) :: dnL s.t1.st 1) : St s s' ys b := by
  have e3' : s'.t1.st = 0 := by rw [e3]
  subst ey
  unfold St
  rw [e3', e4]
  exact .one .gone1
theorem RFail1_ok {s s' b : Qse} {ys : List (Int × Int × Int)} (h : SInv s) (r : RFail1 s s' ys) : St s s' ys b ∧ SInv s' := by
  rcases r with ⟨_, e, rfl⟩ | ⟨h3, e1, e2, e3, e4, ey⟩
  · exact ⟨.same e, h.same e⟩
  · exact ⟨fail1_st h3 e3 e4 ey, h.lose1 e1 e2 e3 e4⟩
theorem RUp1_ok {s s' b : Qse} {ys : List (Int × Int × Int)} (h : SInv s) (r : RUp1 s s' ys) : St s s' ys b ∧ SInv s' := by
  rcases r with ⟨_, e, rfl⟩ | ⟨h3, _, e1, e2, e3, e4, rfl⟩ | ⟨h3, h4, _, h5, e1, e2, e3, e4, rfl⟩
  · exact ⟨.same e, h.same e⟩
  · exact ⟨gone1_st e3 e4 (by rw [dn_nil (by omega)]), h.lose1 e1 (.inl e2) e3 e4⟩
  · have hg := h.rg
    refine ⟨?_, ⟨fun ho => ?_, fun ha => absurd e2 ha, by first | (rw [e3, e4]; omega) | omega⟩⟩
    · unfold St
      rw [e3, e4]
      exact .one (.open1 h3)
    · rw [e1] at ho; cases ho
theorem RGone1_ok {s s' : Qse} {ys : List (Int × Int × Int)} (h : SInv s) (r : RGone1 s s' ys) : Evt s.t0.st s.t1.st s.t0.st s.t1.st ys s'.t0.st s'.t1.st ∧ SInv s' := by
  rcases r with ⟨_, e, rfl⟩ | ⟨_, e1, e2, e3, e4, rfl⟩
  · exact ⟨.steps (St.same (b := s) e), h.same e⟩
  · refine ⟨?_, h.lose1 e1 e2 e3 e4⟩
    rw [e3, e4]
    exact .lose1
theorem RT1_ok {s s' b : Qse} {ys : List (Int × Int × Int)} (h : SInv s) (r : RT1 s s' ys) : St s s' ys b ∧ SInv s' := by
  rcases r with ⟨e, rfl⟩ | ⟨h3, e1, e2, e3, e4, ey⟩ | ⟨h3, e1, e2, e3, e4, rfl⟩
  · exact ⟨.same e, h.same e⟩
  · exact ⟨fail1_st h3 e3 e4 ey, h.lose1 e1 e2 e3 e4⟩
  · refine ⟨?_, ⟨fun ho => ?_, fun ha => ?_, by rw [e3, e4]; exact h.rg⟩⟩
    · unfold St
      rw [e3, e4]
      exact .one (.keep1 h3 (.inl rfl))
    · rw [e3, e4]; exact h.off (by rw [← e1]; exact ho)
    · rw [e3, e4]; exact h.pd (by rw [← e2]; exact ha)
theorem St.app {s s1 s2 b : Qse} {us vs : List (Int × Int × Int)} (h : St s s1 us b) (t : St s1 s2 vs b) : St s s2 (us ++ vs) b := Stps.app h t
theorem RD_ok {q : Bool} {s s' b : Qse} {ys : List (Int × Int × Int)} (h : SInv s) (r : RD q s s' ys) : St s s' ys b ∧ SInv s' := by
  rcases r with ⟨e, rfl⟩ | ⟨h1, h2, e1, e2, ⟨_, e3, ⟨h4, rfl⟩ | ⟨h4, rfl⟩⟩ | ⟨_, ⟨h4, e3, rfl⟩ | ⟨h4, e3, rfl⟩⟩⟩
  · exact ⟨.same e, h.same e⟩
  all_goals (have hp := h.pd h2; have hg := h.rg)
  · refine ⟨?_, ⟨fun ho => ?_, fun _ => ?_, by rw [e3, e2]; exact ⟨by first | exact .inl rfl | exact .inr (.inl rfl) | exact hg.1, hg.2⟩⟩⟩
    · unfold St
      rw [e3, e2]
      have g := Stp.gone0 (b0 := b.t0.st) (b1 := b.t1.st) (x0 := s.t0.st) (x1 := s.t1.st)
      rw [dn_nil (by omega)] at g
      exact .cons g (.one (.dial (by decide)))
    · rw [e1] at ho; cases ho
    · rw [e3, e2]; omega
  · refine ⟨?_, ⟨fun ho => ?_, fun _ => ?_, by rw [e3, e2]; exact ⟨by first | exact .inl rfl | exact .inr (.inl rfl) | exact hg.1, hg.2⟩⟩⟩
    · unfold St
      rw [e3, e2]
      exact .one (.dial hp.1)
    · rw [e1] at ho; cases ho
    · rw [e3, e2]; omega
  · refine ⟨gone0_st e3 e2 (by rw [dn_nil (by omega)]), ⟨fun ho => ?_, fun _ => ?_, by rw [e3, e2]; exact ⟨by first | exact .inl rfl | exact .inr (.inl rfl) | exact hg.1, hg.2⟩⟩⟩
    · rw [e1] at ho; cases ho
    · rw [e3, e2]; exact ⟨by decide, hp.2⟩
  · refine ⟨?_, ⟨fun ho => ?_, fun _ => ?_, by rw [e3, e2]; exact ⟨by first | exact .inl rfl | exact .inr (.inl rfl) | exact hg.1, hg.2⟩⟩⟩
    · unfold St
      rw [e3, e2]
      exact .nil
    · rw [e1] at ho; cases ho
    · rw [e3, e2]; exact hp
theorem RTick_ok {q : Bool} {s s' b : Qse} {ys : List (Int × Int × Int)} (h : SInv s) (r : RTick q s s' ys) : St s s' ys b ∧ SInv s' := by
  obtain ⟨s1, s2, y0, y1, y2, h0, h1, h2, rfl⟩ := r
  have g0 := RT0_ok (b := b) h h0
  have g1 := RT1_ok (b := b) g0.2 h1
  have g2 := RD_ok (b := b) g1.2 h2
  exact ⟨(g0.1.app g1.1).app g2.1, g2.2⟩
theorem RStart_ok {q : Bool} {s s' b : Qse} {ys : List (Int × Int × Int)} (h : SInv s) (r : RStart q s s' ys) : St s s' ys b ∧ SInv s' := by
  rcases r with ⟨_, e, rfl⟩ | ⟨h1, e1, e2, ⟨_, e3, rfl⟩ | ⟨_, e3, rfl⟩⟩
  · exact ⟨.same e, h.same e⟩
  all_goals (have hz := h.off h1; have hg := h.rg)
  · refine ⟨?_, ⟨fun ho => ?_, fun _ => ?_, by rw [e3, e2]; exact ⟨by first | exact .inl rfl | exact .inr (.inl rfl) | exact hg.1, hg.2⟩⟩⟩
    · unfold St
      rw [e3, e2]
      exact .nil
    · rw [e1] at ho; cases ho
    · rw [e3, e2]; omega
  · refine ⟨?_, ⟨fun ho => ?_, fun _ => ?_, by rw [e3, e2]; exact ⟨by first | exact .inl rfl | exact .inr (.inl rfl) | exact hg.1, hg.2⟩⟩⟩
    · unfold St
      rw [e3, e2]
      exact .one (.dial (by omega))
    · rw [e1] at ho; cases ho
    · rw [e3, e2]; omega
theorem stopT_st {t : Qtr} (h : t.st = 0 ∨ t.st = 1 ∨ 3 ≤ t.st) : (stopT t).st = 0 := by
  unfold stopT
  split
  · rfl
  · omega
theorem stop0_st {s s' b : Qse} (h : s.t0.st = 0 ∨ s.t0.st = 1 ∨ 3 ≤ s.t0.st) (e3 : s'.t0.st = 0) (e4 : s'.t1.st = s.t1.st) : St s s' (stopL s.t0.st 0) b := by
  unfold St
  rw [e3, e4]
  rcases h with h | h | h
  · rw [stopL_n (by omega), h]
    exact .nil
  · rw [stopL_g h]
    have g := Stp.gone0 (b0 := b.t0.st) (b1 := b.t1.st) (x0 := s.t0.st) (x1 := s.t1.st)
    rw [dn_nil (by omega)] at g
    exact .one g
  · rw [stopL_f h]
    exact .one (.fail0 h)
theorem stop1_st {s s' b : Qse} (h : s.t1.st = 0 ∨ s.t1.st = 1 ∨ 3 ≤ s.t1.st) (e3 : s'.t1.st = 0) (e4 : s'.t0.st = s.t0.st) : St s s' (stopL s.t1.st 1) b := by
  unfold St
  rw [e3, e4]
  rcases h with h | h | h
  · rw [stopL_n (by omega), h]
    exact .nil
  · rw [stopL_g h]
    have g := Stp.gone1 (b0 := b.t0.st) (b1 := b.t1.st) (x0 := s.t0.st) (x1 := s.t1.st)
    rw [dn_nil (by omega)] at g
    exact .one g
  · rw [stopL_f h]
    exact .one (.fail1 h)
theorem RStop_ok {s s' b : Qse} {ys : List (Int × Int × Int)} (h : SInv s) (r : RStop s s' ys) : St s s' ys b ∧ SInv s' := by
  obtain ⟨e1, e2, e3, e4, rfl⟩ := r
  have hg := h.rg
  have z0 := stopT_st hg.1
  have z1 := stopT_st hg.2
  have w0 : s'.t0.st = 0 := by rw [e3, z0]
  have w1 : s'.t1.st = 0 := by rw [e4, z1]
  refine ⟨?_, ⟨fun _ => ⟨w0, w1⟩, fun ha => absurd e2 ha, by omega⟩⟩
  have g0 := stop0_st (s := s) (s' := { s with t0 := tr0 }) (b := b) hg.1 rfl rfl
  have g1 := stop1_st (s := { s with t0 := tr0 }) (s' := s') (b := b) hg.2 w1 w0
  exact g0.app g1
theorem RCol0_ok {s s' b : Qse} {r : Bool} {ys : List (Int × Int × Int)} (h : SInv s) (hk : 3 ≤ s.t0.st) (c : RCol0 s s' r ys) : St s s' ys b ∧ SInv s' ∧ (r = true → s'.t0 = s.t0) := by
  rcases c with ⟨_, _, rfl, rfl⟩ | ⟨ho, e1, _, ⟨_, e2, e3, e4, ey⟩ | ⟨hr, e2, e3, e4, ey⟩⟩
  · exact ⟨.same ⟨rfl, rfl, rfl, rfl⟩, h, fun _ => rfl⟩
  · exact ⟨fail1_st (by omega) e3 e4 ey, h.lose1 e1 e2 e3 e4, fun _ => e4⟩
  · exact ⟨fail0_st hk e3 e4 ey, h.lose0 e1 e2 e3 e4, fun h => by rw [hr] at h; cases h⟩
theorem ROpen0_ok {P : Op_ → Bool → Prop} {s s' b : Qse} {ys : List (Int × Int × Int)} (h : SInv s) (hk : s.t0.st = 3) (r : ROpen0 P s s' ys) : St s s' ys b ∧ SInv s' := by
  rcases r with ⟨_, e1, e2, e3, e4, ey⟩ | ⟨s1, r, y0, c, ⟨rfl, rfl, rfl⟩ | ⟨rfl, e1, e2, e3, e4, rfl⟩⟩
  · exact ⟨fail0_st (by omega) e3 e4 ey, h.lose0 e1 e2 e3 e4⟩
  · have g := RCol0_ok (b := b) h (by omega) c
    exact ⟨g.1, g.2.1⟩
  · have g := RCol0_ok (b := b) h (by omega) c
    have hk1 : s1.t0.st = 3 := by rw [g.2.2 rfl, hk]
    have hg := g.2.1.rg
    have hoff := g.2.1.off
    have hpd := g.2.1.pd
    refine ⟨g.1.app ?_, ⟨fun ho => ?_, fun ha => ?_, by rw [e3, e4]; omega⟩⟩
    · unfold St
      rw [e3, e4]
      exact .one (.keep0 (by omega) (.inr ⟨hk1, rfl⟩))
    · have := hoff (by rw [← e1]; exact ho)
      omega
    · have := hpd (by rw [← e2]; exact ha)
      omega
theorem RConf0_ok {s s' b : Qse} {ys : List (Int × Int × Int)} (h : SInv s) (hb : b.t0.st = 4) (hk : s.t0.st = 4) (r : RConf0 s s' ys) : St s s' ys b ∧ SInv s' := by
  obtain ⟨e1, e2, e3, e4, rfl⟩ := r
  have hg := h.rg
  have z1 : (stopT s.t1).st = 0 := stopT_st (by omega)
  have w1 : s'.t1.st = 0 := by rw [e3, z1]
  have g0 := stop1_st (s := s) (s' := { s with t1 := tr0 }) (b := b) (by omega) rfl rfl
  have g1 : St { s with t1 := tr0 } s' [(4, 0, 0)] b := by
    unfold St
    rw [e4, w1]
    exact .one (.up0 hb hk (show (0 : Int) ≠ 5 by decide))
  refine ⟨g0.app g1, ⟨fun ho => ?_, fun ha => ?_, by omega⟩⟩
  · have := h.off (by rw [← e1]; exact ho)
    omega
  · rcases e2 with e2 | e2
    · have := h.pd (by rw [← e2]; exact ha)
      omega
    · omega
theorem RTake0_ok {P : Op_ → Bool → Prop} {kd : Int} {s s' : Qse} {ys : List (Int × Int × Int)} (h : SInv s) (r : RTake0 P kd s s' ys) : St s s' ys s ∧ SInv s' := by
  rcases r with ⟨_, e, rfl⟩ | ⟨_, _, e1, e2, e3, e4, ey⟩ | ⟨h3, _, s0, e0, r⟩
  · exact ⟨.same e, h.same e⟩
  · exact ⟨gone0_st e3 e4 ey, h.lose0 e1 e2 e3 e4⟩
  have hi := h.same e0
  have w0 : s0.t0.st = s.t0.st := by rw [e0.2.2.1]
  have w1 : s0.t1.st = s.t1.st := by rw [e0.2.2.2]
  have cv : ∀ {y}, St s0 s' y s → St s s' y s := fun g => by
    unfold St at g ⊢
    rw [w0, w1] at g
    exact g
  rcases r with ⟨h5, (hL | hF)⟩ | ⟨h5, (hE | ⟨_, _, hF⟩)⟩
  · rcases hL with ⟨_, e1, e2, e3, e4, hy⟩ | ⟨h, _⟩
    · refine ⟨cv ?_, ⟨fun ho => ?_, fun ha => ?_, ?_⟩⟩
      · unfold St
        rw [e3, e4]
        rcases hy with rfl | rfl | rfl
        · exact .one (.upd0 h5 (by omega) (.inl rfl))
        · exact .nil
        · exact .one (.upd0 h5 (by omega) (.inr rfl))
      · have := hi.off (by rw [← e1]; exact ho)
        rw [e3, e4]; exact this
      · have := hi.pd (by rw [← e2]; exact ha)
        rw [e3, e4]; exact this
      · rw [e3, e4]; exact hi.rg
    · cases h
  · have g := RFail0_ok (b := s) hi hF
    exact ⟨cv g.1, g.2⟩
  · rcases hE with ⟨_, hk, _, hO⟩ | ⟨_, hk, _, hC⟩ | ⟨_, _, h, _⟩
    · have g := ROpen0_ok (b := s) hi hk hO
      exact ⟨cv g.1, g.2⟩
    · have g := RConf0_ok (b := s) hi (by omega) hk hC
      exact ⟨cv g.1, g.2⟩
    · cases h
  · have g := RFail0_ok (b := s) hi hF
    exact ⟨cv g.1, g.2⟩
theorem RCol1_ok {s s' b : Qse} {r : Bool} {ys : List (Int × Int × Int)} (h : SInv s) (hk : 3 ≤ s.t1.st) (c : RCol1 s s' r ys) : St s s' ys b ∧ SInv s' ∧ (r = true → s'.t1 = s.t1) := by
  rcases c with ⟨_, _, rfl, rfl⟩ | ⟨ho, e1, _, ⟨_, e2, e3, e4, ey⟩ | ⟨hr, e2, e3, e4, ey⟩⟩
  · exact ⟨.same ⟨rfl, rfl, rfl, rfl⟩, h, fun _ => rfl⟩
  · exact ⟨fail0_st (by omega) e3 e4 ey, h.lose0 e1 e2 e3 e4, fun _ => e4⟩
  · exact ⟨fail1_st hk e3 e4 ey, h.lose1 e1 e2 e3 e4, fun h => by rw [hr] at h; cases h⟩
theorem ROpen1_ok {P : Op_ → Bool → Prop} {s s' b : Qse} {ys : List (Int × Int × Int)} (h : SInv s) (hk : s.t1.st = 3) (r : ROpen1 P s s' ys) : St s s' ys b ∧ SInv s' := by
  rcases r with ⟨_, e1, e2, e3, e4, ey⟩ | ⟨s1, r, y0, c, ⟨rfl, rfl, rfl⟩ | ⟨rfl, e1, e2, e3, e4, rfl⟩⟩
  · exact ⟨fail1_st (by omega) e3 e4 ey, h.lose1 e1 e2 e3 e4⟩
  · have g := RCol1_ok (b := b) h (by omega) c
    exact ⟨g.1, g.2.1⟩
  · have g := RCol1_ok (b := b) h (by omega) c
    have hk1 : s1.t1.st = 3 := by rw [g.2.2 rfl, hk]
    have hg := g.2.1.rg
    have hoff := g.2.1.off
    have hpd := g.2.1.pd
    refine ⟨g.1.app ?_, ⟨fun ho => ?_, fun ha => ?_, by rw [e3, e4]; omega⟩⟩
    · unfold St
      rw [e3, e4]
      exact .one (.keep1 (by omega) (.inr ⟨hk1, rfl⟩))
    · have := hoff (by rw [← e1]; exact ho)
      omega
    · have := hpd (by rw [← e2]; exact ha)
      omega
theorem RConf1_ok {s s' b : Qse} {ys : List (Int × Int × Int)} (h : SInv s) (hb : b.t1.st = 4) (hk : s.t1.st = 4) (r : RConf1 s s' ys) : St s s' ys b ∧ SInv s' := by
  obtain ⟨e1, e2, e3, e4, rfl⟩ := r
  have hg := h.rg
  have z1 : (stopT s.t0).st = 0 := stopT_st (by omega)
  have w1 : s'.t0.st = 0 := by rw [e3, z1]
  have g0 := stop0_st (s := s) (s' := { s with t0 := tr0 }) (b := b) (by omega) rfl rfl
  have g1 : St { s with t0 := tr0 } s' [(4, 1, 0)] b := by
    unfold St
    rw [e4, w1]
    exact .one (.up1 hb hk (show (0 : Int) ≠ 5 by decide))
  refine ⟨g0.app g1, ⟨fun ho => ?_, fun ha => ?_, by omega⟩⟩
  · have := h.off (by rw [← e1]; exact ho)
    omega
  · rcases e2 with e2 | e2
    · have := h.pd (by rw [← e2]; exact ha)
      omega
    · omega
theorem RTake1_ok {P : Op_ → Bool → Prop} {kd : Int} {s s' : Qse} {ys : List (Int × Int × Int)} (h : SInv s) (r : RTake1 P kd s s' ys) : St s s' ys s ∧ SInv s' := by
  rcases r with ⟨_, e, rfl⟩ | ⟨_, _, e1, e2, e3, e4, ey⟩ | ⟨h3, _, s0, e0, r⟩
  · exact ⟨.same e, h.same e⟩
  · exact ⟨gone1_st e3 e4 ey, h.lose1 e1 e2 e3 e4⟩
  have hi := h.same e0
  have w0 : s0.t0.st = s.t0.st := by rw [e0.2.2.1]
  have w1 : s0.t1.st = s.t1.st := by rw [e0.2.2.2]
  have cv : ∀ {y}, St s0 s' y s → St s s' y s := fun g => by
    unfold St at g ⊢
    rw [w0, w1] at g
    exact g
  rcases r with ⟨h5, (hL | hF)⟩ | ⟨h5, (hE | ⟨_, _, hF⟩)⟩
  · rcases hL with ⟨_, e1, e2, e3, e4, hy⟩ | ⟨h, _⟩
    · refine ⟨cv ?_, ⟨fun ho => ?_, fun ha => ?_, ?_⟩⟩
      · unfold St
        rw [e3, e4]
        rcases hy with rfl | rfl | rfl
        · exact .one (.upd1 h5 (by omega) (.inl rfl))
        · exact .nil
        · exact .one (.upd1 h5 (by omega) (.inr rfl))
      · have := hi.off (by rw [← e1]; exact ho)
        rw [e3, e4]; exact this
      · have := hi.pd (by rw [← e2]; exact ha)
        rw [e3, e4]; exact this
      · rw [e3, e4]; exact hi.rg
    · cases h
  · have g := RFail1_ok (b := s) hi hF
    exact ⟨cv g.1, g.2⟩
  · rcases hE with ⟨_, hk, _, hO⟩ | ⟨_, hk, _, hC⟩ | ⟨_, _, h, _⟩
    · have g := ROpen1_ok (b := s) hi hk hO
      exact ⟨cv g.1, g.2⟩
    · have g := RConf1_ok (b := s) hi (by omega) hk hC
      exact ⟨cv g.1, g.2⟩
    · cases h
  · have g := RFail1_ok (b := s) hi hF
    exact ⟨cv g.1, g.2⟩
theorem RHear_ok {q : Bool} {s s' : Qse} {ys : List (Int × Int × Int)} (h : SInv s) (r : RHear q s s' ys) : Evt s.t0.st s.t1.st s.t0.st s.t1.st ys s'.t0.st s'.t1.st ∧ SInv s' := by
  cases r with
  | none r => exact ⟨.steps (by obtain ⟨e, rfl⟩ := r; exact St.same (b := s) e), h.same r.1⟩
  | start r => exact ⟨.steps (RStart_ok (b := s) h r).1, (RStart_ok (b := s) h r).2⟩
  | stop r => exact ⟨.steps (RStop_ok (b := s) h r).1, (RStop_ok (b := s) h r).2⟩
  | tick r => exact ⟨.steps (RTick_ok (b := s) h r).1, (RTick_ok (b := s) h r).2⟩
  | up0 r => exact ⟨.steps (RUp0_ok (b := s) h r).1, (RUp0_ok (b := s) h r).2⟩
  | up1 r => exact ⟨.steps (RUp1_ok (b := s) h r).1, (RUp1_ok (b := s) h r).2⟩
  | gone0 r => exact RGone0_ok h r
  | gone1 r => exact RGone1_ok h r
  | fail0 r => exact ⟨.steps (RFail0_ok (b := s) h r).1, (RFail0_ok (b := s) h r).2⟩
  | fail1 r => exact ⟨.steps (RFail1_ok (b := s) h r).1, (RFail1_ok (b := s) h r).2⟩
  | take0 r => exact ⟨.steps (RTake0_ok h r).1, (RTake0_ok h r).2⟩
  | take1 r => exact ⟨.steps (RTake1_ok h r).1, (RTake1_ok h r).2⟩
end Go.Proofs.Ytfonbpmdbpdncaa
namespace Go.Proofs.Ytfonbpmdbpdncaa
set_option linter.unusedSimpArgs false
set_option linter.unusedVariables false
open Go.RowKit Go.Pm

def TStep (b0 b1 up : Int) (y : Int × Int × Int) (u : Int) : Prop := (y.2.1 = 0 ∨ y.2.1 = 1) ∧ (y.1 = 4 ∧ up = -1 ∧ (y.2.1 = 0 → b0 = 4) ∧ (y.2.1 = 1 → b1 = 4) ∧ u = y.2.1 ∨ y.1 = 5 ∧ up = y.2.1 ∧ u = -1 ∨ (y.1 = 6 ∨ y.1 = 7) ∧ up = y.2.1 ∧ (y.2.1 = 0 → b0 = 5) ∧ (y.2.1 = 1 → b1 = 5) ∧ u = up ∨ (1 ≤ y.1 ∧ y.1 ≤ 3) ∧ u = up)
def TabOk (b0 b1 : Int) : Int → List (Int × Int × Int) → Int → Prop
  | up, [], u => up = u
  | up, y :: ys, u => ∃ m, TStep b0 b1 up y m ∧ TabOk b0 b1 m ys u
theorem TabOk.app {b0 b1 : Int} : ∀ {us vs : List (Int × Int × Int)} {up m u : Int}, TabOk b0 b1 up us m → TabOk b0 b1 m vs u → TabOk b0 b1 up (us ++ vs) u
  | [], _, _, _, _, h, t => by cases h; exact t
  | _ :: _, _, _, _, _, ⟨m, h1, h2⟩, t => ⟨m, h1, TabOk.app h2 t⟩
theorem TabOk.one {b0 b1 up u : Int} {y : Int × Int × Int} (h : TStep b0 b1 up y u) : TabOk b0 b1 up [y] u := ⟨u, h, rfl⟩
def SpkOk : Int → Int → List (Int × Int × Int) → Int → Int → Prop
  | n0, n1, [], m0, m1 => n0 = m0 ∧ n1 = m1
  | n0, n1, y :: ys, m0, m1 =>
    (y.2.1 = 0 ∧ (y.1 = 2 ∧ SpkOk 0 n1 ys m0 m1 ∨ y.1 = 3 ∧ (n0 = 0 ↔ y.2.2 = 1) ∧ (y.2.2 = 3 → ∃ z zs, ys = z :: zs ∧ z.1 = 2 ∧ z.2.1 = y.2.1) ∧ SpkOk (n0 + 1) n1 ys m0 m1 ∨ y.1 ≠ 2 ∧ y.1 ≠ 3 ∧ SpkOk n0 n1 ys m0 m1)) ∨
    (y.2.1 = 1 ∧ (y.1 = 2 ∧ SpkOk n0 0 ys m0 m1 ∨ y.1 = 3 ∧ (n1 = 0 ↔ y.2.2 = 1) ∧ (y.2.2 = 3 → ∃ z zs, ys = z :: zs ∧ z.1 = 2 ∧ z.2.1 = y.2.1) ∧ SpkOk n0 (n1 + 1) ys m0 m1 ∨ y.1 ≠ 2 ∧ y.1 ≠ 3 ∧ SpkOk n0 n1 ys m0 m1))
theorem next_app {t : Int} {ys vs : List (Int × Int × Int)} (h : ∃ z zs, ys = z :: zs ∧ z.1 = 2 ∧ z.2.1 = t) : ∃ z zs, ys ++ vs = z :: zs ∧ z.1 = 2 ∧ z.2.1 = t := by
  obtain ⟨z, zs, rfl, h⟩ := h
  exact ⟨z, zs ++ vs, rfl, h⟩
theorem SpkOk.app : ∀ {us vs : List (Int × Int × Int)} {n0 n1 m0 m1 k0 k1 : Int}, SpkOk n0 n1 us m0 m1 → SpkOk m0 m1 vs k0 k1 → SpkOk n0 n1 (us ++ vs) k0 k1
  | [], _, _, _, _, _, _, _, ⟨rfl, rfl⟩, t => t
  | y :: ys, vs, n0, n1, m0, m1, k0, k1, h, t => by
    rcases h with ⟨h0, h | ⟨h1, h2, h3, h⟩ | ⟨h1, h2, h⟩⟩ | ⟨h0, h | ⟨h1, h2, h3, h⟩ | ⟨h1, h2, h⟩⟩
    · exact .inl ⟨h0, .inl ⟨h.1, h.2.app t⟩⟩
    · exact .inl ⟨h0, .inr (.inl ⟨h1, h2, fun e => next_app (h3 e), h.app t⟩)⟩
    · exact .inl ⟨h0, .inr (.inr ⟨h1, h2, h.app t⟩)⟩
    · exact .inr ⟨h0, .inl ⟨h.1, h.2.app t⟩⟩
    · exact .inr ⟨h0, .inr (.inl ⟨h1, h2, fun e => next_app (h3 e), h.app t⟩)⟩
    · exact .inr ⟨h0, .inr (.inr ⟨h1, h2, h.app t⟩)⟩
def Spk1 (x n : Int) : Prop := (3 ≤ x → 0 < n) ∧ (x < 3 → n = 0)
theorem spk_free0 {n0 n1 k m : Int} (h2 : k ≠ 2) (h3 : k ≠ 3) : SpkOk n0 n1 [(k, 0, m)] n0 n1 := .inl ⟨rfl, .inr (.inr ⟨h2, h3, rfl, rfl⟩)⟩
theorem spk_free1 {n0 n1 k m : Int} (h2 : k ≠ 2) (h3 : k ≠ 3) : SpkOk n0 n1 [(k, 1, m)] n0 n1 := .inr ⟨rfl, .inr (.inr ⟨h2, h3, rfl, rfl⟩)⟩
theorem spk_dn0 {n0 n1 x : Int} : SpkOk n0 n1 (dnL x 0) n0 n1 := by
  unfold dnL
  split
  · exact spk_free0 (by decide) (by decide)
  · exact ⟨rfl, rfl⟩
theorem spk_dn1 {n0 n1 x : Int} : SpkOk n0 n1 (dnL x 1) n0 n1 := by
  unfold dnL
  split
  · exact spk_free1 (by decide) (by decide)
  · exact ⟨rfl, rfl⟩
theorem spk_step {b0 b1 x0 x1 y0 y1 n0 n1 : Int} {ys : List (Int × Int × Int)} (s : Stp b0 b1 x0 x1 ys y0 y1) (g0 : Spk1 x0 n0) (g1 : Spk1 x1 n1) : ∃ m0 m1, SpkOk n0 n1 ys m0 m1 ∧ Spk1 y0 m0 ∧ Spk1 y1 m1 := by
  cases s with
  | fail0 h3 =>
    unfold Spk1 at *
    exact ⟨0, n1, .inl ⟨rfl, .inr (.inl ⟨rfl, ⟨fun h => absurd h (by omega), fun h => absurd h (by decide)⟩, fun _ => ⟨_, _, rfl, rfl, rfl⟩, (.inl ⟨rfl, .inl ⟨rfl, spk_dn0⟩⟩)⟩)⟩, by omega, by omega⟩
  | gone0 =>
    unfold Spk1 at *
    exact ⟨0, n1, (.inl ⟨rfl, .inl ⟨rfl, spk_dn0⟩⟩), by omega, by omega⟩
  | open0 h3 =>
    unfold Spk1 at *
    exact ⟨n0 + 1, n1, .inl ⟨rfl, .inr (.inl ⟨rfl, ⟨fun _ => rfl, fun _ => by omega⟩, fun h => absurd h (by decide), rfl, rfl⟩)⟩, by omega, by omega⟩
  | keep0 h3 hz =>
    unfold Spk1 at *
    exact ⟨n0 + 1, n1, .inl ⟨rfl, .inr (.inl ⟨rfl, ⟨fun h => absurd h (by omega), fun h => absurd h (by decide)⟩, fun h => absurd h (by decide), rfl, rfl⟩)⟩, by omega, by omega⟩
  | up0 hb hx ho =>
    unfold Spk1 at *
    exact ⟨n0, n1, spk_free0 (by decide) (by decide), by omega, by omega⟩
  | upd0 hb hx hk => exact ⟨n0, n1, spk_free0 (by omega) (by omega), g0, g1⟩
  | fail1 h3 =>
    unfold Spk1 at *
    exact ⟨n0, 0, .inr ⟨rfl, .inr (.inl ⟨rfl, ⟨fun h => absurd h (by omega), fun h => absurd h (by decide)⟩, fun _ => ⟨_, _, rfl, rfl, rfl⟩, (.inr ⟨rfl, .inl ⟨rfl, spk_dn1⟩⟩)⟩)⟩, by omega, by omega⟩
  | gone1 =>
    unfold Spk1 at *
    exact ⟨n0, 0, (.inr ⟨rfl, .inl ⟨rfl, spk_dn1⟩⟩), by omega, by omega⟩
  | open1 h3 =>
    unfold Spk1 at *
    exact ⟨n0, n1 + 1, .inr ⟨rfl, .inr (.inl ⟨rfl, ⟨fun _ => rfl, fun _ => by omega⟩, fun h => absurd h (by decide), rfl, rfl⟩)⟩, by omega, by omega⟩
  | keep1 h3 hz =>
    unfold Spk1 at *
    exact ⟨n0, n1 + 1, .inr ⟨rfl, .inr (.inl ⟨rfl, ⟨fun h => absurd h (by omega), fun h => absurd h (by decide)⟩, fun h => absurd h (by decide), rfl, rfl⟩)⟩, by omega, by omega⟩
  | up1 hb hx ho =>
    unfold Spk1 at *
    exact ⟨n0, n1, spk_free1 (by decide) (by decide), by omega, by omega⟩
  | upd1 hb hx hk => exact ⟨n0, n1, spk_free1 (by omega) (by omega), g0, g1⟩
  | dial h3 =>
    unfold Spk1 at *
    exact ⟨n0, n1, spk_free0 (by decide) (by decide), by omega, by omega⟩
theorem spk_steps {b0 b1 x0 x1 y0 y1 : Int} {ys : List (Int × Int × Int)} (s : Stps b0 b1 x0 x1 ys y0 y1) : ∀ {n0 n1 : Int}, Spk1 x0 n0 → Spk1 x1 n1 → ∃ m0 m1, SpkOk n0 n1 ys m0 m1 ∧ Spk1 y0 m0 ∧ Spk1 y1 m1 := by
  induction s with
  | nil => exact fun h g => ⟨_, _, ⟨rfl, rfl⟩, h, g⟩
  | cons s _ ih =>
    intro n0 n1 g0 g1
    obtain ⟨m0, m1, h1, h2, h3⟩ := spk_step s g0 g1
    obtain ⟨k0, k1, h4, h5, h6⟩ := ih h2 h3
    exact ⟨k0, k1, h1.app h4, h5, h6⟩
theorem spk_evt {b0 b1 x0 x1 y0 y1 n0 n1 : Int} {ys : List (Int × Int × Int)} (s : Evt b0 b1 x0 x1 ys y0 y1) (g0 : Spk1 x0 n0) (g1 : Spk1 x1 n1) : ∃ m0 m1, SpkOk n0 n1 ys m0 m1 ∧ (3 ≤ y0 → 0 < m0) ∧ (3 ≤ y1 → 0 < m1) := by
  cases s with
  | steps s =>
    obtain ⟨m0, m1, h1, h2, h3⟩ := spk_steps s g0 g1
    exact ⟨m0, m1, h1, h2.1, h3.1⟩
  | lose0 => exact ⟨n0, n1, spk_dn0, fun h => absurd h (by decide), g1.1⟩
  | lose1 => exact ⟨n0, n1, spk_dn1, g0.1, fun h => absurd h (by decide)⟩
theorem dn_len (st k : Int) : (dnL st k).length ≤ 1 := by
  unfold dnL
  split <;> simp
theorem RFail0_len {s s' : Qse} {ys : List (Int × Int × Int)} (r : RFail0 s s' ys) : ys.length ≤ 12 := by
  rcases r with ⟨_, _, rfl⟩ | ⟨_, _, _, _, _, rfl⟩
  · simp
  · have := failL_len s.t0.st 0; omega
theorem RUp0_len {s s' : Qse} {ys : List (Int × Int × Int)} (r : RUp0 s s' ys) : ys.length ≤ 12 := by
  rcases r with ⟨_, _, rfl⟩ | ⟨_, _, _, _, _, _, rfl⟩ | ⟨_, _, _, _, _, _, _, _, rfl⟩ <;> simp
theorem RGone0_len {s s' : Qse} {ys : List (Int × Int × Int)} (r : RGone0 s s' ys) : ys.length ≤ 12 := by
  rcases r with ⟨_, _, rfl⟩ | ⟨_, _, _, _, _, rfl⟩
  · simp
  · have := dn_len s.t0.st 0; omega
theorem RTake0_len {P : Op_ → Bool → Prop} {kd : Int} {s s' : Qse} {ys : List (Int × Int × Int)} (r : RTake0 P kd s s' ys) : ys.length ≤ 12 := by
  rcases r with ⟨_, _, rfl⟩ | ⟨_, _, _, _, _, _, rfl⟩ | ⟨_, _, s0, _, ⟨_, (⟨_, _, _, _, _, h⟩ | ⟨_, _, rfl⟩) | h⟩ | ⟨_, (⟨_, _, _, h⟩ | ⟨_, _, _, _, _, _, _, rfl⟩ | ⟨_, _, _, _, rfl⟩) | ⟨_, _, h⟩⟩⟩
  · simp
  · have := dn_len s.t0.st 0; simp only [List.length_cons]; omega
  · rcases h with rfl | rfl | rfl <;> simp
  · simp
  · exact RFail0_len h
  · rcases h with ⟨_, _, _, _, _, rfl⟩ | ⟨s1, r, y0, c, ⟨_, _, rfl⟩ | ⟨_, _, _, _, _, rfl⟩⟩
    · have := failL_len s0.t0.st 0; omega
    · have := RCol0_len c; omega
    · have := RCol0_len c; simp only [List.length_append, List.length_singleton]; omega
  · have := stopL_len s0.t1.st 1; simp only [List.length_append, List.length_singleton]; omega
  · simp
  · exact RFail0_len h
theorem RFail1_len {s s' : Qse} {ys : List (Int × Int × Int)} (r : RFail1 s s' ys) : ys.length ≤ 12 := by
  rcases r with ⟨_, _, rfl⟩ | ⟨_, _, _, _, _, rfl⟩
  · simp
  · have := failL_len s.t1.st 1; omega
theorem RUp1_len {s s' : Qse} {ys : List (Int × Int × Int)} (r : RUp1 s s' ys) : ys.length ≤ 12 := by
  rcases r with ⟨_, _, rfl⟩ | ⟨_, _, _, _, _, _, rfl⟩ | ⟨_, _, _, _, _, _, _, _, rfl⟩ <;> simp
theorem RGone1_len {s s' : Qse} {ys : List (Int × Int × Int)} (r : RGone1 s s' ys) : ys.length ≤ 12 := by
  rcases r with ⟨_, _, rfl⟩ | ⟨_, _, _, _, _, rfl⟩
  · simp
  · have := dn_len s.t1.st 1; omega
theorem RTake1_len {P : Op_ → Bool → Prop} {kd : Int} {s s' : Qse} {ys : List (Int × Int × Int)} (r : RTake1 P kd s s' ys) : ys.length ≤ 12 := by
  rcases r with ⟨_, _, rfl⟩ | ⟨_, _, _, _, _, _, rfl⟩ | ⟨_, _, s0, _, ⟨_, (⟨_, _, _, _, _, h⟩ | ⟨_, _, rfl⟩) | h⟩ | ⟨_, (⟨_, _, _, h⟩ | ⟨_, _, _, _, _, _, _, rfl⟩ | ⟨_, _, _, _, rfl⟩) | ⟨_, _, h⟩⟩⟩
  · simp
  · have := dn_len s.t1.st 1; simp only [List.length_cons]; omega
  · rcases h with rfl | rfl | rfl <;> simp
  · simp
  · exact RFail1_len h
  · rcases h with ⟨_, _, _, _, _, rfl⟩ | ⟨s1, r, y0, c, ⟨_, _, rfl⟩ | ⟨_, _, _, _, _, rfl⟩⟩
    · have := failL_len s0.t1.st 1; omega
    · have := RCol1_len c; omega
    · have := RCol1_len c; simp only [List.length_append, List.length_singleton]; omega
  · have := stopL_len s0.t0.st 0; simp only [List.length_append, List.length_singleton]; omega
  · simp
  · exact RFail1_len h
theorem RHear_len {q : Bool} {s s' : Qse} {ys : List (Int × Int × Int)} (r : RHear q s s' ys) : ys.length ≤ 12 := by
  cases r with
  | none r => rw [r.2]; simp
  | start r => rcases r with ⟨_, _, rfl⟩ | ⟨_, _, _, ⟨_, _, rfl⟩ | ⟨_, _, rfl⟩⟩ <;> simp
  | stop r =>
    obtain ⟨_, _, _, _, rfl⟩ := r
    have h0 := stopL_len s.t0.st 0
    have h1 := stopL_len s.t1.st 1
    simp only [List.length_append]
    omega
  | tick r =>
    obtain ⟨s1, s2, y0, y1, y2, h0, h1, h2, rfl⟩ := r
    have g0 := RT_len (.inl h0)
    have g1 := RT_len (.inr h1)
    have g2 : y2.length ≤ 2 := by rcases h2 with ⟨_, rfl⟩ | ⟨_, _, _, _, ⟨_, _, ⟨_, rfl⟩ | ⟨_, rfl⟩⟩ | ⟨_, ⟨_, _, rfl⟩ | ⟨_, _, rfl⟩⟩⟩ <;> simp
    simp only [List.length_append]
    omega
  | up0 r => exact RUp0_len r
  | up1 r => exact RUp1_len r
  | gone0 r => exact RGone0_len r
  | gone1 r => exact RGone1_len r
  | fail0 r => exact RFail0_len r
  | fail1 r => exact RFail1_len r
  | take0 r => exact RTake0_len r
  | take1 r => exact RTake1_len r
end Go.Proofs.Ytfonbpmdbpdncaa
namespace Go.Proofs.Ytfonbpmdbpdncaa
set_option linter.unusedSimpArgs false
set_option linter.unusedVariables false
set_option maxRecDepth 20000
set_option maxHeartbeats 4000000
open Go.RowKit Go.Pm

def Did3 (b : Nat) (q : Bool) (R : Qse → List (Int × Int × Int) → Prop) (u : Value) (L' : List HP) : Prop := ∃ a c s' ys zs, SeOk s' ∧ R s' ys ∧ Are zs ys ∧ (zs.length ≤ c ∧ c ≤ maxLen) ∧ u = .slice a zs.length c ∧ L' = [pts b (seC q s' (.slice none 0 0)) 52, Ar 42 14 acC (.slice a zs.length c) zs, hasA zs]
theorem did3 {f : FuncId} {args : Array Value} {φ : World → Prop} {L : List HP} {b : Nat} {q : Bool} {R : Qse → List (Int × Int × Int) → Prop} (h : Pact Try.prog f args φ L (Did b q R)) : Pact Try.prog f args φ L (Did3 b q R) := fun W K w hK H =>
  (h W K w hK H).mono fun e w' h3 => by
    obtain ⟨u, L', ⟨a, n, c, s', ys, zs, h4, h5, h6, rfl, rfl⟩, h7, h8⟩ := h3
    obtain ⟨hn, hc⟩ := Ow.arShape (e := 42) (sz := 14) (enc := acC) h8 xA
    subst hn
    exact ⟨_, _, ⟨a, c, s', ys, zs, h4, h5, h6, hc, rfl, rfl⟩, h7, h8⟩
theorem Are.at : ∀ {zs : List Ac} {ys : List (Int × Int × Int)} {j : Nat}, Are zs ys → j < zs.length → ∃ z y, zs[j]? = some z ∧ ys.drop j = y :: ys.drop (j + 1) ∧ acIs z y ∧ z ∈ zs
  | z :: zs, y :: ys, 0, h, _ => ⟨z, y, rfl, rfl, h.1, by simp⟩
  | z :: zs, y :: ys, j + 1, h, hj => by
    obtain ⟨z', y', h1, h2, h3, h4⟩ := Are.at h.2 (by simpa using hj)
    exact ⟨z', y', by simpa using h1, by simpa using h2, h3, by simp [h4]⟩
  | [], [], _, _, hj => absurd hj (by simp)
  | [], _ :: _, _, h, _ => h.elim
  | _ :: _, [], _, h, _ => h.elim
structure Qtl where
  i : Nat
  s : Qse
  up : Int
structure Qti where
  j : Nat
  up : Int
theorem se0_inv : SInv se0 := ⟨fun _ => ⟨rfl, rfl⟩, fun h => absurd rfl h, ⟨.inl rfl, .inl rfl⟩⟩
end Go.Proofs.Ytfonbpmdbpdncaa
