/-
  Fs23: merged.
-/
import Derived.Test.YtfonbpmdbpdncaaZFsmSpeaks20
namespace Go.Proofs.Ytfonbpmdbpdncaa
set_option linter.unusedSimpArgs false
set_option linter.unusedVariables false
set_option maxRecDepth 20000
set_option maxHeartbeats 4000000
open Go.RowKit Go.Pm

def ReadAs (P : Op_ → Bool → Prop) (ma : Option Addr) (mn mc : Nat) (φ : World → Prop) : Prop := Pact Try.prog 69 #[.slice ma mn mc] φ [] (fun u L' => ∃ o z sub fa fn fc fl r, P o r ∧ (0 ≤ o.hold ∧ o.hold ≤ 65535) ∧ fl.length = fn ∧ fn ≤ 2 ∧ u = .tuple #[.agg (opC o).toArray, .agg #[.int .i64 z, .int .i64 sub, .slice fa fn fc], .bool r] ∧ L' = [Ar 5 1 byC (.slice fa fn fc) fl])
theorem Are.nil {xs : List Ac} (h : Are xs []) : xs = [] := List.eq_nil_of_length_eq_zero h.len
def REarly0 (P : Op_ → Bool → Prop) (kd : Int) (s s' : Qse) (r : Bool) (ys : List (Int × Int × Int)) : Prop :=
  kd = 1 ∧ s.t0.st = 3 ∧ r = true ∧ ROpen0 P s s' ys ∨ kd = 4 ∧ s.t0.st = 4 ∧ r = true ∧ RConf0 s s' ys ∨ ¬ (kd = 1 ∧ s.t0.st = 3) ∧ ¬ (kd = 4 ∧ s.t0.st = 4) ∧ r = false ∧ s' = s ∧ ys = []
set_option maxRecDepth 4000 in
theorem early0_s (P : Op_ → Bool → Prop) (b : Nat) (q : Bool) (s : Qse) (hs : SeOk s) (a : Option Addr) (n c : Nat) (kd : Int) (ma : Option Addr) (mn mc : Nat) (φ : World → Prop) (hr : ReadAs P ma mn mc φ) : Pact Try.prog 46 #[.pointer (some ⟨b, 0, none⟩), .int .i64 0, .agg #[.int .i64 kd, .slice ma mn mc]] φ [pts b (seC q s (.slice a n c)) 52, Ar 42 14 acC (.slice a n c) [], hasA []] (fun u L' => ∃ a' n' c' s' r ys zs, SeOk s' ∧ REarly0 P kd s s' r ys ∧ Are zs ys ∧ u = .bool r ∧ L' = [pts b (seC q s' (.slice a' n' c')) 52, Ar 42 14 acC (.slice a' n' c') zs, hasA zs]) := by
  refine pact Try.func46 rfl Try.ntmps46 rfl ?_
  intro W K hK
  have ko := opened0_s P φ b q s hs a n c ma mn mc hr
  have kc := confirmed0_s b q s hs a n c
  by_cases h1 : kd = 1 ∧ s.t0.st = 3
  · (repeat' (first | ((with_reducible apply gL); (first | refine yL0 ?_ | refine yL ?_ | ((with_reducible apply gL_go); (first | (refine JL_goq (ko) (hφ := (by (try simp only [List.cons_append, List.nil_append]); exact fun w hr => hK w hr.1)) (h := ?_); rintro _ _ ⟨a3, n3, c3, s3, y3, z3, hs3, hR, h3, rfl, rfl⟩; try simp only [List.cons_append, List.nil_append]) | fail)) | (refine yM ?_; intro _) | ((with_reducible apply gL_gd); (first | (refine JL_guard xR xR ?_ ?_ <;> intro _ <;> (try (exfalso; first | contradiction | omega))) | (refine JL_guardb xR xR ?_ ?_ <;> (intro hgb; subst hgb)) | (refine JL_guardb xR xR ?_ ?_ <;> (intro hgb; fail_if_success (have : type_of% hgb := rfl))) | fail)) | fail)) | refine yJ ?_ | ((with_reducible apply gJ_if); (first | (refine J_if xR ?_ ?_ <;> intro _ <;> (try (exfalso; first | contradiction | omega))) | (refine J_ifb xR ?_ ?_ <;> (intro hgb; subst hgb)) | (refine J_ifb xR ?_ ?_ <;> intro _) | fail)) | fail))
    all_goals (first | (exfalso; omega) | skip)
    exact J_ret1 rfl (by rfl) fun w H => ⟨_, ⟨a3, n3, c3, s3, true, y3, z3, hs3, .inl ⟨h1.1, h1.2, rfl, hR⟩, h3, rfl, rfl⟩, H.sel xZ⟩
  · by_cases h4 : kd = 4 ∧ s.t0.st = 4
    · (repeat' (first | ((with_reducible apply gL); (first | refine yL0 ?_ | refine yL ?_ | ((with_reducible apply gL_go); (first | (refine JL_goq (kc) (hφ := xF) (h := ?_); rintro _ _ ⟨a3, n3, c3, s3, y3, z3, hs3, hR, h3, rfl, rfl⟩; try simp only [List.cons_append, List.nil_append]) | fail)) | (refine yM ?_; intro _) | ((with_reducible apply gL_gd); (first | (refine JL_guard xR xR ?_ ?_ <;> intro _ <;> (try (exfalso; first | contradiction | omega))) | (refine JL_guardb xR xR ?_ ?_ <;> (intro hgb; subst hgb)) | (refine JL_guardb xR xR ?_ ?_ <;> (intro hgb; fail_if_success (have : type_of% hgb := rfl))) | fail)) | fail)) | refine yJ ?_ | ((with_reducible apply gJ_if); (first | (refine J_if xR ?_ ?_ <;> intro _ <;> (try (exfalso; first | contradiction | omega))) | (refine J_ifb xR ?_ ?_ <;> (intro hgb; subst hgb)) | (refine J_ifb xR ?_ ?_ <;> intro _) | fail)) | fail))
      all_goals (first | (exfalso; omega) | skip)
      exact J_ret1 rfl (by rfl) fun w H => ⟨_, ⟨a3, n3, c3, s3, true, y3, z3, hs3, .inr (.inl ⟨h4.1, h4.2, rfl, hR⟩), h3, rfl, rfl⟩, H.sel xZ⟩
    · (repeat' (first | ((with_reducible apply gL); (first | refine yL0 ?_ | refine yL ?_ | (refine yM ?_; intro _) | ((with_reducible apply gL_gd); (first | (refine JL_guard xR xR ?_ ?_ <;> intro _ <;> (try (exfalso; first | contradiction | omega))) | (refine JL_guardb xR xR ?_ ?_ <;> (intro hgb; subst hgb)) | (refine JL_guardb xR xR ?_ ?_ <;> (intro hgb; fail_if_success (have : type_of% hgb := rfl))) | fail)) | fail)) | refine yJ ?_ | ((with_reducible apply gJ_if); (first | (refine J_if xR ?_ ?_ <;> intro _ <;> (try (exfalso; first | contradiction | omega))) | (refine J_ifb xR ?_ ?_ <;> (intro hgb; subst hgb)) | (refine J_ifb xR ?_ ?_ <;> intro _) | fail)) | fail))
      all_goals (first | (exfalso; omega) | skip)
      all_goals exact J_ret1 rfl (by rfl) fun w H => ⟨_, ⟨a, n, c, s, false, [], [], hs, .inr (.inr ⟨h1, h4, rfl, rfl, rfl⟩), trivial, rfl, rfl⟩, H.sel xZ⟩
theorem late_no0 {s s' : Qse} {ys : List (Int × Int × Int)} (h : RLate0 s s' false ys) : s' = s ∧ ys = [] := by
  rcases h with ⟨h, _⟩ | ⟨_, h1, h2⟩
  · cases h
  · exact ⟨h1, h2⟩
theorem early_no0 {P : Op_ → Bool → Prop} {kd : Int} {s s' : Qse} {ys : List (Int × Int × Int)} (h : REarly0 P kd s s' false ys) : s' = s ∧ ys = [] ∧ ¬ (kd = 1 ∧ s.t0.st = 3) ∧ ¬ (kd = 4 ∧ s.t0.st = 4) := by
  rcases h with ⟨_, _, h, _⟩ | ⟨_, _, h, _⟩ | ⟨g1, g2, _, h1, h2⟩
  · cases h
  · cases h
  · exact ⟨h1, h2, g1, g2⟩
def RTake0 (P : Op_ → Bool → Prop) (kd : Int) (s s' : Qse) (ys : List (Int × Int × Int)) : Prop :=
  s.t0.st < 3 ∧ Same s s' ∧ ys = [] ∨
  3 ≤ s.t0.st ∧ kd = 3 ∧ s'.on = s.on ∧ (s'.again = s.again ∨ s.t1.st = 0) ∧ s'.t0 = tr0 ∧ s'.t1 = s.t1 ∧ ys = (2, 0, 0) :: dnL s.t0.st 0 ∨
  3 ≤ s.t0.st ∧ kd ≠ 3 ∧ ∃ s0, Same s s0 ∧ (s.t0.st = 5 ∧ (RLate0 s0 s' true ys ∨ RFail0 s0 s' ys) ∨ s.t0.st ≠ 5 ∧ (REarly0 P kd s0 s' true ys ∨ ¬ (kd = 1 ∧ s.t0.st = 3) ∧ ¬ (kd = 4 ∧ s.t0.st = 4) ∧ RFail0 s0 s' ys))
set_option maxRecDepth 4000 in
theorem Take0_s (P : Op_ → Bool → Prop) (b : Nat) (q : Bool) (s : Qse) (hs : SeOk s) (now kd : Int) (ma : Option Addr) (mc : Nat) (ml : List Int) (hl : ml.length ≤ 1000) (hr : ReadAs P ma ml.length mc (fun w => Vw w (.slice ma ml.length mc) 1 ml.length (flat byC ml))) : Pact Try.prog 17 #[.pointer (some ⟨b, 0, none⟩), .int .i64 now, .int .i64 0, .agg #[.int .i64 kd, .slice ma ml.length mc]] (fun w => Vw w (.slice ma ml.length mc) 1 ml.length (flat byC ml)) [pts b (seC q s (.slice none 0 0)) 52] (Did b q (RTake0 P kd s)) := by
  refine pact Try.func17 rfl Try.ntmps17 rfl ?_
  intro W K hK
  refine J_heap (fun w H => iniA H) ?_
  have h1 := atS_ok hs now
  obtain ⟨nw, hnw⟩ : ∃ nw, max s.now (min now 1099511627776) = nw := ⟨_, rfl⟩
  have ka := at_s b q s (.slice none 0 0) now
  simp only [atS, hnw] at ka h1
  clear hnw
  obtain ⟨on, nw0, ag, t0, t1⟩ := s
  dsimp only at ka h1
  by_cases h0 : t0.st < 3
  · (repeat' (first | ((with_reducible apply gL); (first | refine yL0 ?_ | refine yL ?_ | ((with_reducible apply gL_go); (first | (refine JL_goq (track0_s b) (hφ := xF) (h := ?_); rintro _ _ ⟨rfl, rfl⟩; try simp only [List.cons_append, List.nil_append]) | (refine JL_goq (ka) (hφ := xF) (h := ?_); rintro _ _ ⟨rfl, rfl⟩; try simp only [List.cons_append, List.nil_append]; dsimp only [seC]) | fail)) | (refine yM ?_; intro _) | ((with_reducible apply gL_gd); (first | (refine JL_guard xR xR ?_ ?_ <;> intro _ <;> (try (exfalso; first | contradiction | omega))) | (refine JL_guardb xR xR ?_ ?_ <;> (intro hgb; subst hgb)) | (refine JL_guardb xR xR ?_ ?_ <;> (intro hgb; fail_if_success (have : type_of% hgb := rfl))) | fail)) | fail)) | refine yJ ?_ | ((with_reducible apply gJ_if); (first | (refine J_if xR ?_ ?_ <;> intro _ <;> (try (exfalso; first | contradiction | omega))) | (refine J_ifb xR ?_ ?_ <;> (intro hgb; subst hgb)) | (refine J_ifb xR ?_ ?_ <;> intro _) | fail)) | fail))
    all_goals (first | (exfalso; omega) | skip)
    exact J_ret1 rfl (by rfl) fun w H => ⟨_, ⟨none, 0, 0, ⟨on, nw, ag, t0, t1⟩, [], [], h1, .inl ⟨h0, ⟨rfl, rfl, rfl, rfl⟩, rfl⟩, trivial, rfl, rfl⟩, H.sel xZ⟩
  have h0' : 3 ≤ t0.st := by omega
  by_cases h3 : kd = 3
  · (repeat' (first | ((with_reducible apply gL); (first | refine yL0 ?_ | refine yL ?_ | ((with_reducible apply gL_go); (first | (refine JL_goq (track0_s b) (hφ := xF) (h := ?_); rintro _ _ ⟨rfl, rfl⟩; try simp only [List.cons_append, List.nil_append]) | (refine JL_goq (ka) (hφ := xF) (h := ?_); rintro _ _ ⟨rfl, rfl⟩; try simp only [List.cons_append, List.nil_append]; dsimp only [seC]) | (refine JL_goq (do_s b q ⟨on, nw, ag, t0, t1⟩ none 0 0 [] (by decide) 2 0 (by decide)) (hφ := xF) (h := ?_); rintro _ _ ⟨a3, n3, c3, z3, e3, rfl, rfl⟩; try simp only [List.cons_append, List.nil_append]; dsimp only [seC, List.nil_append]) | (refine JL_goq (lose0_s b q ⟨on, nw, ag, t0, t1⟩ h1 a3 n3 c3 [z3] (by simp only [List.length_singleton]; omega) false) (hφ := xF) (h := ?_); rintro _ _ ⟨a4, n4, c4, ag4, z4, hag, e4, rfl, rfl⟩; try simp only [List.cons_append, List.nil_append]; dsimp only [seC]) | (refine JL_goq (done_s b q { (⟨on, nw, ag4, t0, t1⟩ : Qse) with t0 := tr0 } a4 n4 c4) (hφ := xF) (h := ?_); rintro _ _ ⟨rfl, rfl⟩; try simp only [List.cons_append, List.nil_append]) | fail)) | (refine yM ?_; intro _) | ((with_reducible apply gL_gd); (first | (refine JL_guard xR xR ?_ ?_ <;> intro _ <;> (try (exfalso; first | contradiction | omega))) | (refine JL_guardb xR xR ?_ ?_ <;> (intro hgb; subst hgb)) | (refine JL_guardb xR xR ?_ ?_ <;> (intro hgb; fail_if_success (have : type_of% hgb := rfl))) | fail)) | fail)) | refine yJ ?_ | ((with_reducible apply gJ_if); (first | (refine J_if xR ?_ ?_ <;> intro _ <;> (try (exfalso; first | contradiction | omega))) | (refine J_ifb xR ?_ ?_ <;> (intro hgb; subst hgb)) | (refine J_ifb xR ?_ ?_ <;> intro _) | fail)) | fail))
    all_goals (first | (exfalso; omega) | skip)
    exact J_ret1 rfl (by rfl) fun w H => ⟨_, ⟨a4, n4, c4, { (⟨on, nw, ag4, t0, t1⟩ : Qse) with t0 := tr0 }, _, [z3] ++ z4, SeOk.set0 (s := ⟨on, nw, ag4, t0, t1⟩) ⟨h1.now, h1.t0, h1.t1⟩ _ tr0_ok, .inr (.inl ⟨h0', h3, rfl, hag, rfl, rfl, rfl⟩), e3.app e4, rfl, rfl⟩, H.sel xZ⟩
  by_cases h5 : t0.st = 5
  · have kl := late0_s b q ⟨on, nw, ag, t0, t1⟩ h1 none 0 0 kd ma mc ml hl
    (repeat' (first | ((with_reducible apply gL); (first | refine yL0 ?_ | refine yL ?_ | ((with_reducible apply gL_go); (first | (refine JL_goq (track0_s b) (hφ := xF) (h := ?_); rintro _ _ ⟨rfl, rfl⟩; try simp only [List.cons_append, List.nil_append]) | (refine JL_goq (ka) (hφ := xF) (h := ?_); rintro _ _ ⟨rfl, rfl⟩; try simp only [List.cons_append, List.nil_append]; dsimp only [seC]) | (refine JL_goq (kl) (hφ := (by (try simp only [List.cons_append, List.nil_append]); exact fun w hr => hK w hr.1)) (h := ?_); rintro _ _ ⟨a3, n3, c3, s3, r3, y3, z3, hs3, hR, e3, rfl, rfl⟩; try simp only [List.cons_append, List.nil_append]; dsimp only [seC]) | fail)) | (refine yM ?_; intro _) | ((with_reducible apply gL_gd); (first | (refine JL_guard xR xR ?_ ?_ <;> intro _ <;> (try (exfalso; first | contradiction | omega))) | (refine JL_guardb xR xR ?_ ?_ <;> (intro hgb; subst hgb)) | (refine JL_guardb xR xR ?_ ?_ <;> (intro hgb; fail_if_success (have : type_of% hgb := rfl))) | fail)) | fail)) | refine yJ ?_ | ((with_reducible apply gJ_if); (first | (refine J_if xR ?_ ?_ <;> intro _ <;> (try (exfalso; first | contradiction | omega))) | (refine J_ifb xR ?_ ?_ <;> (intro hgb; subst hgb)) | (refine J_ifb xR ?_ ?_ <;> intro _) | fail)) | fail))
    all_goals (first | (exfalso; omega) | skip)
    · rename_i hr3
      have hr3 : r3 = false := by simpa using hr3
      subst hr3
      obtain ⟨rfl, rfl⟩ := late_no0 hR
      obtain rfl := e3.nil
      dsimp only
      have kf := fun sub => fail0_s b q ⟨on, nw, ag, t0, t1⟩ h1 a3 n3 c3 [] (by decide) 5 sub none 0 0 [] rfl (by decide)
      (repeat' (first | ((with_reducible apply gL); (first | refine yL0 ?_ | refine yL ?_ | ((with_reducible apply gL_go); (first | (refine JL_goq (kf _) (hφ := (by (try simp only [List.cons_append, List.nil_append]); exact fun w hr => Vw.nil w 1)) (h := ?_); rintro _ _ ⟨a4, n4, c4, ag4, z4, hag, e4, rfl, rfl⟩; try simp only [List.cons_append, List.nil_append]; dsimp only [seC, List.nil_append]) | (refine JL_goq (done_s b q { (⟨on, nw, ag4, t0, t1⟩ : Qse) with t0 := tr0 } a4 n4 c4) (hφ := xF) (h := ?_); rintro _ _ ⟨rfl, rfl⟩; try simp only [List.cons_append, List.nil_append]) | fail)) | (refine yM ?_; intro _) | ((with_reducible apply gL_gd); (first | (refine JL_guard xR xR ?_ ?_ <;> intro _ <;> (try (exfalso; first | contradiction | omega))) | (refine JL_guardb xR xR ?_ ?_ <;> (intro hgb; subst hgb)) | (refine JL_guardb xR xR ?_ ?_ <;> (intro hgb; fail_if_success (have : type_of% hgb := rfl))) | fail)) | fail)) | refine yJ ?_ | ((with_reducible apply gJ_if); (first | (refine J_if xR ?_ ?_ <;> intro _ <;> (try (exfalso; first | contradiction | omega))) | (refine J_ifb xR ?_ ?_ <;> (intro hgb; subst hgb)) | (refine J_ifb xR ?_ ?_ <;> intro _) | fail)) | fail))
      exact J_ret1 rfl (by rfl) fun w H => ⟨_, ⟨a4, n4, c4, { (⟨on, nw, ag4, t0, t1⟩ : Qse) with t0 := tr0 }, _, z4, SeOk.set0 (s := ⟨on, nw, ag4, t0, t1⟩) ⟨h1.now, h1.t0, h1.t1⟩ _ tr0_ok, .inr (.inr ⟨h0', h3, ⟨on, nw, ag, t0, t1⟩, ⟨rfl, rfl, rfl, rfl⟩, .inl ⟨h5, .inr (.inr ⟨h0', rfl, hag, rfl, rfl, rfl⟩)⟩⟩), e4, rfl, rfl⟩, H.sel xZ⟩
    · rename_i hr3
      have hr3 : r3 = true := by simpa using hr3
      subst hr3
      (repeat' (first | ((with_reducible apply gL); (first | refine yL0 ?_ | refine yL ?_ | ((with_reducible apply gL_go); (first | (refine JL_goq (done_s b q s3 a3 n3 c3) (hφ := xF) (h := ?_); rintro _ _ ⟨rfl, rfl⟩; try simp only [List.cons_append, List.nil_append]) | fail)) | (refine yM ?_; intro _) | ((with_reducible apply gL_gd); (first | (refine JL_guard xR xR ?_ ?_ <;> intro _ <;> (try (exfalso; first | contradiction | omega))) | (refine JL_guardb xR xR ?_ ?_ <;> (intro hgb; subst hgb)) | (refine JL_guardb xR xR ?_ ?_ <;> (intro hgb; fail_if_success (have : type_of% hgb := rfl))) | fail)) | fail)) | refine yJ ?_ | ((with_reducible apply gJ_if); (first | (refine J_if xR ?_ ?_ <;> intro _ <;> (try (exfalso; first | contradiction | omega))) | (refine J_ifb xR ?_ ?_ <;> (intro hgb; subst hgb)) | (refine J_ifb xR ?_ ?_ <;> intro _) | fail)) | fail))
      exact J_ret1 rfl (by rfl) fun w H => ⟨_, ⟨a3, n3, c3, s3, _, z3, hs3, .inr (.inr ⟨h0', h3, ⟨on, nw, ag, t0, t1⟩, ⟨rfl, rfl, rfl, rfl⟩, .inl ⟨h5, .inl hR⟩⟩), e3, rfl, rfl⟩, H.sel xZ⟩
  · have ke := early0_s P b q ⟨on, nw, ag, t0, t1⟩ h1 none 0 0 kd ma ml.length mc _ hr
    (repeat' (first | ((with_reducible apply gL); (first | refine yL0 ?_ | refine yL ?_ | ((with_reducible apply gL_go); (first | (refine JL_goq (track0_s b) (hφ := xF) (h := ?_); rintro _ _ ⟨rfl, rfl⟩; try simp only [List.cons_append, List.nil_append]) | (refine JL_goq (ka) (hφ := xF) (h := ?_); rintro _ _ ⟨rfl, rfl⟩; try simp only [List.cons_append, List.nil_append]; dsimp only [seC]) | (refine JL_goq (ke) (hφ := (by (try simp only [List.cons_append, List.nil_append]); exact fun w hr => hK w hr.1)) (h := ?_); rintro _ _ ⟨a3, n3, c3, s3, r3, y3, z3, hs3, hR, e3, rfl, rfl⟩; try simp only [List.cons_append, List.nil_append]; dsimp only [seC]) | fail)) | (refine yM ?_; intro _) | ((with_reducible apply gL_gd); (first | (refine JL_guard xR xR ?_ ?_ <;> intro _ <;> (try (exfalso; first | contradiction | omega))) | (refine JL_guardb xR xR ?_ ?_ <;> (intro hgb; subst hgb)) | (refine JL_guardb xR xR ?_ ?_ <;> (intro hgb; fail_if_success (have : type_of% hgb := rfl))) | fail)) | fail)) | refine yJ ?_ | ((with_reducible apply gJ_if); (first | (refine J_if xR ?_ ?_ <;> intro _ <;> (try (exfalso; first | contradiction | omega))) | (refine J_ifb xR ?_ ?_ <;> (intro hgb; subst hgb)) | (refine J_ifb xR ?_ ?_ <;> intro _) | fail)) | fail))
    all_goals (first | (exfalso; omega) | skip)
    · rename_i hr3
      have hr3 : r3 = false := by simpa using hr3
      subst hr3
      obtain ⟨rfl, rfl, hn1, hn4⟩ := early_no0 hR
      obtain rfl := e3.nil
      dsimp only
      have kf := fun sub => fail0_s b q ⟨on, nw, ag, t0, t1⟩ h1 a3 n3 c3 [] (by decide) 5 sub none 0 0 [] rfl (by decide)
      (repeat' (first | ((with_reducible apply gL); (first | refine yL0 ?_ | refine yL ?_ | ((with_reducible apply gL_go); (first | (refine JL_goq (kf _) (hφ := (by (try simp only [List.cons_append, List.nil_append]); exact fun w hr => Vw.nil w 1)) (h := ?_); rintro _ _ ⟨a4, n4, c4, ag4, z4, hag, e4, rfl, rfl⟩; try simp only [List.cons_append, List.nil_append]; dsimp only [seC, List.nil_append]) | (refine JL_goq (done_s b q { (⟨on, nw, ag4, t0, t1⟩ : Qse) with t0 := tr0 } a4 n4 c4) (hφ := xF) (h := ?_); rintro _ _ ⟨rfl, rfl⟩; try simp only [List.cons_append, List.nil_append]) | fail)) | (refine yM ?_; intro _) | ((with_reducible apply gL_gd); (first | (refine JL_guard xR xR ?_ ?_ <;> intro _ <;> (try (exfalso; first | contradiction | omega))) | (refine JL_guardb xR xR ?_ ?_ <;> (intro hgb; subst hgb)) | (refine JL_guardb xR xR ?_ ?_ <;> (intro hgb; fail_if_success (have : type_of% hgb := rfl))) | fail)) | fail)) | refine yJ ?_ | ((with_reducible apply gJ_if); (first | (refine J_if xR ?_ ?_ <;> intro _ <;> (try (exfalso; first | contradiction | omega))) | (refine J_ifb xR ?_ ?_ <;> (intro hgb; subst hgb)) | (refine J_ifb xR ?_ ?_ <;> intro _) | fail)) | fail))
      exact J_ret1 rfl (by rfl) fun w H => ⟨_, ⟨a4, n4, c4, { (⟨on, nw, ag4, t0, t1⟩ : Qse) with t0 := tr0 }, _, z4, SeOk.set0 (s := ⟨on, nw, ag4, t0, t1⟩) ⟨h1.now, h1.t0, h1.t1⟩ _ tr0_ok, .inr (.inr ⟨h0', h3, ⟨on, nw, ag, t0, t1⟩, ⟨rfl, rfl, rfl, rfl⟩, .inr ⟨h5, .inr ⟨hn1, hn4, .inr ⟨h0', rfl, hag, rfl, rfl, rfl⟩⟩⟩⟩), e4, rfl, rfl⟩, H.sel xZ⟩
    · rename_i hr3
      have hr3 : r3 = true := by simpa using hr3
      subst hr3
      (repeat' (first | ((with_reducible apply gL); (first | refine yL0 ?_ | refine yL ?_ | ((with_reducible apply gL_go); (first | (refine JL_goq (done_s b q s3 a3 n3 c3) (hφ := xF) (h := ?_); rintro _ _ ⟨rfl, rfl⟩; try simp only [List.cons_append, List.nil_append]) | fail)) | (refine yM ?_; intro _) | ((with_reducible apply gL_gd); (first | (refine JL_guard xR xR ?_ ?_ <;> intro _ <;> (try (exfalso; first | contradiction | omega))) | (refine JL_guardb xR xR ?_ ?_ <;> (intro hgb; subst hgb)) | (refine JL_guardb xR xR ?_ ?_ <;> (intro hgb; fail_if_success (have : type_of% hgb := rfl))) | fail)) | fail)) | refine yJ ?_ | ((with_reducible apply gJ_if); (first | (refine J_if xR ?_ ?_ <;> intro _ <;> (try (exfalso; first | contradiction | omega))) | (refine J_ifb xR ?_ ?_ <;> (intro hgb; subst hgb)) | (refine J_ifb xR ?_ ?_ <;> intro _) | fail)) | fail))
      exact J_ret1 rfl (by rfl) fun w H => ⟨_, ⟨a3, n3, c3, s3, _, z3, hs3, .inr (.inr ⟨h0', h3, ⟨on, nw, ag, t0, t1⟩, ⟨rfl, rfl, rfl, rfl⟩, .inr ⟨h5, .inl hR⟩⟩), e3, rfl, rfl⟩, H.sel xZ⟩
def REarly1 (P : Op_ → Bool → Prop) (kd : Int) (s s' : Qse) (r : Bool) (ys : List (Int × Int × Int)) : Prop :=
  kd = 1 ∧ s.t1.st = 3 ∧ r = true ∧ ROpen1 P s s' ys ∨ kd = 4 ∧ s.t1.st = 4 ∧ r = true ∧ RConf1 s s' ys ∨ ¬ (kd = 1 ∧ s.t1.st = 3) ∧ ¬ (kd = 4 ∧ s.t1.st = 4) ∧ r = false ∧ s' = s ∧ ys = []
set_option maxRecDepth 4000 in
theorem early1_s (P : Op_ → Bool → Prop) (b : Nat) (q : Bool) (s : Qse) (hs : SeOk s) (a : Option Addr) (n c : Nat) (kd : Int) (ma : Option Addr) (mn mc : Nat) (φ : World → Prop) (hr : ReadAs P ma mn mc φ) : Pact Try.prog 46 #[.pointer (some ⟨b, 0, none⟩), .int .i64 1, .agg #[.int .i64 kd, .slice ma mn mc]] φ [pts b (seC q s (.slice a n c)) 52, Ar 42 14 acC (.slice a n c) [], hasA []] (fun u L' => ∃ a' n' c' s' r ys zs, SeOk s' ∧ REarly1 P kd s s' r ys ∧ Are zs ys ∧ u = .bool r ∧ L' = [pts b (seC q s' (.slice a' n' c')) 52, Ar 42 14 acC (.slice a' n' c') zs, hasA zs]) := by
  refine pact Try.func46 rfl Try.ntmps46 rfl ?_
  intro W K hK
  have ko := opened1_s P φ b q s hs a n c ma mn mc hr
  have kc := confirmed1_s b q s hs a n c
  by_cases h1 : kd = 1 ∧ s.t1.st = 3
  · (repeat' (first | ((with_reducible apply gL); (first | refine yL0 ?_ | refine yL ?_ | ((with_reducible apply gL_go); (first | (refine JL_goq (ko) (hφ := (by (try simp only [List.cons_append, List.nil_append]); exact fun w hr => hK w hr.1)) (h := ?_); rintro _ _ ⟨a3, n3, c3, s3, y3, z3, hs3, hR, h3, rfl, rfl⟩; try simp only [List.cons_append, List.nil_append]) | fail)) | (refine yM ?_; intro _) | ((with_reducible apply gL_gd); (first | (refine JL_guard xR xR ?_ ?_ <;> intro _ <;> (try (exfalso; first | contradiction | omega))) | (refine JL_guardb xR xR ?_ ?_ <;> (intro hgb; subst hgb)) | (refine JL_guardb xR xR ?_ ?_ <;> (intro hgb; fail_if_success (have : type_of% hgb := rfl))) | fail)) | fail)) | refine yJ ?_ | ((with_reducible apply gJ_if); (first | (refine J_if xR ?_ ?_ <;> intro _ <;> (try (exfalso; first | contradiction | omega))) | (refine J_ifb xR ?_ ?_ <;> (intro hgb; subst hgb)) | (refine J_ifb xR ?_ ?_ <;> intro _) | fail)) | fail))
    all_goals (first | (exfalso; omega) | skip)
    exact J_ret1 rfl (by rfl) fun w H => ⟨_, ⟨a3, n3, c3, s3, true, y3, z3, hs3, .inl ⟨h1.1, h1.2, rfl, hR⟩, h3, rfl, rfl⟩, H.sel xZ⟩
  · by_cases h4 : kd = 4 ∧ s.t1.st = 4
    · (repeat' (first | ((with_reducible apply gL); (first | refine yL0 ?_ | refine yL ?_ | ((with_reducible apply gL_go); (first | (refine JL_goq (kc) (hφ := xF) (h := ?_); rintro _ _ ⟨a3, n3, c3, s3, y3, z3, hs3, hR, h3, rfl, rfl⟩; try simp only [List.cons_append, List.nil_append]) | fail)) | (refine yM ?_; intro _) | ((with_reducible apply gL_gd); (first | (refine JL_guard xR xR ?_ ?_ <;> intro _ <;> (try (exfalso; first | contradiction | omega))) | (refine JL_guardb xR xR ?_ ?_ <;> (intro hgb; subst hgb)) | (refine JL_guardb xR xR ?_ ?_ <;> (intro hgb; fail_if_success (have : type_of% hgb := rfl))) | fail)) | fail)) | refine yJ ?_ | ((with_reducible apply gJ_if); (first | (refine J_if xR ?_ ?_ <;> intro _ <;> (try (exfalso; first | contradiction | omega))) | (refine J_ifb xR ?_ ?_ <;> (intro hgb; subst hgb)) | (refine J_ifb xR ?_ ?_ <;> intro _) | fail)) | fail))
      all_goals (first | (exfalso; omega) | skip)
      exact J_ret1 rfl (by rfl) fun w H => ⟨_, ⟨a3, n3, c3, s3, true, y3, z3, hs3, .inr (.inl ⟨h4.1, h4.2, rfl, hR⟩), h3, rfl, rfl⟩, H.sel xZ⟩
    · (repeat' (first | ((with_reducible apply gL); (first | refine yL0 ?_ | refine yL ?_ | (refine yM ?_; intro _) | ((with_reducible apply gL_gd); (first | (refine JL_guard xR xR ?_ ?_ <;> intro _ <;> (try (exfalso; first | contradiction | omega))) | (refine JL_guardb xR xR ?_ ?_ <;> (intro hgb; subst hgb)) | (refine JL_guardb xR xR ?_ ?_ <;> (intro hgb; fail_if_success (have : type_of% hgb := rfl))) | fail)) | fail)) | refine yJ ?_ | ((with_reducible apply gJ_if); (first | (refine J_if xR ?_ ?_ <;> intro _ <;> (try (exfalso; first | contradiction | omega))) | (refine J_ifb xR ?_ ?_ <;> (intro hgb; subst hgb)) | (refine J_ifb xR ?_ ?_ <;> intro _) | fail)) | fail))
      all_goals (first | (exfalso; omega) | skip)
      all_goals exact J_ret1 rfl (by rfl) fun w H => ⟨_, ⟨a, n, c, s, false, [], [], hs, .inr (.inr ⟨h1, h4, rfl, rfl, rfl⟩), trivial, rfl, rfl⟩, H.sel xZ⟩
theorem late_no1 {s s' : Qse} {ys : List (Int × Int × Int)} (h : RLate1 s s' false ys) : s' = s ∧ ys = [] := by
  rcases h with ⟨h, _⟩ | ⟨_, h1, h2⟩
  · cases h
  · exact ⟨h1, h2⟩
theorem early_no1 {P : Op_ → Bool → Prop} {kd : Int} {s s' : Qse} {ys : List (Int × Int × Int)} (h : REarly1 P kd s s' false ys) : s' = s ∧ ys = [] ∧ ¬ (kd = 1 ∧ s.t1.st = 3) ∧ ¬ (kd = 4 ∧ s.t1.st = 4) := by
  rcases h with ⟨_, _, h, _⟩ | ⟨_, _, h, _⟩ | ⟨g1, g2, _, h1, h2⟩
  · cases h
  · cases h
  · exact ⟨h1, h2, g1, g2⟩
def RTake1 (P : Op_ → Bool → Prop) (kd : Int) (s s' : Qse) (ys : List (Int × Int × Int)) : Prop :=
  s.t1.st < 3 ∧ Same s s' ∧ ys = [] ∨
  3 ≤ s.t1.st ∧ kd = 3 ∧ s'.on = s.on ∧ (s'.again = s.again ∨ s.t0.st = 0) ∧ s'.t1 = tr0 ∧ s'.t0 = s.t0 ∧ ys = (2, 1, 0) :: dnL s.t1.st 1 ∨
  3 ≤ s.t1.st ∧ kd ≠ 3 ∧ ∃ s0, Same s s0 ∧ (s.t1.st = 5 ∧ (RLate1 s0 s' true ys ∨ RFail1 s0 s' ys) ∨ s.t1.st ≠ 5 ∧ (REarly1 P kd s0 s' true ys ∨ ¬ (kd = 1 ∧ s.t1.st = 3) ∧ ¬ (kd = 4 ∧ s.t1.st = 4) ∧ RFail1 s0 s' ys))
set_option maxRecDepth 4000 in
theorem Take1_s (P : Op_ → Bool → Prop) (b : Nat) (q : Bool) (s : Qse) (hs : SeOk s) (now kd : Int) (ma : Option Addr) (mc : Nat) (ml : List Int) (hl : ml.length ≤ 1000) (hr : ReadAs P ma ml.length mc (fun w => Vw w (.slice ma ml.length mc) 1 ml.length (flat byC ml))) : Pact Try.prog 17 #[.pointer (some ⟨b, 0, none⟩), .int .i64 now, .int .i64 1, .agg #[.int .i64 kd, .slice ma ml.length mc]] (fun w => Vw w (.slice ma ml.length mc) 1 ml.length (flat byC ml)) [pts b (seC q s (.slice none 0 0)) 52] (Did b q (RTake1 P kd s)) := by
  refine pact Try.func17 rfl Try.ntmps17 rfl ?_
  intro W K hK
  refine J_heap (fun w H => iniA H) ?_
  have h1 := atS_ok hs now
  obtain ⟨nw, hnw⟩ : ∃ nw, max s.now (min now 1099511627776) = nw := ⟨_, rfl⟩
  have ka := at_s b q s (.slice none 0 0) now
  simp only [atS, hnw] at ka h1
  clear hnw
  obtain ⟨on, nw0, ag, t0, t1⟩ := s
  dsimp only at ka h1
  by_cases h0 : t1.st < 3
  · (repeat' (first | ((with_reducible apply gL); (first | refine yL0 ?_ | refine yL ?_ | ((with_reducible apply gL_go); (first | (refine JL_goq (track1_s b) (hφ := xF) (h := ?_); rintro _ _ ⟨rfl, rfl⟩; try simp only [List.cons_append, List.nil_append]) | (refine JL_goq (ka) (hφ := xF) (h := ?_); rintro _ _ ⟨rfl, rfl⟩; try simp only [List.cons_append, List.nil_append]; dsimp only [seC]) | fail)) | (refine yM ?_; intro _) | ((with_reducible apply gL_gd); (first | (refine JL_guard xR xR ?_ ?_ <;> intro _ <;> (try (exfalso; first | contradiction | omega))) | (refine JL_guardb xR xR ?_ ?_ <;> (intro hgb; subst hgb)) | (refine JL_guardb xR xR ?_ ?_ <;> (intro hgb; fail_if_success (have : type_of% hgb := rfl))) | fail)) | fail)) | refine yJ ?_ | ((with_reducible apply gJ_if); (first | (refine J_if xR ?_ ?_ <;> intro _ <;> (try (exfalso; first | contradiction | omega))) | (refine J_ifb xR ?_ ?_ <;> (intro hgb; subst hgb)) | (refine J_ifb xR ?_ ?_ <;> intro _) | fail)) | fail))
    all_goals (first | (exfalso; omega) | skip)
    exact J_ret1 rfl (by rfl) fun w H => ⟨_, ⟨none, 0, 0, ⟨on, nw, ag, t0, t1⟩, [], [], h1, .inl ⟨h0, ⟨rfl, rfl, rfl, rfl⟩, rfl⟩, trivial, rfl, rfl⟩, H.sel xZ⟩
  have h0' : 3 ≤ t1.st := by omega
  by_cases h3 : kd = 3
  · (repeat' (first | ((with_reducible apply gL); (first | refine yL0 ?_ | refine yL ?_ | ((with_reducible apply gL_go); (first | (refine JL_goq (track1_s b) (hφ := xF) (h := ?_); rintro _ _ ⟨rfl, rfl⟩; try simp only [List.cons_append, List.nil_append]) | (refine JL_goq (ka) (hφ := xF) (h := ?_); rintro _ _ ⟨rfl, rfl⟩; try simp only [List.cons_append, List.nil_append]; dsimp only [seC]) | (refine JL_goq (do_s b q ⟨on, nw, ag, t0, t1⟩ none 0 0 [] (by decide) 2 1 (by decide)) (hφ := xF) (h := ?_); rintro _ _ ⟨a3, n3, c3, z3, e3, rfl, rfl⟩; try simp only [List.cons_append, List.nil_append]; dsimp only [seC, List.nil_append]) | (refine JL_goq (lose1_s b q ⟨on, nw, ag, t0, t1⟩ h1 a3 n3 c3 [z3] (by simp only [List.length_singleton]; omega) false) (hφ := xF) (h := ?_); rintro _ _ ⟨a4, n4, c4, ag4, z4, hag, e4, rfl, rfl⟩; try simp only [List.cons_append, List.nil_append]; dsimp only [seC]) | (refine JL_goq (done_s b q { (⟨on, nw, ag4, t0, t1⟩ : Qse) with t1 := tr0 } a4 n4 c4) (hφ := xF) (h := ?_); rintro _ _ ⟨rfl, rfl⟩; try simp only [List.cons_append, List.nil_append]) | fail)) | (refine yM ?_; intro _) | ((with_reducible apply gL_gd); (first | (refine JL_guard xR xR ?_ ?_ <;> intro _ <;> (try (exfalso; first | contradiction | omega))) | (refine JL_guardb xR xR ?_ ?_ <;> (intro hgb; subst hgb)) | (refine JL_guardb xR xR ?_ ?_ <;> (intro hgb; fail_if_success (have : type_of% hgb := rfl))) | fail)) | fail)) | refine yJ ?_ | ((with_reducible apply gJ_if); (first | (refine J_if xR ?_ ?_ <;> intro _ <;> (try (exfalso; first | contradiction | omega))) | (refine J_ifb xR ?_ ?_ <;> (intro hgb; subst hgb)) | (refine J_ifb xR ?_ ?_ <;> intro _) | fail)) | fail))
    all_goals (first | (exfalso; omega) | skip)
    exact J_ret1 rfl (by rfl) fun w H => ⟨_, ⟨a4, n4, c4, { (⟨on, nw, ag4, t0, t1⟩ : Qse) with t1 := tr0 }, _, [z3] ++ z4, SeOk.set1 (s := ⟨on, nw, ag4, t0, t1⟩) ⟨h1.now, h1.t0, h1.t1⟩ _ tr0_ok, .inr (.inl ⟨h0', h3, rfl, hag, rfl, rfl, rfl⟩), e3.app e4, rfl, rfl⟩, H.sel xZ⟩
  by_cases h5 : t1.st = 5
  · have kl := late1_s b q ⟨on, nw, ag, t0, t1⟩ h1 none 0 0 kd ma mc ml hl
    (repeat' (first | ((with_reducible apply gL); (first | refine yL0 ?_ | refine yL ?_ | ((with_reducible apply gL_go); (first | (refine JL_goq (track1_s b) (hφ := xF) (h := ?_); rintro _ _ ⟨rfl, rfl⟩; try simp only [List.cons_append, List.nil_append]) | (refine JL_goq (ka) (hφ := xF) (h := ?_); rintro _ _ ⟨rfl, rfl⟩; try simp only [List.cons_append, List.nil_append]; dsimp only [seC]) | (refine JL_goq (kl) (hφ := (by (try simp only [List.cons_append, List.nil_append]); exact fun w hr => hK w hr.1)) (h := ?_); rintro _ _ ⟨a3, n3, c3, s3, r3, y3, z3, hs3, hR, e3, rfl, rfl⟩; try simp only [List.cons_append, List.nil_append]; dsimp only [seC]) | fail)) | (refine yM ?_; intro _) | ((with_reducible apply gL_gd); (first | (refine JL_guard xR xR ?_ ?_ <;> intro _ <;> (try (exfalso; first | contradiction | omega))) | (refine JL_guardb xR xR ?_ ?_ <;> (intro hgb; subst hgb)) | (refine JL_guardb xR xR ?_ ?_ <;> (intro hgb; fail_if_success (have : type_of% hgb := rfl))) | fail)) | fail)) | refine yJ ?_ | ((with_reducible apply gJ_if); (first | (refine J_if xR ?_ ?_ <;> intro _ <;> (try (exfalso; first | contradiction | omega))) | (refine J_ifb xR ?_ ?_ <;> (intro hgb; subst hgb)) | (refine J_ifb xR ?_ ?_ <;> intro _) | fail)) | fail))
    all_goals (first | (exfalso; omega) | skip)
    · rename_i hr3
      have hr3 : r3 = false := by simpa using hr3
      subst hr3
      obtain ⟨rfl, rfl⟩ := late_no1 hR
      obtain rfl := e3.nil
      dsimp only
      have kf := fun sub => fail1_s b q ⟨on, nw, ag, t0, t1⟩ h1 a3 n3 c3 [] (by decide) 5 sub none 0 0 [] rfl (by decide)
      (repeat' (first | ((with_reducible apply gL); (first | refine yL0 ?_ | refine yL ?_ | ((with_reducible apply gL_go); (first | (refine JL_goq (kf _) (hφ := (by (try simp only [List.cons_append, List.nil_append]); exact fun w hr => Vw.nil w 1)) (h := ?_); rintro _ _ ⟨a4, n4, c4, ag4, z4, hag, e4, rfl, rfl⟩; try simp only [List.cons_append, List.nil_append]; dsimp only [seC, List.nil_append]) | (refine JL_goq (done_s b q { (⟨on, nw, ag4, t0, t1⟩ : Qse) with t1 := tr0 } a4 n4 c4) (hφ := xF) (h := ?_); rintro _ _ ⟨rfl, rfl⟩; try simp only [List.cons_append, List.nil_append]) | fail)) | (refine yM ?_; intro _) | ((with_reducible apply gL_gd); (first | (refine JL_guard xR xR ?_ ?_ <;> intro _ <;> (try (exfalso; first | contradiction | omega))) | (refine JL_guardb xR xR ?_ ?_ <;> (intro hgb; subst hgb)) | (refine JL_guardb xR xR ?_ ?_ <;> (intro hgb; fail_if_success (have : type_of% hgb := rfl))) | fail)) | fail)) | refine yJ ?_ | ((with_reducible apply gJ_if); (first | (refine J_if xR ?_ ?_ <;> intro _ <;> (try (exfalso; first | contradiction | omega))) | (refine J_ifb xR ?_ ?_ <;> (intro hgb; subst hgb)) | (refine J_ifb xR ?_ ?_ <;> intro _) | fail)) | fail))
      exact J_ret1 rfl (by rfl) fun w H => ⟨_, ⟨a4, n4, c4, { (⟨on, nw, ag4, t0, t1⟩ : Qse) with t1 := tr0 }, _, z4, SeOk.set1 (s := ⟨on, nw, ag4, t0, t1⟩) ⟨h1.now, h1.t0, h1.t1⟩ _ tr0_ok, .inr (.inr ⟨h0', h3, ⟨on, nw, ag, t0, t1⟩, ⟨rfl, rfl, rfl, rfl⟩, .inl ⟨h5, .inr (.inr ⟨h0', rfl, hag, rfl, rfl, rfl⟩)⟩⟩), e4, rfl, rfl⟩, H.sel xZ⟩
    · rename_i hr3
      have hr3 : r3 = true := by simpa using hr3
      subst hr3
      (repeat' (first | ((with_reducible apply gL); (first | refine yL0 ?_ | refine yL ?_ | ((with_reducible apply gL_go); (first | (refine JL_goq (done_s b q s3 a3 n3 c3) (hφ := xF) (h := ?_); rintro _ _ ⟨rfl, rfl⟩; try simp only [List.cons_append, List.nil_append]) | fail)) | (refine yM ?_; intro _) | ((with_reducible apply gL_gd); (first | (refine JL_guard xR xR ?_ ?_ <;> intro _ <;> (try (exfalso; first | contradiction | omega))) | (refine JL_guardb xR xR ?_ ?_ <;> (intro hgb; subst hgb)) | (refine JL_guardb xR xR ?_ ?_ <;> (intro hgb; fail_if_success (have : type_of% hgb := rfl))) | fail)) | fail)) | refine yJ ?_ | ((with_reducible apply gJ_if); (first | (refine J_if xR ?_ ?_ <;> intro _ <;> (try (exfalso; first | contradiction | omega))) | (refine J_ifb xR ?_ ?_ <;> (intro hgb; subst hgb)) | (refine J_ifb xR ?_ ?_ <;> intro _) | fail)) | fail))
      exact J_ret1 rfl (by rfl) fun w H => ⟨_, ⟨a3, n3, c3, s3, _, z3, hs3, .inr (.inr ⟨h0', h3, ⟨on, nw, ag, t0, t1⟩, ⟨rfl, rfl, rfl, rfl⟩, .inl ⟨h5, .inl hR⟩⟩), e3, rfl, rfl⟩, H.sel xZ⟩
  · have ke := early1_s P b q ⟨on, nw, ag, t0, t1⟩ h1 none 0 0 kd ma ml.length mc _ hr
    (repeat' (first | ((with_reducible apply gL); (first | refine yL0 ?_ | refine yL ?_ | ((with_reducible apply gL_go); (first | (refine JL_goq (track1_s b) (hφ := xF) (h := ?_); rintro _ _ ⟨rfl, rfl⟩; try simp only [List.cons_append, List.nil_append]) | (refine JL_goq (ka) (hφ := xF) (h := ?_); rintro _ _ ⟨rfl, rfl⟩; try simp only [List.cons_append, List.nil_append]; dsimp only [seC]) | (refine JL_goq (ke) (hφ := (by (try simp only [List.cons_append, List.nil_append]); exact fun w hr => hK w hr.1)) (h := ?_); rintro _ _ ⟨a3, n3, c3, s3, r3, y3, z3, hs3, hR, e3, rfl, rfl⟩; try simp only [List.cons_append, List.nil_append]; dsimp only [seC]) | fail)) | (refine yM ?_; intro _) | ((with_reducible apply gL_gd); (first | (refine JL_guard xR xR ?_ ?_ <;> intro _ <;> (try (exfalso; first | contradiction | omega))) | (refine JL_guardb xR xR ?_ ?_ <;> (intro hgb; subst hgb)) | (refine JL_guardb xR xR ?_ ?_ <;> (intro hgb; fail_if_success (have : type_of% hgb := rfl))) | fail)) | fail)) | refine yJ ?_ | ((with_reducible apply gJ_if); (first | (refine J_if xR ?_ ?_ <;> intro _ <;> (try (exfalso; first | contradiction | omega))) | (refine J_ifb xR ?_ ?_ <;> (intro hgb; subst hgb)) | (refine J_ifb xR ?_ ?_ <;> intro _) | fail)) | fail))
    all_goals (first | (exfalso; omega) | skip)
    · rename_i hr3
      have hr3 : r3 = false := by simpa using hr3
      subst hr3
      obtain ⟨rfl, rfl, hn1, hn4⟩ := early_no1 hR
      obtain rfl := e3.nil
      dsimp only
      have kf := fun sub => fail1_s b q ⟨on, nw, ag, t0, t1⟩ h1 a3 n3 c3 [] (by decide) 5 sub none 0 0 [] rfl (by decide)
      (repeat' (first | ((with_reducible apply gL); (first | refine yL0 ?_ | refine yL ?_ | ((with_reducible apply gL_go); (first | (refine JL_goq (kf _) (hφ := (by (try simp only [List.cons_append, List.nil_append]); exact fun w hr => Vw.nil w 1)) (h := ?_); rintro _ _ ⟨a4, n4, c4, ag4, z4, hag, e4, rfl, rfl⟩; try simp only [List.cons_append, List.nil_append]; dsimp only [seC, List.nil_append]) | (refine JL_goq (done_s b q { (⟨on, nw, ag4, t0, t1⟩ : Qse) with t1 := tr0 } a4 n4 c4) (hφ := xF) (h := ?_); rintro _ _ ⟨rfl, rfl⟩; try simp only [List.cons_append, List.nil_append]) | fail)) | (refine yM ?_; intro _) | ((with_reducible apply gL_gd); (first | (refine JL_guard xR xR ?_ ?_ <;> intro _ <;> (try (exfalso; first | contradiction | omega))) | (refine JL_guardb xR xR ?_ ?_ <;> (intro hgb; subst hgb)) | (refine JL_guardb xR xR ?_ ?_ <;> (intro hgb; fail_if_success (have : type_of% hgb := rfl))) | fail)) | fail)) | refine yJ ?_ | ((with_reducible apply gJ_if); (first | (refine J_if xR ?_ ?_ <;> intro _ <;> (try (exfalso; first | contradiction | omega))) | (refine J_ifb xR ?_ ?_ <;> (intro hgb; subst hgb)) | (refine J_ifb xR ?_ ?_ <;> intro _) | fail)) | fail))
      exact J_ret1 rfl (by rfl) fun w H => ⟨_, ⟨a4, n4, c4, { (⟨on, nw, ag4, t0, t1⟩ : Qse) with t1 := tr0 }, _, z4, SeOk.set1 (s := ⟨on, nw, ag4, t0, t1⟩) ⟨h1.now, h1.t0, h1.t1⟩ _ tr0_ok, .inr (.inr ⟨h0', h3, ⟨on, nw, ag, t0, t1⟩, ⟨rfl, rfl, rfl, rfl⟩, .inr ⟨h5, .inr ⟨hn1, hn4, .inr ⟨h0', rfl, hag, rfl, rfl, rfl⟩⟩⟩⟩), e4, rfl, rfl⟩, H.sel xZ⟩
    · rename_i hr3
      have hr3 : r3 = true := by simpa using hr3
      subst hr3
      (repeat' (first | ((with_reducible apply gL); (first | refine yL0 ?_ | refine yL ?_ | ((with_reducible apply gL_go); (first | (refine JL_goq (done_s b q s3 a3 n3 c3) (hφ := xF) (h := ?_); rintro _ _ ⟨rfl, rfl⟩; try simp only [List.cons_append, List.nil_append]) | fail)) | (refine yM ?_; intro _) | ((with_reducible apply gL_gd); (first | (refine JL_guard xR xR ?_ ?_ <;> intro _ <;> (try (exfalso; first | contradiction | omega))) | (refine JL_guardb xR xR ?_ ?_ <;> (intro hgb; subst hgb)) | (refine JL_guardb xR xR ?_ ?_ <;> (intro hgb; fail_if_success (have : type_of% hgb := rfl))) | fail)) | fail)) | refine yJ ?_ | ((with_reducible apply gJ_if); (first | (refine J_if xR ?_ ?_ <;> intro _ <;> (try (exfalso; first | contradiction | omega))) | (refine J_ifb xR ?_ ?_ <;> (intro hgb; subst hgb)) | (refine J_ifb xR ?_ ?_ <;> intro _) | fail)) | fail))
      exact J_ret1 rfl (by rfl) fun w H => ⟨_, ⟨a3, n3, c3, s3, _, z3, hs3, .inr (.inr ⟨h0', h3, ⟨on, nw, ag, t0, t1⟩, ⟨rfl, rfl, rfl, rfl⟩, .inr ⟨h5, .inl hR⟩⟩), e3, rfl, rfl⟩, H.sel xZ⟩
end Go.Proofs.Ytfonbpmdbpdncaa
