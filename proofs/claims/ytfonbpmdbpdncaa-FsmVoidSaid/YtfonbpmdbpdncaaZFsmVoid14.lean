/-
  Fs13, Fs17, J9, Fs18, Fs19: merged.
-/
import Derived.Test.YtfonbpmdbpdncaaZFsmVoid13
namespace Go.Proofs.Ytfonbpmdbpdncaa
set_option linter.unusedSimpArgs false
set_option linter.unusedVariables false
set_option maxRecDepth 20000
set_option maxHeartbeats 4000000
open Go.RowKit Go.Pm

theorem bE_bX {z s : Int} {l : List Int} (h : bE z s l = 0) : 2 ≤ (bX z s l).length ∧ (bX z s l).length ≤ 4077 := by
  unfold bE at h
  split at h
  case isTrue h1 =>
    split at h
    case isTrue h2 =>
      unfold bX
      rw [if_pos ⟨h1.1, h1.2, h2⟩]
      simp only [List.length_cons]
      omega
    case isFalse => exact absurd h (by decide)
  case isFalse => exact absurd h (by decide)
theorem app3 {α : Type} (xs us vs zs : List α) : xs ++ (us ++ (vs ++ zs)) = ((xs ++ us) ++ vs) ++ zs := by simp
theorem fail0_s (b : Nat) (q : Bool) (s : Qse) (hs : SeOk s) (a : Option Addr) (n c : Nat) (xs : List Ac) (hx : xs.length ≤ 40) (z sub : Int) (fa : Option Addr) (fc fn : Nat) (fl : List Int) (hn : fl.length = fn) (hl : fn ≤ 4076) : Pact Try.prog 47 #[.pointer (some ⟨b, 0, none⟩), .int .i64 0, .agg #[.int .i64 z, .int .i64 sub, .slice fa fn fc]] (fun w => Vw w (.slice fa fn fc) 1 fn (flat byC fl)) [pts b (seC q s (.slice a n c)) 52, Ar 42 14 acC (.slice a n c) xs, hasA xs] (fun u L' => ∃ a' n' c' ag zs, (ag = s.again ∨ s.t1.st = 0) ∧ Are zs ((3, 0, 3) :: (2, 0, 0) :: dnL s.t0.st 0) ∧ u = .tuple #[] ∧ L' = [pts b (seC q { s with again := ag, t0 := tr0 } (.slice a' n' c')) 52, Ar 42 14 acC (.slice a' n' c') (xs ++ zs), hasA (xs ++ zs)]) := by
  subst hn
  refine pact Try.func47 rfl Try.ntmps47 rfl ?_
  intro W K hK
  have k1 := build_u z sub fa fc fl hl
  unfold BuildR at k1
  have k2 := build_u 6 0 none 0 [] (by decide)
  unfold BuildR at k2
  rw [show bX 6 0 [] = [6, 0] from by decide, show bE 6 0 [] = 0 from by decide] at k2
  have hX := @bE_bX z sub fl
  obtain ⟨X, eX⟩ : ∃ X, bX z sub fl = X := ⟨_, rfl⟩
  obtain ⟨E, eE⟩ : ∃ E, bE z sub fl = E := ⟨_, rfl⟩
  rw [eX, eE] at k1 hX
  clear eX eE
  (repeat' (first | ((with_reducible apply gL); (first | refine yL0 ?_ | refine yL ?_ | ((with_reducible apply gL_go); (first | (refine JL_goq (k1) (hφ := (by (try simp only [List.cons_append, List.nil_append]); exact fun w hr => hK w hr.1)) (h := ?_); rintro _ _ ⟨a1, c1, rfl, rfl⟩; try simp only [List.cons_append, List.nil_append]) | (refine JL_goq (k2) (hφ := (by (try simp only [List.cons_append, List.nil_append]); exact fun w hr => Vw.nil w 1)) (h := ?_); rintro _ _ ⟨a2, c2, rfl, rfl⟩; try simp only [List.cons_append, List.nil_append]) | (refine JL_goq (say_s b q s a n c xs (by omega) 0 3 ⟨3, 21, 4096⟩ (.inr (.inl rfl)) rfl a1 X.length c1 X rfl (by have := hX (by omega); simp only; omega) (by have := hX (by omega); simp only; omega)) (hφ := (by (try simp only [List.cons_append, List.nil_append]); exact fun w hr => Src.ar xA w hr)) (h := ?_); rintro _ _ ⟨a3, n3, c3, z3, h3, rfl, rfl⟩; try simp only [List.cons_append, List.nil_append]) | (refine JL_goq (say_s b q s a n c xs (by omega) 0 3 ⟨3, 21, 4096⟩ (.inr (.inl rfl)) rfl a2 2 c2 [6, 0] rfl (by decide) (by decide)) (hφ := (by (try simp only [List.cons_append, List.nil_append]); exact fun w hr => Src.ar xA w hr)) (h := ?_); rintro _ _ ⟨a3, n3, c3, z3, h3, rfl, rfl⟩; try simp only [List.cons_append, List.nil_append]) | (refine JL_goq (do_s b q s a3 n3 c3 (xs ++ [z3]) (by simp only [List.length_append, List.length_singleton]; omega) 2 0 (by decide)) (hφ := xF) (h := ?_); rintro _ _ ⟨a4, n4, c4, z4, h4, rfl, rfl⟩; try simp only [List.cons_append, List.nil_append]) | (refine JL_goq (lose0_s b q s hs a4 n4 c4 ((xs ++ [z3]) ++ [z4]) (by simp only [List.length_append, List.length_singleton]; omega) false) (hφ := xF) (h := ?_); rintro _ _ ⟨a5, n5, c5, ag, z5, hag, h5, rfl, rfl⟩; try simp only [List.cons_append, List.nil_append]) | fail)) | (refine yM ?_; intro _) | fail)) | refine yJ ?_ | ((with_reducible apply gJ_if); (first | (refine J_if xR ?_ ?_ <;> intro _ <;> (try (exfalso; first | contradiction | omega))) | (refine J_ifb xR ?_ ?_ <;> (intro hgb; subst hgb)) | (refine J_ifb xR ?_ ?_ <;> intro _) | fail)) | fail))
  all_goals exact J_end0 rfl fun w H => ⟨_, ⟨a5, n5, c5, ag, [z3] ++ ([z4] ++ z5), hag, h3.app (h4.app h5), rfl, rfl⟩, by rw [app3]; exact H.sel xZ⟩
theorem fail1_s (b : Nat) (q : Bool) (s : Qse) (hs : SeOk s) (a : Option Addr) (n c : Nat) (xs : List Ac) (hx : xs.length ≤ 40) (z sub : Int) (fa : Option Addr) (fc fn : Nat) (fl : List Int) (hn : fl.length = fn) (hl : fn ≤ 4076) : Pact Try.prog 47 #[.pointer (some ⟨b, 0, none⟩), .int .i64 1, .agg #[.int .i64 z, .int .i64 sub, .slice fa fn fc]] (fun w => Vw w (.slice fa fn fc) 1 fn (flat byC fl)) [pts b (seC q s (.slice a n c)) 52, Ar 42 14 acC (.slice a n c) xs, hasA xs] (fun u L' => ∃ a' n' c' ag zs, (ag = s.again ∨ s.t0.st = 0) ∧ Are zs ((3, 1, 3) :: (2, 1, 0) :: dnL s.t1.st 1) ∧ u = .tuple #[] ∧ L' = [pts b (seC q { s with again := ag, t1 := tr0 } (.slice a' n' c')) 52, Ar 42 14 acC (.slice a' n' c') (xs ++ zs), hasA (xs ++ zs)]) := by
  subst hn
  refine pact Try.func47 rfl Try.ntmps47 rfl ?_
  intro W K hK
  have k1 := build_u z sub fa fc fl hl
  unfold BuildR at k1
  have k2 := build_u 6 0 none 0 [] (by decide)
  unfold BuildR at k2
  rw [show bX 6 0 [] = [6, 0] from by decide, show bE 6 0 [] = 0 from by decide] at k2
  have hX := @bE_bX z sub fl
  obtain ⟨X, eX⟩ : ∃ X, bX z sub fl = X := ⟨_, rfl⟩
  obtain ⟨E, eE⟩ : ∃ E, bE z sub fl = E := ⟨_, rfl⟩
  rw [eX, eE] at k1 hX
  clear eX eE
  (repeat' (first | ((with_reducible apply gL); (first | refine yL0 ?_ | refine yL ?_ | ((with_reducible apply gL_go); (first | (refine JL_goq (k1) (hφ := (by (try simp only [List.cons_append, List.nil_append]); exact fun w hr => hK w hr.1)) (h := ?_); rintro _ _ ⟨a1, c1, rfl, rfl⟩; try simp only [List.cons_append, List.nil_append]) | (refine JL_goq (k2) (hφ := (by (try simp only [List.cons_append, List.nil_append]); exact fun w hr => Vw.nil w 1)) (h := ?_); rintro _ _ ⟨a2, c2, rfl, rfl⟩; try simp only [List.cons_append, List.nil_append]) | (refine JL_goq (say_s b q s a n c xs (by omega) 1 3 ⟨3, 21, 4096⟩ (.inr (.inl rfl)) rfl a1 X.length c1 X rfl (by have := hX (by omega); simp only; omega) (by have := hX (by omega); simp only; omega)) (hφ := (by (try simp only [List.cons_append, List.nil_append]); exact fun w hr => Src.ar xA w hr)) (h := ?_); rintro _ _ ⟨a3, n3, c3, z3, h3, rfl, rfl⟩; try simp only [List.cons_append, List.nil_append]) | (refine JL_goq (say_s b q s a n c xs (by omega) 1 3 ⟨3, 21, 4096⟩ (.inr (.inl rfl)) rfl a2 2 c2 [6, 0] rfl (by decide) (by decide)) (hφ := (by (try simp only [List.cons_append, List.nil_append]); exact fun w hr => Src.ar xA w hr)) (h := ?_); rintro _ _ ⟨a3, n3, c3, z3, h3, rfl, rfl⟩; try simp only [List.cons_append, List.nil_append]) | (refine JL_goq (do_s b q s a3 n3 c3 (xs ++ [z3]) (by simp only [List.length_append, List.length_singleton]; omega) 2 1 (by decide)) (hφ := xF) (h := ?_); rintro _ _ ⟨a4, n4, c4, z4, h4, rfl, rfl⟩; try simp only [List.cons_append, List.nil_append]) | (refine JL_goq (lose1_s b q s hs a4 n4 c4 ((xs ++ [z3]) ++ [z4]) (by simp only [List.length_append, List.length_singleton]; omega) false) (hφ := xF) (h := ?_); rintro _ _ ⟨a5, n5, c5, ag, z5, hag, h5, rfl, rfl⟩; try simp only [List.cons_append, List.nil_append]) | fail)) | (refine yM ?_; intro _) | fail)) | refine yJ ?_ | ((with_reducible apply gJ_if); (first | (refine J_if xR ?_ ?_ <;> intro _ <;> (try (exfalso; first | contradiction | omega))) | (refine J_ifb xR ?_ ?_ <;> (intro hgb; subst hgb)) | (refine J_ifb xR ?_ ?_ <;> intro _) | fail)) | fail))
  all_goals exact J_end0 rfl fun w H => ⟨_, ⟨a5, n5, c5, ag, [z3] ++ ([z4] ++ z5), hag, h3.app (h4.app h5), rfl, rfl⟩, by rw [app3]; exact H.sel xZ⟩
end Go.Proofs.Ytfonbpmdbpdncaa
namespace Go.Proofs.Ytfonbpmdbpdncaa
set_option linter.unusedSimpArgs false
set_option linter.unusedVariables false
set_option maxRecDepth 20000
set_option maxHeartbeats 4000000
open Go.RowKit Go.Pm

def Did (b : Nat) (q : Bool) (R : Qse → List (Int × Int × Int) → Prop) (u : Value) (L' : List HP) : Prop := ∃ a n c s' ys zs, SeOk s' ∧ R s' ys ∧ Are zs ys ∧ u = .slice a n c ∧ L' = [pts b (seC q s' (.slice none 0 0)) 52, Ar 42 14 acC (.slice a n c) zs, hasA zs]
theorem iniA {W : World} {K : Hl} {w : World} {P : HP} (H : Ow W K [P] w) : Ow W K [P, Ar 42 14 acC (.slice none 0 0) [], hasA []] w := (Ow.hasTrue (φ := kwA []) (Ow.arNil (e := 42) (sz := 14) (enc := acC) H) kwA_nil).sel xZ
def Same (s s' : Qse) : Prop := s'.on = s.on ∧ s'.again = s.again ∧ s'.t0 = s.t0 ∧ s'.t1 = s.t1
def failL (st k : Int) : List (Int × Int × Int) := (3, k, 3) :: (2, k, 0) :: dnL st k
theorem tr1_ok : TrOk ⟨1, op0, 0, 0, 0, 0⟩ := ⟨by decide, by decide, by decide⟩
theorem tr3_ok (x : Int) : TrOk ⟨3, op0, 2400, 0, x, -1⟩ := ⟨by simp only; omega, by simp only; omega, by simp only; omega⟩
def RStart (q : Bool) (s s' : Qse) (ys : List (Int × Int × Int)) : Prop := s.on = true ∧ Same s s' ∧ ys = [] ∨ s.on = false ∧ s'.on = true ∧ s'.t1 = s.t1 ∧ (q = true ∧ s'.t0 = s.t0 ∧ ys = [] ∨ q = false ∧ s'.t0.st = 1 ∧ ys = [(1, 0, 0)])
theorem Start_s (b : Nat) (q : Bool) (s : Qse) (hs : SeOk s) (now : Int) : Pact Try.prog 14 #[.pointer (some ⟨b, 0, none⟩), .int .i64 now] (fun _ => True) [pts b (seC q s (.slice none 0 0)) 52] (Did b q (RStart q s)) := by
  refine pact Try.func14 rfl Try.ntmps14 rfl ?_
  intro W K _
  refine J_heap (fun w H => iniA H) ?_
  have h1 := atS_ok hs now
  obtain ⟨nw, hnw⟩ : ∃ nw, max s.now (min now 1099511627776) = nw := ⟨_, rfl⟩
  have ka := at_s b q s (.slice none 0 0) now
  simp only [atS, hnw] at ka h1
  clear hnw
  obtain ⟨on, nw0, ag, t0, t1⟩ := s
  dsimp only at ka h1
  cases on
  · have h2 : SeOk ⟨true, nw, ag, t0, t1⟩ := ⟨h1.now, h1.t0, h1.t1⟩
    cases q
    · (repeat' (first | ((with_reducible apply gL); (first | refine yL0 ?_ | refine yL ?_ | ((with_reducible apply gL_go); (first | (refine JL_goq (ka) (hφ := xF) (h := ?_); rintro _ _ ⟨rfl, rfl⟩; try simp only [List.cons_append, List.nil_append]; dsimp only [seC]) | (refine JL_goq (try_f b ⟨true, nw, ag, t0, t1⟩ h2 none 0 0 [] (by decide)) (hφ := xF) (h := ?_); rintro _ _ ⟨a1, n1, c1, z1, e1, rfl, rfl⟩; try simp only [List.cons_append, List.nil_append]; dsimp only [seC]) | (refine JL_goq (done_s b false ⟨true, nw, nw + 50, ⟨1, op0, 0, 0, 0, 0⟩, t1⟩ a1 n1 c1) (hφ := xF) (h := ?_); rintro _ _ ⟨rfl, rfl⟩; try simp only [List.cons_append, List.nil_append]) | fail)) | ((with_reducible apply gL_gd); (first | (refine JL_guard xR xR ?_ ?_ <;> intro _ <;> (try (exfalso; first | contradiction | omega))) | (refine JL_guardb xR xR ?_ ?_ <;> (intro hgb; subst hgb)) | (refine JL_guardb xR xR ?_ ?_ <;> (intro hgb; fail_if_success (have : type_of% hgb := rfl))) | fail)) | fail)) | refine yJ ?_ | ((with_reducible apply gJ_if); (first | (refine J_if xR ?_ ?_ <;> intro _ <;> (try (exfalso; first | contradiction | omega))) | (refine J_ifb xR ?_ ?_ <;> (intro hgb; subst hgb)) | (refine J_ifb xR ?_ ?_ <;> intro _) | fail)) | fail))
      exact J_ret1 rfl (by rfl) fun w H => ⟨_, ⟨a1, n1, c1, ⟨true, nw, nw + 50, ⟨1, op0, 0, 0, 0, 0⟩, t1⟩, [(1, 0, 0)], [z1], ⟨h1.now, tr1_ok, h1.t1⟩, .inr ⟨rfl, rfl, rfl, .inr ⟨rfl, rfl, rfl⟩⟩, e1, rfl, rfl⟩, H.sel xZ⟩
    · (repeat' (first | ((with_reducible apply gL); (first | refine yL0 ?_ | refine yL ?_ | ((with_reducible apply gL_go); (first | (refine JL_goq (ka) (hφ := xF) (h := ?_); rintro _ _ ⟨rfl, rfl⟩; try simp only [List.cons_append, List.nil_append]; dsimp only [seC]) | (refine JL_goq (try_t b ⟨true, nw, ag, t0, t1⟩ h2 _) (hφ := xF) (h := ?_); rintro _ _ ⟨rfl, rfl⟩; try simp only [List.cons_append, List.nil_append]; dsimp only [seC]) | (refine JL_goq (done_s b true ⟨true, nw, nw + 50, t0, t1⟩ none 0 0) (hφ := xF) (h := ?_); rintro _ _ ⟨rfl, rfl⟩; try simp only [List.cons_append, List.nil_append]) | fail)) | ((with_reducible apply gL_gd); (first | (refine JL_guard xR xR ?_ ?_ <;> intro _ <;> (try (exfalso; first | contradiction | omega))) | (refine JL_guardb xR xR ?_ ?_ <;> (intro hgb; subst hgb)) | (refine JL_guardb xR xR ?_ ?_ <;> (intro hgb; fail_if_success (have : type_of% hgb := rfl))) | fail)) | fail)) | refine yJ ?_ | ((with_reducible apply gJ_if); (first | (refine J_if xR ?_ ?_ <;> intro _ <;> (try (exfalso; first | contradiction | omega))) | (refine J_ifb xR ?_ ?_ <;> (intro hgb; subst hgb)) | (refine J_ifb xR ?_ ?_ <;> intro _) | fail)) | fail))
      exact J_ret1 rfl (by rfl) fun w H => ⟨_, ⟨none, 0, 0, ⟨true, nw, nw + 50, t0, t1⟩, [], [], ⟨h1.now, h1.t0, h1.t1⟩, .inr ⟨rfl, rfl, rfl, .inl ⟨rfl, rfl, rfl⟩⟩, trivial, rfl, rfl⟩, H.sel xZ⟩
  · (repeat' (first | ((with_reducible apply gL); (first | refine yL0 ?_ | refine yL ?_ | ((with_reducible apply gL_go); (first | (refine JL_goq (ka) (hφ := xF) (h := ?_); rintro _ _ ⟨rfl, rfl⟩; try simp only [List.cons_append, List.nil_append]; dsimp only [seC]) | fail)) | ((with_reducible apply gL_gd); (first | (refine JL_guard xR xR ?_ ?_ <;> intro _ <;> (try (exfalso; first | contradiction | omega))) | (refine JL_guardb xR xR ?_ ?_ <;> (intro hgb; subst hgb)) | (refine JL_guardb xR xR ?_ ?_ <;> (intro hgb; fail_if_success (have : type_of% hgb := rfl))) | fail)) | fail)) | refine yJ ?_ | ((with_reducible apply gJ_if); (first | (refine J_if xR ?_ ?_ <;> intro _ <;> (try (exfalso; first | contradiction | omega))) | (refine J_ifb xR ?_ ?_ <;> (intro hgb; subst hgb)) | (refine J_ifb xR ?_ ?_ <;> intro _) | fail)) | fail))
    exact J_ret1 rfl (by rfl) fun w H => ⟨_, ⟨none, 0, 0, ⟨true, nw, ag, t0, t1⟩, [], [], h1, .inl ⟨rfl, ⟨rfl, rfl, rfl, rfl⟩, rfl⟩, trivial, rfl, rfl⟩, H.sel xZ⟩
theorem obuildA_d : Pact Try.prog 16 #[.agg #[.int .u32 65001, .int .i64 90, .int .u32 1, .bool true, .bool true, .bool true, .bool (decide ((0 : Int) < 120)), .int .i64 120, .bool false, .bool false]] (fun _ => True) [] (fun u L' => ∃ a c, u = .tuple #[.slice a 34 c, .int .i64 0] ∧ L' = [Ar 5 1 byC (.slice a 34 c) bA5]) := by
  rw [decide_eq_true (by decide)]
  exact obuildA_s
def RGone0 (s s' : Qse) (ys : List (Int × Int × Int)) : Prop := s.t0.st = 0 ∧ Same s s' ∧ ys = [] ∨ s.t0.st ≠ 0 ∧ s'.on = s.on ∧ (s'.again = s.again ∨ s.t1.st = 0) ∧ s'.t0 = tr0 ∧ s'.t1 = s.t1 ∧ ys = dnL s.t0.st 0
def RFail0 (s s' : Qse) (ys : List (Int × Int × Int)) : Prop := s.t0.st < 3 ∧ Same s s' ∧ ys = [] ∨ 3 ≤ s.t0.st ∧ s'.on = s.on ∧ (s'.again = s.again ∨ s.t1.st = 0) ∧ s'.t0 = tr0 ∧ s'.t1 = s.t1 ∧ ys = failL s.t0.st 0
def RUp0 (s s' : Qse) (ys : List (Int × Int × Int)) : Prop := 3 ≤ s.t0.st ∧ Same s s' ∧ ys = [] ∨ s.t0.st < 3 ∧ (s.on = false ∨ (0 : Int) = 0 ∧ s.t0.st ≠ 1 ∨ s.t1.st = 5) ∧ s'.on = s.on ∧ s'.again = s.again ∧ s'.t0 = tr0 ∧ s'.t1 = s.t1 ∧ ys = [(2, 0, 0)] ∨ s.t0.st < 3 ∧ s.on = true ∧ ((0 : Int) = 0 → s.t0.st = 1) ∧ s.t1.st ≠ 5 ∧ s'.on = true ∧ s'.again = -1 ∧ s'.t0.st = 3 ∧ s'.t1 = s.t1 ∧ ys = [(3, 0, 1)]
theorem Up0_s (b : Nat) (q : Bool) (s : Qse) (hs : SeOk s) (now : Int) : Pact Try.prog 15 #[.pointer (some ⟨b, 0, none⟩), .int .i64 now, .int .i64 0] (fun _ => True) [pts b (seC q s (.slice none 0 0)) 52] (Did b q (RUp0 s)) := by
  refine pact Try.func15 rfl Try.ntmps15 rfl ?_
  intro W K _
  refine J_heap (fun w H => iniA H) ?_
  have h1 := atS_ok hs now
  obtain ⟨nw, hnw⟩ : ∃ nw, max s.now (min now 1099511627776) = nw := ⟨_, rfl⟩
  have ka := at_s b q s (.slice none 0 0) now
  simp only [atS, hnw] at ka h1
  clear hnw
  obtain ⟨on, nw0, ag, t0, t1⟩ := s
  dsimp only at ka h1
  have hnw := h1.now
  dsimp only at hnw
  have k2 := forget0_s b q ⟨on, nw, ag, t0, t1⟩ none 0 0 [] (by decide)
  by_cases h0 : 3 ≤ t0.st
  · (repeat' (first | ((with_reducible apply gL); (first | (with_reducible apply gL_app) | (with_reducible apply gL_app0) | refine yL0 ?_ | refine yL ?_ | ((with_reducible apply gL_go); (first | (refine JL_goq (track0_s b) (hφ := xF) (h := ?_); rintro _ _ ⟨rfl, rfl⟩; try simp only [List.cons_append, List.nil_append]) | (refine JL_goq (ka) (hφ := xF) (h := ?_); rintro _ _ ⟨rfl, rfl⟩; try simp only [List.cons_append, List.nil_append]; dsimp only [seC]) | fail)) | ((with_reducible apply gL_gd); (first | (refine JL_guard xR xR ?_ ?_ <;> intro _ <;> (try (exfalso; first | contradiction | omega))) | (refine JL_guardb xR xR ?_ ?_ <;> (intro hgb; subst hgb)) | (refine JL_guardb xR xR ?_ ?_ <;> (intro hgb; fail_if_success (have : type_of% hgb := rfl))) | fail)) | fail)) | ((with_reducible apply gD); (first | (refine JD_nil ?_; try simp only [List.cons_append, List.nil_append]) | (refine JD_bar ?_; try simp only [List.cons_append, List.nil_append]) | (with_reducible apply gD_app) | (with_reducible apply gD_app0) | refine yD ?_ | ((with_reducible apply gD_go); (first | (refine JD_goq (track0_s b) (hφ := xF) (h := ?_); rintro _ _ ⟨rfl, rfl⟩; try simp only [List.cons_append, List.nil_append]) | (refine JD_goq (ka) (hφ := xF) (h := ?_); rintro _ _ ⟨rfl, rfl⟩; try simp only [List.cons_append, List.nil_append]; dsimp only [seC]) | fail)) | fail)) | refine yJ ?_ | ((with_reducible apply gJ_if); (first | (refine J_if xR ?_ ?_ <;> intro _ <;> (try (exfalso; first | contradiction | omega))) | (refine J_ifb xR ?_ ?_ <;> (intro hgb; subst hgb)) | (refine J_ifb xR ?_ ?_ <;> intro _) | fail)) | refine J_draw (id := 7) [0, 1, 2, 3, 4, 5, 6, 7, 8, 9, 10, 11, 12, 13, 14, 15, 16, 17, 18, 19, 20, 21, 22, 23, 24, 25, 26] [27, 28, 29, 30, 31, 32] mixed xC xD xD ?_ | fail))
    all_goals (first | (exfalso; omega) | skip)
    exact J_ret1 rfl (by rfl) fun w H => ⟨_, ⟨none, 0, 0, ⟨on, nw, ag, t0, t1⟩, [], [], h1, .inl ⟨h0, ⟨rfl, rfl, rfl, rfl⟩, rfl⟩, trivial, rfl, rfl⟩, H.sel xZ⟩
  by_cases hc : on = false ∨ (0 : Int) = 0 ∧ t0.st ≠ 1 ∨ t1.st = 5
  · cases on
    · (repeat' (first | ((with_reducible apply gL); (first | (with_reducible apply gL_app) | (with_reducible apply gL_app0) | refine yL0 ?_ | refine yL ?_ | ((with_reducible apply gL_go); (first | (refine JL_goq (track0_s b) (hφ := xF) (h := ?_); rintro _ _ ⟨rfl, rfl⟩; try simp only [List.cons_append, List.nil_append]) | (refine JL_goq (ka) (hφ := xF) (h := ?_); rintro _ _ ⟨rfl, rfl⟩; try simp only [List.cons_append, List.nil_append]; dsimp only [seC]) | (refine JL_goq (k2) (hφ := xF) (h := ?_); rintro _ _ ⟨a3, n3, c3, z3, h3, rfl, rfl⟩; try simp only [List.cons_append, List.nil_append]; dsimp only [seC, List.nil_append]) | (refine JL_goq (done_s b q { (⟨false, nw, ag, t0, t1⟩ : Qse) with t0 := tr0 } a3 n3 c3) (hφ := xF) (h := ?_); rintro _ _ ⟨rfl, rfl⟩; try simp only [List.cons_append, List.nil_append]) | fail)) | ((with_reducible apply gL_gd); (first | (refine JL_guard xR xR ?_ ?_ <;> intro _ <;> (try (exfalso; first | contradiction | omega))) | (refine JL_guardb xR xR ?_ ?_ <;> (intro hgb; subst hgb)) | (refine JL_guardb xR xR ?_ ?_ <;> (intro hgb; fail_if_success (have : type_of% hgb := rfl))) | fail)) | fail)) | ((with_reducible apply gD); (first | (refine JD_nil ?_; try simp only [List.cons_append, List.nil_append]) | (refine JD_bar ?_; try simp only [List.cons_append, List.nil_append]) | (with_reducible apply gD_app) | (with_reducible apply gD_app0) | refine yD ?_ | ((with_reducible apply gD_go); (first | (refine JD_goq (track0_s b) (hφ := xF) (h := ?_); rintro _ _ ⟨rfl, rfl⟩; try simp only [List.cons_append, List.nil_append]) | (refine JD_goq (ka) (hφ := xF) (h := ?_); rintro _ _ ⟨rfl, rfl⟩; try simp only [List.cons_append, List.nil_append]; dsimp only [seC]) | (refine JD_goq (k2) (hφ := xF) (h := ?_); rintro _ _ ⟨a3, n3, c3, z3, h3, rfl, rfl⟩; try simp only [List.cons_append, List.nil_append]; dsimp only [seC, List.nil_append]) | (refine JD_goq (done_s b q { (⟨false, nw, ag, t0, t1⟩ : Qse) with t0 := tr0 } a3 n3 c3) (hφ := xF) (h := ?_); rintro _ _ ⟨rfl, rfl⟩; try simp only [List.cons_append, List.nil_append]) | fail)) | fail)) | refine yJ ?_ | ((with_reducible apply gJ_if); (first | (refine J_if xR ?_ ?_ <;> intro _ <;> (try (exfalso; first | contradiction | omega))) | (refine J_ifb xR ?_ ?_ <;> (intro hgb; subst hgb)) | (refine J_ifb xR ?_ ?_ <;> intro _) | fail)) | refine J_draw (id := 7) [0, 1, 2, 3, 4, 5, 6, 7, 8, 9, 10, 11, 12, 13, 14, 15, 16, 17, 18, 19, 20, 21, 22, 23, 24, 25, 26] [27, 28, 29, 30, 31, 32] mixed xC xD xD ?_ | fail))
      all_goals (first | (exfalso; omega) | skip)
      all_goals exact J_ret1 rfl (by rfl) fun w H => ⟨_, ⟨a3, n3, c3, { (⟨false, nw, ag, t0, t1⟩ : Qse) with t0 := tr0 }, _, [z3], SeOk.set0 (s := ⟨false, nw, ag, t0, t1⟩) ⟨h1.now, h1.t0, h1.t1⟩ _ tr0_ok, .inr (.inl ⟨Int.not_le.1 h0, hc, rfl, rfl, rfl, rfl, rfl⟩), h3, rfl, rfl⟩, H.sel xZ⟩
    · have hc2 : (0 : Int) = 0 ∧ t0.st ≠ 1 ∨ t1.st = 5 := hc.resolve_left (by decide)
      (repeat' (first | ((with_reducible apply gL); (first | (with_reducible apply gL_app) | (with_reducible apply gL_app0) | refine yL0 ?_ | refine yL ?_ | ((with_reducible apply gL_go); (first | (refine JL_goq (track0_s b) (hφ := xF) (h := ?_); rintro _ _ ⟨rfl, rfl⟩; try simp only [List.cons_append, List.nil_append]) | (refine JL_goq (ka) (hφ := xF) (h := ?_); rintro _ _ ⟨rfl, rfl⟩; try simp only [List.cons_append, List.nil_append]; dsimp only [seC]) | (refine JL_goq (k2) (hφ := xF) (h := ?_); rintro _ _ ⟨a3, n3, c3, z3, h3, rfl, rfl⟩; try simp only [List.cons_append, List.nil_append]; dsimp only [seC, List.nil_append]) | (refine JL_goq (done_s b q { (⟨true, nw, ag, t0, t1⟩ : Qse) with t0 := tr0 } a3 n3 c3) (hφ := xF) (h := ?_); rintro _ _ ⟨rfl, rfl⟩; try simp only [List.cons_append, List.nil_append]) | fail)) | ((with_reducible apply gL_gd); (first | (refine JL_guard xR xR ?_ ?_ <;> intro _ <;> (try (exfalso; first | contradiction | omega))) | (refine JL_guardb xR xR ?_ ?_ <;> (intro hgb; subst hgb)) | (refine JL_guardb xR xR ?_ ?_ <;> (intro hgb; fail_if_success (have : type_of% hgb := rfl))) | fail)) | fail)) | ((with_reducible apply gD); (first | (refine JD_nil ?_; try simp only [List.cons_append, List.nil_append]) | (refine JD_bar ?_; try simp only [List.cons_append, List.nil_append]) | (with_reducible apply gD_app) | (with_reducible apply gD_app0) | refine yD ?_ | ((with_reducible apply gD_go); (first | (refine JD_goq (track0_s b) (hφ := xF) (h := ?_); rintro _ _ ⟨rfl, rfl⟩; try simp only [List.cons_append, List.nil_append]) | (refine JD_goq (ka) (hφ := xF) (h := ?_); rintro _ _ ⟨rfl, rfl⟩; try simp only [List.cons_append, List.nil_append]; dsimp only [seC]) | (refine JD_goq (k2) (hφ := xF) (h := ?_); rintro _ _ ⟨a3, n3, c3, z3, h3, rfl, rfl⟩; try simp only [List.cons_append, List.nil_append]; dsimp only [seC, List.nil_append]) | (refine JD_goq (done_s b q { (⟨true, nw, ag, t0, t1⟩ : Qse) with t0 := tr0 } a3 n3 c3) (hφ := xF) (h := ?_); rintro _ _ ⟨rfl, rfl⟩; try simp only [List.cons_append, List.nil_append]) | fail)) | fail)) | refine yJ ?_ | ((with_reducible apply gJ_if); (first | (refine J_if xR ?_ ?_ <;> intro _ <;> (try (exfalso; first | contradiction | omega))) | (refine J_ifb xR ?_ ?_ <;> (intro hgb; subst hgb)) | (refine J_ifb xR ?_ ?_ <;> intro _) | fail)) | refine J_draw (id := 7) [0, 1, 2, 3, 4, 5, 6, 7, 8, 9, 10, 11, 12, 13, 14, 15, 16, 17, 18, 19, 20, 21, 22, 23, 24, 25, 26] [27, 28, 29, 30, 31, 32] mixed xC xD xD ?_ | fail))
      all_goals (first | (exfalso; omega) | skip)
      all_goals exact J_ret1 rfl (by rfl) fun w H => ⟨_, ⟨a3, n3, c3, { (⟨true, nw, ag, t0, t1⟩ : Qse) with t0 := tr0 }, _, [z3], SeOk.set0 (s := ⟨true, nw, ag, t0, t1⟩) ⟨h1.now, h1.t0, h1.t1⟩ _ tr0_ok, .inr (.inl ⟨Int.not_le.1 h0, hc, rfl, rfl, rfl, rfl, rfl⟩), h3, rfl, rfl⟩, H.sel xZ⟩
  · have ho : on = true := by cases on with | true => rfl | false => exact absurd (.inl rfl) hc
    have hk1 : (0 : Int) = 0 → t0.st = 1 := fun h => Decidable.byContradiction fun h2 => hc (.inr (.inl ⟨h, h2⟩))
    have hk2 : t1.st ≠ 5 := fun h => hc (.inr (.inr h))
    subst ho
    (repeat' (first | ((with_reducible apply gL); (first | (with_reducible apply gL_app) | (with_reducible apply gL_app0) | refine yL0 ?_ | refine yL ?_ | ((with_reducible apply gL_go); (first | (refine JL_goq (track0_s b) (hφ := xF) (h := ?_); rintro _ _ ⟨rfl, rfl⟩; try simp only [List.cons_append, List.nil_append]) | (refine JL_goq (ka) (hφ := xF) (h := ?_); rintro _ _ ⟨rfl, rfl⟩; try simp only [List.cons_append, List.nil_append]; dsimp only [seC]) | (refine JL_goq (obuildA_d) (hφ := xF) (h := ?_); rintro _ _ ⟨ba, bc, rfl, rfl⟩; try simp only [List.cons_append, List.nil_append]) | (refine JL_goq (say_s b q ⟨true, nw, ag, t0, t1⟩ none 0 0 [] (by decide) 0 1 ⟨1, 29, 4096⟩ (.inl rfl) rfl ba 34 bc bA5 rfl (by decide) (by decide)) (hφ := (by (try simp only [List.cons_append, List.nil_append]); exact fun w hr => srcN xA rfl w hr)) (h := ?_); rintro _ _ ⟨a3, n3, c3, z3, h3, rfl, rfl⟩; try simp only [List.cons_append, List.nil_append]; dsimp only [seC, List.nil_append]) | (refine JL_goq (done_s b q { (⟨true, nw, -1, t0, t1⟩ : Qse) with t0 := ⟨3, op0, 2400, 0, nw + 2400, -1⟩ } a3 n3 c3) (hφ := xF) (h := ?_); rintro _ _ ⟨rfl, rfl⟩; try simp only [List.cons_append, List.nil_append]) | fail)) | ((with_reducible apply gL_gd); (first | (refine JL_guard xR xR ?_ ?_ <;> intro _ <;> (try (exfalso; first | contradiction | omega))) | (refine JL_guardb xR xR ?_ ?_ <;> (intro hgb; subst hgb)) | (refine JL_guardb xR xR ?_ ?_ <;> (intro hgb; fail_if_success (have : type_of% hgb := rfl))) | fail)) | fail)) | ((with_reducible apply gD); (first | (refine JD_nil ?_; try simp only [List.cons_append, List.nil_append]) | (refine JD_bar ?_; try simp only [List.cons_append, List.nil_append]) | (with_reducible apply gD_app) | (with_reducible apply gD_app0) | refine yD ?_ | ((with_reducible apply gD_go); (first | (refine JD_goq (track0_s b) (hφ := xF) (h := ?_); rintro _ _ ⟨rfl, rfl⟩; try simp only [List.cons_append, List.nil_append]) | (refine JD_goq (ka) (hφ := xF) (h := ?_); rintro _ _ ⟨rfl, rfl⟩; try simp only [List.cons_append, List.nil_append]; dsimp only [seC]) | (refine JD_goq (obuildA_d) (hφ := xF) (h := ?_); rintro _ _ ⟨ba, bc, rfl, rfl⟩; try simp only [List.cons_append, List.nil_append]) | (refine JD_goq (say_s b q ⟨true, nw, ag, t0, t1⟩ none 0 0 [] (by decide) 0 1 ⟨1, 29, 4096⟩ (.inl rfl) rfl ba 34 bc bA5 rfl (by decide) (by decide)) (hφ := (by (try simp only [List.cons_append, List.nil_append]); exact fun w hr => srcN xA rfl w hr)) (h := ?_); rintro _ _ ⟨a3, n3, c3, z3, h3, rfl, rfl⟩; try simp only [List.cons_append, List.nil_append]; dsimp only [seC, List.nil_append]) | (refine JD_goq (done_s b q { (⟨true, nw, -1, t0, t1⟩ : Qse) with t0 := ⟨3, op0, 2400, 0, nw + 2400, -1⟩ } a3 n3 c3) (hφ := xF) (h := ?_); rintro _ _ ⟨rfl, rfl⟩; try simp only [List.cons_append, List.nil_append]) | fail)) | fail)) | refine yJ ?_ | ((with_reducible apply gJ_if); (first | (refine J_if xR ?_ ?_ <;> intro _ <;> (try (exfalso; first | contradiction | omega))) | (refine J_ifb xR ?_ ?_ <;> (intro hgb; subst hgb)) | (refine J_ifb xR ?_ ?_ <;> intro _) | fail)) | refine J_draw (id := 7) [0, 1, 2, 3, 4, 5, 6, 7, 8, 9, 10, 11, 12, 13, 14, 15, 16, 17, 18, 19, 20, 21, 22, 23, 24, 25, 26] [27, 28, 29, 30, 31, 32] mixed xC xD xD ?_ | fail))
    all_goals (first | (exfalso; omega) | skip)
    exact J_ret1 rfl (by rfl) fun w H => ⟨_, ⟨a3, n3, c3, { (⟨true, nw, -1, t0, t1⟩ : Qse) with t0 := ⟨3, op0, 2400, 0, nw + 2400, -1⟩ }, [(3, 0, 1)], [z3], SeOk.set0 (s := ⟨true, nw, -1, t0, t1⟩) ⟨h1.now, h1.t0, h1.t1⟩ _ (tr3_ok _), .inr (.inr ⟨Int.not_le.1 h0, rfl, hk1, hk2, rfl, rfl, rfl, rfl, rfl⟩), h3, rfl, rfl⟩, H.sel xZ⟩
def RGone1 (s s' : Qse) (ys : List (Int × Int × Int)) : Prop := s.t1.st = 0 ∧ Same s s' ∧ ys = [] ∨ s.t1.st ≠ 0 ∧ s'.on = s.on ∧ (s'.again = s.again ∨ s.t0.st = 0) ∧ s'.t1 = tr0 ∧ s'.t0 = s.t0 ∧ ys = dnL s.t1.st 1
def RFail1 (s s' : Qse) (ys : List (Int × Int × Int)) : Prop := s.t1.st < 3 ∧ Same s s' ∧ ys = [] ∨ 3 ≤ s.t1.st ∧ s'.on = s.on ∧ (s'.again = s.again ∨ s.t0.st = 0) ∧ s'.t1 = tr0 ∧ s'.t0 = s.t0 ∧ ys = failL s.t1.st 1
def RUp1 (s s' : Qse) (ys : List (Int × Int × Int)) : Prop := 3 ≤ s.t1.st ∧ Same s s' ∧ ys = [] ∨ s.t1.st < 3 ∧ (s.on = false ∨ (1 : Int) = 0 ∧ s.t1.st ≠ 1 ∨ s.t0.st = 5) ∧ s'.on = s.on ∧ s'.again = s.again ∧ s'.t1 = tr0 ∧ s'.t0 = s.t0 ∧ ys = [(2, 1, 0)] ∨ s.t1.st < 3 ∧ s.on = true ∧ ((1 : Int) = 0 → s.t1.st = 1) ∧ s.t0.st ≠ 5 ∧ s'.on = true ∧ s'.again = -1 ∧ s'.t1.st = 3 ∧ s'.t0 = s.t0 ∧ ys = [(3, 1, 1)]
end Go.Proofs.Ytfonbpmdbpdncaa
namespace Go.Pm
set_option linter.unusedSimpArgs false
set_option linter.unusedVariables false
open Go.RowKit
section
variable {P : Program} {n : Nat} {W : World} {K : Hl} {k : List It} {tm : TM} {L R R' : List HP} {fn : Func} {Rr : Value → List HP → Prop}
theorem J_retCC {t u s : Tmp} {x : Value} {ty T ty' T' : TypeId} {b b' : Nat} {cs cs' : List Value} (hr : fn.results = #[.cell t ty, .cell u ty', .tmp s]) (hv : evT tm (.tmp t) = some (.pointer (some ⟨b, 0, none⟩))) (hu : evT tm (.tmp u) = some (.pointer (some ⟨b', 0, none⟩))) (hs : evT tm (.tmp s) = some x) (hm : Tk L (pts b cs T) R) (hm' : Tk L (pts b' cs' T') R') (ht : rowTy P ty cs.length = true) (ht' : rowTy P ty' cs'.length = true) (hk : ∀ w, Ow W K L w → ∃ L', Rr (.tuple #[.agg cs.toArray, .agg cs'.toArray, x]) L' ∧ Ow W K L' w) (hd : decM (tget tm mkK) = [] := by rfl) : J P n W K (fpost P fn W K Rr) (.code .ret :: k) tm L := J_outR hd fun a w hf hO => by
  refine ⟨L, hO, fun w' H => ?_⟩
  obtain ⟨L', h1, h2⟩ := hk w' H
  exact ⟨_, by simp [results, hr, hf.get? hv, hf.get? hu, hf.get? hs, run_cellR H hm ht, run_cellR H hm' ht', Array.getD_eq_getD_getElem?, asAddr], L', h1, h2⟩
end
section
variable {P : Program} {n : Nat} {W : World} {K : Hl} {L : List HP} {T : TypeId} {pos : String} {af : Array Edge} {gd : Option (Nat × Bool)} {d : Option Tmp} {tm : TM}
theorem pe_indexR {t : TypeId} {x i : Operand} {cs : List Value} {m j sz : Nat} {kk : IntKind} {z : Int} {v : Value} (hx : evT tm x = some (.agg cs.toArray)) (hi : evT tm i = some (.int kk z)) (ht : arrInfo P t = some (m, sz, true)) (hz : z = (j : Int)) (hj : j < m) (hv : Value.agg (cs.toArray.extract (j * sz) (j * sz + sz)) = v) : PE P K L ⟨d, .index t x i, T, pos, af, gd⟩ (tget tm) v := fun ρ w ha _ => by
  have h1 := ha x (by simp [Op.operands]) _ hx
  have h2 := ha i (by simp [Op.operands]) _ hi
  obtain ⟨e, inf, de, hu, hin, hsz, hd, hr⟩ := arrInfo_spec ht
  subst hz hv
  unfold execOp
  simp only [h1, h2]
  have h3 : (0 : Int) ≤ (j : Int) ∧ (j : Int) < (m : Int) := by omega
  simp [Instr.index, Sem.run_bind, run_underlying hu, asIntOf, h3, hj, run_sz hin, hsz, part, run_agg hd, hr]
end
theorem J_jmp {P : Program} {n : Nat} {W : World} {K : Hl} {F : Fp} {k : List It} {tm : TM} {L : List HP} {l : Nat} {H : Act → World → Prop} (h : J P n W K F k tm L) : J P n W K F (.jmp l H :: k) tm L := .mk fun a w hf hO => by
  have := h a w hf hO
  simpa only [runK, Exit.jump] using this
end Go.Pm
namespace Go.Proofs.Ytfonbpmdbpdncaa
set_option linter.unusedSimpArgs false
set_option linter.unusedVariables false
set_option maxRecDepth 20000
set_option maxHeartbeats 4000000
open Go.RowKit Go.Pm

abbrev arr30 (x y : Qtr) : Value := .agg #[.int .i64 x.st, .int .u32 x.p.as_, .int .i64 x.p.hold, .int .u32 x.p.id, .bool x.p.multi, .bool x.p.four, .bool x.p.refresh, .bool x.p.graceful, .int .i64 x.p.time, .bool x.p.restarts, .bool x.p.keeps, .int .i64 x.hold, .int .i64 x.keep, .int .i64 x.heard, .int .i64 x.spoke, .int .i64 y.st, .int .u32 y.p.as_, .int .i64 y.p.hold, .int .u32 y.p.id, .bool y.p.multi, .bool y.p.four, .bool y.p.refresh, .bool y.p.graceful, .int .i64 y.p.time, .bool y.p.restarts, .bool y.p.keeps, .int .i64 y.hold, .int .i64 y.keep, .int .i64 y.heard, .int .i64 y.spoke]
def nK (x y : Qtr) : Nat → Int
  | 0 => 2
  | 1 => max 2 x.st
  | _ => max (max 2 x.st) y.st
def stV (s : Qse) : Int := if s.on = true then (if max (max 2 s.t0.st) s.t1.st = 2 ∧ s.t0.st = 1 then 1 else max (max 2 s.t0.st) s.t1.st) else 0
theorem State_s (b : Nat) (q : Bool) (s : Qse) (v : Value) : Pact Try.prog 10 #[.pointer (some ⟨b, 0, none⟩)] (fun _ => True) [pts b (seC q s v) 52] (fun u L' => u = .int .i64 (stV s) ∧ L' = [pts b (seC q s v) 52]) := by
  refine pact Try.func10 rfl Try.ntmps10 rfl ?_
  intro W K _
  by_cases ho : s.on = true
  · unfold stV
    rw [if_pos ho]
    obtain ⟨on, nw, ag, t0, t1⟩ := s
    dsimp only at ho
    subst ho
    dsimp only [seC]
    (repeat' (first | ((with_reducible apply gL); (first | refine yL0 ?_ | refine yL ?_ | (refine yM ?_; intro _) | ((with_reducible apply gL_gd); (first | (refine JL_guard xR xR ?_ ?_ <;> intro _ <;> (try (exfalso; first | contradiction | omega))) | (refine JL_guardb xR xR ?_ ?_ <;> (intro hgb; subst hgb)) | (refine JL_guardb xR xR ?_ ?_ <;> (intro hgb; fail_if_success (have : type_of% hgb := rfl))) | fail)) | fail)) | refine yJ ?_ | ((with_reducible apply gJ_if); (first | (refine J_if xR ?_ ?_ <;> intro _ <;> (try (exfalso; first | contradiction | omega))) | (refine J_ifb xR ?_ ?_ <;> (intro hgb; subst hgb)) | (refine J_ifb xR ?_ ?_ <;> intro _) | fail)) | fail))
    refine J_loop (α := Nat) 0 (fun k => 2 - k) (fun k => k ≤ 2) (fun k => [(0, .pointer (some ⟨b, 0, none⟩)), (3, .int .i64 (nK t0 t1 k)), (18, arr30 t0 t1), (19, .int .i64 k)]) (fun _ => [pts b (seC q ⟨true, nw, ag, t0, t1⟩ v) 52]) (by decide) ⟨rfl, rfl, rfl, rfl, trivial⟩ (fun w H => H.sel xZ) ?_
    intro k hk
    dsimp only [arr30, seC]
    obtain rfl | rfl | rfl : k = 0 ∨ k = 1 ∨ k = 2 := by omega
    · (repeat' (first | ((with_reducible apply gL); (first | refine yL0 ?_ | ((with_reducible apply gL_index); (first | (refine JL_p rfl xR xR (pe_indexR (m := 2) (sz := 15) (j := 0) (v := .agg (trC t0).toArray) xR xR xC rfl (by omega) rfl) ?_) | fail)) | refine yL ?_ | (refine yM ?_; intro _) | ((with_reducible apply gL_gd); (first | (refine JL_guard xR xR ?_ ?_ <;> intro _ <;> (try (exfalso; first | contradiction | omega))) | (refine JL_guardb xR xR ?_ ?_ <;> (intro hgb; subst hgb)) | (refine JL_guardb xR xR ?_ ?_ <;> (intro hgb; fail_if_success (have : type_of% hgb := rfl))) | fail)) | fail)) | refine yJ ?_ | ((with_reducible apply gJ_if); (first | (refine J_if xR ?_ ?_ <;> intro _ <;> (try (exfalso; first | contradiction | omega))) | (refine J_ifb xR ?_ ?_ <;> (intro hgb; subst hgb)) | (refine J_ifb xR ?_ ?_ <;> intro _) | fail)) | fail))
      exact J_again 1 (by decide) (by decide) ⟨rfl, rfl, rfl, rfl, trivial⟩ (fun w H => H.sel xZ)
    · (repeat' (first | ((with_reducible apply gL); (first | refine yL0 ?_ | ((with_reducible apply gL_index); (first | (refine JL_p rfl xR xR (pe_indexR (m := 2) (sz := 15) (j := 1) (v := .agg (trC t1).toArray) xR xR xC rfl (by omega) rfl) ?_) | fail)) | refine yL ?_ | (refine yM ?_; intro _) | ((with_reducible apply gL_gd); (first | (refine JL_guard xR xR ?_ ?_ <;> intro _ <;> (try (exfalso; first | contradiction | omega))) | (refine JL_guardb xR xR ?_ ?_ <;> (intro hgb; subst hgb)) | (refine JL_guardb xR xR ?_ ?_ <;> (intro hgb; fail_if_success (have : type_of% hgb := rfl))) | fail)) | fail)) | refine yJ ?_ | ((with_reducible apply gJ_if); (first | (refine J_if xR ?_ ?_ <;> intro _ <;> (try (exfalso; first | contradiction | omega))) | (refine J_ifb xR ?_ ?_ <;> (intro hgb; subst hgb)) | (refine J_ifb xR ?_ ?_ <;> intro _) | fail)) | fail))
      exact J_again 2 (by decide) (by decide) ⟨rfl, rfl, rfl, rfl, trivial⟩ (fun w H => H.sel xZ)
    · rw [show nK t0 t1 2 = max (max 2 t0.st) t1.st from rfl]
      generalize max (max 2 t0.st) t1.st = M
      (repeat' (first | ((with_reducible apply gL); (first | refine yL0 ?_ | refine yL ?_ | (refine yM ?_; intro _) | ((with_reducible apply gL_gd); (first | (refine JL_guard xR xR ?_ ?_ <;> intro _ <;> (try (exfalso; first | contradiction | omega))) | (refine JL_guardb xR xR ?_ ?_ <;> (intro hgb; subst hgb)) | (refine JL_guardb xR xR ?_ ?_ <;> (intro hgb; fail_if_success (have : type_of% hgb := rfl))) | fail)) | fail)) | refine yJ ?_ | ((with_reducible apply gJ_if); (first | (refine J_if xR ?_ ?_ <;> intro _ <;> (try (exfalso; first | contradiction | omega))) | (refine J_ifb xR ?_ ?_ <;> (intro hgb; subst hgb)) | (refine J_ifb xR ?_ ?_ <;> intro _) | fail)) | fail))
      all_goals (first | (exfalso; omega) | skip)
      all_goals (first
        | exact J_ret1 rfl (by rfl) fun w H => ⟨_, ⟨(by first | (rw [if_pos (by first | (omega; done) | fail)]; done) | fail), rfl⟩, H.sel xZ⟩
        | exact J_ret1 rfl (by rfl) fun w H => ⟨_, ⟨(by first | (rw [if_neg (by first | (omega; done) | fail)]; done) | fail), rfl⟩, H.sel xZ⟩
        | fail)
  · unfold stV
    rw [if_neg ho]
    obtain ⟨on, nw, ag, t0, t1⟩ := s
    have ho : on = false := by simpa using ho
    subst ho
    dsimp only [seC]
    (repeat' (first | ((with_reducible apply gL); (first | refine yL0 ?_ | refine yL ?_ | (refine yM ?_; intro _) | ((with_reducible apply gL_gd); (first | (refine JL_guard xR xR ?_ ?_ <;> intro _ <;> (try (exfalso; first | contradiction | omega))) | (refine JL_guardb xR xR ?_ ?_ <;> (intro hgb; subst hgb)) | (refine JL_guardb xR xR ?_ ?_ <;> (intro hgb; fail_if_success (have : type_of% hgb := rfl))) | fail)) | fail)) | refine yJ ?_ | ((with_reducible apply gJ_if); (first | (refine J_if xR ?_ ?_ <;> intro _ <;> (try (exfalso; first | contradiction | omega))) | (refine J_ifb xR ?_ ?_ <;> (intro hgb; subst hgb)) | (refine J_ifb xR ?_ ?_ <;> intro _) | fail)) | fail))
    exact J_ret1 rfl (by rfl) fun w H => ⟨_, ⟨rfl, rfl⟩, H.sel xZ⟩
def stopL (st k : Int) : List (Int × Int × Int) := if 3 ≤ st then failL st k else if st = 1 then [(2, k, 0)] else []
def stopT (t : Qtr) : Qtr := if 3 ≤ t.st ∨ t.st = 1 then tr0 else t
theorem stopT_p {t : Qtr} (h : 3 ≤ t.st ∨ t.st = 1) : tr0 = stopT t := (if_pos h).symm
theorem stopT_n {t : Qtr} (h : ¬ (3 ≤ t.st ∨ t.st = 1)) : t = stopT t := (if_neg h).symm
theorem stopL_f {st k : Int} (h : 3 ≤ st) : stopL st k = failL st k := if_pos h
theorem stopL_g {st k : Int} (h : st = 1) : stopL st k = [(2, k, 0)] := by unfold stopL; rw [if_neg (by omega), if_pos h]
theorem stopL_n {st k : Int} (h : ¬ (3 ≤ st ∨ st = 1)) : stopL st k = [] := by unfold stopL; rw [if_neg (by omega), if_neg (by omega)]
def RStop (s s' : Qse) (ys : List (Int × Int × Int)) : Prop := s'.on = false ∧ s'.again = -1 ∧ s'.t0 = stopT s.t0 ∧ s'.t1 = stopT s.t1 ∧ ys = stopL s.t0.st 0 ++ stopL s.t1.st 1
structure Qlp where
  k : Nat
  s : Qse
  a : Option Addr
  n : Nat
  c : Nat
  zs : List Ac
end Go.Proofs.Ytfonbpmdbpdncaa
namespace Go.Proofs.Ytfonbpmdbpdncaa
set_option linter.unusedSimpArgs false
set_option linter.unusedVariables false
set_option maxRecDepth 20000
set_option maxHeartbeats 4000000
open Go.RowKit Go.Pm

def RT0 (s s' : Qse) (ys : List (Int × Int × Int)) : Prop := Same s s' ∧ ys = [] ∨ 3 ≤ s.t0.st ∧ s'.on = s.on ∧ (s'.again = s.again ∨ s.t1.st = 0) ∧ s'.t0 = tr0 ∧ s'.t1 = s.t1 ∧ ys = failL s.t0.st 0 ∨ 3 ≤ s.t0.st ∧ s'.on = s.on ∧ s'.again = s.again ∧ s'.t0.st = s.t0.st ∧ s'.t1 = s.t1 ∧ ys = [(3, 0, 4)]
def RT1 (s s' : Qse) (ys : List (Int × Int × Int)) : Prop := Same s s' ∧ ys = [] ∨ 3 ≤ s.t1.st ∧ s'.on = s.on ∧ (s'.again = s.again ∨ s.t0.st = 0) ∧ s'.t1 = tr0 ∧ s'.t0 = s.t0 ∧ ys = failL s.t1.st 1 ∨ 3 ≤ s.t1.st ∧ s'.on = s.on ∧ s'.again = s.again ∧ s'.t1.st = s.t1.st ∧ s'.t0 = s.t0 ∧ ys = [(3, 1, 4)]
def RD (q : Bool) (s s' : Qse) (ys : List (Int × Int × Int)) : Prop := Same s s' ∧ ys = [] ∨ s.on = true ∧ s.again ≠ -1 ∧ s'.on = true ∧ s'.t1 = s.t1 ∧ (q = false ∧ s'.t0.st = 1 ∧ (s.t0.st = 1 ∧ ys = [(2, 0, 0), (1, 0, 0)] ∨ s.t0.st ≠ 1 ∧ ys = [(1, 0, 0)]) ∨ q = true ∧ (s.t0.st = 1 ∧ s'.t0 = tr0 ∧ ys = [(2, 0, 0)] ∨ s.t0.st ≠ 1 ∧ s'.t0 = s.t0 ∧ ys = []))
def RTick (q : Bool) (s s' : Qse) (ys : List (Int × Int × Int)) : Prop := ∃ s1 s2 y0 y1 y2, RT0 s s1 y0 ∧ RT1 s1 s2 y1 ∧ RD q s2 s' y2 ∧ ys = (y0 ++ y1) ++ y2
end Go.Proofs.Ytfonbpmdbpdncaa
