/-
  Cq3: merged.
-/
import Derived.Test.YtdnokmpnemaoaaaGreatZViewChooses17
namespace Go.Proofs.YtdnokmpnemaoaaaGreat.C
set_option linter.unusedSimpArgs false
set_option linter.unusedVariables false
set_option maxRecDepth 20000
set_option maxHeartbeats 4000000
open Go.RowKit Go.Pm

structure Sp where
  op : Int
  n : Int
  m : Int
  a : Int
  l : Int
  x : Int
  y : Int
deriving DecidableEq
abbrev spC (s : Sp) : List Value := [.int .i64 s.op, .int .i64 s.n, .int .i64 s.m, .int .u32 s.a, .int .i64 s.l, .int .i64 s.x, .int .i64 s.y]
structure SpN (s : Sp) : Prop where
  op : I64 s.op
  n : I64 s.n
  m : I64 s.m
  a : U32 s.a
  l : I64 s.l
  x : I64 s.x
  y : I64 s.y
def StepOk (s : Sp) (k n : Int) : Prop :=
  ((4 ≤ s.op ∧ s.op ≤ 12) ∧ TestOk s.op s.n (s.a, s.l) ∧ s.m = 0 ∧ (k < s.x ∧ s.x < n) ∧ (k < s.y ∧ s.y < n)) ∨
  (s.op = 21 ∧ s.n = 0 ∧ s.m = 0 ∧ (s.a = 0 ∧ s.l = 0) ∧ (k < s.x ∧ s.x < n) ∧ s.y = 0) ∨
  ((s.op = 22 ∨ s.op = 23) ∧ ActOk (s.op - 20) s.n s.m ∧ (s.a = 0 ∧ s.l = 0) ∧ s.x = 0 ∧ s.y = 0) ∨
  ((24 ≤ s.op ∧ s.op ≤ 29) ∧ ActOk (s.op - 20) s.n s.m ∧ (s.a = 0 ∧ s.l = 0) ∧ (k < s.x ∧ s.x < n) ∧ s.y = 0)
instance (s : Sp) (k n : Int) : Decidable (StepOk s k n) := inferInstanceAs (Decidable (_ ∨ _ ∨ _ ∨ _))
theorem test_b (op n : Int) (p : Pf) (hp : PfN p) (b : Bool) (hb : decide (TestOk op n p) = b) : Pact Tryz.prog 150 #[.int .i64 op, .int .i64 n, .agg (pfC p).toArray] (fun _ => True) [] (ret0 (.bool b)) := hb ▸ test_s op n p hp
theorem rtest_b (op n : Int) (p : Pf) (hp : PfN p) (b : Bool) (hb : decide (TestOk op n p) = b) : Pact Tryz.prog 56 #[.int .i64 op, .int .i64 n, .agg (pfC p).toArray] (fun _ => True) [] (ret0 (.bool b)) := hb ▸ rtest_s op n p hp
theorem act_b (op n m : Int) (b : Bool) (hb : decide (ActOk op n m) = b) : Pact Tryz.prog 151 #[.int .i64 op, .int .i64 n, .int .i64 m] (fun _ => True) [] (ret0 (.bool b)) := hb ▸ act_s op n m
theorem ract_b (op n m : Int) (b : Bool) (hb : decide (ActOk op n m) = b) : Pact Tryz.prog 58 #[.int .i64 op, .int .i64 n, .int .i64 m] (fun _ => True) [] (ret0 (.bool b)) := hb ▸ ract_s op n m
theorem step1_s (kb nb : Nat) (t k n : Int) : Pact Tryz.prog 149 #[.int .i64 t, .pointer (some ⟨kb, 0, none⟩), .pointer (some ⟨nb, 0, none⟩)] (fun _ => True) [pts kb [.int .i64 k] 3, pts nb [.int .i64 n] 3] (fun u L' => u = .bool (decide (k < t ∧ t < n)) ∧ L' = [pts kb [.int .i64 k] 3, pts nb [.int .i64 n] 3]) := by
  refine pact Tryz.func149 rfl Tryz.ntmps149 rfl ?_
  intro W K _
  (repeat' (first | (refine gL ?_; first | refine yL0 ?_ | refine yL ?_) | refine yJ ?_ | (refine yI ?_ ?_ <;> intro _ <;> try exact xX) | (refine yK ?_ ?_ <;> intro hgb <;> first | subst hgb | fail_if_success have : type_of% hgb := rfl) | fail))
  all_goals (refine J_ret1 rfl (by rfl) fun w H => ⟨_, ⟨?_, rfl⟩, H.sel xZ⟩; refine congrArg Value.bool ?_; rw [Bool.eq_iff_iff]; simp only [decide_eq_true_eq, true_iff, Bool.false_eq_true, false_iff]; omega)
theorem i64_sub20 (z : Int) (h : I64 z) : IntKind.i64.wrap (z - 20) = z - 20 ∨ (z < -9223372036854775788 ∧ 9223372036854775787 < IntKind.i64.wrap (z - 20)) := by
  unfold I64 at h
  by_cases h2 : -9223372036854775788 ≤ z
  · left; rw [w_i64 (by omega) (by omega)]
  · right
    refine ⟨by omega, ?_⟩
    unfold IntKind.wrap
    simp only [IntKind.bits, IntKind.signed, Bool.true_and, decide_eq_true_eq, show (64 - 1 : Nat) = 63 from rfl, show ((2 : Int) ^ 64) = 18446744073709551616 from rfl, show ((2 : Int) ^ 63) = 9223372036854775808 from rfl]
    split <;> omega
theorem step_s (s : Sp) (k n : Int) (hs : SpN s) : Pact Tryz.prog 119 #[.agg (spC s).toArray, .int .i64 k, .int .i64 n] (fun _ => True) [] (ret0 (.bool (decide (StepOk s k n)))) := by
  refine pact Tryz.func119 rfl Tryz.ntmps119 rfl ?_
  intro W K _
  have hp : PfN (s.a, s.l) := ⟨hs.a, hs.l⟩
  have hq2 := i64_sub20 s.op hs.op
  obtain ⟨q, hq⟩ : ∃ q, IntKind.i64.wrap (s.op - 20) = q := ⟨_, rfl⟩
  rw [hq] at hq2
  have hA : ∀ b, decide (ActOk q s.n s.m) = b → (b = true ↔ q = s.op - 20 ∧ ActOk (s.op - 20) s.n s.m) := by
    intro b hb
    rw [← hb, decide_eq_true_eq]
    rcases hq2 with h | h
    · rw [h]; simp
    · unfold ActOk; omega
  have hrange : ActOk (s.op - 20) s.n s.m → 22 ≤ s.op ∧ s.op ≤ 29 := by unfold ActOk; omega
  rcases hbt : decide (TestOk s.op s.n (s.a, s.l)) with _ | _
  all_goals rcases hba : decide (ActOk q s.n s.m) with _ | _
  all_goals have hA := hA _ hba
  all_goals (have ht := hbt; simp only [decide_eq_true_eq, decide_eq_false_iff_not] at ht)
  all_goals (
    (repeat' (first | (refine gL ?_; first | refine yL0 ?_ | (refine gL_bin_sub ?_; (refine L_bin_sub_r ?_; rw [hq])) | refine yL ?_ | (refine gL_go ?_; first | (refine JL_goq (test_b s.op s.n (s.a, s.l) hp _ hbt) (hφ := xF) (h := ?_); rintro _ _ ⟨rfl, rfl⟩; try simp only [cAp, nAp]) | (refine JL_goq (act_b q s.n s.m _ hba) (hφ := xF) (h := ?_); rintro _ _ ⟨rfl, rfl⟩; try simp only [cAp, nAp]) | (refine JL_goq (step1_s _ _ s.x k n) (hφ := xF) (h := ?_); rintro _ _ ⟨rfl, rfl⟩; try simp only [cAp, nAp]) | (refine JL_goq (step1_s _ _ s.y k n) (hφ := xF) (h := ?_); rintro _ _ ⟨rfl, rfl⟩; try simp only [cAp, nAp])) | (refine yM ?_; intro _)) | refine yJ ?_ | (refine yI ?_ ?_ <;> intro _ <;> try exact xX) | (refine yK ?_ ?_ <;> intro hgb <;> first | subst hgb | fail_if_success have : type_of% hgb := rfl) | fail)))
  all_goals (refine J_ret1 rfl (by rfl) fun w H => ⟨_, ⟨?_, rfl⟩, H.sel .nil⟩; refine congrArg Value.bool ?_; rw [Bool.eq_iff_iff]; simp only [decide_eq_true_eq, true_iff, Bool.false_eq_true, false_iff]; unfold StepOk; simp only [ht, true_and, false_and, and_false, false_or, Bool.false_eq_true, true_iff, false_iff] at hA ⊢)
  all_goals (rcases Classical.em (ActOk (s.op - 20) s.n s.m) with hw | hw)
  all_goals (first | (have hr := hrange hw; (try simp only [hw, and_true, and_false, true_and, false_and, or_false, false_or, iff_false, iff_true, not_true_eq_false, not_false_eq_true] at hA ⊢) <;> omega) | ((try simp only [hw, and_true, and_false, true_and, false_and, or_false, false_or, iff_false, iff_true, not_true_eq_false, not_false_eq_true] at hA ⊢) <;> omega))
end Go.Proofs.YtdnokmpnemaoaaaGreat.C
