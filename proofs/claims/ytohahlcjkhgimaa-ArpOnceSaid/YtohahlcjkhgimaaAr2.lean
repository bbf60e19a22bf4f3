/-
  The library's sort, met by the shelf's contract at this program's numbers; all addresses, in order.
-/
import Derived.Test.YtohahlcjkhgimaaAr1
namespace Go.Proofs.Ytohahlcjkhgimaa
set_option linter.unusedSimpArgs false
set_option linter.unusedVariables false
open Go.RowKit Go.Pm Go.Sort Go.Shelf

def sortLays_ren : Go.Shelf.Ren := ⟨fun | 6 => 41 | 15 => 48 | 14 => 47 | 28 => 59 | 29 => 60 | 20 => 51 | 21 => 52 | 22 => 53 | 23 => 54 | 24 => 55 | 25 => 56 | 26 => 57 | 27 => 58 | 46 => 61 | 47 => 62 | 48 => 63 | 49 => 64 | 50 => 65 | 57 => 66 | n => n, fun | 22 => 75 | 24 => 24 | 25 => 93 | 3 => 3 | 39 => 95 | 0 => 0 | 53 => 23 | 55 => 72 | 4 => 4 | 46 => 102 | 45 => 101 | 50 => 106 | 5 => 5 | 9 => 9 | 66 => 110 | 70 => 114 | 76 => 116 | 77 => 117 | n => n, fun | n => n⟩
theorem sortLays : Go.Proofs.SlLaysF.n6 Try.prog sortLays_ren := {
  mixed := by kernel_rfl
  f6 := ⟨ "slices.SortFunc[[]pointsman/api.Addr,pointsman/api.Addr]", by decide, Try.func41.trans (congrArg some (by kernel_rfl))⟩
  f14 := ⟨ "slices.pdqsortCmpFunc[pointsman/api.Addr]", by decide, Try.func47.trans (congrArg some (by kernel_rfl))⟩
  f15 := Try.func48.trans (congrArg some (by kernel_rfl))
  f20 := ⟨ "slices.insertionSortCmpFunc[pointsman/api.Addr]", by decide, Try.func51.trans (congrArg some (by kernel_rfl))⟩
  f21 := ⟨ "slices.heapSortCmpFunc[pointsman/api.Addr]", by decide, Try.func52.trans (congrArg some (by kernel_rfl))⟩
  f22 := ⟨ "slices.breakPatternsCmpFunc[pointsman/api.Addr]", by decide, Try.func53.trans (congrArg some (by kernel_rfl))⟩
  f23 := ⟨ "slices.choosePivotCmpFunc[pointsman/api.Addr]", by decide, Try.func54.trans (congrArg some (by kernel_rfl))⟩
  f24 := ⟨ "slices.reverseRangeCmpFunc[pointsman/api.Addr]", by decide, Try.func55.trans (congrArg some (by kernel_rfl))⟩
  f25 := ⟨ "slices.partialInsertionSortCmpFunc[pointsman/api.Addr]", by decide, Try.func56.trans (congrArg some (by kernel_rfl))⟩
  f26 := ⟨ "slices.partitionEqualCmpFunc[pointsman/api.Addr]", by decide, Try.func57.trans (congrArg some (by kernel_rfl))⟩
  f27 := ⟨ "slices.partitionCmpFunc[pointsman/api.Addr]", by decide, Try.func58.trans (congrArg some (by kernel_rfl))⟩
  f28 := Try.func59.trans (congrArg some (by kernel_rfl))
  f29 := Try.func60.trans (congrArg some (by kernel_rfl))
  f46 := ⟨ "slices.siftDownCmpFunc[pointsman/api.Addr]", by decide, Try.func61.trans (congrArg some (by kernel_rfl))⟩
  f47 := Try.func62.trans (congrArg some (by kernel_rfl))
  f48 := Try.func63.trans (congrArg some (by kernel_rfl))
  f49 := ⟨ "slices.medianAdjacentCmpFunc[pointsman/api.Addr]", by decide, Try.func64.trans (congrArg some (by kernel_rfl))⟩
  f50 := ⟨ "slices.medianCmpFunc[pointsman/api.Addr]", by decide, Try.func65.trans (congrArg some (by kernel_rfl))⟩
  f57 := ⟨ "slices.order2CmpFunc[pointsman/api.Addr]", by decide, Try.func66.trans (congrArg some (by kernel_rfl))⟩
  t0 := Try.underlying0
  a0 := Try.isAgg0
  z0 := Try.sizeOf0
  v0 := Try.zeroValue0
  t3 := Try.underlying3
  a3 := Try.isAgg3
  z3 := Try.sizeOf3
  v3 := Try.zeroValue3
  t4 := Try.underlying4
  a4 := Try.isAgg4
  z4 := Try.sizeOf4
  v4 := Try.zeroValue4
  t5 := Try.underlying5
  a5 := Try.isAgg5
  z5 := Try.sizeOf5
  v5 := Try.zeroValue5
  t9 := Try.underlying9
  a9 := Try.isAgg9
  z9 := Try.sizeOf9
  v9 := Try.zeroValue9
  t22 := Try.underlying75
  a22 := Try.isAgg75
  z22 := Try.sizeOf75
  v22 := Try.zeroValue75
  a24 := Try.isAgg24
  z24 := Try.sizeOf24
  t25 := Try.underlying93
  a25 := Try.isAgg93
  z25 := Try.sizeOf93
  v25 := Try.zeroValue93
  t39 := Try.underlying95
  a39 := Try.isAgg95
  z39 := Try.sizeOf95
  v39 := Try.zeroValue95
  t45 := Try.underlying101
  a45 := Try.isAgg101
  z45 := Try.sizeOf101
  v45 := Try.zeroValue101
  t46 := Try.underlying102
  a46 := Try.isAgg102
  z46 := Try.sizeOf102
  v46 := Try.zeroValue102
  t50 := Try.underlying106
  a50 := Try.isAgg106
  z50 := Try.sizeOf106
  v50 := Try.zeroValue106
  t53 := Try.underlying23
  a53 := Try.isAgg23
  z53 := Try.sizeOf23
  v53 := Try.zeroValue23
  t55 := Try.underlying72
  a55 := Try.isAgg72
  z55 := Try.sizeOf72
  v55 := Try.zeroValue72
  t66 := Try.underlying110
  a66 := Try.isAgg110
  z66 := Try.sizeOf110
  v66 := Try.zeroValue110
  t70 := Try.underlying114
  a70 := Try.isAgg114
  z70 := Try.sizeOf114
  v70 := Try.zeroValue114
  t76 := Try.underlying116
  a76 := Try.isAgg116
  z76 := Try.sizeOf116
  v76 := Try.zeroValue116
  t77 := Try.underlying117
  a77 := Try.isAgg117
  z77 := Try.sizeOf117
  v77 := Try.zeroValue117 }
theorem ltF (es : Kl) (x y : Int) : Go.Proofs.ltOf (cmpF es) x y = decide (unt es x < unt es y ∨ (unt es x = unt es y ∧ x < y)) := by
  unfold Go.Proofs.ltOf cmpF orZ cmpZ
  rw [Bool.eq_iff_iff]
  simp only [decide_eq_true_eq]
  (repeat' split) <;> omega
theorem swoF (es : Kl) : SWO (Go.Proofs.ltOf (cmpF es)) where
  irrefl x := by rw [ltF]; simp
  trans x y z h1 h2 := by rw [ltF] at *; simp only [decide_eq_true_eq] at *; omega
  ntrans x y z h1 h2 := by rw [ltF] at *; simp only [decide_eq_false_iff_not] at *; omega
theorem totF (es : Kl) (x y : Int) (h1 : Go.Proofs.ltOf (cmpF es) x y = false) (h2 : Go.Proofs.ltOf (cmpF es) y x = false) : x = y := by
  rw [ltF] at *
  simp only [decide_eq_false_iff_not] at *
  omega
def srt (es : Kl) (l : List Int) : List Int := l.mergeSort fun x y => !(Go.Proofs.ltOf (cmpF es)) y x
theorem sort_s (xb cb lb : Nat) (es : Kl) (a : Option Addr) (c : Nat) (l : List Int) (hl : l.length < 4611686018427387904) : Pact Try.prog 41 #[.slice a l.length c, .func (.func 42) #[] #[.pointer (some ⟨xb, 0, none⟩)]] (allK xb cb lb es) [Ar 24 1 adC (.slice a l.length c) l] (fun u L' => u = .tuple #[] ∧ L' = [Ar 24 1 adC (.slice a l.length c) (srt es l)]) :=
  sort1 sortLays .u32 24 (cmpF es) (swoF es) (totF es) 42 #[.pointer (some ⟨xb, 0, none⟩)] (by decide +kernel) (fun x y => all1_s xb cb lb es x y) a c l hl
theorem sort_e (xb cb lb : Nat) (es : Kl) (a : Option Addr) (c n : Nat) (l : List Int) (hn : l.length = n) (hl : n < 4611686018427387904) : Pact Try.prog 41 #[.slice a n c, .func (.func 42) #[] #[.pointer (some ⟨xb, 0, none⟩)]] (allK xb cb lb es) [Ar 24 1 adC (.slice a n c) l] (fun u L' => u = .tuple #[] ∧ L' = [Ar 24 1 adC (.slice a n c) (srt es l)]) := by
  subst hn
  exact sort_s xb cb lb es a c l hl
/-- The same in any order: sorted the same. -/
theorem srt_perm {es : Kl} {l m : List Int} (h : l.Perm m) : srt es l = srt es m := by
  have tr : ∀ a b c : Int, (!(Go.Proofs.ltOf (cmpF es)) b a) = true → (!(Go.Proofs.ltOf (cmpF es)) c b) = true → (!(Go.Proofs.ltOf (cmpF es)) c a) = true := fun a b c h1 h2 => by
    simp only [Bool.not_eq_true'] at *
    exact (swoF es).ntrans c b a h2 h1
  have to : ∀ a b : Int, ((!(Go.Proofs.ltOf (cmpF es)) b a) || (!(Go.Proofs.ltOf (cmpF es)) a b)) = true := fun a b => by
    rw [ltF, ltF]
    simp only [Bool.or_eq_true, Bool.not_eq_true', decide_eq_false_iff_not]
    omega
  refine List.Perm.eq_of_pairwise (le := fun x y => (!(Go.Proofs.ltOf (cmpF es)) y x) = true) ?_ (List.pairwise_mergeSort tr to l) (List.pairwise_mergeSort tr to m) (((List.mergeSort_perm l _).trans h).trans (List.mergeSort_perm m _).symm)
  intro a b _ _ h1 h2
  simp only [Bool.not_eq_true'] at h1 h2
  exact totF es a b h2 h1
end Go.Proofs.Ytohahlcjkhgimaa
