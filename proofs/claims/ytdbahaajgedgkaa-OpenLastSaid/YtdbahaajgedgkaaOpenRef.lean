/-
  The reference of layer 18 (pointsmanref18): right and Build; base.SameBytes; the chapter's example.
-/
import Derived.Test.YtdbahaajgedgkaaOpenBuild
namespace Go.Proofs.Ytdbahaajgedgkaa
open Go.RowKit Go.Pm


set_option maxHeartbeats 400000 in
theorem rright_any (w : World) (o : Opn) :
    Calls Try.prog 16 #[.agg o.cells] w fun e w' => e = .returned (.bool (decide o.Right)) ∧ Only [] w w' := by
  obtain ⟨sys, hold, id, multi, four, refresh, graceful, time, restarts, keeps⟩ := o
  go_enter Try.func16, Try.ntmps16
  unfold Opn.cells
  go_wp2
  all_goals
    go_ret
    refine ⟨ret_bool ?_, (Only.refl _ _).alloc _⟩
    first
    | (refine (decide_eq_true ?_).symm; simp_all [Opn.Right]; done)
    | (refine (decide_eq_false ?_).symm; simp only [Opn.Right]; intro hh; simp_all; done)
    | (refine (decide_eq_false ?_).symm; simp only [Opn.Right]; intro hh; simp_all; omega)
    | (refine (decide_eq_false ?_).symm; simp only [Opn.Right]; intro hh; omega)
    | (refine (decide_eq_true ?_).symm; simp_all [Opn.Right]; omega)
    | (simp_all [Opn.Right]; done)
    | (refine decide_eq_decide.2 ⟨fun hh => ?_, fun hh => ?_⟩ <;> simp_all [Opn.Right] <;> omega)
    | go_show

theorem two_any (w : World) (k : Int) (hk0 : 0 ≤ k) (hk : k ≤ 4294967295) : Calls Try.prog 17 #[.int .i64 k] w (FreshB 5 w (be16 k)) := by
  go_enter Try.func17, Try.ntmps17
  go_wp2
  go_ret
  exact ⟨_, rfl, OwnB.litAt (be16 k) rfl rfl (Nat.le_refl _) (by decide) rfl, (Only.refl _ _).alloc _⟩

theorem four_any (w : World) (k : Int) (hk0 : 0 ≤ k) (hk : k ≤ 4294967295) : Calls Try.prog 18 #[.int .u32 k] w (FreshB 5 w (be32 k)) := by
  have HE : Hid (be16 (k / 65536) ++ be16 (k % 65536) = be32 k) := by
    simp only [Hid, be16, be32, List.cons_append, List.nil_append]
    rw [show k % 65536 / 256 % 256 = k / 256 % 256 by omega, show k % 65536 % 256 = k % 256 by omega]
  go_enter Try.func18, Try.ntmps18
  go_wp2_with fail
  refine (two_any _ (k / 65536) (by omega) (by omega)).mono ?_
  rintro e w1 ⟨v1, rfl, ho1, hw1⟩
  go_wp2_with fail
  refine (two_any _ (k % 65536) (by omega) (by omega)).mono ?_
  rintro e w2 ⟨v2, rfl, ho2, hw2⟩
  have HO1 := Lib.hid (ho1.only hw2)
  have HO2 := Lib.hid ho2
  have hz1 := hw1.size
  have hz2 := hw2.size
  have HW := Lib.hid (hw1.then hw2)
  clear ho1 ho2 hw1 hw2
  go_wp2_with (at_builtin; refine wpList_appB bytesEl rfl _ _ rfl rfl rfl HO1.out HO2.out.vw (by simp [be16]) (by omega) ?_; intro v' w' hb')
  go_ret
  refine ⟨v', rfl, ?_, hb'.since HO1.out HW.out (Nat.le_refl _)⟩
  rw [← HE.out]
  exact hb'.own

def sameB (l m : List Int) : Bool := decide (l = m)
theorem same_any (w : World) (a b : Value) (l m : List Int) (ha : VwB w a l) (hb : VwB w b m) (hl : Byte l) (hm : Byte m) :
    Calls Try.prog 8 #[a, b] w fun e w' => e = .returned (.bool (sameB l m)) ∧ w = w' := by
  have h1 := run_string (P := Try.prog) Try.underlying26 Try.underlying5 Try.underlying9 ha
  have h2 := run_string (P := Try.prog) Try.underlying26 Try.underlying5 Try.underlying9 hb
  have HE : Hid (∀ c : Bool, (c = true ↔ strOfNums l = strOfNums m) → c = sameB l m) := by
    intro c hc
    unfold sameB
    by_cases h : l = m
    · subst h; simp [hc.2 rfl]
    · have : ¬ strOfNums l = strOfNums m := fun h2 => h ((strOfNums_inj hl hm).1 h2)
      cases c
      · simp [h]
      · exact (this (hc.1 rfl)).elim
  clear ha hb hl hm
  go_enter Try.func8, Try.ntmps8
  go_wp2
  go_ret
  refine ⟨ret_bool (HE.out _ ?_), rfl⟩
  simp only [decide_eq_true_eq, beq_iff_eq]
  constructor
  · intro h
    exact ByteArray.ext (Array.toList_inj.1 (by simpa [ByteArray.toList_eq] using h))
  · intro h; rw [h]
end Go.Proofs.Ytdbahaajgedgkaa
