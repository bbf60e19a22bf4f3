/-
  Package open (and its reference): what Build goes through, each function walked once.
-/
import Derived.Test.YtdbahaajgedgkaaRows
import Derived.Test.YtdbahaajgedgkaaSlice
import Derived.WalkKit
import Derived.WalkSpells
import Derived.WalkLawsBesides
import Derived.Deep.QuietTactic
import Derived.BigQuiet
import Derived.Deep.RegionHeld3
import Derived.Lib.Hide
namespace Go.Proofs.Ytdbahaajgedgkaa
open Go.RowKit Go.Pm


theorem bytesEl : El Try.prog 26 5 1 1 := El.mk' (z := .int .u8 0) Try.underlying26 (by kernel_rfl) rfl (by omega) (by omega)

def be16 (k : Int) : List Int := [k / 256 % 256, k % 256]
def be32 (k : Int) : List Int := [k / 65536 / 256 % 256, k / 65536 % 256, k / 256 % 256, k % 256]

set_option maxHeartbeats 400000 in
theorem put16_any (w : World) (base : Nat) (v : Value) (l : List Int) (hown : OwnB 5 w base v l) (k : Int) (hk0 : 0 ≤ k) (hk : k ≤ 4294967295) (hn : l.length ≤ 1000000) (hbase : base ≤ w.heap.size) :
    Calls Try.prog 14 #[v, .int .i64 k] w (RetB 5 base w v (l ++ be16 k)) := by
  have HO := Lib.hid hown; clear hown
  go_enter Try.func14, Try.ntmps14
  go_wp2_with (at_builtin; refine wpList_appB bytesEl rfl _ _ rfl rfl rfl (HO.out.alloc _) (VwB.litAt (be16 k) rfl rfl (by decide) (by simp)) (by simp [be16]; omega) (by simp; omega) ?_; intro v' w' hb')
  go_ret
  exact ⟨v', rfl, hb'.alloced⟩

set_option maxHeartbeats 400000 in
theorem put32_any (w : World) (base : Nat) (v : Value) (l : List Int) (hown : OwnB 5 w base v l) (k : Int) (hk0 : 0 ≤ k) (hk : k ≤ 4294967295) (hn : l.length ≤ 900000) (hbase : base ≤ w.heap.size) :
    Calls Try.prog 13 #[v, .int .u32 k] w (RetB 5 base w v (l ++ be32 k)) := by
  have HO := Lib.hid hown; clear hown
  go_enter Try.func13, Try.ntmps13
  go_wp2_with fail
  refine (put16_any _ base v l HO.out (k / 65536) (by omega) (by omega) (by omega) hbase).mono ?_
  rintro e w1 ⟨v1, rfl, hb1⟩
  go_wp2_with fail
  refine (put16_any _ base v1 _ hb1.own k (by omega) (by omega) (by simp [be16]; omega) (by have := hb1.only.size; omega)).mono ?_
  rintro e w2 ⟨v2, rfl, hb2⟩
  go_wp2_with fail
  go_ret
  refine ⟨v2, rfl, ?_⟩
  have := hb1.trans hb2
  rw [List.append_assoc] at this
  exact this

def flagI (is : Bool) (b : Int) : Int := if is then b else 0
theorem flag_any (w : World) (is : Bool) (b : Int) :
    Calls Try.prog 23 #[.bool is, .int .i64 b] w fun e w' => e = .returned (.int .i64 (flagI is b)) ∧ w = w' := by
  unfold flagI
  cases is
  all_goals
    go_enter Try.func23, Try.ntmps23
    go_wp2
    go_ret
    exact ⟨rfl, rfl⟩

/-- An OPEN. -/
structure Opn where
  sys : Int
  hold : Int
  id : Int
  multi : Bool
  four : Bool
  refresh : Bool
  graceful : Bool
  time : Int
  restarts : Bool
  keeps : Bool
  deriving DecidableEq

def Opn.cells (o : Opn) : Array Value := #[.int .u32 o.sys, .int .i64 o.hold, .int .u32 o.id, .bool o.multi, .bool o.four, .bool o.refresh, .bool o.graceful, .int .i64 o.time, .bool o.restarts, .bool o.keeps]
structure Opn.Fits (o : Opn) : Prop where
  sys0 : 0 ≤ o.sys
  sys1 : o.sys ≤ 4294967295
  id0 : 0 ≤ o.id
  id1 : o.id ≤ 4294967295

def Opn.Right (o : Opn) : Prop := (0 ≤ o.hold ∧ o.hold ≤ 65535 ∧ o.hold ≠ 1 ∧ o.hold ≠ 2) ∧ (o.id ≠ 0 ∧ o.sys ≠ 0 ∧ (o.four = true ∨ o.sys ≤ 65535)) ∧ (0 ≤ o.time ∧ o.time ≤ 4095) ∧ (o.graceful = true ∨ o.time = 0 ∧ o.restarts = false ∧ o.keeps = false)
instance (o : Opn) : Decidable o.Right := by unfold Opn.Right; infer_instance

set_option maxHeartbeats 400000 in
theorem right_any (w : World) (o : Opn) :
    Calls Try.prog 12 #[.agg o.cells] w fun e w' => e = .returned (.bool (decide o.Right)) ∧ Only [] w w' := by
  obtain ⟨sys, hold, id, multi, four, refresh, graceful, time, restarts, keeps⟩ := o
  go_enter Try.func12, Try.ntmps12
  unfold Opn.cells
  go_wp2
  all_goals
    go_ret
    refine ⟨ret_bool ?_, (Only.refl _ _).alloc _⟩
    first
    | (refine (decide_eq_true ?_).symm; simp_all [Opn.Right]; done)
    | (refine (decide_eq_false ?_).symm; simp only [Opn.Right]; intro hh; simp_all; done)
    | (refine (decide_eq_false ?_).symm; simp only [Opn.Right]; intro hh; simp_all; omega)
    | (refine (decide_eq_false ?_).symm; simp only [Opn.Right]; intro hh; omega)
    | (refine (decide_eq_true ?_).symm; simp_all [Opn.Right]; omega)
    | (simp_all [Opn.Right]; done)
    | go_show
end Go.Proofs.Ytdbahaajgedgkaa
