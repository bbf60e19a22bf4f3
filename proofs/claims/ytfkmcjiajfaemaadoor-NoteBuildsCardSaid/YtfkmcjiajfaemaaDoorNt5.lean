/-
  The library's decimal numeral, met by the shelf's contract at this program's numbers; the document's numeral.
-/
import Derived.Test.YtfkmcjiajfaemaaDoorNt4
import Derived.Test.YtfkmcjiajfaemaaDoorRows
import Derived.Shelf.Strconv.Itoa3
import Derived.Lib.ItoaLen
namespace Go.Proofs.YtfkmcjiajfaemaaDoor
set_option linter.unusedSimpArgs false
set_option linter.unusedVariables false
open Go.RowKit Go.Pm Go.Shelf

def itoaLays_ren : Go.Shelf.Ren := ⟨fun | 171 => 23 | 243 => 26 | 246 => 27 | 283 => 28 | 284 => 29 | 285 => 30 | 286 => 31 | 129 => 33 | 317 => 32 | 318 => 34 | 319 => 35 | 320 => 36 | 337 => 37 | 338 => 38 | n => n, fun | 3 => 3 | 9 => 9 | 2 => 2 | 4 => 4 | 171 => 47 | 0 => 0 | 53 => 48 | 37 => 22 | 5 => 5 | 173 => 51 | 212 => 55 | 51 => 56 | 20 => 20 | 213 => 57 | 46 => 58 | 232 => 61 | 233 => 62 | n => n, fun | 17 => 0 | 18 => 1 | 19 => 2 | n => n⟩
theorem itoaLays : LaysM.n171 Tryd.prog itoaLays_ren := {
  mixed := by kernel_rfl
  f129 := Tryd.func33.trans (congrArg some (by kernel_rfl))
  f171 := Tryd.func23.trans (congrArg some (by kernel_rfl))
  f243 := Tryd.func26.trans (congrArg some (by kernel_rfl))
  f246 := Tryd.func27.trans (congrArg some (by kernel_rfl))
  f283 := Tryd.func28.trans (congrArg some (by kernel_rfl))
  f284 := Tryd.func29.trans (congrArg some (by kernel_rfl))
  f285 := Tryd.func30.trans (congrArg some (by kernel_rfl))
  f286 := Tryd.func31.trans (congrArg some (by kernel_rfl))
  f317 := Tryd.func32.trans (congrArg some (by kernel_rfl))
  f318 := Tryd.func34.trans (congrArg some (by kernel_rfl))
  f319 := Tryd.func35.trans (congrArg some (by kernel_rfl))
  f320 := Tryd.func36.trans (congrArg some (by kernel_rfl))
  f337 := Tryd.func37.trans (congrArg some (by kernel_rfl))
  f338 := Tryd.func38.trans (congrArg some (by kernel_rfl))
  t0 := Tryd.underlying0
  a0 := Tryd.isAgg0
  z0 := Tryd.sizeOf0
  v0 := Tryd.zeroValue0
  t2 := Tryd.underlying2
  a2 := Tryd.isAgg2
  z2 := Tryd.sizeOf2
  v2 := Tryd.zeroValue2
  t3 := Tryd.underlying3
  a3 := Tryd.isAgg3
  z3 := Tryd.sizeOf3
  v3 := Tryd.zeroValue3
  t4 := Tryd.underlying4
  a4 := Tryd.isAgg4
  z4 := Tryd.sizeOf4
  v4 := Tryd.zeroValue4
  t5 := Tryd.underlying5
  a5 := Tryd.isAgg5
  z5 := Tryd.sizeOf5
  v5 := Tryd.zeroValue5
  t9 := Tryd.underlying9
  a9 := Tryd.isAgg9
  z9 := Tryd.sizeOf9
  v9 := Tryd.zeroValue9
  t20 := Tryd.underlying20
  a20 := Tryd.isAgg20
  z20 := Tryd.sizeOf20
  v20 := Tryd.zeroValue20
  t37 := Tryd.underlying22
  a37 := Tryd.isAgg22
  z37 := Tryd.sizeOf22
  v37 := Tryd.zeroValue22
  t46 := Tryd.underlying58
  a46 := Tryd.isAgg58
  z46 := Tryd.sizeOf58
  v46 := Tryd.zeroValue58
  t51 := Tryd.underlying56
  a51 := Tryd.isAgg56
  z51 := Tryd.sizeOf56
  v51 := Tryd.zeroValue56
  t53 := Tryd.underlying48
  a53 := Tryd.isAgg48
  z53 := Tryd.sizeOf48
  v53 := Tryd.zeroValue48
  t171 := Tryd.underlying47
  a171 := Tryd.isAgg47
  z171 := Tryd.sizeOf47
  v171 := Tryd.zeroValue47
  t173 := Tryd.underlying51
  a173 := Tryd.isAgg51
  z173 := Tryd.sizeOf51
  v173 := Tryd.zeroValue51
  t212 := Tryd.underlying55
  a212 := Tryd.isAgg55
  z212 := Tryd.sizeOf55
  v212 := Tryd.zeroValue55
  t213 := Tryd.underlying57
  a213 := Tryd.isAgg57
  z213 := Tryd.sizeOf57
  t232 := Tryd.underlying61
  a232 := Tryd.isAgg61
  z232 := Tryd.sizeOf61
  v232 := Tryd.zeroValue61
  t233 := Tryd.underlying62
  a233 := Tryd.isAgg62
  z233 := Tryd.sizeOf62
  v233 := Tryd.zeroValue62
  g17 := by kernel_rfl
  g18 := by kernel_rfl
  g19 := by kernel_rfl
  i0 := by kernel_rfl
  i2 := by kernel_rfl
  i3 := by kernel_rfl
  i4 := by kernel_rfl
  i5 := by kernel_rfl
  i9 := by kernel_rfl
  i20 := by kernel_rfl
  i37 := by kernel_rfl
  i46 := by kernel_rfl
  i51 := by kernel_rfl
  i53 := by kernel_rfl
  i171 := by kernel_rfl
  i173 := by kernel_rfl
  i212 := by kernel_rfl
  i232 := by kernel_rfl
  i233 := by kernel_rfl
  m17 := by kernel_rfl
  m18 := by kernel_rfl
  m19 := by kernel_rfl }

/-- The table's name. -/
def tabName : String := Rows.noteBuildsRow.named.head!
def Tab (w : World) : Prop := Lib.TabIs Tryd.prog w tabName .u64 Lib.pow10Tab
def dig (n : Int) : ByteArray := ⟨(Lib.itoa n).toArray⟩
theorem only_grow (w : World) (k : Nat) (os : Array Obj) : Only [] w (Sort.grow (w.drewN k) os) := ⟨rfl, rfl, rfl, by simp [Sort.grow, World.drewN], fun i hi _ => by simp only [Sort.grow, World.drewN]; exact Array.getElem?_append_left hi⟩
theorem itoa_s (n : Int) (h : I64 n) : Pact Tryd.prog 23 #[.int .i64 n] Tab [] (ret0 (.string (dig n))) := fun W K w hK H =>
  (Any.strconv_Itoa itoaLays n h.1 h.2 w (hK.of H)).mono fun e w' h => by
    obtain ⟨rfl, k, os, rfl⟩ := h
    exact ⟨_, _, ⟨rfl, rfl⟩, rfl, H.only (only_grow w k os)⟩
theorem dig_size (n : Int) (h : I64 n) : (dig n).size ≤ 21 := by
  have := Lib.itoa_length_le n h.1 h.2
  simpa [dig, ByteArray.size] using this
/-- The digits of what is left. -/
def pre (m : Nat) : ByteArray := if m = 0 then ByteArray.empty else ⟨(Lib.decDigits m).toArray⟩
theorem pre_step (m : Nat) (h : m ≠ 0) (s : ByteArray) : pre m ++ s = pre (m / 10) ++ (strOfNums [48 + (m % 10 : Nat)] ++ s) := by
  unfold pre
  rw [if_neg h, Lib.decDigits]
  have e : (48 + ((m % 10 : Nat) : Int)).toNat = 48 + m % 10 := by omega
  by_cases h1 : m < 10
  · rw [dif_pos h1, if_pos (by omega)]
    apply ByteArray.ext
    simp only [strOfNums, List.map_cons, e, List.map_nil, ByteArray.data_append, ByteArray.data_empty]
    rw [show m % 10 = m by omega]
    simp
  · rw [dif_neg h1, if_neg (by omega)]
    apply ByteArray.ext
    simp only [strOfNums, List.map_cons, e, List.map_nil, ByteArray.data_append]
    simp
theorem dig_pos (n : Int) (h : 0 < n) : dig n = pre n.natAbs ++ ByteArray.empty := by
  unfold dig pre Lib.itoa
  rw [if_neg (by omega), if_neg (by omega)]
  have : n.toNat = n.natAbs := by omega
  rw [this]
  simp
theorem dig_neg (n : Int) (h : n < 0) : dig n = ⟨#[45]⟩ ++ (pre n.natAbs ++ ByteArray.empty) := by
  unfold dig pre Lib.itoa
  rw [if_pos h, if_neg (by omega)]
  apply ByteArray.ext
  simp
end Go.Proofs.YtfkmcjiajfaemaaDoor
