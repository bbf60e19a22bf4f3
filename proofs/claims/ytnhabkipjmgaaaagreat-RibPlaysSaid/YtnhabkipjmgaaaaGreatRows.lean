/-
  No cell of these rows narrows 'for every input' (looked for: loops, veiled, ifaces, maps, wideKeys, modest, calm, conditions, laid).
  DERIVED. THE GIVEN ROWS OF THIS SEAT. 5 by the template 'for every input the law returns true; each argument reads behind the call as it read before'; 0 by the template 'total and deterministic' (their statements: YtnhabkipjmgaaaaGreatTotals.lean).
  GIVEN WITH THE SEED: the statements are not yours to turn. If you find one false, say at which input.
  Laid BY PROGRAM, IN A SANDBOX (cutbox-rows.mjs): the forced cells as the released guide's own fill.sh prints them over the translation 119295dcba0376ad… (all of the seat's roots in one cut). By AI agents, Wed Nov 11 2026. No macro, syntax, notation, axiom, sorry.
-/
import Derived.Test.YtnhabkipjmgaaaaGreatChecked
import GoSem.Claim
import GoSem.ClaimJoined
import GoSem.ClaimMapViews
import Derived.JoinedTies
import Derived.KernelRfl
namespace Go.Proofs.YtnhabkipjmgaaaaGreat
/- THE CELL 'sum', in the pinned program and in every row, IS THE sha256 OF THE DUMP (.gsa) THAT YtnhabkipjmgaaaaGreatProg.lean LOADS. Nothing in Lean hashes anything: it is a label: what it is worth is what the hold of that sum in a sandbox is worth. -/
noncomputable def Tryz.pinned : Pinned := { name := "ytnhabkipjmgaaaagreat", sum := "119295dcba0376adb4ac169081956c1877864830c93580c94658eb56602045aa", checked := Tryz.checked }
namespace Rows
def none {H : Type} : Left H := { results := [], args := [] }

/-- 'pointsmanlaw30.RibLimit': WHATEVER THE INPUT: true; the input reads as it did. -/
def ribLimitSpec : ChangeSpec := { name := "ribLimit", fn := fun _ => fun
  | [d1, d2, d3] => { results := [.lit (.bool true)], args := [d1, d2, d3] }
  | _ => none }
def ribLimitRow : OpenClaim := { program := "ytnhabkipjmgaaaagreat", sum := "119295dcba0376adb4ac169081956c1877864830c93580c94658eb56602045aa", func := "pointsman/pointsmanlaw30.RibLimit", spec := "ribLimit", unfollowed := true, recurses := true, apart := false }
def RibLimitSaid : Prop := ribLimitRow.holds Tryz.pinned (OpenSpec.ofChange ribLimitSpec)

/-- ITS FALSE NEIGHBOUR: 'it returns false'. Refute it at one input. -/
def ribLimitWrong : ChangeSpec := { name := "ribLimit", fn := fun _ => fun
  | [d1, d2, d3] => { results := [.lit (.bool false)], args := [d1, d2, d3] }
  | _ => none }
def RibLimitWrongFalsely : Prop := ribLimitRow.holds Tryz.pinned (OpenSpec.ofChange ribLimitWrong)

/-- 'pointsmanlaw30.RibLast': WHATEVER THE INPUT: true; the input reads as it did. -/
def ribLastSpec : ChangeSpec := { name := "ribLast", fn := fun _ => fun
  | [d1, d2] => { results := [.lit (.bool true)], args := [d1, d2] }
  | _ => none }
def ribLastRow : OpenClaim := { program := "ytnhabkipjmgaaaagreat", sum := "119295dcba0376adb4ac169081956c1877864830c93580c94658eb56602045aa", func := "pointsman/pointsmanlaw30.RibLast", spec := "ribLast", unfollowed := true, recurses := true, apart := false }
def RibLastSaid : Prop := ribLastRow.holds Tryz.pinned (OpenSpec.ofChange ribLastSpec)

/-- ITS FALSE NEIGHBOUR: 'it returns false'. Refute it at one input. -/
def ribLastWrong : ChangeSpec := { name := "ribLast", fn := fun _ => fun
  | [d1, d2] => { results := [.lit (.bool false)], args := [d1, d2] }
  | _ => none }
def RibLastWrongFalsely : Prop := ribLastRow.holds Tryz.pinned (OpenSpec.ofChange ribLastWrong)

/-- 'pointsmanlaw30.RibStale': WHATEVER THE INPUT: true; the input reads as it did. -/
def ribStaleSpec : ChangeSpec := { name := "ribStale", fn := fun _ => fun
  | [d1, d2] => { results := [.lit (.bool true)], args := [d1, d2] }
  | _ => none }
def ribStaleRow : OpenClaim := { program := "ytnhabkipjmgaaaagreat", sum := "119295dcba0376adb4ac169081956c1877864830c93580c94658eb56602045aa", func := "pointsman/pointsmanlaw30.RibStale", spec := "ribStale", unfollowed := true, recurses := true, apart := false }
def RibStaleSaid : Prop := ribStaleRow.holds Tryz.pinned (OpenSpec.ofChange ribStaleSpec)

/-- ITS FALSE NEIGHBOUR: 'it returns false'. Refute it at one input. -/
def ribStaleWrong : ChangeSpec := { name := "ribStale", fn := fun _ => fun
  | [d1, d2] => { results := [.lit (.bool false)], args := [d1, d2] }
  | _ => none }
def RibStaleWrongFalsely : Prop := ribStaleRow.holds Tryz.pinned (OpenSpec.ofChange ribStaleWrong)

/-- 'pointsmanlaw30.RibPlays': WHATEVER THE INPUT: true; the input reads as it did. -/
def ribPlaysSpec : ChangeSpec := { name := "ribPlays", fn := fun _ => fun
  | [d1, d2, d3] => { results := [.lit (.bool true)], args := [d1, d2, d3] }
  | _ => none }
def ribPlaysRow : OpenClaim := { program := "ytnhabkipjmgaaaagreat", sum := "119295dcba0376adb4ac169081956c1877864830c93580c94658eb56602045aa", func := "pointsman/pointsmanlaw30.RibPlays", spec := "ribPlays", unfollowed := true, recurses := true, apart := false }
def RibPlaysSaid : Prop := ribPlaysRow.holds Tryz.pinned (OpenSpec.ofChange ribPlaysSpec)

/-- ITS FALSE NEIGHBOUR: 'it returns false'. Refute it at one input. -/
def ribPlaysWrong : ChangeSpec := { name := "ribPlays", fn := fun _ => fun
  | [d1, d2, d3] => { results := [.lit (.bool false)], args := [d1, d2, d3] }
  | _ => none }
def RibPlaysWrongFalsely : Prop := ribPlaysRow.holds Tryz.pinned (OpenSpec.ofChange ribPlaysWrong)

/-- 'pointsmanlaw30.RibVoid': WHATEVER THE INPUT: true; the input reads as it did. -/
def ribVoidSpec : ChangeSpec := { name := "ribVoid", fn := fun _ => fun
  | [d1, d2] => { results := [.lit (.bool true)], args := [d1, d2] }
  | _ => none }
def ribVoidRow : OpenClaim := { program := "ytnhabkipjmgaaaagreat", sum := "119295dcba0376adb4ac169081956c1877864830c93580c94658eb56602045aa", func := "pointsman/pointsmanlaw30.RibVoid", spec := "ribVoid", unfollowed := true, recurses := true, apart := false }
def RibVoidSaid : Prop := ribVoidRow.holds Tryz.pinned (OpenSpec.ofChange ribVoidSpec)

/-- ITS FALSE NEIGHBOUR: 'it returns false'. Refute it at one input. -/
def ribVoidWrong : ChangeSpec := { name := "ribVoid", fn := fun _ => fun
  | [d1, d2] => { results := [.lit (.bool false)], args := [d1, d2] }
  | _ => none }
def RibVoidWrongFalsely : Prop := ribVoidRow.holds Tryz.pinned (OpenSpec.ofChange ribVoidWrong)

/- THE SECOND FORM. 'bulk': how many values and letters a reading holds, each counted each time it is reached (what is shared counts as often as it is met; a slice's spare places count too). A statement '..UptoSaid' is the law's where the arguments, and the package variables that the reading takes, are together of bulk at most 1048576: NARROWER than '..Said'. Prove '..Said' where nothing that the law and all that it calls make is longer than what came in: it says more and counts as full. Else prove '..UptoSaid'. A law counts once. -/
mutual
def uptoBulk {H : Type} : DataW H → Nat
  | .lit (.string bytes) => bytes.length + 1
  | .lit _ => 1
  | .nil => 1
  | .ptr d => uptoBulk d + 1
  | .slice elems spare => uptoBulkAll elems + uptoBulkAll spare + 1
  | .agg parts => uptoBulkAll parts + 1
  | .iface _ d => uptoBulk d + 1
  | .map entries => uptoBulkEntries entries + 1
  | .held _ => 1
def uptoBulkAll {H : Type} : List (DataW H) → Nat
  | [] => 0
  | d :: r => uptoBulk d + uptoBulkAll r
def uptoBulkEntries {H : Type} : List (Lit × DataW H) → Nat
  | [] => 0
  | x :: r => uptoBulkEntry x + uptoBulkEntries r
def uptoBulkEntry {H : Type} : Lit × DataW H → Nat
  | (.string bytes, d) => bytes.length + uptoBulk d + 1
  | (_, d) => uptoBulk d + 1
 end
def uptoSmall : (H : Type) → List (DataW H) → Bool := fun _ ds => decide (uptoBulkAll ds ≤ 1048576)
def OpenSpec.upto (s : _root_.Go.ChangeSpec) : _root_.Go.OpenSpec := { _root_.Go.OpenSpec.ofChange s with cond := some uptoSmall }

/-- 'pointsmanlaw30.RibLimit', WHERE WHAT IT READS IS OF BULK AT MOST 1048576: true; the input reads as it did. -/
def ribLimitUptoRow : OpenClaim := { program := "ytnhabkipjmgaaaagreat", sum := "119295dcba0376adb4ac169081956c1877864830c93580c94658eb56602045aa", func := "pointsman/pointsmanlaw30.RibLimit", spec := "ribLimit", unfollowed := true, recurses := true, apart := false, narrowed := true }
def RibLimitUptoSaid : Prop := ribLimitUptoRow.holds Tryz.pinned (OpenSpec.upto ribLimitSpec)

/-- 'pointsmanlaw30.RibLast', WHERE WHAT IT READS IS OF BULK AT MOST 1048576: true; the input reads as it did. -/
def ribLastUptoRow : OpenClaim := { program := "ytnhabkipjmgaaaagreat", sum := "119295dcba0376adb4ac169081956c1877864830c93580c94658eb56602045aa", func := "pointsman/pointsmanlaw30.RibLast", spec := "ribLast", unfollowed := true, recurses := true, apart := false, narrowed := true }
def RibLastUptoSaid : Prop := ribLastUptoRow.holds Tryz.pinned (OpenSpec.upto ribLastSpec)

/-- 'pointsmanlaw30.RibStale', WHERE WHAT IT READS IS OF BULK AT MOST 1048576: true; the input reads as it did. -/
def ribStaleUptoRow : OpenClaim := { program := "ytnhabkipjmgaaaagreat", sum := "119295dcba0376adb4ac169081956c1877864830c93580c94658eb56602045aa", func := "pointsman/pointsmanlaw30.RibStale", spec := "ribStale", unfollowed := true, recurses := true, apart := false, narrowed := true }
def RibStaleUptoSaid : Prop := ribStaleUptoRow.holds Tryz.pinned (OpenSpec.upto ribStaleSpec)

/-- 'pointsmanlaw30.RibPlays', WHERE WHAT IT READS IS OF BULK AT MOST 1048576: true; the input reads as it did. -/
def ribPlaysUptoRow : OpenClaim := { program := "ytnhabkipjmgaaaagreat", sum := "119295dcba0376adb4ac169081956c1877864830c93580c94658eb56602045aa", func := "pointsman/pointsmanlaw30.RibPlays", spec := "ribPlays", unfollowed := true, recurses := true, apart := false, narrowed := true }
def RibPlaysUptoSaid : Prop := ribPlaysUptoRow.holds Tryz.pinned (OpenSpec.upto ribPlaysSpec)

/-- 'pointsmanlaw30.RibVoid', WHERE WHAT IT READS IS OF BULK AT MOST 1048576: true; the input reads as it did. -/
def ribVoidUptoRow : OpenClaim := { program := "ytnhabkipjmgaaaagreat", sum := "119295dcba0376adb4ac169081956c1877864830c93580c94658eb56602045aa", func := "pointsman/pointsmanlaw30.RibVoid", spec := "ribVoid", unfollowed := true, recurses := true, apart := false, narrowed := true }
def RibVoidUptoSaid : Prop := ribVoidUptoRow.holds Tryz.pinned (OpenSpec.upto ribVoidSpec)

end Rows
end Go.Proofs.YtnhabkipjmgaaaaGreat
