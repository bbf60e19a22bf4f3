/-
  No cell of these rows narrows 'for every input' (looked for: loops, veiled, ifaces, maps, wideKeys, modest, calm, conditions, laid).
  DERIVED. THE GIVEN ROWS OF THIS SEAT. 3 by the template 'for every input the law returns true; each argument reads behind the call as it read before'; 0 by the template 'total and deterministic' (their statements: YtdnokmpnemaoaaaGreatTotals.lean).
  GIVEN WITH THE SEED: the statements are not yours to turn. If you find one false, say at which input.
  Laid BY PROGRAM, IN A SANDBOX (cutbox-rows.mjs): the forced cells as the released guide's own fill.sh prints them over the translation e95a0e29a67f2a20… (all of the seat's roots in one cut). By AI agents, Wed Nov 11 2026. No macro, syntax, notation, axiom, sorry.
-/
import Derived.Test.YtdnokmpnemaoaaaGreatChecked
import GoSem.Claim
import GoSem.ClaimJoined
import GoSem.ClaimMapViews
import Derived.JoinedTies
import Derived.KernelRfl
namespace Go.Proofs.YtdnokmpnemaoaaaGreat
/- THE CELL 'sum', in the pinned program and in every row, IS THE sha256 OF THE DUMP (.gsa) THAT YtdnokmpnemaoaaaGreatProg.lean LOADS. Nothing in Lean hashes anything: it is a label: what it is worth is what the hold of that sum in a sandbox is worth. -/
noncomputable def Tryz.pinned : Pinned := { name := "ytdnokmpnemaoaaagreat", sum := "e95a0e29a67f2a20d68af71bc75fa73cdb9e424c746cc7674053897d90cfdf23", checked := Tryz.checked }
namespace Rows
def none {H : Type} : Left H := { results := [], args := [] }

/-- 'pointsmanlaw32.ViewChooses': WHATEVER THE INPUT: true; the input reads as it did. -/
def viewChoosesSpec : ChangeSpec := { name := "viewChooses", fn := fun _ => fun
  | [d1, d2, d3] => { results := [.lit (.bool true)], args := [d1, d2, d3] }
  | _ => none }
def viewChoosesRow : OpenClaim := { program := "ytdnokmpnemaoaaagreat", sum := "e95a0e29a67f2a20d68af71bc75fa73cdb9e424c746cc7674053897d90cfdf23", func := "pointsman/pointsmanlaw32.ViewChooses", spec := "viewChooses", inPlace := ["slices.overlaps[pointsman/api.Segment]"], unfollowed := true, recurses := true, apart := false }
def ViewChoosesSaid : Prop := viewChoosesRow.holds Tryz.pinned (OpenSpec.ofChange viewChoosesSpec)

/-- ITS FALSE NEIGHBOUR: 'it returns false'. Refute it at one input. -/
def viewChoosesWrong : ChangeSpec := { name := "viewChooses", fn := fun _ => fun
  | [d1, d2, d3] => { results := [.lit (.bool false)], args := [d1, d2, d3] }
  | _ => none }
def ViewChoosesWrongFalsely : Prop := viewChoosesRow.holds Tryz.pinned (OpenSpec.ofChange viewChoosesWrong)

/-- 'pointsmanlaw32.ViewForeign': WHATEVER THE INPUT: true; the input reads as it did. -/
def viewForeignSpec : ChangeSpec := { name := "viewForeign", fn := fun _ => fun
  | [d1, d2, d3] => { results := [.lit (.bool true)], args := [d1, d2, d3] }
  | _ => none }
def viewForeignRow : OpenClaim := { program := "ytdnokmpnemaoaaagreat", sum := "e95a0e29a67f2a20d68af71bc75fa73cdb9e424c746cc7674053897d90cfdf23", func := "pointsman/pointsmanlaw32.ViewForeign", spec := "viewForeign", inPlace := ["slices.overlaps[pointsman/api.Segment]"], unfollowed := true, recurses := true, apart := false }
def ViewForeignSaid : Prop := viewForeignRow.holds Tryz.pinned (OpenSpec.ofChange viewForeignSpec)

/-- ITS FALSE NEIGHBOUR: 'it returns false'. Refute it at one input. -/
def viewForeignWrong : ChangeSpec := { name := "viewForeign", fn := fun _ => fun
  | [d1, d2, d3] => { results := [.lit (.bool false)], args := [d1, d2, d3] }
  | _ => none }
def ViewForeignWrongFalsely : Prop := viewForeignRow.holds Tryz.pinned (OpenSpec.ofChange viewForeignWrong)

/-- 'pointsmanlaw32.ViewPlays': WHATEVER THE INPUT: true; the input reads as it did. -/
def viewPlaysSpec : ChangeSpec := { name := "viewPlays", fn := fun _ => fun
  | [d] => { results := [.lit (.bool true)], args := [d] }
  | _ => none }
def viewPlaysRow : OpenClaim := { program := "ytdnokmpnemaoaaagreat", sum := "e95a0e29a67f2a20d68af71bc75fa73cdb9e424c746cc7674053897d90cfdf23", func := "pointsman/pointsmanlaw32.ViewPlays", spec := "viewPlays", unfollowed := true, recurses := true, apart := false }
def ViewPlaysSaid : Prop := viewPlaysRow.holds Tryz.pinned (OpenSpec.ofChange viewPlaysSpec)

/-- ITS FALSE NEIGHBOUR: 'it returns false'. Refute it at one input. -/
def viewPlaysWrong : ChangeSpec := { name := "viewPlays", fn := fun _ => fun
  | [d] => { results := [.lit (.bool false)], args := [d] }
  | _ => none }
def ViewPlaysWrongFalsely : Prop := viewPlaysRow.holds Tryz.pinned (OpenSpec.ofChange viewPlaysWrong)

/- THE SECOND FORM. 'bulk': how many values and letters a reading holds, each counted each time it is reached (what is shared counts as often as it is met; a slice's spare places count too). A statement '..UptoSaid' is the law's where the arguments, and the package variables that the reading takes, are together of bulk at most 1048576: NARROWER than '..Said'. Prove '..Said' where nothing that the law and all that it calls make is longer than what came in: it says more and counts as full. Else prove '..UptoSaid'. A law counts once. -/
mutual
def uptoBulk {H : Type} : DataW H → Nat
  | .lit (.string bytes) => bytes.length + 1
  | .lit _ => 1
  | .nil => 1
  | .ptr d => uptoBulk d + 1
  | .slice elems spare => uptoBulkAll elems + uptoBulkAll spare + 1
  | .agg parts => uptoBulkAll parts + 1
  | .iface _ d => uptoBulk d + 1
  | .map entries => uptoBulkEntries entries + 1
  | .held _ => 1
def uptoBulkAll {H : Type} : List (DataW H) → Nat
  | [] => 0
  | d :: r => uptoBulk d + uptoBulkAll r
def uptoBulkEntries {H : Type} : List (Lit × DataW H) → Nat
  | [] => 0
  | x :: r => uptoBulkEntry x + uptoBulkEntries r
def uptoBulkEntry {H : Type} : Lit × DataW H → Nat
  | (.string bytes, d) => bytes.length + uptoBulk d + 1
  | (_, d) => uptoBulk d + 1
 end
def uptoSmall : (H : Type) → List (DataW H) → Bool := fun _ ds => decide (uptoBulkAll ds ≤ 1048576)
def OpenSpec.upto (s : _root_.Go.ChangeSpec) : _root_.Go.OpenSpec := { _root_.Go.OpenSpec.ofChange s with cond := some uptoSmall }

/-- 'pointsmanlaw32.ViewChooses', WHERE WHAT IT READS IS OF BULK AT MOST 1048576: true; the input reads as it did. -/
def viewChoosesUptoRow : OpenClaim := { program := "ytdnokmpnemaoaaagreat", sum := "e95a0e29a67f2a20d68af71bc75fa73cdb9e424c746cc7674053897d90cfdf23", func := "pointsman/pointsmanlaw32.ViewChooses", spec := "viewChooses", inPlace := ["slices.overlaps[pointsman/api.Segment]"], unfollowed := true, recurses := true, apart := false, narrowed := true }
def ViewChoosesUptoSaid : Prop := viewChoosesUptoRow.holds Tryz.pinned (OpenSpec.upto viewChoosesSpec)

/-- 'pointsmanlaw32.ViewForeign', WHERE WHAT IT READS IS OF BULK AT MOST 1048576: true; the input reads as it did. -/
def viewForeignUptoRow : OpenClaim := { program := "ytdnokmpnemaoaaagreat", sum := "e95a0e29a67f2a20d68af71bc75fa73cdb9e424c746cc7674053897d90cfdf23", func := "pointsman/pointsmanlaw32.ViewForeign", spec := "viewForeign", inPlace := ["slices.overlaps[pointsman/api.Segment]"], unfollowed := true, recurses := true, apart := false, narrowed := true }
def ViewForeignUptoSaid : Prop := viewForeignUptoRow.holds Tryz.pinned (OpenSpec.upto viewForeignSpec)

/-- 'pointsmanlaw32.ViewPlays', WHERE WHAT IT READS IS OF BULK AT MOST 1048576: true; the input reads as it did. -/
def viewPlaysUptoRow : OpenClaim := { program := "ytdnokmpnemaoaaagreat", sum := "e95a0e29a67f2a20d68af71bc75fa73cdb9e424c746cc7674053897d90cfdf23", func := "pointsman/pointsmanlaw32.ViewPlays", spec := "viewPlays", unfollowed := true, recurses := true, apart := false, narrowed := true }
def ViewPlaysUptoSaid : Prop := viewPlaysUptoRow.holds Tryz.pinned (OpenSpec.upto viewPlaysSpec)

end Rows
end Go.Proofs.YtdnokmpnemaoaaaGreat
