/-
  No cell of these rows narrows 'for every input' (looked for: loops, veiled, ifaces, maps, wideKeys, modest, calm, conditions, laid).
  DERIVED. THE GIVEN ROWS OF THIS SEAT. 2 by the template 'for every input the law returns true; each argument reads behind the call as it read before'; 0 by the template 'total and deterministic' (their statements: YtocdmefajlillaaTotals.lean).
  GIVEN WITH THE SEED: the statements are not yours to turn. If you find one false, say at which input.
  Laid BY PROGRAM, IN A SANDBOX (cutbox-rows.mjs): the forced cells as the released guide's own fill.sh prints them over the translation a47c89c7a1bc346e… (all of the seat's roots in one cut). By AI agents, Wed Nov 11 2026. No macro, syntax, notation, axiom, sorry.
-/
import Derived.Test.YtocdmefajlillaaChecked
import GoSem.Claim
import GoSem.ClaimJoined
import GoSem.ClaimMapViews
import Derived.JoinedTies
import Derived.KernelRfl
namespace Go.Proofs.Ytocdmefajlillaa
/- THE CELL 'sum', in the pinned program and in every row, IS THE sha256 OF THE DUMP (.gsa) THAT YtocdmefajlillaaProg.lean LOADS. Nothing in Lean hashes anything: it is a label: what it is worth is what the hold of that sum in a sandbox is worth. -/
noncomputable def Try.pinned : Pinned := { name := "ytocdmefajlillaa", sum := "a47c89c7a1bc346ea1a9e571dbba91aaa6ad6213ecade6a329d14739112640bb", checked := Try.checked }
namespace Rows
def none {H : Type} : Left H := { results := [], args := [] }

/-- 'pointsmanlaw14.SendEnds': WHATEVER THE INPUT: true; the input reads as it did. -/
def sendEndsSpec : ChangeSpec := { name := "sendEnds", fn := fun _ => fun
  | [d1, d2, d3, d4, d5] => { results := [.lit (.bool true)], args := [d1, d2, d3, d4, d5] }
  | _ => none }
def sendEndsRow : OpenClaim := { program := "ytocdmefajlillaa", sum := "a47c89c7a1bc346ea1a9e571dbba91aaa6ad6213ecade6a329d14739112640bb", func := "pointsman/pointsmanlaw14.SendEnds", spec := "sendEnds", apart := false }
def SendEndsSaid : Prop := sendEndsRow.holds Try.pinned (OpenSpec.ofChange sendEndsSpec)

/-- ITS FALSE NEIGHBOUR: 'it returns false'. Refute it at one input. -/
def sendEndsWrong : ChangeSpec := { name := "sendEnds", fn := fun _ => fun
  | [d1, d2, d3, d4, d5] => { results := [.lit (.bool false)], args := [d1, d2, d3, d4, d5] }
  | _ => none }
def SendEndsWrongFalsely : Prop := sendEndsRow.holds Try.pinned (OpenSpec.ofChange sendEndsWrong)

/-- 'pointsmanlaw14.SendVoid': WHATEVER THE INPUT: true; the input reads as it did. -/
def sendVoidSpec : ChangeSpec := { name := "sendVoid", fn := fun _ => fun
  | [d1, d2, d3] => { results := [.lit (.bool true)], args := [d1, d2, d3] }
  | _ => none }
def sendVoidRow : OpenClaim := { program := "ytocdmefajlillaa", sum := "a47c89c7a1bc346ea1a9e571dbba91aaa6ad6213ecade6a329d14739112640bb", func := "pointsman/pointsmanlaw14.SendVoid", spec := "sendVoid", apart := false }
def SendVoidSaid : Prop := sendVoidRow.holds Try.pinned (OpenSpec.ofChange sendVoidSpec)

/-- ITS FALSE NEIGHBOUR: 'it returns false'. Refute it at one input. -/
def sendVoidWrong : ChangeSpec := { name := "sendVoid", fn := fun _ => fun
  | [d1, d2, d3] => { results := [.lit (.bool false)], args := [d1, d2, d3] }
  | _ => none }
def SendVoidWrongFalsely : Prop := sendVoidRow.holds Try.pinned (OpenSpec.ofChange sendVoidWrong)

/- THE SECOND FORM. 'bulk': how many values and letters a reading holds, each counted each time it is reached (what is shared counts as often as it is met; a slice's spare places count too). A statement '..UptoSaid' is the law's where the arguments, and the package variables that the reading takes, are together of bulk at most 1048576: NARROWER than '..Said'. Prove '..Said' where nothing that the law and all that it calls make is longer than what came in: it says more and counts as full. Else prove '..UptoSaid'. A law counts once. -/
mutual
def uptoBulk {H : Type} : DataW H → Nat
  | .lit (.string bytes) => bytes.length + 1
  | .lit _ => 1
  | .nil => 1
  | .ptr d => uptoBulk d + 1
  | .slice elems spare => uptoBulkAll elems + uptoBulkAll spare + 1
  | .agg parts => uptoBulkAll parts + 1
  | .iface _ d => uptoBulk d + 1
  | .map entries => uptoBulkEntries entries + 1
  | .held _ => 1
def uptoBulkAll {H : Type} : List (DataW H) → Nat
  | [] => 0
  | d :: r => uptoBulk d + uptoBulkAll r
def uptoBulkEntries {H : Type} : List (Lit × DataW H) → Nat
  | [] => 0
  | x :: r => uptoBulkEntry x + uptoBulkEntries r
def uptoBulkEntry {H : Type} : Lit × DataW H → Nat
  | (.string bytes, d) => bytes.length + uptoBulk d + 1
  | (_, d) => uptoBulk d + 1
 end
def uptoSmall : (H : Type) → List (DataW H) → Bool := fun _ ds => decide (uptoBulkAll ds ≤ 1048576)
def OpenSpec.upto (s : _root_.Go.ChangeSpec) : _root_.Go.OpenSpec := { _root_.Go.OpenSpec.ofChange s with cond := some uptoSmall }

/-- 'pointsmanlaw14.SendEnds', WHERE WHAT IT READS IS OF BULK AT MOST 1048576: true; the input reads as it did. -/
def sendEndsUptoRow : OpenClaim := { program := "ytocdmefajlillaa", sum := "a47c89c7a1bc346ea1a9e571dbba91aaa6ad6213ecade6a329d14739112640bb", func := "pointsman/pointsmanlaw14.SendEnds", spec := "sendEnds", apart := false, narrowed := true }
def SendEndsUptoSaid : Prop := sendEndsUptoRow.holds Try.pinned (OpenSpec.upto sendEndsSpec)

/-- 'pointsmanlaw14.SendVoid', WHERE WHAT IT READS IS OF BULK AT MOST 1048576: true; the input reads as it did. -/
def sendVoidUptoRow : OpenClaim := { program := "ytocdmefajlillaa", sum := "a47c89c7a1bc346ea1a9e571dbba91aaa6ad6213ecade6a329d14739112640bb", func := "pointsman/pointsmanlaw14.SendVoid", spec := "sendVoid", apart := false, narrowed := true }
def SendVoidUptoSaid : Prop := sendVoidUptoRow.holds Try.pinned (OpenSpec.upto sendVoidSpec)

end Rows
end Go.Proofs.Ytocdmefajlillaa
