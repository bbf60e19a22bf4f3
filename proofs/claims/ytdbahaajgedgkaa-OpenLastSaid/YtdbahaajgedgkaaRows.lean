/-
  No cell of these rows narrows 'for every input' (looked for: loops, veiled, ifaces, maps, wideKeys, modest, calm, conditions, laid).
  DERIVED. THE GIVEN ROWS OF THIS SEAT. 3 by the template 'for every input the law returns true; each argument reads behind the call as it read before'; 0 by the template 'total and deterministic' (their statements: YtdbahaajgedgkaaTotals.lean).
  GIVEN WITH THE SEED: the statements are not yours to turn. If you find one false, say at which input.
  Laid BY PROGRAM, IN A SANDBOX (cutbox-rows.mjs): the forced cells as the released guide's own fill.sh prints them over the translation 6acaf01c1ae816e2… (all of the seat's roots in one cut). By AI agents, Wed Nov 11 2026. No macro, syntax, notation, axiom, sorry.
-/
import Derived.Test.YtdbahaajgedgkaaChecked
import GoSem.Claim
import GoSem.ClaimJoined
import GoSem.ClaimMapViews
import Derived.JoinedTies
import Derived.KernelRfl
namespace Go.Proofs.Ytdbahaajgedgkaa
/- THE CELL 'sum', in the pinned program and in every row, IS THE sha256 OF THE DUMP (.gsa) THAT YtdbahaajgedgkaaProg.lean LOADS. Nothing in Lean hashes anything: it is a label: what it is worth is what the hold of that sum in a sandbox is worth. -/
noncomputable def Try.pinned : Pinned := { name := "ytdbahaajgedgkaa", sum := "6acaf01c1ae816e24729ec00456f9e38172f8ccb002464076e2538a0b2025bca", checked := Try.checked }
namespace Rows
def none {H : Type} : Left H := { results := [], args := [] }

/-- 'pointsmanlaw18.OpenBuilds': WHATEVER THE INPUT: true; the input reads as it did. -/
def openBuildsSpec : ChangeSpec := { name := "openBuilds", fn := fun _ => fun
  | [d] => { results := [.lit (.bool true)], args := [d] }
  | _ => none }
def openBuildsRow : OpenClaim := { program := "ytdbahaajgedgkaa", sum := "6acaf01c1ae816e24729ec00456f9e38172f8ccb002464076e2538a0b2025bca", func := "pointsman/pointsmanlaw18.OpenBuilds", spec := "openBuilds", apart := false }
def OpenBuildsSaid : Prop := openBuildsRow.holds Try.pinned (OpenSpec.ofChange openBuildsSpec)

/-- ITS FALSE NEIGHBOUR: 'it returns false'. Refute it at one input. -/
def openBuildsWrong : ChangeSpec := { name := "openBuilds", fn := fun _ => fun
  | [d] => { results := [.lit (.bool false)], args := [d] }
  | _ => none }
def OpenBuildsWrongFalsely : Prop := openBuildsRow.holds Try.pinned (OpenSpec.ofChange openBuildsWrong)

/-- 'pointsmanlaw18.OpenBack': WHATEVER THE INPUT: true; the input reads as it did. -/
def openBackSpec : ChangeSpec := { name := "openBack", fn := fun _ => fun
  | [d] => { results := [.lit (.bool true)], args := [d] }
  | _ => none }
def openBackRow : OpenClaim := { program := "ytdbahaajgedgkaa", sum := "6acaf01c1ae816e24729ec00456f9e38172f8ccb002464076e2538a0b2025bca", func := "pointsman/pointsmanlaw18.OpenBack", spec := "openBack", apart := false }
def OpenBackSaid : Prop := openBackRow.holds Try.pinned (OpenSpec.ofChange openBackSpec)

/-- ITS FALSE NEIGHBOUR: 'it returns false'. Refute it at one input. -/
def openBackWrong : ChangeSpec := { name := "openBack", fn := fun _ => fun
  | [d] => { results := [.lit (.bool false)], args := [d] }
  | _ => none }
def OpenBackWrongFalsely : Prop := openBackRow.holds Try.pinned (OpenSpec.ofChange openBackWrong)

/-- 'pointsmanlaw18.OpenLast': WHATEVER THE INPUT: true; the input reads as it did. -/
def openLastSpec : ChangeSpec := { name := "openLast", fn := fun _ => fun
  | [d1, d2, d3, d4] => { results := [.lit (.bool true)], args := [d1, d2, d3, d4] }
  | _ => none }
def openLastRow : OpenClaim := { program := "ytdbahaajgedgkaa", sum := "6acaf01c1ae816e24729ec00456f9e38172f8ccb002464076e2538a0b2025bca", func := "pointsman/pointsmanlaw18.OpenLast", spec := "openLast", apart := false }
def OpenLastSaid : Prop := openLastRow.holds Try.pinned (OpenSpec.ofChange openLastSpec)

/-- ITS FALSE NEIGHBOUR: 'it returns false'. Refute it at one input. -/
def openLastWrong : ChangeSpec := { name := "openLast", fn := fun _ => fun
  | [d1, d2, d3, d4] => { results := [.lit (.bool false)], args := [d1, d2, d3, d4] }
  | _ => none }
def OpenLastWrongFalsely : Prop := openLastRow.holds Try.pinned (OpenSpec.ofChange openLastWrong)

/- THE SECOND FORM. 'bulk': how many values and letters a reading holds, each counted each time it is reached (what is shared counts as often as it is met; a slice's spare places count too). A statement '..UptoSaid' is the law's where the arguments, and the package variables that the reading takes, are together of bulk at most 1048576: NARROWER than '..Said'. Prove '..Said' where nothing that the law and all that it calls make is longer than what came in: it says more and counts as full. Else prove '..UptoSaid'. A law counts once. -/
mutual
def uptoBulk {H : Type} : DataW H → Nat
  | .lit (.string bytes) => bytes.length + 1
  | .lit _ => 1
  | .nil => 1
  | .ptr d => uptoBulk d + 1
  | .slice elems spare => uptoBulkAll elems + uptoBulkAll spare + 1
  | .agg parts => uptoBulkAll parts + 1
  | .iface _ d => uptoBulk d + 1
  | .map entries => uptoBulkEntries entries + 1
  | .held _ => 1
def uptoBulkAll {H : Type} : List (DataW H) → Nat
  | [] => 0
  | d :: r => uptoBulk d + uptoBulkAll r
def uptoBulkEntries {H : Type} : List (Lit × DataW H) → Nat
  | [] => 0
  | x :: r => uptoBulkEntry x + uptoBulkEntries r
def uptoBulkEntry {H : Type} : Lit × DataW H → Nat
  | (.string bytes, d) => bytes.length + uptoBulk d + 1
  | (_, d) => uptoBulk d + 1
 end
def uptoSmall : (H : Type) → List (DataW H) → Bool := fun _ ds => decide (uptoBulkAll ds ≤ 1048576)
def OpenSpec.upto (s : _root_.Go.ChangeSpec) : _root_.Go.OpenSpec := { _root_.Go.OpenSpec.ofChange s with cond := some uptoSmall }

/-- 'pointsmanlaw18.OpenBuilds', WHERE WHAT IT READS IS OF BULK AT MOST 1048576: true; the input reads as it did. -/
def openBuildsUptoRow : OpenClaim := { program := "ytdbahaajgedgkaa", sum := "6acaf01c1ae816e24729ec00456f9e38172f8ccb002464076e2538a0b2025bca", func := "pointsman/pointsmanlaw18.OpenBuilds", spec := "openBuilds", apart := false, narrowed := true }
def OpenBuildsUptoSaid : Prop := openBuildsUptoRow.holds Try.pinned (OpenSpec.upto openBuildsSpec)

/-- 'pointsmanlaw18.OpenBack', WHERE WHAT IT READS IS OF BULK AT MOST 1048576: true; the input reads as it did. -/
def openBackUptoRow : OpenClaim := { program := "ytdbahaajgedgkaa", sum := "6acaf01c1ae816e24729ec00456f9e38172f8ccb002464076e2538a0b2025bca", func := "pointsman/pointsmanlaw18.OpenBack", spec := "openBack", apart := false, narrowed := true }
def OpenBackUptoSaid : Prop := openBackUptoRow.holds Try.pinned (OpenSpec.upto openBackSpec)

/-- 'pointsmanlaw18.OpenLast', WHERE WHAT IT READS IS OF BULK AT MOST 1048576: true; the input reads as it did. -/
def openLastUptoRow : OpenClaim := { program := "ytdbahaajgedgkaa", sum := "6acaf01c1ae816e24729ec00456f9e38172f8ccb002464076e2538a0b2025bca", func := "pointsman/pointsmanlaw18.OpenLast", spec := "openLast", apart := false, narrowed := true }
def OpenLastUptoSaid : Prop := openLastUptoRow.holds Try.pinned (OpenSpec.upto openLastSpec)

end Rows
end Go.Proofs.Ytdbahaajgedgkaa
