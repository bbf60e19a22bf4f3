/-
  No cell of these rows narrows 'for every input' (looked for: loops, veiled, ifaces, maps, wideKeys, modest, calm, conditions, laid).
  DERIVED. THE GIVEN ROWS OF THIS SEAT. 3 by the template 'for every input the law returns true; each argument reads behind the call as it read before'; 0 by the template 'total and deterministic' (their statements: YtfonbpmdbpdncaaTotals.lean).
  GIVEN WITH THE SEED: the statements are not yours to turn. If you find one false, say at which input.
  Laid BY PROGRAM, IN A SANDBOX (cutbox-rows.mjs): the forced cells as the released guide's own fill.sh prints them over the translation da67a43045f93523… (all of the seat's roots in one cut). By AI agents, Wed Nov 11 2026. No macro, syntax, notation, axiom, sorry.
-/
import Derived.Test.YtfonbpmdbpdncaaChecked
import GoSem.Claim
import GoSem.ClaimJoined
import GoSem.ClaimMapViews
import Derived.JoinedTies
import Derived.KernelRfl
namespace Go.Proofs.Ytfonbpmdbpdncaa
/- THE CELL 'sum', in the pinned program and in every row, IS THE sha256 OF THE DUMP (.gsa) THAT YtfonbpmdbpdncaaProg.lean LOADS. Nothing in Lean hashes anything: it is a label: what it is worth is what the hold of that sum in a sandbox is worth. -/
noncomputable def Try.pinned : Pinned := { name := "ytfonbpmdbpdncaa", sum := "da67a43045f935233de27549bd71786fc8e680c325f75e4592c3df54a1cfcb86", checked := Try.checked }
namespace Rows
def none {H : Type} : Left H := { results := [], args := [] }

/-- 'pointsmanlaw23.FsmTable': WHATEVER THE INPUT: true; the input reads as it did. -/
def fsmTableSpec : ChangeSpec := { name := "fsmTable", fn := fun _ => fun
  | [d1, d2] => { results := [.lit (.bool true)], args := [d1, d2] }
  | _ => none }
def fsmTableRow : OpenClaim := { program := "ytfonbpmdbpdncaa", sum := "da67a43045f935233de27549bd71786fc8e680c325f75e4592c3df54a1cfcb86", func := "pointsman/pointsmanlaw23.FsmTable", spec := "fsmTable", unfollowed := true, recurses := true, apart := false }
def FsmTableSaid : Prop := fsmTableRow.holds Try.pinned (OpenSpec.ofChange fsmTableSpec)

/-- ITS FALSE NEIGHBOUR: 'it returns false'. Refute it at one input. -/
def fsmTableWrong : ChangeSpec := { name := "fsmTable", fn := fun _ => fun
  | [d1, d2] => { results := [.lit (.bool false)], args := [d1, d2] }
  | _ => none }
def FsmTableWrongFalsely : Prop := fsmTableRow.holds Try.pinned (OpenSpec.ofChange fsmTableWrong)

/-- 'pointsmanlaw23.FsmSpeaks': WHATEVER THE INPUT: true; the input reads as it did. -/
def fsmSpeaksSpec : ChangeSpec := { name := "fsmSpeaks", fn := fun _ => fun
  | [d1, d2] => { results := [.lit (.bool true)], args := [d1, d2] }
  | _ => none }
def fsmSpeaksRow : OpenClaim := { program := "ytfonbpmdbpdncaa", sum := "da67a43045f935233de27549bd71786fc8e680c325f75e4592c3df54a1cfcb86", func := "pointsman/pointsmanlaw23.FsmSpeaks", spec := "fsmSpeaks", unfollowed := true, recurses := true, apart := false }
def FsmSpeaksSaid : Prop := fsmSpeaksRow.holds Try.pinned (OpenSpec.ofChange fsmSpeaksSpec)

/-- ITS FALSE NEIGHBOUR: 'it returns false'. Refute it at one input. -/
def fsmSpeaksWrong : ChangeSpec := { name := "fsmSpeaks", fn := fun _ => fun
  | [d1, d2] => { results := [.lit (.bool false)], args := [d1, d2] }
  | _ => none }
def FsmSpeaksWrongFalsely : Prop := fsmSpeaksRow.holds Try.pinned (OpenSpec.ofChange fsmSpeaksWrong)

/-- 'pointsmanlaw23.FsmVoid': WHATEVER THE INPUT: true; the input reads as it did. -/
def fsmVoidSpec : ChangeSpec := { name := "fsmVoid", fn := fun _ => fun
  | [d] => { results := [.lit (.bool true)], args := [d] }
  | _ => none }
def fsmVoidRow : OpenClaim := { program := "ytfonbpmdbpdncaa", sum := "da67a43045f935233de27549bd71786fc8e680c325f75e4592c3df54a1cfcb86", func := "pointsman/pointsmanlaw23.FsmVoid", spec := "fsmVoid", unfollowed := true, recurses := true, apart := false }
def FsmVoidSaid : Prop := fsmVoidRow.holds Try.pinned (OpenSpec.ofChange fsmVoidSpec)

/-- ITS FALSE NEIGHBOUR: 'it returns false'. Refute it at one input. -/
def fsmVoidWrong : ChangeSpec := { name := "fsmVoid", fn := fun _ => fun
  | [d] => { results := [.lit (.bool false)], args := [d] }
  | _ => none }
def FsmVoidWrongFalsely : Prop := fsmVoidRow.holds Try.pinned (OpenSpec.ofChange fsmVoidWrong)

/- THE SECOND FORM. 'bulk': how many values and letters a reading holds, each counted each time it is reached (what is shared counts as often as it is met; a slice's spare places count too). A statement '..UptoSaid' is the law's where the arguments, and the package variables that the reading takes, are together of bulk at most 1048576: NARROWER than '..Said'. Prove '..Said' where nothing that the law and all that it calls make is longer than what came in: it says more and counts as full. Else prove '..UptoSaid'. A law counts once. -/
mutual
def uptoBulk {H : Type} : DataW H → Nat
  | .lit (.string bytes) => bytes.length + 1
  | .lit _ => 1
  | .nil => 1
  | .ptr d => uptoBulk d + 1
  | .slice elems spare => uptoBulkAll elems + uptoBulkAll spare + 1
  | .agg parts => uptoBulkAll parts + 1
  | .iface _ d => uptoBulk d + 1
  | .map entries => uptoBulkEntries entries + 1
  | .held _ => 1
def uptoBulkAll {H : Type} : List (DataW H) → Nat
  | [] => 0
  | d :: r => uptoBulk d + uptoBulkAll r
def uptoBulkEntries {H : Type} : List (Lit × DataW H) → Nat
  | [] => 0
  | x :: r => uptoBulkEntry x + uptoBulkEntries r
def uptoBulkEntry {H : Type} : Lit × DataW H → Nat
  | (.string bytes, d) => bytes.length + uptoBulk d + 1
  | (_, d) => uptoBulk d + 1
 end
def uptoSmall : (H : Type) → List (DataW H) → Bool := fun _ ds => decide (uptoBulkAll ds ≤ 1048576)
def OpenSpec.upto (s : _root_.Go.ChangeSpec) : _root_.Go.OpenSpec := { _root_.Go.OpenSpec.ofChange s with cond := some uptoSmall }

/-- 'pointsmanlaw23.FsmTable', WHERE WHAT IT READS IS OF BULK AT MOST 1048576: true; the input reads as it did. -/
def fsmTableUptoRow : OpenClaim := { program := "ytfonbpmdbpdncaa", sum := "da67a43045f935233de27549bd71786fc8e680c325f75e4592c3df54a1cfcb86", func := "pointsman/pointsmanlaw23.FsmTable", spec := "fsmTable", unfollowed := true, recurses := true, apart := false, narrowed := true }
def FsmTableUptoSaid : Prop := fsmTableUptoRow.holds Try.pinned (OpenSpec.upto fsmTableSpec)

/-- 'pointsmanlaw23.FsmSpeaks', WHERE WHAT IT READS IS OF BULK AT MOST 1048576: true; the input reads as it did. -/
def fsmSpeaksUptoRow : OpenClaim := { program := "ytfonbpmdbpdncaa", sum := "da67a43045f935233de27549bd71786fc8e680c325f75e4592c3df54a1cfcb86", func := "pointsman/pointsmanlaw23.FsmSpeaks", spec := "fsmSpeaks", unfollowed := true, recurses := true, apart := false, narrowed := true }
def FsmSpeaksUptoSaid : Prop := fsmSpeaksUptoRow.holds Try.pinned (OpenSpec.upto fsmSpeaksSpec)

/-- 'pointsmanlaw23.FsmVoid', WHERE WHAT IT READS IS OF BULK AT MOST 1048576: true; the input reads as it did. -/
def fsmVoidUptoRow : OpenClaim := { program := "ytfonbpmdbpdncaa", sum := "da67a43045f935233de27549bd71786fc8e680c325f75e4592c3df54a1cfcb86", func := "pointsman/pointsmanlaw23.FsmVoid", spec := "fsmVoid", unfollowed := true, recurses := true, apart := false, narrowed := true }
def FsmVoidUptoSaid : Prop := fsmVoidUptoRow.holds Try.pinned (OpenSpec.upto fsmVoidSpec)

end Rows
end Go.Proofs.Ytfonbpmdbpdncaa
