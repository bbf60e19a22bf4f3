/-
  No cell of these rows narrows 'for every input' (looked for: loops, veiled, ifaces, maps, wideKeys, modest, calm, conditions, laid).
  DERIVED. THE GIVEN ROWS OF THIS SEAT. 5 by the template 'for every input the law returns true; each argument reads behind the call as it read before'; 0 by the template 'total and deterministic' (their statements: YtdkjifnhhkdmbaaTotals.lean).
  GIVEN WITH THE SEED: the statements are not yours to turn. If you find one false, say at which input.
  Laid BY PROGRAM, IN A SANDBOX (cutbox-rows.mjs): the forced cells as the released guide's own fill.sh prints them over the translation 4247c6a462b0a241… (all of the seat's roots in one cut). By AI agents, Wed Nov 11 2026. No macro, syntax, notation, axiom, sorry.
-/
import Derived.Test.YtdkjifnhhkdmbaaChecked
import GoSem.Claim
import GoSem.ClaimJoined
import GoSem.ClaimMapViews
import Derived.JoinedTies
import Derived.KernelRfl
namespace Go.Proofs.Ytdkjifnhhkdmbaa
/- THE CELL 'sum', in the pinned program and in every row, IS THE sha256 OF THE DUMP (.gsa) THAT YtdkjifnhhkdmbaaProg.lean LOADS. Nothing in Lean hashes anything: it is a label: what it is worth is what the hold of that sum in a sandbox is worth. -/
noncomputable def Try.pinned : Pinned := { name := "ytdkjifnhhkdmbaa", sum := "4247c6a462b0a2419cc5087b3130277ea9e0a56d9b595719576906bf6cbf1849", checked := Try.checked }
namespace Rows
def none {H : Type} : Left H := { results := [], args := [] }

/-- 'pointsmanlaw13.RtoSteady': WHATEVER THE INPUT: true; the input reads as it did. -/
def rtoSteadySpec : ChangeSpec := { name := "rtoSteady", fn := fun _ => fun
  | [d1, d2] => { results := [.lit (.bool true)], args := [d1, d2] }
  | _ => none }
def rtoSteadyRow : OpenClaim := { program := "ytdkjifnhhkdmbaa", sum := "4247c6a462b0a2419cc5087b3130277ea9e0a56d9b595719576906bf6cbf1849", func := "pointsman/pointsmanlaw13.RtoSteady", spec := "rtoSteady", apart := false }
def RtoSteadySaid : Prop := rtoSteadyRow.holds Try.pinned (OpenSpec.ofChange rtoSteadySpec)

/-- ITS FALSE NEIGHBOUR: 'it returns false'. Refute it at one input. -/
def rtoSteadyWrong : ChangeSpec := { name := "rtoSteady", fn := fun _ => fun
  | [d1, d2] => { results := [.lit (.bool false)], args := [d1, d2] }
  | _ => none }
def RtoSteadyWrongFalsely : Prop := rtoSteadyRow.holds Try.pinned (OpenSpec.ofChange rtoSteadyWrong)

/-- 'pointsmanlaw13.RtoSmoothed': WHATEVER THE INPUT: true; the input reads as it did. -/
def rtoSmoothedSpec : ChangeSpec := { name := "rtoSmoothed", fn := fun _ => fun
  | [d] => { results := [.lit (.bool true)], args := [d] }
  | _ => none }
def rtoSmoothedRow : OpenClaim := { program := "ytdkjifnhhkdmbaa", sum := "4247c6a462b0a2419cc5087b3130277ea9e0a56d9b595719576906bf6cbf1849", func := "pointsman/pointsmanlaw13.RtoSmoothed", spec := "rtoSmoothed", apart := false }
def RtoSmoothedSaid : Prop := rtoSmoothedRow.holds Try.pinned (OpenSpec.ofChange rtoSmoothedSpec)

/-- ITS FALSE NEIGHBOUR: 'it returns false'. Refute it at one input. -/
def rtoSmoothedWrong : ChangeSpec := { name := "rtoSmoothed", fn := fun _ => fun
  | [d] => { results := [.lit (.bool false)], args := [d] }
  | _ => none }
def RtoSmoothedWrongFalsely : Prop := rtoSmoothedRow.holds Try.pinned (OpenSpec.ofChange rtoSmoothedWrong)

/-- 'pointsmanlaw13.RtoPlays': WHATEVER THE INPUT: true; the input reads as it did. -/
def rtoPlaysSpec : ChangeSpec := { name := "rtoPlays", fn := fun _ => fun
  | [d] => { results := [.lit (.bool true)], args := [d] }
  | _ => none }
def rtoPlaysRow : OpenClaim := { program := "ytdkjifnhhkdmbaa", sum := "4247c6a462b0a2419cc5087b3130277ea9e0a56d9b595719576906bf6cbf1849", func := "pointsman/pointsmanlaw13.RtoPlays", spec := "rtoPlays", apart := false }
def RtoPlaysSaid : Prop := rtoPlaysRow.holds Try.pinned (OpenSpec.ofChange rtoPlaysSpec)

/-- ITS FALSE NEIGHBOUR: 'it returns false'. Refute it at one input. -/
def rtoPlaysWrong : ChangeSpec := { name := "rtoPlays", fn := fun _ => fun
  | [d] => { results := [.lit (.bool false)], args := [d] }
  | _ => none }
def RtoPlaysWrongFalsely : Prop := rtoPlaysRow.holds Try.pinned (OpenSpec.ofChange rtoPlaysWrong)

/-- 'pointsmanlaw13.RtoBounded': WHATEVER THE INPUT: true; the input reads as it did. -/
def rtoBoundedSpec : ChangeSpec := { name := "rtoBounded", fn := fun _ => fun
  | [d] => { results := [.lit (.bool true)], args := [d] }
  | _ => none }
def rtoBoundedRow : OpenClaim := { program := "ytdkjifnhhkdmbaa", sum := "4247c6a462b0a2419cc5087b3130277ea9e0a56d9b595719576906bf6cbf1849", func := "pointsman/pointsmanlaw13.RtoBounded", spec := "rtoBounded", apart := false }
def RtoBoundedSaid : Prop := rtoBoundedRow.holds Try.pinned (OpenSpec.ofChange rtoBoundedSpec)

/-- ITS FALSE NEIGHBOUR: 'it returns false'. Refute it at one input. -/
def rtoBoundedWrong : ChangeSpec := { name := "rtoBounded", fn := fun _ => fun
  | [d] => { results := [.lit (.bool false)], args := [d] }
  | _ => none }
def RtoBoundedWrongFalsely : Prop := rtoBoundedRow.holds Try.pinned (OpenSpec.ofChange rtoBoundedWrong)

/-- 'pointsmanlaw13.RtoVoid': WHATEVER THE INPUT: true; the input reads as it did. -/
def rtoVoidSpec : ChangeSpec := { name := "rtoVoid", fn := fun _ => fun
  | [d] => { results := [.lit (.bool true)], args := [d] }
  | _ => none }
def rtoVoidRow : OpenClaim := { program := "ytdkjifnhhkdmbaa", sum := "4247c6a462b0a2419cc5087b3130277ea9e0a56d9b595719576906bf6cbf1849", func := "pointsman/pointsmanlaw13.RtoVoid", spec := "rtoVoid", apart := false }
def RtoVoidSaid : Prop := rtoVoidRow.holds Try.pinned (OpenSpec.ofChange rtoVoidSpec)

/-- ITS FALSE NEIGHBOUR: 'it returns false'. Refute it at one input. -/
def rtoVoidWrong : ChangeSpec := { name := "rtoVoid", fn := fun _ => fun
  | [d] => { results := [.lit (.bool false)], args := [d] }
  | _ => none }
def RtoVoidWrongFalsely : Prop := rtoVoidRow.holds Try.pinned (OpenSpec.ofChange rtoVoidWrong)

/- THE SECOND FORM. 'bulk': how many values and letters a reading holds, each counted each time it is reached (what is shared counts as often as it is met; a slice's spare places count too). A statement '..UptoSaid' is the law's where the arguments, and the package variables that the reading takes, are together of bulk at most 1048576: NARROWER than '..Said'. Prove '..Said' where nothing that the law and all that it calls make is longer than what came in: it says more and counts as full. Else prove '..UptoSaid'. A law counts once. -/
mutual
def uptoBulk {H : Type} : DataW H → Nat
  | .lit (.string bytes) => bytes.length + 1
  | .lit _ => 1
  | .nil => 1
  | .ptr d => uptoBulk d + 1
  | .slice elems spare => uptoBulkAll elems + uptoBulkAll spare + 1
  | .agg parts => uptoBulkAll parts + 1
  | .iface _ d => uptoBulk d + 1
  | .map entries => uptoBulkEntries entries + 1
  | .held _ => 1
def uptoBulkAll {H : Type} : List (DataW H) → Nat
  | [] => 0
  | d :: r => uptoBulk d + uptoBulkAll r
def uptoBulkEntries {H : Type} : List (Lit × DataW H) → Nat
  | [] => 0
  | x :: r => uptoBulkEntry x + uptoBulkEntries r
def uptoBulkEntry {H : Type} : Lit × DataW H → Nat
  | (.string bytes, d) => bytes.length + uptoBulk d + 1
  | (_, d) => uptoBulk d + 1
 end
def uptoSmall : (H : Type) → List (DataW H) → Bool := fun _ ds => decide (uptoBulkAll ds ≤ 1048576)
def OpenSpec.upto (s : _root_.Go.ChangeSpec) : _root_.Go.OpenSpec := { _root_.Go.OpenSpec.ofChange s with cond := some uptoSmall }

/-- 'pointsmanlaw13.RtoSteady', WHERE WHAT IT READS IS OF BULK AT MOST 1048576: true; the input reads as it did. -/
def rtoSteadyUptoRow : OpenClaim := { program := "ytdkjifnhhkdmbaa", sum := "4247c6a462b0a2419cc5087b3130277ea9e0a56d9b595719576906bf6cbf1849", func := "pointsman/pointsmanlaw13.RtoSteady", spec := "rtoSteady", apart := false, narrowed := true }
def RtoSteadyUptoSaid : Prop := rtoSteadyUptoRow.holds Try.pinned (OpenSpec.upto rtoSteadySpec)

/-- 'pointsmanlaw13.RtoSmoothed', WHERE WHAT IT READS IS OF BULK AT MOST 1048576: true; the input reads as it did. -/
def rtoSmoothedUptoRow : OpenClaim := { program := "ytdkjifnhhkdmbaa", sum := "4247c6a462b0a2419cc5087b3130277ea9e0a56d9b595719576906bf6cbf1849", func := "pointsman/pointsmanlaw13.RtoSmoothed", spec := "rtoSmoothed", apart := false, narrowed := true }
def RtoSmoothedUptoSaid : Prop := rtoSmoothedUptoRow.holds Try.pinned (OpenSpec.upto rtoSmoothedSpec)

/-- 'pointsmanlaw13.RtoPlays', WHERE WHAT IT READS IS OF BULK AT MOST 1048576: true; the input reads as it did. -/
def rtoPlaysUptoRow : OpenClaim := { program := "ytdkjifnhhkdmbaa", sum := "4247c6a462b0a2419cc5087b3130277ea9e0a56d9b595719576906bf6cbf1849", func := "pointsman/pointsmanlaw13.RtoPlays", spec := "rtoPlays", apart := false, narrowed := true }
def RtoPlaysUptoSaid : Prop := rtoPlaysUptoRow.holds Try.pinned (OpenSpec.upto rtoPlaysSpec)

/-- 'pointsmanlaw13.RtoBounded', WHERE WHAT IT READS IS OF BULK AT MOST 1048576: true; the input reads as it did. -/
def rtoBoundedUptoRow : OpenClaim := { program := "ytdkjifnhhkdmbaa", sum := "4247c6a462b0a2419cc5087b3130277ea9e0a56d9b595719576906bf6cbf1849", func := "pointsman/pointsmanlaw13.RtoBounded", spec := "rtoBounded", apart := false, narrowed := true }
def RtoBoundedUptoSaid : Prop := rtoBoundedUptoRow.holds Try.pinned (OpenSpec.upto rtoBoundedSpec)

/-- 'pointsmanlaw13.RtoVoid', WHERE WHAT IT READS IS OF BULK AT MOST 1048576: true; the input reads as it did. -/
def rtoVoidUptoRow : OpenClaim := { program := "ytdkjifnhhkdmbaa", sum := "4247c6a462b0a2419cc5087b3130277ea9e0a56d9b595719576906bf6cbf1849", func := "pointsman/pointsmanlaw13.RtoVoid", spec := "rtoVoid", apart := false, narrowed := true }
def RtoVoidUptoSaid : Prop := rtoVoidUptoRow.holds Try.pinned (OpenSpec.upto rtoVoidSpec)

end Rows
end Go.Proofs.Ytdkjifnhhkdmbaa
