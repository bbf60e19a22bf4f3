/-
  No cell of these rows narrows 'for every input' (looked for: loops, veiled, ifaces, maps, wideKeys, modest, calm, conditions, laid).
  DERIVED. THE GIVEN ROWS OF THIS SEAT. 7 by the template 'for every input the law returns true; each argument reads behind the call as it read before'; 0 by the template 'total and deterministic' (their statements: YtohahlcjkhgimaaTotals.lean).
  GIVEN WITH THE SEED: the statements are not yours to turn. If you find one false, say at which input.
  Laid BY PROGRAM, IN A SANDBOX (cutbox-rows.mjs): the forced cells as the released guide's own fill.sh prints them over the translation 45173fdda2fa6190… (all of the seat's roots in one cut). By AI agents, Wed Nov 11 2026. No macro, syntax, notation, axiom, sorry.
-/
import Derived.Test.YtohahlcjkhgimaaChecked
import GoSem.Claim
import GoSem.ClaimJoined
import GoSem.ClaimMapViews
import Derived.JoinedTies
import Derived.KernelRfl
namespace Go.Proofs.Ytohahlcjkhgimaa
/- THE CELL 'sum', in the pinned program and in every row, IS THE sha256 OF THE DUMP (.gsa) THAT YtohahlcjkhgimaaProg.lean LOADS. Nothing in Lean hashes anything: it is a label: what it is worth is what the hold of that sum in a sandbox is worth. -/
noncomputable def Try.pinned : Pinned := { name := "ytohahlcjkhgimaa", sum := "45173fdda2fa6190a0e96cc0b51e54f04394df0b5af167a9524e13958911de84", checked := Try.checked }
namespace Rows
def none {H : Type} : Left H := { results := [], args := [] }

/-- 'pointsmanlaw06.ArpFinds': WHATEVER THE INPUT: true; the input reads as it did. -/
def arpFindsSpec : ChangeSpec := { name := "arpFinds", fn := fun _ => fun
  | [d1, d2, d3, d4, d5] => { results := [.lit (.bool true)], args := [d1, d2, d3, d4, d5] }
  | _ => none }
def arpFindsRow : OpenClaim := { program := "ytohahlcjkhgimaa", sum := "45173fdda2fa6190a0e96cc0b51e54f04394df0b5af167a9524e13958911de84", func := "pointsman/pointsmanlaw06.ArpFinds", spec := "arpFinds", unfollowed := true, recurses := true, apart := false }
def ArpFindsSaid : Prop := arpFindsRow.holds Try.pinned (OpenSpec.ofChange arpFindsSpec)

/-- ITS FALSE NEIGHBOUR: 'it returns false'. Refute it at one input. -/
def arpFindsWrong : ChangeSpec := { name := "arpFinds", fn := fun _ => fun
  | [d1, d2, d3, d4, d5] => { results := [.lit (.bool false)], args := [d1, d2, d3, d4, d5] }
  | _ => none }
def ArpFindsWrongFalsely : Prop := arpFindsRow.holds Try.pinned (OpenSpec.ofChange arpFindsWrong)

/-- 'pointsmanlaw06.ArpFull': WHATEVER THE INPUT: true; the input reads as it did. -/
def arpFullSpec : ChangeSpec := { name := "arpFull", fn := fun _ => fun
  | [d1, d2] => { results := [.lit (.bool true)], args := [d1, d2] }
  | _ => none }
def arpFullRow : OpenClaim := { program := "ytohahlcjkhgimaa", sum := "45173fdda2fa6190a0e96cc0b51e54f04394df0b5af167a9524e13958911de84", func := "pointsman/pointsmanlaw06.ArpFull", spec := "arpFull", unfollowed := true, recurses := true, apart := false }
def ArpFullSaid : Prop := arpFullRow.holds Try.pinned (OpenSpec.ofChange arpFullSpec)

/-- ITS FALSE NEIGHBOUR: 'it returns false'. Refute it at one input. -/
def arpFullWrong : ChangeSpec := { name := "arpFull", fn := fun _ => fun
  | [d1, d2] => { results := [.lit (.bool false)], args := [d1, d2] }
  | _ => none }
def ArpFullWrongFalsely : Prop := arpFullRow.holds Try.pinned (OpenSpec.ofChange arpFullWrong)

/-- 'pointsmanlaw06.ArpBuilds': WHATEVER THE INPUT: true; the input reads as it did. -/
def arpBuildsSpec : ChangeSpec := { name := "arpBuilds", fn := fun _ => fun
  | [d] => { results := [.lit (.bool true)], args := [d] }
  | _ => none }
def arpBuildsRow : OpenClaim := { program := "ytohahlcjkhgimaa", sum := "45173fdda2fa6190a0e96cc0b51e54f04394df0b5af167a9524e13958911de84", func := "pointsman/pointsmanlaw06.ArpBuilds", spec := "arpBuilds", unfollowed := true, recurses := true, apart := false }
def ArpBuildsSaid : Prop := arpBuildsRow.holds Try.pinned (OpenSpec.ofChange arpBuildsSpec)

/-- ITS FALSE NEIGHBOUR: 'it returns false'. Refute it at one input. -/
def arpBuildsWrong : ChangeSpec := { name := "arpBuilds", fn := fun _ => fun
  | [d] => { results := [.lit (.bool false)], args := [d] }
  | _ => none }
def ArpBuildsWrongFalsely : Prop := arpBuildsRow.holds Try.pinned (OpenSpec.ofChange arpBuildsWrong)

/-- 'pointsmanlaw06.ArpReads': WHATEVER THE INPUT: true; the input reads as it did. -/
def arpReadsSpec : ChangeSpec := { name := "arpReads", fn := fun _ => fun
  | [d] => { results := [.lit (.bool true)], args := [d] }
  | _ => none }
def arpReadsRow : OpenClaim := { program := "ytohahlcjkhgimaa", sum := "45173fdda2fa6190a0e96cc0b51e54f04394df0b5af167a9524e13958911de84", func := "pointsman/pointsmanlaw06.ArpReads", spec := "arpReads", unfollowed := true, recurses := true, apart := false }
def ArpReadsSaid : Prop := arpReadsRow.holds Try.pinned (OpenSpec.ofChange arpReadsSpec)

/-- ITS FALSE NEIGHBOUR: 'it returns false'. Refute it at one input. -/
def arpReadsWrong : ChangeSpec := { name := "arpReads", fn := fun _ => fun
  | [d] => { results := [.lit (.bool false)], args := [d] }
  | _ => none }
def ArpReadsWrongFalsely : Prop := arpReadsRow.holds Try.pinned (OpenSpec.ofChange arpReadsWrong)

/-- 'pointsmanlaw06.ArpOnce': WHATEVER THE INPUT: true; the input reads as it did. -/
def arpOnceSpec : ChangeSpec := { name := "arpOnce", fn := fun _ => fun
  | [d] => { results := [.lit (.bool true)], args := [d] }
  | _ => none }
def arpOnceRow : OpenClaim := { program := "ytohahlcjkhgimaa", sum := "45173fdda2fa6190a0e96cc0b51e54f04394df0b5af167a9524e13958911de84", func := "pointsman/pointsmanlaw06.ArpOnce", spec := "arpOnce", unfollowed := true, recurses := true, apart := false }
def ArpOnceSaid : Prop := arpOnceRow.holds Try.pinned (OpenSpec.ofChange arpOnceSpec)

/-- ITS FALSE NEIGHBOUR: 'it returns false'. Refute it at one input. -/
def arpOnceWrong : ChangeSpec := { name := "arpOnce", fn := fun _ => fun
  | [d] => { results := [.lit (.bool false)], args := [d] }
  | _ => none }
def ArpOnceWrongFalsely : Prop := arpOnceRow.holds Try.pinned (OpenSpec.ofChange arpOnceWrong)

/-- 'pointsmanlaw06.ArpBack': WHATEVER THE INPUT: true; the input reads as it did. -/
def arpBackSpec : ChangeSpec := { name := "arpBack", fn := fun _ => fun
  | [d1, d2] => { results := [.lit (.bool true)], args := [d1, d2] }
  | _ => none }
def arpBackRow : OpenClaim := { program := "ytohahlcjkhgimaa", sum := "45173fdda2fa6190a0e96cc0b51e54f04394df0b5af167a9524e13958911de84", func := "pointsman/pointsmanlaw06.ArpBack", spec := "arpBack", unfollowed := true, recurses := true, apart := false }
def ArpBackSaid : Prop := arpBackRow.holds Try.pinned (OpenSpec.ofChange arpBackSpec)

/-- ITS FALSE NEIGHBOUR: 'it returns false'. Refute it at one input. -/
def arpBackWrong : ChangeSpec := { name := "arpBack", fn := fun _ => fun
  | [d1, d2] => { results := [.lit (.bool false)], args := [d1, d2] }
  | _ => none }
def ArpBackWrongFalsely : Prop := arpBackRow.holds Try.pinned (OpenSpec.ofChange arpBackWrong)

/-- 'pointsmanlaw06.ArpVoid': WHATEVER THE INPUT: true; the input reads as it did. -/
def arpVoidSpec : ChangeSpec := { name := "arpVoid", fn := fun _ => fun
  | [d1, d2, d3] => { results := [.lit (.bool true)], args := [d1, d2, d3] }
  | _ => none }
def arpVoidRow : OpenClaim := { program := "ytohahlcjkhgimaa", sum := "45173fdda2fa6190a0e96cc0b51e54f04394df0b5af167a9524e13958911de84", func := "pointsman/pointsmanlaw06.ArpVoid", spec := "arpVoid", unfollowed := true, recurses := true, apart := false }
def ArpVoidSaid : Prop := arpVoidRow.holds Try.pinned (OpenSpec.ofChange arpVoidSpec)

/-- ITS FALSE NEIGHBOUR: 'it returns false'. Refute it at one input. -/
def arpVoidWrong : ChangeSpec := { name := "arpVoid", fn := fun _ => fun
  | [d1, d2, d3] => { results := [.lit (.bool false)], args := [d1, d2, d3] }
  | _ => none }
def ArpVoidWrongFalsely : Prop := arpVoidRow.holds Try.pinned (OpenSpec.ofChange arpVoidWrong)

/- THE SECOND FORM. 'bulk': how many values and letters a reading holds, each counted each time it is reached (what is shared counts as often as it is met; a slice's spare places count too). A statement '..UptoSaid' is the law's where the arguments, and the package variables that the reading takes, are together of bulk at most 1048576: NARROWER than '..Said'. Prove '..Said' where nothing that the law and all that it calls make is longer than what came in: it says more and counts as full. Else prove '..UptoSaid'. A law counts once. -/
mutual
def uptoBulk {H : Type} : DataW H → Nat
  | .lit (.string bytes) => bytes.length + 1
  | .lit _ => 1
  | .nil => 1
  | .ptr d => uptoBulk d + 1
  | .slice elems spare => uptoBulkAll elems + uptoBulkAll spare + 1
  | .agg parts => uptoBulkAll parts + 1
  | .iface _ d => uptoBulk d + 1
  | .map entries => uptoBulkEntries entries + 1
  | .held _ => 1
def uptoBulkAll {H : Type} : List (DataW H) → Nat
  | [] => 0
  | d :: r => uptoBulk d + uptoBulkAll r
def uptoBulkEntries {H : Type} : List (Lit × DataW H) → Nat
  | [] => 0
  | x :: r => uptoBulkEntry x + uptoBulkEntries r
def uptoBulkEntry {H : Type} : Lit × DataW H → Nat
  | (.string bytes, d) => bytes.length + uptoBulk d + 1
  | (_, d) => uptoBulk d + 1
 end
def uptoSmall : (H : Type) → List (DataW H) → Bool := fun _ ds => decide (uptoBulkAll ds ≤ 1048576)
def OpenSpec.upto (s : _root_.Go.ChangeSpec) : _root_.Go.OpenSpec := { _root_.Go.OpenSpec.ofChange s with cond := some uptoSmall }

/-- 'pointsmanlaw06.ArpFinds', WHERE WHAT IT READS IS OF BULK AT MOST 1048576: true; the input reads as it did. -/
def arpFindsUptoRow : OpenClaim := { program := "ytohahlcjkhgimaa", sum := "45173fdda2fa6190a0e96cc0b51e54f04394df0b5af167a9524e13958911de84", func := "pointsman/pointsmanlaw06.ArpFinds", spec := "arpFinds", unfollowed := true, recurses := true, apart := false, narrowed := true }
def ArpFindsUptoSaid : Prop := arpFindsUptoRow.holds Try.pinned (OpenSpec.upto arpFindsSpec)

/-- 'pointsmanlaw06.ArpFull', WHERE WHAT IT READS IS OF BULK AT MOST 1048576: true; the input reads as it did. -/
def arpFullUptoRow : OpenClaim := { program := "ytohahlcjkhgimaa", sum := "45173fdda2fa6190a0e96cc0b51e54f04394df0b5af167a9524e13958911de84", func := "pointsman/pointsmanlaw06.ArpFull", spec := "arpFull", unfollowed := true, recurses := true, apart := false, narrowed := true }
def ArpFullUptoSaid : Prop := arpFullUptoRow.holds Try.pinned (OpenSpec.upto arpFullSpec)

/-- 'pointsmanlaw06.ArpBuilds', WHERE WHAT IT READS IS OF BULK AT MOST 1048576: true; the input reads as it did. -/
def arpBuildsUptoRow : OpenClaim := { program := "ytohahlcjkhgimaa", sum := "45173fdda2fa6190a0e96cc0b51e54f04394df0b5af167a9524e13958911de84", func := "pointsman/pointsmanlaw06.ArpBuilds", spec := "arpBuilds", unfollowed := true, recurses := true, apart := false, narrowed := true }
def ArpBuildsUptoSaid : Prop := arpBuildsUptoRow.holds Try.pinned (OpenSpec.upto arpBuildsSpec)

/-- 'pointsmanlaw06.ArpReads', WHERE WHAT IT READS IS OF BULK AT MOST 1048576: true; the input reads as it did. -/
def arpReadsUptoRow : OpenClaim := { program := "ytohahlcjkhgimaa", sum := "45173fdda2fa6190a0e96cc0b51e54f04394df0b5af167a9524e13958911de84", func := "pointsman/pointsmanlaw06.ArpReads", spec := "arpReads", unfollowed := true, recurses := true, apart := false, narrowed := true }
def ArpReadsUptoSaid : Prop := arpReadsUptoRow.holds Try.pinned (OpenSpec.upto arpReadsSpec)

/-- 'pointsmanlaw06.ArpOnce', WHERE WHAT IT READS IS OF BULK AT MOST 1048576: true; the input reads as it did. -/
def arpOnceUptoRow : OpenClaim := { program := "ytohahlcjkhgimaa", sum := "45173fdda2fa6190a0e96cc0b51e54f04394df0b5af167a9524e13958911de84", func := "pointsman/pointsmanlaw06.ArpOnce", spec := "arpOnce", unfollowed := true, recurses := true, apart := false, narrowed := true }
def ArpOnceUptoSaid : Prop := arpOnceUptoRow.holds Try.pinned (OpenSpec.upto arpOnceSpec)

/-- 'pointsmanlaw06.ArpBack', WHERE WHAT IT READS IS OF BULK AT MOST 1048576: true; the input reads as it did. -/
def arpBackUptoRow : OpenClaim := { program := "ytohahlcjkhgimaa", sum := "45173fdda2fa6190a0e96cc0b51e54f04394df0b5af167a9524e13958911de84", func := "pointsman/pointsmanlaw06.ArpBack", spec := "arpBack", unfollowed := true, recurses := true, apart := false, narrowed := true }
def ArpBackUptoSaid : Prop := arpBackUptoRow.holds Try.pinned (OpenSpec.upto arpBackSpec)

/-- 'pointsmanlaw06.ArpVoid', WHERE WHAT IT READS IS OF BULK AT MOST 1048576: true; the input reads as it did. -/
def arpVoidUptoRow : OpenClaim := { program := "ytohahlcjkhgimaa", sum := "45173fdda2fa6190a0e96cc0b51e54f04394df0b5af167a9524e13958911de84", func := "pointsman/pointsmanlaw06.ArpVoid", spec := "arpVoid", unfollowed := true, recurses := true, apart := false, narrowed := true }
def ArpVoidUptoSaid : Prop := arpVoidUptoRow.holds Try.pinned (OpenSpec.upto arpVoidSpec)

end Rows
end Go.Proofs.Ytohahlcjkhgimaa
