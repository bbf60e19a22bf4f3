/-
  No cell of these rows narrows 'for every input' (looked for: loops, veiled, ifaces, maps, wideKeys, modest, calm, conditions, laid).
  DERIVED. THE GIVEN ROWS OF THIS SEAT. 6 by the template 'for every input the law returns true; each argument reads behind the call as it read before'; 0 by the template 'total and deterministic' (their statements: YtmimfjgnmmfhdaaTotals.lean).
  GIVEN WITH THE SEED: the statements are not yours to turn. If you find one false, say at which input.
  Laid BY PROGRAM, IN A SANDBOX (cutbox-rows.mjs): the forced cells as the released guide's own fill.sh prints them over the translation 09a5c11259503ce5… (all of the seat's roots in one cut). By AI agents, Wed Nov 11 2026. No macro, syntax, notation, axiom, sorry.
-/
import Derived.Test.YtmimfjgnmmfhdaaChecked
import GoSem.Claim
import GoSem.ClaimJoined
import GoSem.ClaimMapViews
import Derived.JoinedTies
import Derived.KernelRfl
namespace Go.Proofs.Ytmimfjgnmmfhdaa
/- THE CELL 'sum', in the pinned program and in every row, IS THE sha256 OF THE DUMP (.gsa) THAT YtmimfjgnmmfhdaaProg.lean LOADS. Nothing in Lean hashes anything: it is a label: what it is worth is what the hold of that sum in a sandbox is worth. -/
noncomputable def Try.pinned : Pinned := { name := "ytmimfjgnmmfhdaa", sum := "09a5c11259503ce5ee346d2c5a9bff935ab299a2fe044b71531773c04b62cf94", checked := Try.checked }
namespace Rows
def none {H : Type} : Left H := { results := [], args := [] }

/-- 'pointsmanlaw28.TrieFull': WHATEVER THE INPUT: true; the input reads as it did. -/
def trieFullSpec : ChangeSpec := { name := "trieFull", fn := fun _ => fun
  | [d] => { results := [.lit (.bool true)], args := [d] }
  | _ => none }
def trieFullRow : OpenClaim := { program := "ytmimfjgnmmfhdaa", sum := "09a5c11259503ce5ee346d2c5a9bff935ab299a2fe044b71531773c04b62cf94", func := "pointsman/pointsmanlaw28.TrieFull", spec := "trieFull", recurses := true, apart := false }
def TrieFullSaid : Prop := trieFullRow.holds Try.pinned (OpenSpec.ofChange trieFullSpec)

/-- ITS FALSE NEIGHBOUR: 'it returns false'. Refute it at one input. -/
def trieFullWrong : ChangeSpec := { name := "trieFull", fn := fun _ => fun
  | [d] => { results := [.lit (.bool false)], args := [d] }
  | _ => none }
def TrieFullWrongFalsely : Prop := trieFullRow.holds Try.pinned (OpenSpec.ofChange trieFullWrong)

/-- 'pointsmanlaw28.TrieLongest': WHATEVER THE INPUT: true; the input reads as it did. -/
def trieLongestSpec : ChangeSpec := { name := "trieLongest", fn := fun _ => fun
  | [d1, d2] => { results := [.lit (.bool true)], args := [d1, d2] }
  | _ => none }
def trieLongestRow : OpenClaim := { program := "ytmimfjgnmmfhdaa", sum := "09a5c11259503ce5ee346d2c5a9bff935ab299a2fe044b71531773c04b62cf94", func := "pointsman/pointsmanlaw28.TrieLongest", spec := "trieLongest", unfollowed := true, recurses := true, apart := false }
def TrieLongestSaid : Prop := trieLongestRow.holds Try.pinned (OpenSpec.ofChange trieLongestSpec)

/-- ITS FALSE NEIGHBOUR: 'it returns false'. Refute it at one input. -/
def trieLongestWrong : ChangeSpec := { name := "trieLongest", fn := fun _ => fun
  | [d1, d2] => { results := [.lit (.bool false)], args := [d1, d2] }
  | _ => none }
def TrieLongestWrongFalsely : Prop := trieLongestRow.holds Try.pinned (OpenSpec.ofChange trieLongestWrong)

/-- 'pointsmanlaw28.TrieUndone': WHATEVER THE INPUT: true; the input reads as it did. -/
def trieUndoneSpec : ChangeSpec := { name := "trieUndone", fn := fun _ => fun
  | [d1, d2] => { results := [.lit (.bool true)], args := [d1, d2] }
  | _ => none }
def trieUndoneRow : OpenClaim := { program := "ytmimfjgnmmfhdaa", sum := "09a5c11259503ce5ee346d2c5a9bff935ab299a2fe044b71531773c04b62cf94", func := "pointsman/pointsmanlaw28.TrieUndone", spec := "trieUndone", unfollowed := true, recurses := true, apart := false }
def TrieUndoneSaid : Prop := trieUndoneRow.holds Try.pinned (OpenSpec.ofChange trieUndoneSpec)

/-- ITS FALSE NEIGHBOUR: 'it returns false'. Refute it at one input. -/
def trieUndoneWrong : ChangeSpec := { name := "trieUndone", fn := fun _ => fun
  | [d1, d2] => { results := [.lit (.bool false)], args := [d1, d2] }
  | _ => none }
def TrieUndoneWrongFalsely : Prop := trieUndoneRow.holds Try.pinned (OpenSpec.ofChange trieUndoneWrong)

/-- 'pointsmanlaw28.TrieVoid': WHATEVER THE INPUT: true; the input reads as it did. -/
def trieVoidSpec : ChangeSpec := { name := "trieVoid", fn := fun _ => fun
  | [d1, d2] => { results := [.lit (.bool true)], args := [d1, d2] }
  | _ => none }
def trieVoidRow : OpenClaim := { program := "ytmimfjgnmmfhdaa", sum := "09a5c11259503ce5ee346d2c5a9bff935ab299a2fe044b71531773c04b62cf94", func := "pointsman/pointsmanlaw28.TrieVoid", spec := "trieVoid", unfollowed := true, recurses := true, apart := false }
def TrieVoidSaid : Prop := trieVoidRow.holds Try.pinned (OpenSpec.ofChange trieVoidSpec)

/-- ITS FALSE NEIGHBOUR: 'it returns false'. Refute it at one input. -/
def trieVoidWrong : ChangeSpec := { name := "trieVoid", fn := fun _ => fun
  | [d1, d2] => { results := [.lit (.bool false)], args := [d1, d2] }
  | _ => none }
def TrieVoidWrongFalsely : Prop := trieVoidRow.holds Try.pinned (OpenSpec.ofChange trieVoidWrong)

/-- 'pointsmanlaw28.TriePlays': WHATEVER THE INPUT: true; the input reads as it did. -/
def triePlaysSpec : ChangeSpec := { name := "triePlays", fn := fun _ => fun
  | [d1, d2, d3, d4] => { results := [.lit (.bool true)], args := [d1, d2, d3, d4] }
  | _ => none }
def triePlaysRow : OpenClaim := { program := "ytmimfjgnmmfhdaa", sum := "09a5c11259503ce5ee346d2c5a9bff935ab299a2fe044b71531773c04b62cf94", func := "pointsman/pointsmanlaw28.TriePlays", spec := "triePlays", unfollowed := true, recurses := true, apart := false }
def TriePlaysSaid : Prop := triePlaysRow.holds Try.pinned (OpenSpec.ofChange triePlaysSpec)

/-- ITS FALSE NEIGHBOUR: 'it returns false'. Refute it at one input. -/
def triePlaysWrong : ChangeSpec := { name := "triePlays", fn := fun _ => fun
  | [d1, d2, d3, d4] => { results := [.lit (.bool false)], args := [d1, d2, d3, d4] }
  | _ => none }
def TriePlaysWrongFalsely : Prop := triePlaysRow.holds Try.pinned (OpenSpec.ofChange triePlaysWrong)

/-- 'pointsmanlaw28.TrieUnder': WHATEVER THE INPUT: true; the input reads as it did. -/
def trieUnderSpec : ChangeSpec := { name := "trieUnder", fn := fun _ => fun
  | [d1, d2, d3] => { results := [.lit (.bool true)], args := [d1, d2, d3] }
  | _ => none }
def trieUnderRow : OpenClaim := { program := "ytmimfjgnmmfhdaa", sum := "09a5c11259503ce5ee346d2c5a9bff935ab299a2fe044b71531773c04b62cf94", func := "pointsman/pointsmanlaw28.TrieUnder", spec := "trieUnder", unfollowed := true, recurses := true, apart := false }
def TrieUnderSaid : Prop := trieUnderRow.holds Try.pinned (OpenSpec.ofChange trieUnderSpec)

/-- ITS FALSE NEIGHBOUR: 'it returns false'. Refute it at one input. -/
def trieUnderWrong : ChangeSpec := { name := "trieUnder", fn := fun _ => fun
  | [d1, d2, d3] => { results := [.lit (.bool false)], args := [d1, d2, d3] }
  | _ => none }
def TrieUnderWrongFalsely : Prop := trieUnderRow.holds Try.pinned (OpenSpec.ofChange trieUnderWrong)

/- THE SECOND FORM. 'bulk': how many values and letters a reading holds, each counted each time it is reached (what is shared counts as often as it is met; a slice's spare places count too). A statement '..UptoSaid' is the law's where the arguments, and the package variables that the reading takes, are together of bulk at most 1048576: NARROWER than '..Said'. Prove '..Said' where nothing that the law and all that it calls make is longer than what came in: it says more and counts as full. Else prove '..UptoSaid'. A law counts once. -/
mutual
def uptoBulk {H : Type} : DataW H → Nat
  | .lit (.string bytes) => bytes.length + 1
  | .lit _ => 1
  | .nil => 1
  | .ptr d => uptoBulk d + 1
  | .slice elems spare => uptoBulkAll elems + uptoBulkAll spare + 1
  | .agg parts => uptoBulkAll parts + 1
  | .iface _ d => uptoBulk d + 1
  | .map entries => uptoBulkEntries entries + 1
  | .held _ => 1
def uptoBulkAll {H : Type} : List (DataW H) → Nat
  | [] => 0
  | d :: r => uptoBulk d + uptoBulkAll r
def uptoBulkEntries {H : Type} : List (Lit × DataW H) → Nat
  | [] => 0
  | x :: r => uptoBulkEntry x + uptoBulkEntries r
def uptoBulkEntry {H : Type} : Lit × DataW H → Nat
  | (.string bytes, d) => bytes.length + uptoBulk d + 1
  | (_, d) => uptoBulk d + 1
 end
def uptoSmall : (H : Type) → List (DataW H) → Bool := fun _ ds => decide (uptoBulkAll ds ≤ 1048576)
def OpenSpec.upto (s : _root_.Go.ChangeSpec) : _root_.Go.OpenSpec := { _root_.Go.OpenSpec.ofChange s with cond := some uptoSmall }

/-- 'pointsmanlaw28.TrieFull', WHERE WHAT IT READS IS OF BULK AT MOST 1048576: true; the input reads as it did. -/
def trieFullUptoRow : OpenClaim := { program := "ytmimfjgnmmfhdaa", sum := "09a5c11259503ce5ee346d2c5a9bff935ab299a2fe044b71531773c04b62cf94", func := "pointsman/pointsmanlaw28.TrieFull", spec := "trieFull", recurses := true, apart := false, narrowed := true }
def TrieFullUptoSaid : Prop := trieFullUptoRow.holds Try.pinned (OpenSpec.upto trieFullSpec)

/-- 'pointsmanlaw28.TrieLongest', WHERE WHAT IT READS IS OF BULK AT MOST 1048576: true; the input reads as it did. -/
def trieLongestUptoRow : OpenClaim := { program := "ytmimfjgnmmfhdaa", sum := "09a5c11259503ce5ee346d2c5a9bff935ab299a2fe044b71531773c04b62cf94", func := "pointsman/pointsmanlaw28.TrieLongest", spec := "trieLongest", unfollowed := true, recurses := true, apart := false, narrowed := true }
def TrieLongestUptoSaid : Prop := trieLongestUptoRow.holds Try.pinned (OpenSpec.upto trieLongestSpec)

/-- 'pointsmanlaw28.TrieUndone', WHERE WHAT IT READS IS OF BULK AT MOST 1048576: true; the input reads as it did. -/
def trieUndoneUptoRow : OpenClaim := { program := "ytmimfjgnmmfhdaa", sum := "09a5c11259503ce5ee346d2c5a9bff935ab299a2fe044b71531773c04b62cf94", func := "pointsman/pointsmanlaw28.TrieUndone", spec := "trieUndone", unfollowed := true, recurses := true, apart := false, narrowed := true }
def TrieUndoneUptoSaid : Prop := trieUndoneUptoRow.holds Try.pinned (OpenSpec.upto trieUndoneSpec)

/-- 'pointsmanlaw28.TrieVoid', WHERE WHAT IT READS IS OF BULK AT MOST 1048576: true; the input reads as it did. -/
def trieVoidUptoRow : OpenClaim := { program := "ytmimfjgnmmfhdaa", sum := "09a5c11259503ce5ee346d2c5a9bff935ab299a2fe044b71531773c04b62cf94", func := "pointsman/pointsmanlaw28.TrieVoid", spec := "trieVoid", unfollowed := true, recurses := true, apart := false, narrowed := true }
def TrieVoidUptoSaid : Prop := trieVoidUptoRow.holds Try.pinned (OpenSpec.upto trieVoidSpec)

/-- 'pointsmanlaw28.TriePlays', WHERE WHAT IT READS IS OF BULK AT MOST 1048576: true; the input reads as it did. -/
def triePlaysUptoRow : OpenClaim := { program := "ytmimfjgnmmfhdaa", sum := "09a5c11259503ce5ee346d2c5a9bff935ab299a2fe044b71531773c04b62cf94", func := "pointsman/pointsmanlaw28.TriePlays", spec := "triePlays", unfollowed := true, recurses := true, apart := false, narrowed := true }
def TriePlaysUptoSaid : Prop := triePlaysUptoRow.holds Try.pinned (OpenSpec.upto triePlaysSpec)

/-- 'pointsmanlaw28.TrieUnder', WHERE WHAT IT READS IS OF BULK AT MOST 1048576: true; the input reads as it did. -/
def trieUnderUptoRow : OpenClaim := { program := "ytmimfjgnmmfhdaa", sum := "09a5c11259503ce5ee346d2c5a9bff935ab299a2fe044b71531773c04b62cf94", func := "pointsman/pointsmanlaw28.TrieUnder", spec := "trieUnder", unfollowed := true, recurses := true, apart := false, narrowed := true }
def TrieUnderUptoSaid : Prop := trieUnderUptoRow.holds Try.pinned (OpenSpec.upto trieUnderSpec)

end Rows
end Go.Proofs.Ytmimfjgnmmfhdaa
