/-
  No cell of these rows narrows 'for every input' (looked for: loops, veiled, ifaces, maps, wideKeys, modest, calm, conditions, laid).
  DERIVED. THE GIVEN ROWS OF THIS SEAT. 5 by the template 'for every input the law returns true; each argument reads behind the call as it read before'; 0 by the template 'total and deterministic' (their statements: YtcpoaghogpkagaaTotals.lean).
  GIVEN WITH THE SEED: the statements are not yours to turn. If you find one false, say at which input.
  Laid BY PROGRAM, IN A SANDBOX (cutbox-rows.mjs): the forced cells as the released guide's own fill.sh prints them over the translation 8c20da5831e71e66… (all of the seat's roots in one cut). By AI agents, Wed Nov 11 2026. No macro, syntax, notation, axiom, sorry.
-/
import Derived.Test.YtcpoaghogpkagaaChecked
import GoSem.Claim
import GoSem.ClaimJoined
import GoSem.ClaimMapViews
import Derived.JoinedTies
import Derived.KernelRfl
namespace Go.Proofs.Ytcpoaghogpkagaa
/- THE CELL 'sum', in the pinned program and in every row, IS THE sha256 OF THE DUMP (.gsa) THAT YtcpoaghogpkagaaProg.lean LOADS. Nothing in Lean hashes anything: it is a label: what it is worth is what the hold of that sum in a sandbox is worth. -/
noncomputable def Try.pinned : Pinned := { name := "ytcpoaghogpkagaa", sum := "8c20da5831e71e66f9b22701e000b1eee345d6e925d301c5e8836f1b6c9ddba8", checked := Try.checked }
namespace Rows
def none {H : Type} : Left H := { results := [], args := [] }

/-- 'pointsmanlaw17.MarkBuilds': WHATEVER THE INPUT: true; the input reads as it did. -/
def markBuildsSpec : ChangeSpec := { name := "markBuilds", fn := fun _ => fun
  | [d1, d2] => { results := [.lit (.bool true)], args := [d1, d2] }
  | _ => none }
def markBuildsRow : OpenClaim := { program := "ytcpoaghogpkagaa", sum := "8c20da5831e71e66f9b22701e000b1eee345d6e925d301c5e8836f1b6c9ddba8", func := "pointsman/pointsmanlaw17.MarkBuilds", spec := "markBuilds", apart := false }
def MarkBuildsSaid : Prop := markBuildsRow.holds Try.pinned (OpenSpec.ofChange markBuildsSpec)

/-- ITS FALSE NEIGHBOUR: 'it returns false'. Refute it at one input. -/
def markBuildsWrong : ChangeSpec := { name := "markBuilds", fn := fun _ => fun
  | [d1, d2] => { results := [.lit (.bool false)], args := [d1, d2] }
  | _ => none }
def MarkBuildsWrongFalsely : Prop := markBuildsRow.holds Try.pinned (OpenSpec.ofChange markBuildsWrong)

/-- 'pointsmanlaw17.MarkFeeds': WHATEVER THE INPUT: true; the input reads as it did. -/
def markFeedsSpec : ChangeSpec := { name := "markFeeds", fn := fun _ => fun
  | [d] => { results := [.lit (.bool true)], args := [d] }
  | _ => none }
def markFeedsRow : OpenClaim := { program := "ytcpoaghogpkagaa", sum := "8c20da5831e71e66f9b22701e000b1eee345d6e925d301c5e8836f1b6c9ddba8", func := "pointsman/pointsmanlaw17.MarkFeeds", spec := "markFeeds", apart := false }
def MarkFeedsSaid : Prop := markFeedsRow.holds Try.pinned (OpenSpec.ofChange markFeedsSpec)

/-- ITS FALSE NEIGHBOUR: 'it returns false'. Refute it at one input. -/
def markFeedsWrong : ChangeSpec := { name := "markFeeds", fn := fun _ => fun
  | [d] => { results := [.lit (.bool false)], args := [d] }
  | _ => none }
def MarkFeedsWrongFalsely : Prop := markFeedsRow.holds Try.pinned (OpenSpec.ofChange markFeedsWrong)

/-- 'pointsmanlaw17.MarkBack': WHATEVER THE INPUT: true; the input reads as it did. -/
def markBackSpec : ChangeSpec := { name := "markBack", fn := fun _ => fun
  | [d1, d2, d3] => { results := [.lit (.bool true)], args := [d1, d2, d3] }
  | _ => none }
def markBackRow : OpenClaim := { program := "ytcpoaghogpkagaa", sum := "8c20da5831e71e66f9b22701e000b1eee345d6e925d301c5e8836f1b6c9ddba8", func := "pointsman/pointsmanlaw17.MarkBack", spec := "markBack", apart := false }
def MarkBackSaid : Prop := markBackRow.holds Try.pinned (OpenSpec.ofChange markBackSpec)

/-- ITS FALSE NEIGHBOUR: 'it returns false'. Refute it at one input. -/
def markBackWrong : ChangeSpec := { name := "markBack", fn := fun _ => fun
  | [d1, d2, d3] => { results := [.lit (.bool false)], args := [d1, d2, d3] }
  | _ => none }
def MarkBackWrongFalsely : Prop := markBackRow.holds Try.pinned (OpenSpec.ofChange markBackWrong)

/-- 'pointsmanlaw17.MarkPieces': WHATEVER THE INPUT: true; the input reads as it did. -/
def markPiecesSpec : ChangeSpec := { name := "markPieces", fn := fun _ => fun
  | [d1, d2, d3] => { results := [.lit (.bool true)], args := [d1, d2, d3] }
  | _ => none }
def markPiecesRow : OpenClaim := { program := "ytcpoaghogpkagaa", sum := "8c20da5831e71e66f9b22701e000b1eee345d6e925d301c5e8836f1b6c9ddba8", func := "pointsman/pointsmanlaw17.MarkPieces", spec := "markPieces", apart := false }
def MarkPiecesSaid : Prop := markPiecesRow.holds Try.pinned (OpenSpec.ofChange markPiecesSpec)

/-- ITS FALSE NEIGHBOUR: 'it returns false'. Refute it at one input. -/
def markPiecesWrong : ChangeSpec := { name := "markPieces", fn := fun _ => fun
  | [d1, d2, d3] => { results := [.lit (.bool false)], args := [d1, d2, d3] }
  | _ => none }
def MarkPiecesWrongFalsely : Prop := markPiecesRow.holds Try.pinned (OpenSpec.ofChange markPiecesWrong)

/-- 'pointsmanlaw17.MarkVoid': WHATEVER THE INPUT: true; the input reads as it did. -/
def markVoidSpec : ChangeSpec := { name := "markVoid", fn := fun _ => fun
  | [d] => { results := [.lit (.bool true)], args := [d] }
  | _ => none }
def markVoidRow : OpenClaim := { program := "ytcpoaghogpkagaa", sum := "8c20da5831e71e66f9b22701e000b1eee345d6e925d301c5e8836f1b6c9ddba8", func := "pointsman/pointsmanlaw17.MarkVoid", spec := "markVoid", apart := false }
def MarkVoidSaid : Prop := markVoidRow.holds Try.pinned (OpenSpec.ofChange markVoidSpec)

/-- ITS FALSE NEIGHBOUR: 'it returns false'. Refute it at one input. -/
def markVoidWrong : ChangeSpec := { name := "markVoid", fn := fun _ => fun
  | [d] => { results := [.lit (.bool false)], args := [d] }
  | _ => none }
def MarkVoidWrongFalsely : Prop := markVoidRow.holds Try.pinned (OpenSpec.ofChange markVoidWrong)

/- THE SECOND FORM. 'bulk': how many values and letters a reading holds, each counted each time it is reached (what is shared counts as often as it is met; a slice's spare places count too). A statement '..UptoSaid' is the law's where the arguments, and the package variables that the reading takes, are together of bulk at most 1048576: NARROWER than '..Said'. Prove '..Said' where nothing that the law and all that it calls make is longer than what came in: it says more and counts as full. Else prove '..UptoSaid'. A law counts once. -/
mutual
def uptoBulk {H : Type} : DataW H → Nat
  | .lit (.string bytes) => bytes.length + 1
  | .lit _ => 1
  | .nil => 1
  | .ptr d => uptoBulk d + 1
  | .slice elems spare => uptoBulkAll elems + uptoBulkAll spare + 1
  | .agg parts => uptoBulkAll parts + 1
  | .iface _ d => uptoBulk d + 1
  | .map entries => uptoBulkEntries entries + 1
  | .held _ => 1
def uptoBulkAll {H : Type} : List (DataW H) → Nat
  | [] => 0
  | d :: r => uptoBulk d + uptoBulkAll r
def uptoBulkEntries {H : Type} : List (Lit × DataW H) → Nat
  | [] => 0
  | x :: r => uptoBulkEntry x + uptoBulkEntries r
def uptoBulkEntry {H : Type} : Lit × DataW H → Nat
  | (.string bytes, d) => bytes.length + uptoBulk d + 1
  | (_, d) => uptoBulk d + 1
 end
def uptoSmall : (H : Type) → List (DataW H) → Bool := fun _ ds => decide (uptoBulkAll ds ≤ 1048576)
def OpenSpec.upto (s : _root_.Go.ChangeSpec) : _root_.Go.OpenSpec := { _root_.Go.OpenSpec.ofChange s with cond := some uptoSmall }

/-- 'pointsmanlaw17.MarkBuilds', WHERE WHAT IT READS IS OF BULK AT MOST 1048576: true; the input reads as it did. -/
def markBuildsUptoRow : OpenClaim := { program := "ytcpoaghogpkagaa", sum := "8c20da5831e71e66f9b22701e000b1eee345d6e925d301c5e8836f1b6c9ddba8", func := "pointsman/pointsmanlaw17.MarkBuilds", spec := "markBuilds", apart := false, narrowed := true }
def MarkBuildsUptoSaid : Prop := markBuildsUptoRow.holds Try.pinned (OpenSpec.upto markBuildsSpec)

/-- 'pointsmanlaw17.MarkFeeds', WHERE WHAT IT READS IS OF BULK AT MOST 1048576: true; the input reads as it did. -/
def markFeedsUptoRow : OpenClaim := { program := "ytcpoaghogpkagaa", sum := "8c20da5831e71e66f9b22701e000b1eee345d6e925d301c5e8836f1b6c9ddba8", func := "pointsman/pointsmanlaw17.MarkFeeds", spec := "markFeeds", apart := false, narrowed := true }
def MarkFeedsUptoSaid : Prop := markFeedsUptoRow.holds Try.pinned (OpenSpec.upto markFeedsSpec)

/-- 'pointsmanlaw17.MarkBack', WHERE WHAT IT READS IS OF BULK AT MOST 1048576: true; the input reads as it did. -/
def markBackUptoRow : OpenClaim := { program := "ytcpoaghogpkagaa", sum := "8c20da5831e71e66f9b22701e000b1eee345d6e925d301c5e8836f1b6c9ddba8", func := "pointsman/pointsmanlaw17.MarkBack", spec := "markBack", apart := false, narrowed := true }
def MarkBackUptoSaid : Prop := markBackUptoRow.holds Try.pinned (OpenSpec.upto markBackSpec)

/-- 'pointsmanlaw17.MarkPieces', WHERE WHAT IT READS IS OF BULK AT MOST 1048576: true; the input reads as it did. -/
def markPiecesUptoRow : OpenClaim := { program := "ytcpoaghogpkagaa", sum := "8c20da5831e71e66f9b22701e000b1eee345d6e925d301c5e8836f1b6c9ddba8", func := "pointsman/pointsmanlaw17.MarkPieces", spec := "markPieces", apart := false, narrowed := true }
def MarkPiecesUptoSaid : Prop := markPiecesUptoRow.holds Try.pinned (OpenSpec.upto markPiecesSpec)

/-- 'pointsmanlaw17.MarkVoid', WHERE WHAT IT READS IS OF BULK AT MOST 1048576: true; the input reads as it did. -/
def markVoidUptoRow : OpenClaim := { program := "ytcpoaghogpkagaa", sum := "8c20da5831e71e66f9b22701e000b1eee345d6e925d301c5e8836f1b6c9ddba8", func := "pointsman/pointsmanlaw17.MarkVoid", spec := "markVoid", apart := false, narrowed := true }
def MarkVoidUptoSaid : Prop := markVoidUptoRow.holds Try.pinned (OpenSpec.upto markVoidSpec)

end Rows
end Go.Proofs.Ytcpoaghogpkagaa
