/-
  DERIVED. GIVEN WITH THE SEED: THE CARDS: each row of YtfkmcjiajfaemaaDoorRows.lean that lists a variable, with what it lists TIED to the program's text (the seventh form; the later family's looks); each row that meets fmt, with fmt's text TOLD by the authors' own Lean function (tested against real Go, not proved from fmt's source: count such statements apart). THE CARD IS WHAT COUNTS. Prove the row's statement (the work); the ties are given (YtfkmcjiajfaemaaDoorTie.lean); close each card by the builder's one call (the guide's Derived/Test/ToyasCard.lean, 'card_holds'). Laid BY PROGRAM, IN A SANDBOX (cutbox-door.mjs). By AI agents, Wed Nov 11 2026. No macro, syntax, notation, axiom, sorry.
-/
import Derived.Test.YtfkmcjiajfaemaaDoorRows
import GoSem.ClaimSeven
namespace Go.Proofs.YtfkmcjiajfaemaaDoor
namespace Rows

/-- THE TIED CARD OF 'pointsmanlaw22.NoteBack'. -/
def noteBackCard : Claim7 := { stood := { row := noteBackRow, standIns := [], harness := (true, "557e1bf39e8c964de4f408e99da6f83295a4d9fd1c010b435dde7ec36c347543"), looks := false }, kinds := [], alts := [], laidByText := true, laidKinds := [.data, .data, .data], laidTests := true, laidLooks := .later }
def NoteBackCardSaid : Prop := Claim7.holds Tryd.pinned (.plain (OpenSpec.ofChange noteBackSpec)) noteBackCard

/-- THE TIED CARD OF 'pointsmanlaw22.NoteBuilds'. -/
def noteBuildsCard : Claim7 := { stood := { row := noteBuildsRow, standIns := [], harness := (true, "557e1bf39e8c964de4f408e99da6f83295a4d9fd1c010b435dde7ec36c347543"), looks := false }, kinds := [], alts := [], laidByText := true, laidKinds := [.data, .data, .data], laidTests := true, laidLooks := .later }
def NoteBuildsCardSaid : Prop := Claim7.holds Tryd.pinned (.plain (OpenSpec.ofChange noteBuildsSpec)) noteBuildsCard

/-- THE SECOND FORM's CARD OF 'pointsmanlaw22.NoteBack'. -/
def noteBackUptoCard : Claim7 := { stood := { row := noteBackUptoRow, standIns := [], harness := (true, "557e1bf39e8c964de4f408e99da6f83295a4d9fd1c010b435dde7ec36c347543"), looks := false }, kinds := [], alts := [], laidByText := true, laidKinds := [.data, .data, .data], laidTests := true, laidLooks := .later }
def NoteBackUptoCardSaid : Prop := Claim7.holds Tryd.pinned (.plain (OpenSpec.upto noteBackSpec)) noteBackUptoCard

/-- THE SECOND FORM's CARD OF 'pointsmanlaw22.NoteBuilds'. -/
def noteBuildsUptoCard : Claim7 := { stood := { row := noteBuildsUptoRow, standIns := [], harness := (true, "557e1bf39e8c964de4f408e99da6f83295a4d9fd1c010b435dde7ec36c347543"), looks := false }, kinds := [], alts := [], laidByText := true, laidKinds := [.data, .data, .data], laidTests := true, laidLooks := .later }
def NoteBuildsUptoCardSaid : Prop := Claim7.holds Tryd.pinned (.plain (OpenSpec.upto noteBuildsSpec)) noteBuildsUptoCard
end Rows
end Go.Proofs.YtfkmcjiajfaemaaDoor
