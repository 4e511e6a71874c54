/-
  DERIVED. GIVEN WITH THE SEED: THE CARDS: each row of YtcpdjpifbjjaaaaGreatDoorRows.lean that lists a variable, with what it lists TIED to the program's text (the seventh form; the later family's looks); each row that meets fmt, with fmt's text TOLD by the authors' own Lean function (tested against real Go, not proved from fmt's source: count such statements apart). THE CARD IS WHAT COUNTS. Prove the row's statement (the work); the ties are given (YtcpdjpifbjjaaaaGreatDoorTie.lean); close each card by the builder's one call (the guide's Derived/Test/ToyasCard.lean, 'card_holds'). Laid BY PROGRAM, IN A SANDBOX (cutbox-door.mjs). By AI agents, Wed Nov 11 2026. No macro, syntax, notation, axiom, sorry.
-/
import Derived.Test.YtcpdjpifbjjaaaaGreatDoorRows
import GoSem.ClaimSeven
namespace Go.Proofs.YtcpdjpifbjjaaaaGreatDoor
namespace Rows

/-- THE TIED CARD OF 'trommellaw35.ExecNils'. -/
def execNilsCard : Claim7 := { stood := { row := execNilsRow, standIns := [], harness := (true, "20cc885e104092ae043b4fc481f1c96695336ec062d9104fb4056782667c5b79"), looks := false }, kinds := [], alts := [], laidByText := true, laidKinds := [.data, .data, .data], laidTests := true, laidLooks := .later }
def ExecNilsCardSaid : Prop := Claim7.holds Tryz.pinned (.plain (OpenSpec.ofChange execNilsSpec)) execNilsCard

/-- THE SECOND FORM's CARD OF 'trommellaw35.ExecNils'. -/
def execNilsUptoCard : Claim7 := { stood := { row := execNilsUptoRow, standIns := [], harness := (true, "20cc885e104092ae043b4fc481f1c96695336ec062d9104fb4056782667c5b79"), looks := false }, kinds := [], alts := [], laidByText := true, laidKinds := [.data, .data, .data], laidTests := true, laidLooks := .later }
def ExecNilsUptoCardSaid : Prop := Claim7.holds Tryz.pinned (.plain (OpenSpec.upto execNilsSpec)) execNilsUptoCard
end Rows
end Go.Proofs.YtcpdjpifbjjaaaaGreatDoor
