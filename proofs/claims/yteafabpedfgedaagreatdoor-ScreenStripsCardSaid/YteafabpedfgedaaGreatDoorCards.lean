/-
  DERIVED. GIVEN WITH THE SEED: THE CARDS: each row of YteafabpedfgedaaGreatDoorRows.lean that lists a variable, with what it lists TIED to the program's text (the seventh form; the later family's looks); each row that meets fmt, with fmt's text TOLD by the authors' own Lean function (tested against real Go, not proved from fmt's source: count such statements apart). THE CARD IS WHAT COUNTS. Prove the row's statement (the work); the ties are given (YteafabpedfgedaaGreatDoorTie.lean); close each card by the builder's one call (the guide's Derived/Test/ToyasCard.lean, 'card_holds'). Laid BY PROGRAM, IN A SANDBOX (cutbox-door.mjs). By AI agents, Wed Nov 11 2026. No macro, syntax, notation, axiom, sorry.
-/
import Derived.Test.YteafabpedfgedaaGreatDoorRows
import GoSem.ClaimSeven
namespace Go.Proofs.YteafabpedfgedaaGreatDoor
namespace Rows

/-- THE TIED CARD OF 'agoralaw38.ScreenStrips'. -/
def screenStripsCard : Claim7 := { stood := { row := screenStripsRow, standIns := [], harness := (true, "72fe720f1e7910f1be4cf4f1c76221d546fd6220e37931d0a15d08b17f810f6a"), looks := true }, kinds := [], alts := [], laidByText := true, laidKinds := [.data, .data, .data, .data, .data, .sentinel, .sentinel], laidTests := true, laidLooks := .later }
def ScreenStripsCardSaid : Prop := Claim7.holds Tryz.pinned (.plain (OpenSpec.ofChange screenStripsSpec)) screenStripsCard

/-- THE SECOND FORM's CARD OF 'agoralaw38.ScreenStrips'. -/
def screenStripsUptoCard : Claim7 := { stood := { row := screenStripsUptoRow, standIns := [], harness := (true, "72fe720f1e7910f1be4cf4f1c76221d546fd6220e37931d0a15d08b17f810f6a"), looks := true }, kinds := [], alts := [], laidByText := true, laidKinds := [.data, .data, .data, .data, .data, .sentinel, .sentinel], laidTests := true, laidLooks := .later }
def ScreenStripsUptoCardSaid : Prop := Claim7.holds Tryz.pinned (.plain (OpenSpec.upto screenStripsSpec)) screenStripsUptoCard
end Rows
end Go.Proofs.YteafabpedfgedaaGreatDoor
