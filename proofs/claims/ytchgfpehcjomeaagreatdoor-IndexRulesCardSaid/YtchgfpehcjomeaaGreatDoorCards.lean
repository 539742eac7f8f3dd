/-
  DERIVED. GIVEN WITH THE SEED: THE CARDS: each row of YtchgfpehcjomeaaGreatDoorRows.lean that lists a variable, with what it lists TIED to the program's text (the seventh form; the later family's looks); each row that meets fmt, with fmt's text TOLD by the authors' own Lean function (tested against real Go, not proved from fmt's source: count such statements apart). THE CARD IS WHAT COUNTS. Prove the row's statement (the work); the ties are given (YtchgfpehcjomeaaGreatDoorTie.lean); close each card by the builder's one call (the guide's Derived/Test/ToyasCard.lean, 'card_holds'). Laid BY PROGRAM, IN A SANDBOX (cutbox-door.mjs). By AI agents, Wed Nov 11 2026. No macro, syntax, notation, axiom, sorry.
-/
import Derived.Test.YtchgfpehcjomeaaGreatDoorRows
import GoSem.ClaimSeven
namespace Go.Proofs.YtchgfpehcjomeaaGreatDoor
namespace Rows

/-- THE TIED CARD OF 'agoralaw44.IndexRules'. -/
def indexRulesCard : Claim7 := { stood := { row := indexRulesRow, standIns := [], harness := (true, "425179a58a8e21fca4981185ffa3ca5aa6fd1ef9880b6ffa0a20cbec7e876697"), looks := true }, kinds := [], alts := [], laidByText := true, laidKinds := [.data, .data, .data, .sentinel, .sentinel], laidTests := true, laidLooks := .later }
def IndexRulesCardSaid : Prop := Claim7.holds Tryz.pinned (.plain (OpenSpec.ofChange indexRulesSpec)) indexRulesCard

/-- THE SECOND FORM's CARD OF 'agoralaw44.IndexRules'. -/
def indexRulesUptoCard : Claim7 := { stood := { row := indexRulesUptoRow, standIns := [], harness := (true, "425179a58a8e21fca4981185ffa3ca5aa6fd1ef9880b6ffa0a20cbec7e876697"), looks := true }, kinds := [], alts := [], laidByText := true, laidKinds := [.data, .data, .data, .sentinel, .sentinel], laidTests := true, laidLooks := .later }
def IndexRulesUptoCardSaid : Prop := Claim7.holds Tryz.pinned (.plain (OpenSpec.upto indexRulesSpec)) indexRulesUptoCard
end Rows
end Go.Proofs.YtchgfpehcjomeaaGreatDoor
