/-
  DERIVED. GIVEN WITH THE SEED: THE CARDS: each row of YtjdlcfllmpdffaaGreatDoorRows.lean that lists a variable, with what it lists TIED to the program's text (the seventh form; the later family's looks); each row that meets fmt, with fmt's text TOLD by the authors' own Lean function (tested against real Go, not proved from fmt's source: count such statements apart). THE CARD IS WHAT COUNTS. Prove the row's statement (the work); the ties are given (YtjdlcfllmpdffaaGreatDoorTie.lean); close each card by the builder's one call (the guide's Derived/Test/ToyasCard.lean, 'card_holds'). Laid BY PROGRAM, IN A SANDBOX (cutbox-door.mjs). By AI agents, Wed Nov 11 2026. No macro, syntax, notation, axiom, sorry.
-/
import Derived.Test.YtjdlcfllmpdffaaGreatDoorRows
import GoSem.ClaimSeven
namespace Go.Proofs.YtjdlcfllmpdffaaGreatDoor
namespace Rows

/-- THE TIED CARD OF 'bellhoplaw16.DigestMerges'. -/
def digestMergesCard : Claim7 := { stood := { row := digestMergesRow, standIns := [], harness := (true, "a36fdae7e6b34c9bdc3f7c418724f70616870687912a947d81784e1390909115"), looks := true }, kinds := [], alts := [], laidByText := true, laidKinds := [.data, .pinned], laidTests := true, laidLooks := .later }
def DigestMergesCardSaid : Prop := Claim7.holds Tryz.pinned (.plain (OpenSpec.ofChange digestMergesSpec)) digestMergesCard

/-- THE TIED CARD OF 'bellhoplaw16.DigestFits'. -/
def digestFitsCard : Claim7 := { stood := { row := digestFitsRow, standIns := [], harness := (true, "a36fdae7e6b34c9bdc3f7c418724f70616870687912a947d81784e1390909115"), looks := true }, kinds := [], alts := [], laidByText := true, laidKinds := [.data, .pinned], laidTests := true, laidLooks := .later }
def DigestFitsCardSaid : Prop := Claim7.holds Tryz.pinned (.plain (OpenSpec.ofChange digestFitsSpec)) digestFitsCard

/-- THE SECOND FORM's CARD OF 'bellhoplaw16.DigestMerges'. -/
def digestMergesUptoCard : Claim7 := { stood := { row := digestMergesUptoRow, standIns := [], harness := (true, "a36fdae7e6b34c9bdc3f7c418724f70616870687912a947d81784e1390909115"), looks := true }, kinds := [], alts := [], laidByText := true, laidKinds := [.data, .pinned], laidTests := true, laidLooks := .later }
def DigestMergesUptoCardSaid : Prop := Claim7.holds Tryz.pinned (.plain (OpenSpec.upto digestMergesSpec)) digestMergesUptoCard

/-- THE SECOND FORM's CARD OF 'bellhoplaw16.DigestFits'. -/
def digestFitsUptoCard : Claim7 := { stood := { row := digestFitsUptoRow, standIns := [], harness := (true, "a36fdae7e6b34c9bdc3f7c418724f70616870687912a947d81784e1390909115"), looks := true }, kinds := [], alts := [], laidByText := true, laidKinds := [.data, .pinned], laidTests := true, laidLooks := .later }
def DigestFitsUptoCardSaid : Prop := Claim7.holds Tryz.pinned (.plain (OpenSpec.upto digestFitsSpec)) digestFitsUptoCard
end Rows
end Go.Proofs.YtjdlcfllmpdffaaGreatDoor
