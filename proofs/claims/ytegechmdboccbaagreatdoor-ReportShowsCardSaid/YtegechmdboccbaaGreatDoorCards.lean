/-
  DERIVED. GIVEN WITH THE SEED: THE CARDS: each row of YtegechmdboccbaaGreatDoorRows.lean that lists a variable, with what it lists TIED to the program's text (the seventh form; the later family's looks); each row that meets fmt, with fmt's text TOLD by the authors' own Lean function (tested against real Go, not proved from fmt's source: count such statements apart). THE CARD IS WHAT COUNTS. Prove the row's statement (the work); the ties are given (YtegechmdboccbaaGreatDoorTie.lean); close each card by the builder's one call (the guide's Derived/Test/ToyasCard.lean, 'card_holds'). Laid BY PROGRAM, IN A SANDBOX (cutbox-door.mjs). By AI agents, Wed Nov 11 2026. No macro, syntax, notation, axiom, sorry.
-/
import Derived.Test.YtegechmdboccbaaGreatDoorRows
import GoSem.ClaimSeven
namespace Go.Proofs.YtegechmdboccbaaGreatDoor
namespace Rows

/-- THE TIED CARD OF 'bellhoplaw29.ReportShows'. -/
def reportShowsCard : Claim7 := { stood := { row := reportShowsRow, standIns := [], harness := (true, "15b4f9dbefeb95f85dd5c5c40ad89ad38086831df371653d1dfbbd7b485e0421"), looks := false }, kinds := [], alts := [], laidByText := true, laidKinds := [.data, .data, .data], laidTests := true, laidLooks := .later }
def ReportShowsCardSaid : Prop := Claim7.holds Tryz.pinned (.plain (OpenSpec.ofChange reportShowsSpec)) reportShowsCard

/-- THE SECOND FORM's CARD OF 'bellhoplaw29.ReportShows'. -/
def reportShowsUptoCard : Claim7 := { stood := { row := reportShowsUptoRow, standIns := [], harness := (true, "15b4f9dbefeb95f85dd5c5c40ad89ad38086831df371653d1dfbbd7b485e0421"), looks := false }, kinds := [], alts := [], laidByText := true, laidKinds := [.data, .data, .data], laidTests := true, laidLooks := .later }
def ReportShowsUptoCardSaid : Prop := Claim7.holds Tryz.pinned (.plain (OpenSpec.upto reportShowsSpec)) reportShowsUptoCard
end Rows
end Go.Proofs.YtegechmdboccbaaGreatDoor
