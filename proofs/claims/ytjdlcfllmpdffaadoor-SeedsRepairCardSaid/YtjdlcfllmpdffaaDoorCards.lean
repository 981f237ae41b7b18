/-
  DERIVED. GIVEN WITH THE SEED: THE CARDS: each row of YtjdlcfllmpdffaaDoorRows.lean that lists a variable, with what it lists TIED to the program's text (the seventh form; the later family's looks); each row that meets fmt, with fmt's text TOLD by the authors' own Lean function (tested against real Go, not proved from fmt's source: count such statements apart). THE CARD IS WHAT COUNTS. Prove the row's statement (the work); the ties are given (YtjdlcfllmpdffaaDoorTie.lean); close each card by the builder's one call (the guide's Derived/Test/ToyasCard.lean, 'card_holds'). Laid BY PROGRAM, IN A SANDBOX (cutbox-door.mjs). By AI agents, Wed Nov 11 2026. No macro, syntax, notation, axiom, sorry.
-/
import Derived.Test.YtjdlcfllmpdffaaDoorRows
import GoSem.ClaimSeven
namespace Go.Proofs.YtjdlcfllmpdffaaDoor
namespace Rows

/-- THE TIED CARD OF 'bellhoplaw15.StoreMerges'. -/
def storeMergesCard : Claim7 := { stood := { row := storeMergesRow, standIns := [], harness := (true, "9cd3982dabc00b250280c429ffb5f0705b0fd2abe0f8fc75826fc0c7eb4589c0"), looks := true }, kinds := [], alts := [], laidByText := true, laidKinds := [.data, .pinned], laidTests := true, laidLooks := .later }
def StoreMergesCardSaid : Prop := Claim7.holds Tryd.pinned (.plain (OpenSpec.ofChange storeMergesSpec)) storeMergesCard

/-- THE TIED CARD OF 'bellhoplaw20.SeedsTurn'. -/
def seedsTurnCard : Claim7 := { stood := { row := seedsTurnRow, standIns := [], harness := (true, "9cd3982dabc00b250280c429ffb5f0705b0fd2abe0f8fc75826fc0c7eb4589c0"), looks := true }, kinds := [], alts := [], laidByText := true, laidKinds := [.data, .pinned], laidTests := true, laidLooks := .later }
def SeedsTurnCardSaid : Prop := Claim7.holds Tryd.pinned (.plain (OpenSpec.ofChange seedsTurnSpec)) seedsTurnCard

/-- THE TIED CARD OF 'bellhoplaw15.StorePlays'. -/
def storePlaysCard : Claim7 := { stood := { row := storePlaysRow, standIns := [], harness := (true, "9cd3982dabc00b250280c429ffb5f0705b0fd2abe0f8fc75826fc0c7eb4589c0"), looks := true }, kinds := [], alts := [], laidByText := true, laidKinds := [.data, .pinned], laidTests := true, laidLooks := .later }
def StorePlaysCardSaid : Prop := Claim7.holds Tryd.pinned (.plain (OpenSpec.ofChange storePlaysSpec)) storePlaysCard

/-- THE TIED CARD OF 'bellhoplaw16.DigestAnswers'. -/
def digestAnswersCard : Claim7 := { stood := { row := digestAnswersRow, standIns := [], harness := (true, "9cd3982dabc00b250280c429ffb5f0705b0fd2abe0f8fc75826fc0c7eb4589c0"), looks := true }, kinds := [], alts := [], laidByText := true, laidKinds := [.data, .pinned], laidTests := true, laidLooks := .later }
def DigestAnswersCardSaid : Prop := Claim7.holds Tryd.pinned (.plain (OpenSpec.ofChange digestAnswersSpec)) digestAnswersCard

/-- THE TIED CARD OF 'bellhoplaw16.DigestTakes'. -/
def digestTakesCard : Claim7 := { stood := { row := digestTakesRow, standIns := [], harness := (true, "9cd3982dabc00b250280c429ffb5f0705b0fd2abe0f8fc75826fc0c7eb4589c0"), looks := true }, kinds := [], alts := [], laidByText := true, laidKinds := [.data, .pinned], laidTests := true, laidLooks := .later }
def DigestTakesCardSaid : Prop := Claim7.holds Tryd.pinned (.plain (OpenSpec.ofChange digestTakesSpec)) digestTakesCard

/-- THE TIED CARD OF 'bellhoplaw20.SeedsRepair'. -/
def seedsRepairCard : Claim7 := { stood := { row := seedsRepairRow, standIns := [], harness := (true, "9cd3982dabc00b250280c429ffb5f0705b0fd2abe0f8fc75826fc0c7eb4589c0"), looks := true }, kinds := [], alts := [], laidByText := true, laidKinds := [.data, .pinned], laidTests := true, laidLooks := .later }
def SeedsRepairCardSaid : Prop := Claim7.holds Tryd.pinned (.plain (OpenSpec.ofChange seedsRepairSpec)) seedsRepairCard

/-- THE TIED CARD OF 'bellhoplaw20.SeedsTake'. -/
def seedsTakeCard : Claim7 := { stood := { row := seedsTakeRow, standIns := [], harness := (true, "9cd3982dabc00b250280c429ffb5f0705b0fd2abe0f8fc75826fc0c7eb4589c0"), looks := true }, kinds := [], alts := [], laidByText := true, laidKinds := [.data, .pinned], laidTests := true, laidLooks := .later }
def SeedsTakeCardSaid : Prop := Claim7.holds Tryd.pinned (.plain (OpenSpec.ofChange seedsTakeSpec)) seedsTakeCard

/-- THE TIED CARD OF 'bellhoplaw26.ServiceRises'. -/
def serviceRisesCard : Claim7 := { stood := { row := serviceRisesRow, standIns := [], harness := (true, "9cd3982dabc00b250280c429ffb5f0705b0fd2abe0f8fc75826fc0c7eb4589c0"), looks := true }, kinds := [], alts := [], laidByText := true, laidKinds := [.data, .pinned], laidTests := true, laidLooks := .later }
def ServiceRisesCardSaid : Prop := Claim7.holds Tryd.pinned (.plain (OpenSpec.ofChange serviceRisesSpec)) serviceRisesCard

/-- THE SECOND FORM's CARD OF 'bellhoplaw15.StoreMerges'. -/
def storeMergesUptoCard : Claim7 := { stood := { row := storeMergesUptoRow, standIns := [], harness := (true, "9cd3982dabc00b250280c429ffb5f0705b0fd2abe0f8fc75826fc0c7eb4589c0"), looks := true }, kinds := [], alts := [], laidByText := true, laidKinds := [.data, .pinned], laidTests := true, laidLooks := .later }
def StoreMergesUptoCardSaid : Prop := Claim7.holds Tryd.pinned (.plain (OpenSpec.upto storeMergesSpec)) storeMergesUptoCard

/-- THE SECOND FORM's CARD OF 'bellhoplaw20.SeedsTurn'. -/
def seedsTurnUptoCard : Claim7 := { stood := { row := seedsTurnUptoRow, standIns := [], harness := (true, "9cd3982dabc00b250280c429ffb5f0705b0fd2abe0f8fc75826fc0c7eb4589c0"), looks := true }, kinds := [], alts := [], laidByText := true, laidKinds := [.data, .pinned], laidTests := true, laidLooks := .later }
def SeedsTurnUptoCardSaid : Prop := Claim7.holds Tryd.pinned (.plain (OpenSpec.upto seedsTurnSpec)) seedsTurnUptoCard

/-- THE SECOND FORM's CARD OF 'bellhoplaw15.StorePlays'. -/
def storePlaysUptoCard : Claim7 := { stood := { row := storePlaysUptoRow, standIns := [], harness := (true, "9cd3982dabc00b250280c429ffb5f0705b0fd2abe0f8fc75826fc0c7eb4589c0"), looks := true }, kinds := [], alts := [], laidByText := true, laidKinds := [.data, .pinned], laidTests := true, laidLooks := .later }
def StorePlaysUptoCardSaid : Prop := Claim7.holds Tryd.pinned (.plain (OpenSpec.upto storePlaysSpec)) storePlaysUptoCard

/-- THE SECOND FORM's CARD OF 'bellhoplaw16.DigestAnswers'. -/
def digestAnswersUptoCard : Claim7 := { stood := { row := digestAnswersUptoRow, standIns := [], harness := (true, "9cd3982dabc00b250280c429ffb5f0705b0fd2abe0f8fc75826fc0c7eb4589c0"), looks := true }, kinds := [], alts := [], laidByText := true, laidKinds := [.data, .pinned], laidTests := true, laidLooks := .later }
def DigestAnswersUptoCardSaid : Prop := Claim7.holds Tryd.pinned (.plain (OpenSpec.upto digestAnswersSpec)) digestAnswersUptoCard

/-- THE SECOND FORM's CARD OF 'bellhoplaw16.DigestTakes'. -/
def digestTakesUptoCard : Claim7 := { stood := { row := digestTakesUptoRow, standIns := [], harness := (true, "9cd3982dabc00b250280c429ffb5f0705b0fd2abe0f8fc75826fc0c7eb4589c0"), looks := true }, kinds := [], alts := [], laidByText := true, laidKinds := [.data, .pinned], laidTests := true, laidLooks := .later }
def DigestTakesUptoCardSaid : Prop := Claim7.holds Tryd.pinned (.plain (OpenSpec.upto digestTakesSpec)) digestTakesUptoCard

/-- THE SECOND FORM's CARD OF 'bellhoplaw20.SeedsRepair'. -/
def seedsRepairUptoCard : Claim7 := { stood := { row := seedsRepairUptoRow, standIns := [], harness := (true, "9cd3982dabc00b250280c429ffb5f0705b0fd2abe0f8fc75826fc0c7eb4589c0"), looks := true }, kinds := [], alts := [], laidByText := true, laidKinds := [.data, .pinned], laidTests := true, laidLooks := .later }
def SeedsRepairUptoCardSaid : Prop := Claim7.holds Tryd.pinned (.plain (OpenSpec.upto seedsRepairSpec)) seedsRepairUptoCard

/-- THE SECOND FORM's CARD OF 'bellhoplaw20.SeedsTake'. -/
def seedsTakeUptoCard : Claim7 := { stood := { row := seedsTakeUptoRow, standIns := [], harness := (true, "9cd3982dabc00b250280c429ffb5f0705b0fd2abe0f8fc75826fc0c7eb4589c0"), looks := true }, kinds := [], alts := [], laidByText := true, laidKinds := [.data, .pinned], laidTests := true, laidLooks := .later }
def SeedsTakeUptoCardSaid : Prop := Claim7.holds Tryd.pinned (.plain (OpenSpec.upto seedsTakeSpec)) seedsTakeUptoCard

/-- THE SECOND FORM's CARD OF 'bellhoplaw26.ServiceRises'. -/
def serviceRisesUptoCard : Claim7 := { stood := { row := serviceRisesUptoRow, standIns := [], harness := (true, "9cd3982dabc00b250280c429ffb5f0705b0fd2abe0f8fc75826fc0c7eb4589c0"), looks := true }, kinds := [], alts := [], laidByText := true, laidKinds := [.data, .pinned], laidTests := true, laidLooks := .later }
def ServiceRisesUptoCardSaid : Prop := Claim7.holds Tryd.pinned (.plain (OpenSpec.upto serviceRisesSpec)) serviceRisesUptoCard
end Rows
end Go.Proofs.YtjdlcfllmpdffaaDoor
