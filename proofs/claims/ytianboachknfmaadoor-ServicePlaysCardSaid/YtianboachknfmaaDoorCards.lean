/-
  DERIVED. GIVEN WITH THE SEED: THE CARDS: each row of YtianboachknfmaaDoorRows.lean that lists a variable, with what it lists TIED to the program's text (the seventh form; the later family's looks); each row that meets fmt, with fmt's text TOLD by the authors' own Lean function (tested against real Go, not proved from fmt's source: count such statements apart). THE CARD IS WHAT COUNTS. Prove the row's statement (the work); the ties are given (YtianboachknfmaaDoorTie.lean); close each card by the builder's one call (the guide's Derived/Test/ToyasCard.lean, 'card_holds'). Laid BY PROGRAM, IN A SANDBOX (cutbox-door.mjs). By AI agents, Wed Nov 11 2026. No macro, syntax, notation, axiom, sorry.
-/
import Derived.Test.YtianboachknfmaaDoorRows
import GoSem.ClaimSeven
namespace Go.Proofs.YtianboachknfmaaDoor
namespace Rows

/-- THE TIED CARD OF 'bellhoplaw15.StoreMerges'. -/
def storeMergesCard : Claim7 := { stood := { row := storeMergesRow, standIns := [], harness := (true, "aaaa238f70b214fedc38afa020c64c9ac165ff0ff7de0a2c3390077a9a25b934"), looks := true }, kinds := [], alts := [], laidByText := true, laidKinds := [.data, .pinned], laidTests := true, laidLooks := .later }
def StoreMergesCardSaid : Prop := Claim7.holds Tryd.pinned (.plain (OpenSpec.ofChange storeMergesSpec)) storeMergesCard

/-- THE TIED CARD OF 'bellhoplaw15.StoreEnds'. -/
def storeEndsCard : Claim7 := { stood := { row := storeEndsRow, standIns := [], harness := (true, "aaaa238f70b214fedc38afa020c64c9ac165ff0ff7de0a2c3390077a9a25b934"), looks := true }, kinds := [], alts := [], laidByText := true, laidKinds := [.data, .pinned], laidTests := true, laidLooks := .later }
def StoreEndsCardSaid : Prop := Claim7.holds Tryd.pinned (.plain (OpenSpec.ofChange storeEndsSpec)) storeEndsCard

/-- THE TIED CARD OF 'bellhoplaw20.SeedsTurn'. -/
def seedsTurnCard : Claim7 := { stood := { row := seedsTurnRow, standIns := [], harness := (true, "aaaa238f70b214fedc38afa020c64c9ac165ff0ff7de0a2c3390077a9a25b934"), looks := true }, kinds := [], alts := [], laidByText := true, laidKinds := [.data, .pinned], laidTests := true, laidLooks := .later }
def SeedsTurnCardSaid : Prop := Claim7.holds Tryd.pinned (.plain (OpenSpec.ofChange seedsTurnSpec)) seedsTurnCard

/-- THE TIED CARD OF 'bellhoplaw26.ServicePlays'. -/
def servicePlaysCard : Claim7 := { stood := { row := servicePlaysRow, standIns := [], harness := (true, "aaaa238f70b214fedc38afa020c64c9ac165ff0ff7de0a2c3390077a9a25b934"), looks := true }, kinds := [], alts := [], laidByText := true, laidKinds := [.data, .pinned], laidTests := true, laidLooks := .later }
def ServicePlaysCardSaid : Prop := Claim7.holds Tryd.pinned (.plain (OpenSpec.ofChange servicePlaysSpec)) servicePlaysCard

/-- THE TIED CARD OF 'bellhoplaw15.StorePlays'. -/
def storePlaysCard : Claim7 := { stood := { row := storePlaysRow, standIns := [], harness := (true, "aaaa238f70b214fedc38afa020c64c9ac165ff0ff7de0a2c3390077a9a25b934"), looks := true }, kinds := [], alts := [], laidByText := true, laidKinds := [.data, .pinned], laidTests := true, laidLooks := .later }
def StorePlaysCardSaid : Prop := Claim7.holds Tryd.pinned (.plain (OpenSpec.ofChange storePlaysSpec)) storePlaysCard

/-- THE TIED CARD OF 'bellhoplaw15.StoreRises'. -/
def storeRisesCard : Claim7 := { stood := { row := storeRisesRow, standIns := [], harness := (true, "aaaa238f70b214fedc38afa020c64c9ac165ff0ff7de0a2c3390077a9a25b934"), looks := true }, kinds := [], alts := [], laidByText := true, laidKinds := [.data, .pinned], laidTests := true, laidLooks := .later }
def StoreRisesCardSaid : Prop := Claim7.holds Tryd.pinned (.plain (OpenSpec.ofChange storeRisesSpec)) storeRisesCard

/-- THE TIED CARD OF 'bellhoplaw16.DigestAnswers'. -/
def digestAnswersCard : Claim7 := { stood := { row := digestAnswersRow, standIns := [], harness := (true, "aaaa238f70b214fedc38afa020c64c9ac165ff0ff7de0a2c3390077a9a25b934"), looks := true }, kinds := [], alts := [], laidByText := true, laidKinds := [.data, .pinned], laidTests := true, laidLooks := .later }
def DigestAnswersCardSaid : Prop := Claim7.holds Tryd.pinned (.plain (OpenSpec.ofChange digestAnswersSpec)) digestAnswersCard

/-- THE TIED CARD OF 'bellhoplaw16.DigestTakes'. -/
def digestTakesCard : Claim7 := { stood := { row := digestTakesRow, standIns := [], harness := (true, "aaaa238f70b214fedc38afa020c64c9ac165ff0ff7de0a2c3390077a9a25b934"), looks := true }, kinds := [], alts := [], laidByText := true, laidKinds := [.data, .pinned], laidTests := true, laidLooks := .later }
def DigestTakesCardSaid : Prop := Claim7.holds Tryd.pinned (.plain (OpenSpec.ofChange digestTakesSpec)) digestTakesCard

/-- THE TIED CARD OF 'bellhoplaw26.ServiceRises'. -/
def serviceRisesCard : Claim7 := { stood := { row := serviceRisesRow, standIns := [], harness := (true, "aaaa238f70b214fedc38afa020c64c9ac165ff0ff7de0a2c3390077a9a25b934"), looks := true }, kinds := [], alts := [], laidByText := true, laidKinds := [.data, .pinned], laidTests := true, laidLooks := .later }
def ServiceRisesCardSaid : Prop := Claim7.holds Tryd.pinned (.plain (OpenSpec.ofChange serviceRisesSpec)) serviceRisesCard

/-- THE SECOND FORM's CARD OF 'bellhoplaw15.StoreMerges'. -/
def storeMergesUptoCard : Claim7 := { stood := { row := storeMergesUptoRow, standIns := [], harness := (true, "aaaa238f70b214fedc38afa020c64c9ac165ff0ff7de0a2c3390077a9a25b934"), looks := true }, kinds := [], alts := [], laidByText := true, laidKinds := [.data, .pinned], laidTests := true, laidLooks := .later }
def StoreMergesUptoCardSaid : Prop := Claim7.holds Tryd.pinned (.plain (OpenSpec.upto storeMergesSpec)) storeMergesUptoCard

/-- THE SECOND FORM's CARD OF 'bellhoplaw15.StoreEnds'. -/
def storeEndsUptoCard : Claim7 := { stood := { row := storeEndsUptoRow, standIns := [], harness := (true, "aaaa238f70b214fedc38afa020c64c9ac165ff0ff7de0a2c3390077a9a25b934"), looks := true }, kinds := [], alts := [], laidByText := true, laidKinds := [.data, .pinned], laidTests := true, laidLooks := .later }
def StoreEndsUptoCardSaid : Prop := Claim7.holds Tryd.pinned (.plain (OpenSpec.upto storeEndsSpec)) storeEndsUptoCard

/-- THE SECOND FORM's CARD OF 'bellhoplaw20.SeedsTurn'. -/
def seedsTurnUptoCard : Claim7 := { stood := { row := seedsTurnUptoRow, standIns := [], harness := (true, "aaaa238f70b214fedc38afa020c64c9ac165ff0ff7de0a2c3390077a9a25b934"), looks := true }, kinds := [], alts := [], laidByText := true, laidKinds := [.data, .pinned], laidTests := true, laidLooks := .later }
def SeedsTurnUptoCardSaid : Prop := Claim7.holds Tryd.pinned (.plain (OpenSpec.upto seedsTurnSpec)) seedsTurnUptoCard

/-- THE SECOND FORM's CARD OF 'bellhoplaw26.ServicePlays'. -/
def servicePlaysUptoCard : Claim7 := { stood := { row := servicePlaysUptoRow, standIns := [], harness := (true, "aaaa238f70b214fedc38afa020c64c9ac165ff0ff7de0a2c3390077a9a25b934"), looks := true }, kinds := [], alts := [], laidByText := true, laidKinds := [.data, .pinned], laidTests := true, laidLooks := .later }
def ServicePlaysUptoCardSaid : Prop := Claim7.holds Tryd.pinned (.plain (OpenSpec.upto servicePlaysSpec)) servicePlaysUptoCard

/-- THE SECOND FORM's CARD OF 'bellhoplaw15.StorePlays'. -/
def storePlaysUptoCard : Claim7 := { stood := { row := storePlaysUptoRow, standIns := [], harness := (true, "aaaa238f70b214fedc38afa020c64c9ac165ff0ff7de0a2c3390077a9a25b934"), looks := true }, kinds := [], alts := [], laidByText := true, laidKinds := [.data, .pinned], laidTests := true, laidLooks := .later }
def StorePlaysUptoCardSaid : Prop := Claim7.holds Tryd.pinned (.plain (OpenSpec.upto storePlaysSpec)) storePlaysUptoCard

/-- THE SECOND FORM's CARD OF 'bellhoplaw15.StoreRises'. -/
def storeRisesUptoCard : Claim7 := { stood := { row := storeRisesUptoRow, standIns := [], harness := (true, "aaaa238f70b214fedc38afa020c64c9ac165ff0ff7de0a2c3390077a9a25b934"), looks := true }, kinds := [], alts := [], laidByText := true, laidKinds := [.data, .pinned], laidTests := true, laidLooks := .later }
def StoreRisesUptoCardSaid : Prop := Claim7.holds Tryd.pinned (.plain (OpenSpec.upto storeRisesSpec)) storeRisesUptoCard

/-- THE SECOND FORM's CARD OF 'bellhoplaw16.DigestAnswers'. -/
def digestAnswersUptoCard : Claim7 := { stood := { row := digestAnswersUptoRow, standIns := [], harness := (true, "aaaa238f70b214fedc38afa020c64c9ac165ff0ff7de0a2c3390077a9a25b934"), looks := true }, kinds := [], alts := [], laidByText := true, laidKinds := [.data, .pinned], laidTests := true, laidLooks := .later }
def DigestAnswersUptoCardSaid : Prop := Claim7.holds Tryd.pinned (.plain (OpenSpec.upto digestAnswersSpec)) digestAnswersUptoCard

/-- THE SECOND FORM's CARD OF 'bellhoplaw16.DigestTakes'. -/
def digestTakesUptoCard : Claim7 := { stood := { row := digestTakesUptoRow, standIns := [], harness := (true, "aaaa238f70b214fedc38afa020c64c9ac165ff0ff7de0a2c3390077a9a25b934"), looks := true }, kinds := [], alts := [], laidByText := true, laidKinds := [.data, .pinned], laidTests := true, laidLooks := .later }
def DigestTakesUptoCardSaid : Prop := Claim7.holds Tryd.pinned (.plain (OpenSpec.upto digestTakesSpec)) digestTakesUptoCard

/-- THE SECOND FORM's CARD OF 'bellhoplaw26.ServiceRises'. -/
def serviceRisesUptoCard : Claim7 := { stood := { row := serviceRisesUptoRow, standIns := [], harness := (true, "aaaa238f70b214fedc38afa020c64c9ac165ff0ff7de0a2c3390077a9a25b934"), looks := true }, kinds := [], alts := [], laidByText := true, laidKinds := [.data, .pinned], laidTests := true, laidLooks := .later }
def ServiceRisesUptoCardSaid : Prop := Claim7.holds Tryd.pinned (.plain (OpenSpec.upto serviceRisesSpec)) serviceRisesUptoCard
end Rows
end Go.Proofs.YtianboachknfmaaDoor
