/-
  DERIVED. GIVEN WITH THE SEED: THE CARDS: each row of YtfmplmchpdmbmaaDoorRows.lean that lists a variable, with what it lists TIED to the program's text (the seventh form; the later family's looks); each row that meets fmt, with fmt's text TOLD by the authors' own Lean function (tested against real Go, not proved from fmt's source: count such statements apart). THE CARD IS WHAT COUNTS. Prove the row's statement (the work); the ties are given (YtfmplmchpdmbmaaDoorTie.lean); close each card by the builder's one call (the guide's Derived/Test/ToyasCard.lean, 'card_holds'). Laid BY PROGRAM, IN A SANDBOX (cutbox-door.mjs). By AI agents, Wed Nov 11 2026. No macro, syntax, notation, axiom, sorry.
-/
import Derived.Test.YtfmplmchpdmbmaaDoorRows
import GoSem.ClaimSeven
namespace Go.Proofs.YtfmplmchpdmbmaaDoor
namespace Rows

/-- THE TIED CARD OF 'bellhoplaw14.RecordKeys'. -/
def recordKeysCard : Claim7 := { stood := { row := recordKeysRow, standIns := [], harness := (true, "f816fc138dc92140684e52bc301237177f00b8e474453ac94902d0bd9ab304c0"), looks := true }, kinds := [], alts := [], laidByText := true, laidKinds := [.data, .pinned], laidTests := true, laidLooks := .later }
def RecordKeysCardSaid : Prop := Claim7.holds Tryd.pinned (.plain (OpenSpec.ofChange recordKeysSpec)) recordKeysCard

/-- THE TIED CARD OF 'bellhoplaw14.RecordVersions'. -/
def recordVersionsCard : Claim7 := { stood := { row := recordVersionsRow, standIns := [], harness := (true, "f816fc138dc92140684e52bc301237177f00b8e474453ac94902d0bd9ab304c0"), looks := true }, kinds := [], alts := [], laidByText := true, laidKinds := [.data, .pinned], laidTests := true, laidLooks := .later }
def RecordVersionsCardSaid : Prop := Claim7.holds Tryd.pinned (.plain (OpenSpec.ofChange recordVersionsSpec)) recordVersionsCard

/-- THE TIED CARD OF 'bellhoplaw14.RecordGood'. -/
def recordGoodCard : Claim7 := { stood := { row := recordGoodRow, standIns := [], harness := (true, "f816fc138dc92140684e52bc301237177f00b8e474453ac94902d0bd9ab304c0"), looks := true }, kinds := [], alts := [], laidByText := true, laidKinds := [.data, .pinned], laidTests := true, laidLooks := .later }
def RecordGoodCardSaid : Prop := Claim7.holds Tryd.pinned (.plain (OpenSpec.ofChange recordGoodSpec)) recordGoodCard

/-- THE TIED CARD OF 'bellhoplaw14.RecordMakes'. -/
def recordMakesCard : Claim7 := { stood := { row := recordMakesRow, standIns := [], harness := (true, "f816fc138dc92140684e52bc301237177f00b8e474453ac94902d0bd9ab304c0"), looks := true }, kinds := [], alts := [], laidByText := true, laidKinds := [.data, .pinned], laidTests := true, laidLooks := .later }
def RecordMakesCardSaid : Prop := Claim7.holds Tryd.pinned (.plain (OpenSpec.ofChange recordMakesSpec)) recordMakesCard

/-- THE SECOND FORM's CARD OF 'bellhoplaw14.RecordKeys'. -/
def recordKeysUptoCard : Claim7 := { stood := { row := recordKeysUptoRow, standIns := [], harness := (true, "f816fc138dc92140684e52bc301237177f00b8e474453ac94902d0bd9ab304c0"), looks := true }, kinds := [], alts := [], laidByText := true, laidKinds := [.data, .pinned], laidTests := true, laidLooks := .later }
def RecordKeysUptoCardSaid : Prop := Claim7.holds Tryd.pinned (.plain (OpenSpec.upto recordKeysSpec)) recordKeysUptoCard

/-- THE SECOND FORM's CARD OF 'bellhoplaw14.RecordVersions'. -/
def recordVersionsUptoCard : Claim7 := { stood := { row := recordVersionsUptoRow, standIns := [], harness := (true, "f816fc138dc92140684e52bc301237177f00b8e474453ac94902d0bd9ab304c0"), looks := true }, kinds := [], alts := [], laidByText := true, laidKinds := [.data, .pinned], laidTests := true, laidLooks := .later }
def RecordVersionsUptoCardSaid : Prop := Claim7.holds Tryd.pinned (.plain (OpenSpec.upto recordVersionsSpec)) recordVersionsUptoCard

/-- THE SECOND FORM's CARD OF 'bellhoplaw14.RecordGood'. -/
def recordGoodUptoCard : Claim7 := { stood := { row := recordGoodUptoRow, standIns := [], harness := (true, "f816fc138dc92140684e52bc301237177f00b8e474453ac94902d0bd9ab304c0"), looks := true }, kinds := [], alts := [], laidByText := true, laidKinds := [.data, .pinned], laidTests := true, laidLooks := .later }
def RecordGoodUptoCardSaid : Prop := Claim7.holds Tryd.pinned (.plain (OpenSpec.upto recordGoodSpec)) recordGoodUptoCard

/-- THE SECOND FORM's CARD OF 'bellhoplaw14.RecordMakes'. -/
def recordMakesUptoCard : Claim7 := { stood := { row := recordMakesUptoRow, standIns := [], harness := (true, "f816fc138dc92140684e52bc301237177f00b8e474453ac94902d0bd9ab304c0"), looks := true }, kinds := [], alts := [], laidByText := true, laidKinds := [.data, .pinned], laidTests := true, laidLooks := .later }
def RecordMakesUptoCardSaid : Prop := Claim7.holds Tryd.pinned (.plain (OpenSpec.upto recordMakesSpec)) recordMakesUptoCard
end Rows
end Go.Proofs.YtfmplmchpdmbmaaDoor
