/-
  DERIVED. GIVEN WITH THE SEED: THE CARDS: each row of YtfgkljjiopohgaaDoorRows.lean that lists a variable, with what it lists TIED to the program's text (the seventh form; the later family's looks); each row that meets fmt, with fmt's text TOLD by the authors' own Lean function (tested against real Go, not proved from fmt's source: count such statements apart). THE CARD IS WHAT COUNTS. Prove the row's statement (the work); the ties are given (YtfgkljjiopohgaaDoorTie.lean); close each card by the builder's one call (the guide's Derived/Test/ToyasCard.lean, 'card_holds'). Laid BY PROGRAM, IN A SANDBOX (cutbox-door.mjs). By AI agents, Wed Nov 11 2026. No macro, syntax, notation, axiom, sorry.
-/
import Derived.Test.YtfgkljjiopohgaaDoorRows
import GoSem.ClaimSeven
namespace Go.Proofs.YtfgkljjiopohgaaDoor
namespace Rows

/-- THE TIED CARD OF 'bellhoplaw21.NameSplits'. -/
def nameSplitsCard : Claim7 := { stood := { row := nameSplitsRow, standIns := [], harness := (true, "1eabd5de608f7ae689bb6d1bc8079346d6b780021a0387447fa865571523c106"), looks := true }, kinds := [], alts := [], laidByText := true, laidKinds := [.data, .pinned], laidTests := true, laidLooks := .later }
def NameSplitsCardSaid : Prop := Claim7.holds Tryd.pinned (.plain (OpenSpec.ofChange nameSplitsSpec)) nameSplitsCard

/-- THE TIED CARD OF 'bellhoplaw21.NameReads'. -/
def nameReadsCard : Claim7 := { stood := { row := nameReadsRow, standIns := [], harness := (true, "1eabd5de608f7ae689bb6d1bc8079346d6b780021a0387447fa865571523c106"), looks := true }, kinds := [], alts := [], laidByText := true, laidKinds := [.data, .pinned], laidTests := true, laidLooks := .later }
def NameReadsCardSaid : Prop := Claim7.holds Tryd.pinned (.plain (OpenSpec.ofChange nameReadsSpec)) nameReadsCard

/-- THE TIED CARD OF 'bellhoplaw21.NameTables'. -/
def nameTablesCard : Claim7 := { stood := { row := nameTablesRow, standIns := [], harness := (true, "1eabd5de608f7ae689bb6d1bc8079346d6b780021a0387447fa865571523c106"), looks := true }, kinds := [], alts := [], laidByText := true, laidKinds := [.data, .pinned], laidTests := true, laidLooks := .later }
def NameTablesCardSaid : Prop := Claim7.holds Tryd.pinned (.plain (OpenSpec.ofChange nameTablesSpec)) nameTablesCard

/-- THE TIED CARD OF 'bellhoplaw21.NameEnds'. -/
def nameEndsCard : Claim7 := { stood := { row := nameEndsRow, standIns := [], harness := (true, "1eabd5de608f7ae689bb6d1bc8079346d6b780021a0387447fa865571523c106"), looks := true }, kinds := [], alts := [], laidByText := true, laidKinds := [.data, .pinned], laidTests := true, laidLooks := .later }
def NameEndsCardSaid : Prop := Claim7.holds Tryd.pinned (.plain (OpenSpec.ofChange nameEndsSpec)) nameEndsCard

/-- THE TIED CARD OF 'bellhoplaw21.NameCodes'. -/
def nameCodesCard : Claim7 := { stood := { row := nameCodesRow, standIns := [], harness := (true, "1eabd5de608f7ae689bb6d1bc8079346d6b780021a0387447fa865571523c106"), looks := true }, kinds := [], alts := [], laidByText := true, laidKinds := [.data, .pinned], laidTests := true, laidLooks := .later }
def NameCodesCardSaid : Prop := Claim7.holds Tryd.pinned (.plain (OpenSpec.ofChange nameCodesSpec)) nameCodesCard

/-- THE TIED CARD OF 'bellhoplaw14.RecordKeys'. -/
def recordKeysCard : Claim7 := { stood := { row := recordKeysRow, standIns := [], harness := (true, "1eabd5de608f7ae689bb6d1bc8079346d6b780021a0387447fa865571523c106"), looks := true }, kinds := [], alts := [], laidByText := true, laidKinds := [.data, .pinned], laidTests := true, laidLooks := .later }
def RecordKeysCardSaid : Prop := Claim7.holds Tryd.pinned (.plain (OpenSpec.ofChange recordKeysSpec)) recordKeysCard

/-- THE SECOND FORM's CARD OF 'bellhoplaw21.NameSplits'. -/
def nameSplitsUptoCard : Claim7 := { stood := { row := nameSplitsUptoRow, standIns := [], harness := (true, "1eabd5de608f7ae689bb6d1bc8079346d6b780021a0387447fa865571523c106"), looks := true }, kinds := [], alts := [], laidByText := true, laidKinds := [.data, .pinned], laidTests := true, laidLooks := .later }
def NameSplitsUptoCardSaid : Prop := Claim7.holds Tryd.pinned (.plain (OpenSpec.upto nameSplitsSpec)) nameSplitsUptoCard

/-- THE SECOND FORM's CARD OF 'bellhoplaw21.NameReads'. -/
def nameReadsUptoCard : Claim7 := { stood := { row := nameReadsUptoRow, standIns := [], harness := (true, "1eabd5de608f7ae689bb6d1bc8079346d6b780021a0387447fa865571523c106"), looks := true }, kinds := [], alts := [], laidByText := true, laidKinds := [.data, .pinned], laidTests := true, laidLooks := .later }
def NameReadsUptoCardSaid : Prop := Claim7.holds Tryd.pinned (.plain (OpenSpec.upto nameReadsSpec)) nameReadsUptoCard

/-- THE SECOND FORM's CARD OF 'bellhoplaw21.NameTables'. -/
def nameTablesUptoCard : Claim7 := { stood := { row := nameTablesUptoRow, standIns := [], harness := (true, "1eabd5de608f7ae689bb6d1bc8079346d6b780021a0387447fa865571523c106"), looks := true }, kinds := [], alts := [], laidByText := true, laidKinds := [.data, .pinned], laidTests := true, laidLooks := .later }
def NameTablesUptoCardSaid : Prop := Claim7.holds Tryd.pinned (.plain (OpenSpec.upto nameTablesSpec)) nameTablesUptoCard

/-- THE SECOND FORM's CARD OF 'bellhoplaw21.NameEnds'. -/
def nameEndsUptoCard : Claim7 := { stood := { row := nameEndsUptoRow, standIns := [], harness := (true, "1eabd5de608f7ae689bb6d1bc8079346d6b780021a0387447fa865571523c106"), looks := true }, kinds := [], alts := [], laidByText := true, laidKinds := [.data, .pinned], laidTests := true, laidLooks := .later }
def NameEndsUptoCardSaid : Prop := Claim7.holds Tryd.pinned (.plain (OpenSpec.upto nameEndsSpec)) nameEndsUptoCard

/-- THE SECOND FORM's CARD OF 'bellhoplaw21.NameCodes'. -/
def nameCodesUptoCard : Claim7 := { stood := { row := nameCodesUptoRow, standIns := [], harness := (true, "1eabd5de608f7ae689bb6d1bc8079346d6b780021a0387447fa865571523c106"), looks := true }, kinds := [], alts := [], laidByText := true, laidKinds := [.data, .pinned], laidTests := true, laidLooks := .later }
def NameCodesUptoCardSaid : Prop := Claim7.holds Tryd.pinned (.plain (OpenSpec.upto nameCodesSpec)) nameCodesUptoCard

/-- THE SECOND FORM's CARD OF 'bellhoplaw14.RecordKeys'. -/
def recordKeysUptoCard : Claim7 := { stood := { row := recordKeysUptoRow, standIns := [], harness := (true, "1eabd5de608f7ae689bb6d1bc8079346d6b780021a0387447fa865571523c106"), looks := true }, kinds := [], alts := [], laidByText := true, laidKinds := [.data, .pinned], laidTests := true, laidLooks := .later }
def RecordKeysUptoCardSaid : Prop := Claim7.holds Tryd.pinned (.plain (OpenSpec.upto recordKeysSpec)) recordKeysUptoCard
end Rows
end Go.Proofs.YtfgkljjiopohgaaDoor
