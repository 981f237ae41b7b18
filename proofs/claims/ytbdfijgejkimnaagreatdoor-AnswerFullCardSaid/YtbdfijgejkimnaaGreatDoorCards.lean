/-
  DERIVED. GIVEN WITH THE SEED: THE CARDS: each row of YtbdfijgejkimnaaGreatDoorRows.lean that lists a variable, with what it lists TIED to the program's text (the seventh form; the later family's looks); each row that meets fmt, with fmt's text TOLD by the authors' own Lean function (tested against real Go, not proved from fmt's source: count such statements apart). THE CARD IS WHAT COUNTS. Prove the row's statement (the work); the ties are given (YtbdfijgejkimnaaGreatDoorTie.lean); close each card by the builder's one call (the guide's Derived/Test/ToyasCard.lean, 'card_holds'). Laid BY PROGRAM, IN A SANDBOX (cutbox-door.mjs). By AI agents, Wed Nov 11 2026. No macro, syntax, notation, axiom, sorry.
-/
import Derived.Test.YtbdfijgejkimnaaGreatDoorRows
import GoSem.ClaimSeven
namespace Go.Proofs.YtbdfijgejkimnaaGreatDoor
namespace Rows

/-- THE TIED CARD OF 'bellhoplaw25.AnswerResponds'. -/
def answerRespondsCard : Claim7 := { stood := { row := answerRespondsRow, standIns := [], harness := (true, "0b3cfd3c6e151a74a27cb487dd6e4b62be8bc079990d42cdbd4f676fbd8b903f"), looks := true }, kinds := [], alts := [], laidByText := true, laidKinds := [.data, .data, .data, .data, .sentinel, .sentinel, .pinned], laidTests := true, laidLooks := .later }
def AnswerRespondsCardSaid : Prop := Claim7.holds Tryz.pinned (.plain (OpenSpec.ofChange answerRespondsSpec)) answerRespondsCard

/-- THE TIED CARD OF 'bellhoplaw25.AnswerLooks'. -/
def answerLooksCard : Claim7 := { stood := { row := answerLooksRow, standIns := [], harness := (true, "0b3cfd3c6e151a74a27cb487dd6e4b62be8bc079990d42cdbd4f676fbd8b903f"), looks := true }, kinds := [], alts := [], laidByText := true, laidKinds := [.data, .data, .data, .data, .sentinel, .sentinel, .pinned], laidTests := true, laidLooks := .later }
def AnswerLooksCardSaid : Prop := Claim7.holds Tryz.pinned (.plain (OpenSpec.ofChange answerLooksSpec)) answerLooksCard

/-- THE TIED CARD OF 'bellhoplaw25.AnswerCodes'. -/
def answerCodesCard : Claim7 := { stood := { row := answerCodesRow, standIns := [], harness := (true, "0b3cfd3c6e151a74a27cb487dd6e4b62be8bc079990d42cdbd4f676fbd8b903f"), looks := true }, kinds := [], alts := [], laidByText := true, laidKinds := [.data, .data, .data, .data, .sentinel, .sentinel, .pinned], laidTests := true, laidLooks := .later }
def AnswerCodesCardSaid : Prop := Claim7.holds Tryz.pinned (.plain (OpenSpec.ofChange answerCodesSpec)) answerCodesCard

/-- THE TIED CARD OF 'bellhoplaw25.AnswerFull'. -/
def answerFullCard : Claim7 := { stood := { row := answerFullRow, standIns := [], harness := (true, "0b3cfd3c6e151a74a27cb487dd6e4b62be8bc079990d42cdbd4f676fbd8b903f"), looks := true }, kinds := [], alts := [], laidByText := true, laidKinds := [.data, .data, .data, .data, .sentinel, .sentinel, .pinned], laidTests := true, laidLooks := .later }
def AnswerFullCardSaid : Prop := Claim7.holds Tryz.pinned (.plain (OpenSpec.ofChange answerFullSpec)) answerFullCard

/-- THE TIED CARD OF 'bellhoplaw25.AnswerLeads'. -/
def answerLeadsCard : Claim7 := { stood := { row := answerLeadsRow, standIns := [], harness := (true, "0b3cfd3c6e151a74a27cb487dd6e4b62be8bc079990d42cdbd4f676fbd8b903f"), looks := true }, kinds := [], alts := [], laidByText := true, laidKinds := [.data, .data, .data, .data, .sentinel, .sentinel, .pinned], laidTests := true, laidLooks := .later }
def AnswerLeadsCardSaid : Prop := Claim7.holds Tryz.pinned (.plain (OpenSpec.ofChange answerLeadsSpec)) answerLeadsCard

/-- THE SECOND FORM's CARD OF 'bellhoplaw25.AnswerResponds'. -/
def answerRespondsUptoCard : Claim7 := { stood := { row := answerRespondsUptoRow, standIns := [], harness := (true, "0b3cfd3c6e151a74a27cb487dd6e4b62be8bc079990d42cdbd4f676fbd8b903f"), looks := true }, kinds := [], alts := [], laidByText := true, laidKinds := [.data, .data, .data, .data, .sentinel, .sentinel, .pinned], laidTests := true, laidLooks := .later }
def AnswerRespondsUptoCardSaid : Prop := Claim7.holds Tryz.pinned (.plain (OpenSpec.upto answerRespondsSpec)) answerRespondsUptoCard

/-- THE SECOND FORM's CARD OF 'bellhoplaw25.AnswerLooks'. -/
def answerLooksUptoCard : Claim7 := { stood := { row := answerLooksUptoRow, standIns := [], harness := (true, "0b3cfd3c6e151a74a27cb487dd6e4b62be8bc079990d42cdbd4f676fbd8b903f"), looks := true }, kinds := [], alts := [], laidByText := true, laidKinds := [.data, .data, .data, .data, .sentinel, .sentinel, .pinned], laidTests := true, laidLooks := .later }
def AnswerLooksUptoCardSaid : Prop := Claim7.holds Tryz.pinned (.plain (OpenSpec.upto answerLooksSpec)) answerLooksUptoCard

/-- THE SECOND FORM's CARD OF 'bellhoplaw25.AnswerCodes'. -/
def answerCodesUptoCard : Claim7 := { stood := { row := answerCodesUptoRow, standIns := [], harness := (true, "0b3cfd3c6e151a74a27cb487dd6e4b62be8bc079990d42cdbd4f676fbd8b903f"), looks := true }, kinds := [], alts := [], laidByText := true, laidKinds := [.data, .data, .data, .data, .sentinel, .sentinel, .pinned], laidTests := true, laidLooks := .later }
def AnswerCodesUptoCardSaid : Prop := Claim7.holds Tryz.pinned (.plain (OpenSpec.upto answerCodesSpec)) answerCodesUptoCard

/-- THE SECOND FORM's CARD OF 'bellhoplaw25.AnswerFull'. -/
def answerFullUptoCard : Claim7 := { stood := { row := answerFullUptoRow, standIns := [], harness := (true, "0b3cfd3c6e151a74a27cb487dd6e4b62be8bc079990d42cdbd4f676fbd8b903f"), looks := true }, kinds := [], alts := [], laidByText := true, laidKinds := [.data, .data, .data, .data, .sentinel, .sentinel, .pinned], laidTests := true, laidLooks := .later }
def AnswerFullUptoCardSaid : Prop := Claim7.holds Tryz.pinned (.plain (OpenSpec.upto answerFullSpec)) answerFullUptoCard

/-- THE SECOND FORM's CARD OF 'bellhoplaw25.AnswerLeads'. -/
def answerLeadsUptoCard : Claim7 := { stood := { row := answerLeadsUptoRow, standIns := [], harness := (true, "0b3cfd3c6e151a74a27cb487dd6e4b62be8bc079990d42cdbd4f676fbd8b903f"), looks := true }, kinds := [], alts := [], laidByText := true, laidKinds := [.data, .data, .data, .data, .sentinel, .sentinel, .pinned], laidTests := true, laidLooks := .later }
def AnswerLeadsUptoCardSaid : Prop := Claim7.holds Tryz.pinned (.plain (OpenSpec.upto answerLeadsSpec)) answerLeadsUptoCard
end Rows
end Go.Proofs.YtbdfijgejkimnaaGreatDoor
