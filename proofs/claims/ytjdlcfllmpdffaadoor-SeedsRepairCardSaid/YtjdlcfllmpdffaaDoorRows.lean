/-
  NARROWER THAN 'FOR EVERY INPUT', by the rows' own cells (each row's printed sentence says how): StoreMerges: laid · SeedsTurn: laid · StorePlays: laid · DigestAnswers: laid · DigestTakes: laid · SeedsRepair: laid · SeedsTake: laid · ServiceRises: laid.
  DERIVED. THE GIVEN ROWS OF THIS SEAT. 8 by the template 'for every input the law returns true; each argument reads behind the call as it read before'; 0 by the template 'total and deterministic' (their statements: YtjdlcfllmpdffaaDoorTotals.lean).
  GIVEN WITH THE SEED: the statements are not yours to turn. If you find one false, say at which input.
  Laid BY PROGRAM, IN A SANDBOX (cutbox-rows.mjs): the forced cells as the released guide's own fill.sh prints them over the translation 2b97681ea6a0475d… (all of the seat's roots in one cut). By AI agents, Wed Nov 11 2026. No macro, syntax, notation, axiom, sorry.
-/
import Derived.Test.YtjdlcfllmpdffaaDoorChecked
import GoSem.PinnedTables
import GoSem.Claim
import GoSem.ClaimJoined
import GoSem.ClaimMapViews
import Derived.JoinedTies
import Derived.KernelRfl
namespace Go.Proofs.YtjdlcfllmpdffaaDoor
/- THE CELL 'sum', in the pinned program and in every row, IS THE sha256 OF THE DUMP (.gsa) THAT YtjdlcfllmpdffaaDoorProg.lean LOADS. Nothing in Lean hashes anything: it is a label: what it is worth is what the hold of that sum in a sandbox is worth. -/
noncomputable def Tryd.pinned : Pinned := { name := "ytjdlcfllmpdffaadoor", sum := "2b97681ea6a0475d569a4f4ba5c5296248d11d9b149f588ec836893cfb4c4dd8", checked := Tryd.checked }
namespace Rows
def none {H : Type} : Left H := { results := [], args := [] }

/- WHAT THE LISTED PACKAGE-LEVEL VARIABLES READ AS WHEN THE CALL BEGINS. Each datum BY PROGRAM (the guide's laid-datum.mjs) off the statement by which the dump's own 'gosem.cut.vars' lays the variable. In a bare row this is a premise. The card (YtjdlcfllmpdffaaDoorCards.lean) ties it to the program's text. -/
def laid_unicode_utf8_acceptRanges {H : Type} : DataW H := .agg [.agg [.lit (.int .u8 128), .lit (.int .u8 191)], .agg [.lit (.int .u8 160), .lit (.int .u8 191)], .agg [.lit (.int .u8 128), .lit (.int .u8 159)], .agg [.lit (.int .u8 144), .lit (.int .u8 191)], .agg [.lit (.int .u8 128), .lit (.int .u8 143)], .agg [.lit (.int .u8 0), .lit (.int .u8 0)], .agg [.lit (.int .u8 0), .lit (.int .u8 0)], .agg [.lit (.int .u8 0), .lit (.int .u8 0)], .agg [.lit (.int .u8 0), .lit (.int .u8 0)], .agg [.lit (.int .u8 0), .lit (.int .u8 0)], .agg [.lit (.int .u8 0), .lit (.int .u8 0)], .agg [.lit (.int .u8 0), .lit (.int .u8 0)], .agg [.lit (.int .u8 0), .lit (.int .u8 0)], .agg [.lit (.int .u8 0), .lit (.int .u8 0)], .agg [.lit (.int .u8 0), .lit (.int .u8 0)], .agg [.lit (.int .u8 0), .lit (.int .u8 0)]]
/-- One of Go's own tables, pinned by name: the form's constant. -/
def laid_unicode_utf8_first : DataW Unit := Go.Pinned.utf8First

/-- 'bellhoplaw15.StoreMerges': WHATEVER THE INPUT: true; the input reads as it did. -/
def storeMergesSpec : ChangeSpec := { name := "storeMerges", fn := fun _ => fun
  | [d1, d2, d3] => { results := [.lit (.bool true)], args := [d1, d2, d3] }
  | _ => none }
def storeMergesRow : OpenClaim := { program := "ytjdlcfllmpdffaadoor", sum := "2b97681ea6a0475d569a4f4ba5c5296248d11d9b149f588ec836893cfb4c4dd8", func := "bellhop/bellhoplaw15.StoreMerges", spec := "storeMerges", inPlace := ["internal/bytealg.CountString", "internal/bytealg.IndexByteString", "internal/bytealg.IndexString"], unfollowed := true, recurses := true, named := ["unicode/utf8.first", "unicode/utf8.acceptRanges", "internal/bytealg.MaxLen"], apart := false, laid := [("unicode/utf8.acceptRanges", laid_unicode_utf8_acceptRanges), ("unicode/utf8.first", laid_unicode_utf8_first)] }
def StoreMergesSaid : Prop := storeMergesRow.holds Tryd.pinned (OpenSpec.ofChange storeMergesSpec)

/-- ITS FALSE NEIGHBOUR: 'it returns false'. Refute it at one input. -/
def storeMergesWrong : ChangeSpec := { name := "storeMerges", fn := fun _ => fun
  | [d1, d2, d3] => { results := [.lit (.bool false)], args := [d1, d2, d3] }
  | _ => none }
def StoreMergesWrongFalsely : Prop := storeMergesRow.holds Tryd.pinned (OpenSpec.ofChange storeMergesWrong)

/-- 'bellhoplaw20.SeedsTurn': WHATEVER THE INPUT: true; the input reads as it did. -/
def seedsTurnSpec : ChangeSpec := { name := "seedsTurn", fn := fun _ => fun
  | [d1, d2, d3] => { results := [.lit (.bool true)], args := [d1, d2, d3] }
  | _ => none }
def seedsTurnRow : OpenClaim := { program := "ytjdlcfllmpdffaadoor", sum := "2b97681ea6a0475d569a4f4ba5c5296248d11d9b149f588ec836893cfb4c4dd8", func := "bellhop/bellhoplaw20.SeedsTurn", spec := "seedsTurn", inPlace := ["internal/bytealg.CountString", "internal/bytealg.IndexByteString", "internal/bytealg.IndexString"], unfollowed := true, recurses := true, named := ["unicode/utf8.first", "unicode/utf8.acceptRanges", "internal/bytealg.MaxLen"], apart := false, laid := [("unicode/utf8.acceptRanges", laid_unicode_utf8_acceptRanges), ("unicode/utf8.first", laid_unicode_utf8_first)] }
def SeedsTurnSaid : Prop := seedsTurnRow.holds Tryd.pinned (OpenSpec.ofChange seedsTurnSpec)

/-- ITS FALSE NEIGHBOUR: 'it returns false'. Refute it at one input. -/
def seedsTurnWrong : ChangeSpec := { name := "seedsTurn", fn := fun _ => fun
  | [d1, d2, d3] => { results := [.lit (.bool false)], args := [d1, d2, d3] }
  | _ => none }
def SeedsTurnWrongFalsely : Prop := seedsTurnRow.holds Tryd.pinned (OpenSpec.ofChange seedsTurnWrong)

/-- 'bellhoplaw15.StorePlays': WHATEVER THE INPUT: true; the input reads as it did. -/
def storePlaysSpec : ChangeSpec := { name := "storePlays", fn := fun _ => fun
  | [d1, d2] => { results := [.lit (.bool true)], args := [d1, d2] }
  | _ => none }
def storePlaysRow : OpenClaim := { program := "ytjdlcfllmpdffaadoor", sum := "2b97681ea6a0475d569a4f4ba5c5296248d11d9b149f588ec836893cfb4c4dd8", func := "bellhop/bellhoplaw15.StorePlays", spec := "storePlays", inPlace := ["internal/bytealg.CountString", "internal/bytealg.IndexByteString", "internal/bytealg.IndexString"], unfollowed := true, recurses := true, named := ["unicode/utf8.first", "unicode/utf8.acceptRanges", "internal/bytealg.MaxLen"], apart := false, laid := [("unicode/utf8.acceptRanges", laid_unicode_utf8_acceptRanges), ("unicode/utf8.first", laid_unicode_utf8_first)] }
def StorePlaysSaid : Prop := storePlaysRow.holds Tryd.pinned (OpenSpec.ofChange storePlaysSpec)

/-- ITS FALSE NEIGHBOUR: 'it returns false'. Refute it at one input. -/
def storePlaysWrong : ChangeSpec := { name := "storePlays", fn := fun _ => fun
  | [d1, d2] => { results := [.lit (.bool false)], args := [d1, d2] }
  | _ => none }
def StorePlaysWrongFalsely : Prop := storePlaysRow.holds Tryd.pinned (OpenSpec.ofChange storePlaysWrong)

/-- 'bellhoplaw16.DigestAnswers': WHATEVER THE INPUT: true; the input reads as it did. -/
def digestAnswersSpec : ChangeSpec := { name := "digestAnswers", fn := fun _ => fun
  | [d1, d2, d3] => { results := [.lit (.bool true)], args := [d1, d2, d3] }
  | _ => none }
def digestAnswersRow : OpenClaim := { program := "ytjdlcfllmpdffaadoor", sum := "2b97681ea6a0475d569a4f4ba5c5296248d11d9b149f588ec836893cfb4c4dd8", func := "bellhop/bellhoplaw16.DigestAnswers", spec := "digestAnswers", inPlace := ["internal/bytealg.CountString", "internal/bytealg.IndexByteString", "internal/bytealg.IndexString"], unfollowed := true, recurses := true, named := ["unicode/utf8.first", "unicode/utf8.acceptRanges", "internal/bytealg.MaxLen"], apart := false, laid := [("unicode/utf8.acceptRanges", laid_unicode_utf8_acceptRanges), ("unicode/utf8.first", laid_unicode_utf8_first)] }
def DigestAnswersSaid : Prop := digestAnswersRow.holds Tryd.pinned (OpenSpec.ofChange digestAnswersSpec)

/-- ITS FALSE NEIGHBOUR: 'it returns false'. Refute it at one input. -/
def digestAnswersWrong : ChangeSpec := { name := "digestAnswers", fn := fun _ => fun
  | [d1, d2, d3] => { results := [.lit (.bool false)], args := [d1, d2, d3] }
  | _ => none }
def DigestAnswersWrongFalsely : Prop := digestAnswersRow.holds Tryd.pinned (OpenSpec.ofChange digestAnswersWrong)

/-- 'bellhoplaw16.DigestTakes': WHATEVER THE INPUT: true; the input reads as it did. -/
def digestTakesSpec : ChangeSpec := { name := "digestTakes", fn := fun _ => fun
  | [d1, d2, d3] => { results := [.lit (.bool true)], args := [d1, d2, d3] }
  | _ => none }
def digestTakesRow : OpenClaim := { program := "ytjdlcfllmpdffaadoor", sum := "2b97681ea6a0475d569a4f4ba5c5296248d11d9b149f588ec836893cfb4c4dd8", func := "bellhop/bellhoplaw16.DigestTakes", spec := "digestTakes", inPlace := ["internal/bytealg.CountString", "internal/bytealg.IndexByteString", "internal/bytealg.IndexString"], unfollowed := true, recurses := true, named := ["unicode/utf8.first", "unicode/utf8.acceptRanges", "internal/bytealg.MaxLen"], apart := false, laid := [("unicode/utf8.acceptRanges", laid_unicode_utf8_acceptRanges), ("unicode/utf8.first", laid_unicode_utf8_first)] }
def DigestTakesSaid : Prop := digestTakesRow.holds Tryd.pinned (OpenSpec.ofChange digestTakesSpec)

/-- ITS FALSE NEIGHBOUR: 'it returns false'. Refute it at one input. -/
def digestTakesWrong : ChangeSpec := { name := "digestTakes", fn := fun _ => fun
  | [d1, d2, d3] => { results := [.lit (.bool false)], args := [d1, d2, d3] }
  | _ => none }
def DigestTakesWrongFalsely : Prop := digestTakesRow.holds Tryd.pinned (OpenSpec.ofChange digestTakesWrong)

/-- 'bellhoplaw20.SeedsRepair': WHATEVER THE INPUT: true; the input reads as it did. -/
def seedsRepairSpec : ChangeSpec := { name := "seedsRepair", fn := fun _ => fun
  | [d1, d2, d3] => { results := [.lit (.bool true)], args := [d1, d2, d3] }
  | _ => none }
def seedsRepairRow : OpenClaim := { program := "ytjdlcfllmpdffaadoor", sum := "2b97681ea6a0475d569a4f4ba5c5296248d11d9b149f588ec836893cfb4c4dd8", func := "bellhop/bellhoplaw20.SeedsRepair", spec := "seedsRepair", inPlace := ["internal/bytealg.CountString", "internal/bytealg.IndexByteString", "internal/bytealg.IndexString"], unfollowed := true, recurses := true, named := ["unicode/utf8.first", "unicode/utf8.acceptRanges", "internal/bytealg.MaxLen"], apart := false, laid := [("unicode/utf8.acceptRanges", laid_unicode_utf8_acceptRanges), ("unicode/utf8.first", laid_unicode_utf8_first)] }
def SeedsRepairSaid : Prop := seedsRepairRow.holds Tryd.pinned (OpenSpec.ofChange seedsRepairSpec)

/-- ITS FALSE NEIGHBOUR: 'it returns false'. Refute it at one input. -/
def seedsRepairWrong : ChangeSpec := { name := "seedsRepair", fn := fun _ => fun
  | [d1, d2, d3] => { results := [.lit (.bool false)], args := [d1, d2, d3] }
  | _ => none }
def SeedsRepairWrongFalsely : Prop := seedsRepairRow.holds Tryd.pinned (OpenSpec.ofChange seedsRepairWrong)

/-- 'bellhoplaw20.SeedsTake': WHATEVER THE INPUT: true; the input reads as it did. -/
def seedsTakeSpec : ChangeSpec := { name := "seedsTake", fn := fun _ => fun
  | [d1, d2, d3] => { results := [.lit (.bool true)], args := [d1, d2, d3] }
  | _ => none }
def seedsTakeRow : OpenClaim := { program := "ytjdlcfllmpdffaadoor", sum := "2b97681ea6a0475d569a4f4ba5c5296248d11d9b149f588ec836893cfb4c4dd8", func := "bellhop/bellhoplaw20.SeedsTake", spec := "seedsTake", inPlace := ["internal/bytealg.CountString", "internal/bytealg.IndexByteString", "internal/bytealg.IndexString"], unfollowed := true, recurses := true, named := ["unicode/utf8.first", "unicode/utf8.acceptRanges", "internal/bytealg.MaxLen"], apart := false, laid := [("unicode/utf8.acceptRanges", laid_unicode_utf8_acceptRanges), ("unicode/utf8.first", laid_unicode_utf8_first)] }
def SeedsTakeSaid : Prop := seedsTakeRow.holds Tryd.pinned (OpenSpec.ofChange seedsTakeSpec)

/-- ITS FALSE NEIGHBOUR: 'it returns false'. Refute it at one input. -/
def seedsTakeWrong : ChangeSpec := { name := "seedsTake", fn := fun _ => fun
  | [d1, d2, d3] => { results := [.lit (.bool false)], args := [d1, d2, d3] }
  | _ => none }
def SeedsTakeWrongFalsely : Prop := seedsTakeRow.holds Tryd.pinned (OpenSpec.ofChange seedsTakeWrong)

/-- 'bellhoplaw26.ServiceRises': WHATEVER THE INPUT: true; the input reads as it did. -/
def serviceRisesSpec : ChangeSpec := { name := "serviceRises", fn := fun _ => fun
  | [d1, d2] => { results := [.lit (.bool true)], args := [d1, d2] }
  | _ => none }
def serviceRisesRow : OpenClaim := { program := "ytjdlcfllmpdffaadoor", sum := "2b97681ea6a0475d569a4f4ba5c5296248d11d9b149f588ec836893cfb4c4dd8", func := "bellhop/bellhoplaw26.ServiceRises", spec := "serviceRises", inPlace := ["internal/bytealg.CountString", "internal/bytealg.IndexByteString", "internal/bytealg.IndexString", "internal/abi.NoEscape"], unfollowed := true, recurses := true, named := ["unicode/utf8.first", "unicode/utf8.acceptRanges", "internal/bytealg.MaxLen"], apart := false, laid := [("unicode/utf8.acceptRanges", laid_unicode_utf8_acceptRanges), ("unicode/utf8.first", laid_unicode_utf8_first)] }
def ServiceRisesSaid : Prop := serviceRisesRow.holds Tryd.pinned (OpenSpec.ofChange serviceRisesSpec)

/-- ITS FALSE NEIGHBOUR: 'it returns false'. Refute it at one input. -/
def serviceRisesWrong : ChangeSpec := { name := "serviceRises", fn := fun _ => fun
  | [d1, d2] => { results := [.lit (.bool false)], args := [d1, d2] }
  | _ => none }
def ServiceRisesWrongFalsely : Prop := serviceRisesRow.holds Tryd.pinned (OpenSpec.ofChange serviceRisesWrong)

/- THE SECOND FORM. 'bulk': how many values and letters a reading holds, each counted each time it is reached (what is shared counts as often as it is met; a slice's spare places count too). A statement '..UptoSaid' is the law's where the arguments, and the package variables that the reading takes, are together of bulk at most 1048576: NARROWER than '..Said'. Prove '..Said' where nothing that the law and all that it calls make is longer than what came in: it says more and counts as full. Else prove '..UptoSaid'. A law counts once. -/
mutual
def uptoBulk {H : Type} : DataW H → Nat
  | .lit (.string bytes) => bytes.length + 1
  | .lit _ => 1
  | .nil => 1
  | .ptr d => uptoBulk d + 1
  | .slice elems spare => uptoBulkAll elems + uptoBulkAll spare + 1
  | .agg parts => uptoBulkAll parts + 1
  | .iface _ d => uptoBulk d + 1
  | .map entries => uptoBulkEntries entries + 1
  | .held _ => 1
def uptoBulkAll {H : Type} : List (DataW H) → Nat
  | [] => 0
  | d :: r => uptoBulk d + uptoBulkAll r
def uptoBulkEntries {H : Type} : List (Lit × DataW H) → Nat
  | [] => 0
  | x :: r => uptoBulkEntry x + uptoBulkEntries r
def uptoBulkEntry {H : Type} : Lit × DataW H → Nat
  | (.string bytes, d) => bytes.length + uptoBulk d + 1
  | (_, d) => uptoBulk d + 1
 end
def uptoSmall : (H : Type) → List (DataW H) → Bool := fun _ ds => decide (uptoBulkAll ds ≤ 1048576)
def OpenSpec.upto (s : _root_.Go.ChangeSpec) : _root_.Go.OpenSpec := { _root_.Go.OpenSpec.ofChange s with cond := some uptoSmall }

/-- 'bellhoplaw15.StoreMerges', WHERE WHAT IT READS IS OF BULK AT MOST 1048576: true; the input reads as it did. -/
def storeMergesUptoRow : OpenClaim := { program := "ytjdlcfllmpdffaadoor", sum := "2b97681ea6a0475d569a4f4ba5c5296248d11d9b149f588ec836893cfb4c4dd8", func := "bellhop/bellhoplaw15.StoreMerges", spec := "storeMerges", inPlace := ["internal/bytealg.CountString", "internal/bytealg.IndexByteString", "internal/bytealg.IndexString"], unfollowed := true, recurses := true, named := ["unicode/utf8.first", "unicode/utf8.acceptRanges", "internal/bytealg.MaxLen"], apart := false, laid := [("unicode/utf8.acceptRanges", laid_unicode_utf8_acceptRanges), ("unicode/utf8.first", laid_unicode_utf8_first)], narrowed := true }
def StoreMergesUptoSaid : Prop := storeMergesUptoRow.holds Tryd.pinned (OpenSpec.upto storeMergesSpec)

/-- 'bellhoplaw20.SeedsTurn', WHERE WHAT IT READS IS OF BULK AT MOST 1048576: true; the input reads as it did. -/
def seedsTurnUptoRow : OpenClaim := { program := "ytjdlcfllmpdffaadoor", sum := "2b97681ea6a0475d569a4f4ba5c5296248d11d9b149f588ec836893cfb4c4dd8", func := "bellhop/bellhoplaw20.SeedsTurn", spec := "seedsTurn", inPlace := ["internal/bytealg.CountString", "internal/bytealg.IndexByteString", "internal/bytealg.IndexString"], unfollowed := true, recurses := true, named := ["unicode/utf8.first", "unicode/utf8.acceptRanges", "internal/bytealg.MaxLen"], apart := false, laid := [("unicode/utf8.acceptRanges", laid_unicode_utf8_acceptRanges), ("unicode/utf8.first", laid_unicode_utf8_first)], narrowed := true }
def SeedsTurnUptoSaid : Prop := seedsTurnUptoRow.holds Tryd.pinned (OpenSpec.upto seedsTurnSpec)

/-- 'bellhoplaw15.StorePlays', WHERE WHAT IT READS IS OF BULK AT MOST 1048576: true; the input reads as it did. -/
def storePlaysUptoRow : OpenClaim := { program := "ytjdlcfllmpdffaadoor", sum := "2b97681ea6a0475d569a4f4ba5c5296248d11d9b149f588ec836893cfb4c4dd8", func := "bellhop/bellhoplaw15.StorePlays", spec := "storePlays", inPlace := ["internal/bytealg.CountString", "internal/bytealg.IndexByteString", "internal/bytealg.IndexString"], unfollowed := true, recurses := true, named := ["unicode/utf8.first", "unicode/utf8.acceptRanges", "internal/bytealg.MaxLen"], apart := false, laid := [("unicode/utf8.acceptRanges", laid_unicode_utf8_acceptRanges), ("unicode/utf8.first", laid_unicode_utf8_first)], narrowed := true }
def StorePlaysUptoSaid : Prop := storePlaysUptoRow.holds Tryd.pinned (OpenSpec.upto storePlaysSpec)

/-- 'bellhoplaw16.DigestAnswers', WHERE WHAT IT READS IS OF BULK AT MOST 1048576: true; the input reads as it did. -/
def digestAnswersUptoRow : OpenClaim := { program := "ytjdlcfllmpdffaadoor", sum := "2b97681ea6a0475d569a4f4ba5c5296248d11d9b149f588ec836893cfb4c4dd8", func := "bellhop/bellhoplaw16.DigestAnswers", spec := "digestAnswers", inPlace := ["internal/bytealg.CountString", "internal/bytealg.IndexByteString", "internal/bytealg.IndexString"], unfollowed := true, recurses := true, named := ["unicode/utf8.first", "unicode/utf8.acceptRanges", "internal/bytealg.MaxLen"], apart := false, laid := [("unicode/utf8.acceptRanges", laid_unicode_utf8_acceptRanges), ("unicode/utf8.first", laid_unicode_utf8_first)], narrowed := true }
def DigestAnswersUptoSaid : Prop := digestAnswersUptoRow.holds Tryd.pinned (OpenSpec.upto digestAnswersSpec)

/-- 'bellhoplaw16.DigestTakes', WHERE WHAT IT READS IS OF BULK AT MOST 1048576: true; the input reads as it did. -/
def digestTakesUptoRow : OpenClaim := { program := "ytjdlcfllmpdffaadoor", sum := "2b97681ea6a0475d569a4f4ba5c5296248d11d9b149f588ec836893cfb4c4dd8", func := "bellhop/bellhoplaw16.DigestTakes", spec := "digestTakes", inPlace := ["internal/bytealg.CountString", "internal/bytealg.IndexByteString", "internal/bytealg.IndexString"], unfollowed := true, recurses := true, named := ["unicode/utf8.first", "unicode/utf8.acceptRanges", "internal/bytealg.MaxLen"], apart := false, laid := [("unicode/utf8.acceptRanges", laid_unicode_utf8_acceptRanges), ("unicode/utf8.first", laid_unicode_utf8_first)], narrowed := true }
def DigestTakesUptoSaid : Prop := digestTakesUptoRow.holds Tryd.pinned (OpenSpec.upto digestTakesSpec)

/-- 'bellhoplaw20.SeedsRepair', WHERE WHAT IT READS IS OF BULK AT MOST 1048576: true; the input reads as it did. -/
def seedsRepairUptoRow : OpenClaim := { program := "ytjdlcfllmpdffaadoor", sum := "2b97681ea6a0475d569a4f4ba5c5296248d11d9b149f588ec836893cfb4c4dd8", func := "bellhop/bellhoplaw20.SeedsRepair", spec := "seedsRepair", inPlace := ["internal/bytealg.CountString", "internal/bytealg.IndexByteString", "internal/bytealg.IndexString"], unfollowed := true, recurses := true, named := ["unicode/utf8.first", "unicode/utf8.acceptRanges", "internal/bytealg.MaxLen"], apart := false, laid := [("unicode/utf8.acceptRanges", laid_unicode_utf8_acceptRanges), ("unicode/utf8.first", laid_unicode_utf8_first)], narrowed := true }
def SeedsRepairUptoSaid : Prop := seedsRepairUptoRow.holds Tryd.pinned (OpenSpec.upto seedsRepairSpec)

/-- 'bellhoplaw20.SeedsTake', WHERE WHAT IT READS IS OF BULK AT MOST 1048576: true; the input reads as it did. -/
def seedsTakeUptoRow : OpenClaim := { program := "ytjdlcfllmpdffaadoor", sum := "2b97681ea6a0475d569a4f4ba5c5296248d11d9b149f588ec836893cfb4c4dd8", func := "bellhop/bellhoplaw20.SeedsTake", spec := "seedsTake", inPlace := ["internal/bytealg.CountString", "internal/bytealg.IndexByteString", "internal/bytealg.IndexString"], unfollowed := true, recurses := true, named := ["unicode/utf8.first", "unicode/utf8.acceptRanges", "internal/bytealg.MaxLen"], apart := false, laid := [("unicode/utf8.acceptRanges", laid_unicode_utf8_acceptRanges), ("unicode/utf8.first", laid_unicode_utf8_first)], narrowed := true }
def SeedsTakeUptoSaid : Prop := seedsTakeUptoRow.holds Tryd.pinned (OpenSpec.upto seedsTakeSpec)

/-- 'bellhoplaw26.ServiceRises', WHERE WHAT IT READS IS OF BULK AT MOST 1048576: true; the input reads as it did. -/
def serviceRisesUptoRow : OpenClaim := { program := "ytjdlcfllmpdffaadoor", sum := "2b97681ea6a0475d569a4f4ba5c5296248d11d9b149f588ec836893cfb4c4dd8", func := "bellhop/bellhoplaw26.ServiceRises", spec := "serviceRises", inPlace := ["internal/bytealg.CountString", "internal/bytealg.IndexByteString", "internal/bytealg.IndexString", "internal/abi.NoEscape"], unfollowed := true, recurses := true, named := ["unicode/utf8.first", "unicode/utf8.acceptRanges", "internal/bytealg.MaxLen"], apart := false, laid := [("unicode/utf8.acceptRanges", laid_unicode_utf8_acceptRanges), ("unicode/utf8.first", laid_unicode_utf8_first)], narrowed := true }
def ServiceRisesUptoSaid : Prop := serviceRisesUptoRow.holds Tryd.pinned (OpenSpec.upto serviceRisesSpec)

end Rows
end Go.Proofs.YtjdlcfllmpdffaaDoor
