/-
  No cell of these rows narrows 'for every input' (looked for: loops, veiled, ifaces, maps, wideKeys, modest, calm, conditions, laid).
  DERIVED. THE GIVEN ROWS OF THIS SEAT. 5 by the template 'for every input the law returns true; each argument reads behind the call as it read before'; 0 by the template 'total and deterministic' (their statements: YtjgcbcahikemdaaTotals.lean).
  GIVEN WITH THE SEED: the statements are not yours to turn. If you find one false, say at which input.
  Laid BY PROGRAM, IN A SANDBOX (cutbox-rows.mjs): the forced cells as the released guide's own fill.sh prints them over the translation ba8842419e5b9c85… (all of the seat's roots in one cut). By AI agents, Wed Nov 11 2026. No macro, syntax, notation, axiom, sorry.
-/
import Derived.Test.YtjgcbcahikemdaaChecked
import GoSem.Claim
import GoSem.ClaimJoined
import GoSem.ClaimMapViews
import Derived.JoinedTies
import Derived.KernelRfl
namespace Go.Proofs.Ytjgcbcahikemdaa
/- THE CELL 'sum', in the pinned program and in every row, IS THE sha256 OF THE DUMP (.gsa) THAT YtjgcbcahikemdaaProg.lean LOADS. Nothing in Lean hashes anything: it is a label: what it is worth is what the hold of that sum in a sandbox is worth. -/
noncomputable def Try.pinned : Pinned := { name := "ytjgcbcahikemdaa", sum := "ba8842419e5b9c8512c9543926b257f1a36c64777c1dcf4b9b607e327f832170", checked := Try.checked }
namespace Rows
def none {H : Type} : Left H := { results := [], args := [] }

/-- 'bellhoplaw04.ClockSplits': WHATEVER THE INPUT: true; the input reads as it did. -/
def clockSplitsSpec : ChangeSpec := { name := "clockSplits", fn := fun _ => fun
  | [d1, d2, d3] => { results := [.lit (.bool true)], args := [d1, d2, d3] }
  | _ => none }
def clockSplitsRow : OpenClaim := { program := "ytjgcbcahikemdaa", sum := "ba8842419e5b9c8512c9543926b257f1a36c64777c1dcf4b9b607e327f832170", func := "bellhop/bellhoplaw04.ClockSplits", spec := "clockSplits", unfollowed := true, recurses := true, plainKeys := false, apart := false }
def ClockSplitsSaid : Prop := clockSplitsRow.holds Try.pinned (OpenSpec.ofChange clockSplitsSpec)

/-- ITS FALSE NEIGHBOUR: 'it returns false'. Refute it at one input. -/
def clockSplitsWrong : ChangeSpec := { name := "clockSplits", fn := fun _ => fun
  | [d1, d2, d3] => { results := [.lit (.bool false)], args := [d1, d2, d3] }
  | _ => none }
def ClockSplitsWrongFalsely : Prop := clockSplitsRow.holds Try.pinned (OpenSpec.ofChange clockSplitsWrong)

/-- 'bellhoplaw04.ClockPlays': WHATEVER THE INPUT: true; the input reads as it did. -/
def clockPlaysSpec : ChangeSpec := { name := "clockPlays", fn := fun _ => fun
  | [d1, d2] => { results := [.lit (.bool true)], args := [d1, d2] }
  | _ => none }
def clockPlaysRow : OpenClaim := { program := "ytjgcbcahikemdaa", sum := "ba8842419e5b9c8512c9543926b257f1a36c64777c1dcf4b9b607e327f832170", func := "bellhop/bellhoplaw04.ClockPlays", spec := "clockPlays", unfollowed := true, recurses := true, plainKeys := false, apart := false }
def ClockPlaysSaid : Prop := clockPlaysRow.holds Try.pinned (OpenSpec.ofChange clockPlaysSpec)

/-- ITS FALSE NEIGHBOUR: 'it returns false'. Refute it at one input. -/
def clockPlaysWrong : ChangeSpec := { name := "clockPlays", fn := fun _ => fun
  | [d1, d2] => { results := [.lit (.bool false)], args := [d1, d2] }
  | _ => none }
def ClockPlaysWrongFalsely : Prop := clockPlaysRow.holds Try.pinned (OpenSpec.ofChange clockPlaysWrong)

/-- 'bellhoplaw08.MeshPlays': WHATEVER THE INPUT: true; the input reads as it did. -/
def meshPlaysSpec : ChangeSpec := { name := "meshPlays", fn := fun _ => fun
  | [d] => { results := [.lit (.bool true)], args := [d] }
  | _ => none }
def meshPlaysRow : OpenClaim := { program := "ytjgcbcahikemdaa", sum := "ba8842419e5b9c8512c9543926b257f1a36c64777c1dcf4b9b607e327f832170", func := "bellhop/bellhoplaw08.MeshPlays", spec := "meshPlays", unfollowed := true, recurses := true, plainKeys := false, apart := false }
def MeshPlaysSaid : Prop := meshPlaysRow.holds Try.pinned (OpenSpec.ofChange meshPlaysSpec)

/-- ITS FALSE NEIGHBOUR: 'it returns false'. Refute it at one input. -/
def meshPlaysWrong : ChangeSpec := { name := "meshPlays", fn := fun _ => fun
  | [d] => { results := [.lit (.bool false)], args := [d] }
  | _ => none }
def MeshPlaysWrongFalsely : Prop := meshPlaysRow.holds Try.pinned (OpenSpec.ofChange meshPlaysWrong)

/-- 'bellhoplaw08.MeshFull': WHATEVER THE INPUT: true; the input reads as it did. -/
def meshFullSpec : ChangeSpec := { name := "meshFull", fn := fun _ => fun
  | [d] => { results := [.lit (.bool true)], args := [d] }
  | _ => none }
def meshFullRow : OpenClaim := { program := "ytjgcbcahikemdaa", sum := "ba8842419e5b9c8512c9543926b257f1a36c64777c1dcf4b9b607e327f832170", func := "bellhop/bellhoplaw08.MeshFull", spec := "meshFull", unfollowed := true, recurses := true, plainKeys := false, apart := false }
def MeshFullSaid : Prop := meshFullRow.holds Try.pinned (OpenSpec.ofChange meshFullSpec)

/-- ITS FALSE NEIGHBOUR: 'it returns false'. Refute it at one input. -/
def meshFullWrong : ChangeSpec := { name := "meshFull", fn := fun _ => fun
  | [d] => { results := [.lit (.bool false)], args := [d] }
  | _ => none }
def MeshFullWrongFalsely : Prop := meshFullRow.holds Try.pinned (OpenSpec.ofChange meshFullWrong)

/-- 'bellhoplaw08.MeshDown': WHATEVER THE INPUT: true; the input reads as it did. -/
def meshDownSpec : ChangeSpec := { name := "meshDown", fn := fun _ => fun
  | [d1, d2] => { results := [.lit (.bool true)], args := [d1, d2] }
  | _ => none }
def meshDownRow : OpenClaim := { program := "ytjgcbcahikemdaa", sum := "ba8842419e5b9c8512c9543926b257f1a36c64777c1dcf4b9b607e327f832170", func := "bellhop/bellhoplaw08.MeshDown", spec := "meshDown", unfollowed := true, recurses := true, plainKeys := false, apart := false }
def MeshDownSaid : Prop := meshDownRow.holds Try.pinned (OpenSpec.ofChange meshDownSpec)

/-- ITS FALSE NEIGHBOUR: 'it returns false'. Refute it at one input. -/
def meshDownWrong : ChangeSpec := { name := "meshDown", fn := fun _ => fun
  | [d1, d2] => { results := [.lit (.bool false)], args := [d1, d2] }
  | _ => none }
def MeshDownWrongFalsely : Prop := meshDownRow.holds Try.pinned (OpenSpec.ofChange meshDownWrong)

/- THE SECOND FORM. 'bulk': how many values and letters a reading holds, each counted each time it is reached (what is shared counts as often as it is met; a slice's spare places count too). A statement '..UptoSaid' is the law's where the arguments, and the package variables that the reading takes, are together of bulk at most 1048576: NARROWER than '..Said'. Prove '..Said' where nothing that the law and all that it calls make is longer than what came in: it says more and counts as full. Else prove '..UptoSaid'. A law counts once. -/
mutual
def uptoBulk {H : Type} : DataW H → Nat
  | .lit (.string bytes) => bytes.length + 1
  | .lit _ => 1
  | .nil => 1
  | .ptr d => uptoBulk d + 1
  | .slice elems spare => uptoBulkAll elems + uptoBulkAll spare + 1
  | .agg parts => uptoBulkAll parts + 1
  | .iface _ d => uptoBulk d + 1
  | .map entries => uptoBulkEntries entries + 1
  | .held _ => 1
def uptoBulkAll {H : Type} : List (DataW H) → Nat
  | [] => 0
  | d :: r => uptoBulk d + uptoBulkAll r
def uptoBulkEntries {H : Type} : List (Lit × DataW H) → Nat
  | [] => 0
  | x :: r => uptoBulkEntry x + uptoBulkEntries r
def uptoBulkEntry {H : Type} : Lit × DataW H → Nat
  | (.string bytes, d) => bytes.length + uptoBulk d + 1
  | (_, d) => uptoBulk d + 1
 end
def uptoSmall : (H : Type) → List (DataW H) → Bool := fun _ ds => decide (uptoBulkAll ds ≤ 1048576)
def OpenSpec.upto (s : _root_.Go.ChangeSpec) : _root_.Go.OpenSpec := { _root_.Go.OpenSpec.ofChange s with cond := some uptoSmall }

/-- 'bellhoplaw04.ClockSplits', WHERE WHAT IT READS IS OF BULK AT MOST 1048576: true; the input reads as it did. -/
def clockSplitsUptoRow : OpenClaim := { program := "ytjgcbcahikemdaa", sum := "ba8842419e5b9c8512c9543926b257f1a36c64777c1dcf4b9b607e327f832170", func := "bellhop/bellhoplaw04.ClockSplits", spec := "clockSplits", unfollowed := true, recurses := true, plainKeys := false, apart := false, narrowed := true }
def ClockSplitsUptoSaid : Prop := clockSplitsUptoRow.holds Try.pinned (OpenSpec.upto clockSplitsSpec)

/-- 'bellhoplaw04.ClockPlays', WHERE WHAT IT READS IS OF BULK AT MOST 1048576: true; the input reads as it did. -/
def clockPlaysUptoRow : OpenClaim := { program := "ytjgcbcahikemdaa", sum := "ba8842419e5b9c8512c9543926b257f1a36c64777c1dcf4b9b607e327f832170", func := "bellhop/bellhoplaw04.ClockPlays", spec := "clockPlays", unfollowed := true, recurses := true, plainKeys := false, apart := false, narrowed := true }
def ClockPlaysUptoSaid : Prop := clockPlaysUptoRow.holds Try.pinned (OpenSpec.upto clockPlaysSpec)

/-- 'bellhoplaw08.MeshPlays', WHERE WHAT IT READS IS OF BULK AT MOST 1048576: true; the input reads as it did. -/
def meshPlaysUptoRow : OpenClaim := { program := "ytjgcbcahikemdaa", sum := "ba8842419e5b9c8512c9543926b257f1a36c64777c1dcf4b9b607e327f832170", func := "bellhop/bellhoplaw08.MeshPlays", spec := "meshPlays", unfollowed := true, recurses := true, plainKeys := false, apart := false, narrowed := true }
def MeshPlaysUptoSaid : Prop := meshPlaysUptoRow.holds Try.pinned (OpenSpec.upto meshPlaysSpec)

/-- 'bellhoplaw08.MeshFull', WHERE WHAT IT READS IS OF BULK AT MOST 1048576: true; the input reads as it did. -/
def meshFullUptoRow : OpenClaim := { program := "ytjgcbcahikemdaa", sum := "ba8842419e5b9c8512c9543926b257f1a36c64777c1dcf4b9b607e327f832170", func := "bellhop/bellhoplaw08.MeshFull", spec := "meshFull", unfollowed := true, recurses := true, plainKeys := false, apart := false, narrowed := true }
def MeshFullUptoSaid : Prop := meshFullUptoRow.holds Try.pinned (OpenSpec.upto meshFullSpec)

/-- 'bellhoplaw08.MeshDown', WHERE WHAT IT READS IS OF BULK AT MOST 1048576: true; the input reads as it did. -/
def meshDownUptoRow : OpenClaim := { program := "ytjgcbcahikemdaa", sum := "ba8842419e5b9c8512c9543926b257f1a36c64777c1dcf4b9b607e327f832170", func := "bellhop/bellhoplaw08.MeshDown", spec := "meshDown", unfollowed := true, recurses := true, plainKeys := false, apart := false, narrowed := true }
def MeshDownUptoSaid : Prop := meshDownUptoRow.holds Try.pinned (OpenSpec.upto meshDownSpec)

end Rows
end Go.Proofs.Ytjgcbcahikemdaa
