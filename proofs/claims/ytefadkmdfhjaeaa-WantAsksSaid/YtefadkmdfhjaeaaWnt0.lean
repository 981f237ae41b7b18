/- What is wanted: its block, its keys, its clock. -/
import Derived.Test.YtefadkmdfhjaeaaClkU
import Derived.Test.YtefadkmdfhjaeaaWntI
namespace Go.Proofs.Ytefadkmdfhjaeaa
open Go.Conc Go.RowKit Go.Maps

/-- A key that is wanted: its version, who has it; where that list lies. -/
structure EntW where
  key : ByteArray
  ver : Nat
  has : List Int
  a : Option Addr
  cap : Nat
def EntW.s (e : EntW) : Value := .slice e.a e.has.length e.cap
def EntW.v (e : EntW) : Value := .agg #[.int .u64 e.ver, e.s]
def prsW (L : List EntW) : List (ByteArray × Value) := L.map (fun e => (e.key, e.v))
def findW (L : List EntW) (k : ByteArray) : Option EntW := L.find? (fun e => decide (e.key = k))
def dropW (L : List EntW) (k : ByteArray) : List EntW := L.filter (fun e => !decide (e.key = k))
def putW (L : List EntW) (e : EntW) : List EntW := dropW L e.key ++ [e]
theorem look_prsW (L : List EntW) (k : ByteArray) : lookL (prsW L) k = (findW L k).map EntW.v := by
  unfold lookL prsW findW
  rw [List.find?_map, Option.map_map]
  rfl
theorem drop_prsW (L : List EntW) (k : ByteArray) : dropL (prsW L) k = prsW (dropW L k) := by
  unfold dropL prsW dropW
  rw [List.filter_map]
  rfl
theorem put_prsW (L : List EntW) (e : EntW) : putL (prsW L) e.key e.v = prsW (putW L e) := by
  unfold putL putW
  rw [drop_prsW]
  unfold prsW
  rw [List.map_append]
  rfl
theorem findW_some {L : List EntW} {k : ByteArray} {e : EntW} (h : findW L k = some e) : e ∈ L ∧ e.key = k := ⟨List.mem_of_find?_eq_some h, by simpa using List.find?_some h⟩
theorem findW_none {L : List EntW} {k : ByteArray} (h : findW L k = none) : ∀ e ∈ L, e.key ≠ k := fun e he => by
  unfold findW at h
  have := List.find?_eq_none.1 h e he
  simpa using this
abbrev WMapW (w : World) (b : Nat) (L : List EntW) : Prop := MapIs Try.prog 9 Value.string (fun v : Value => v) w b (prsW L)
theorem zeroW (w : World) : (zeroValue 70).run Try.prog w = .ok (Value.agg #[.int .u64 0, .slice none 0 0]) w := by kernel_rfl
/-- The blocks that its functions write. -/
def footW (kb c cb : Nat) (i : Nat) : Prop := i = kb ∨ i = c ∨ i = cb
structure WantAt (w : World) (x kb c cb : Nat) (wait cnt : Int) (L : List EntW) (C : List (ByteArray × (Int × Int))) : Prop where
  blk : w.heap[x]? = some (.cells #[.map (some kb), .pointer (some ⟨c, 0, none⟩), .int .i64 wait] 68 (0, 0))
  keys : WMapW w kb L
  rows : ∀ e ∈ L, w.ownsRow 0 3 1 e.s e.has.length (rowI e.has)
  clk : ClkIs w c cb 64 cnt C
  sync : (C.map (·.1)).Perm (L.map (·.key))
  ne : kb ≠ cb
  small : ∀ e ∈ L, e.key.size ≤ maxLen ∧ e.has.length ≤ 64 ∧ e.has ≠ []
theorem mapW_not {w : World} {k : TypeId} {α β : Type} {κ : α → Value} {ε : β → Value} {b : Nat} {L : List (α × β)} (h : MapIs Try.prog k κ ε w b L) : ∃ es c, w.heap[b]? = some (.map es c) := by
  obtain ⟨es, c, hb, _⟩ := h.own
  exact ⟨es, c, hb⟩
/-- A row of ints lies in no block of another kind. -/
theorem row_kept {w w' : World} {S : Nat → Prop} {v : Value} {l : List Int} (h : w.ownsRow 0 3 1 v l.length (rowI l)) (ho : Only S w w') (hn : ∀ k, S k → ∀ cs f, w.heap[k]? ≠ some (.cells cs 3 f)) : w'.ownsRow 0 3 1 v l.length (rowI l) := by
  refine ⟨h.1, ?_⟩
  rcases h.2 with h2 | ⟨g, cap, cur, rfl, hb, hg, r⟩
  · exact .inl h2
  · exact .inr ⟨g, cap, cur, rfl, hb, ho.old hg (fun hs => hn g hs _ _ hg), r⟩
theorem WantAt.foot_not {w : World} {x kb c cb : Nat} {wait cnt : Int} {L : List EntW} {C : List (ByteArray × (Int × Int))} (h : WantAt w x kb c cb wait cnt L C) : ∀ k, footW kb c cb k → ∀ cs f, w.heap[k]? ≠ some (.cells cs 3 f) := by
  intro k hk cs f e
  rcases hk with rfl | rfl | rfl
  · obtain ⟨es, c, hb⟩ := mapW_not h.keys; rw [hb] at e; cases e
  · rw [h.clk.blk] at e; cases e
  · obtain ⟨es, c, hb⟩ := mapW_not h.clk.map; rw [hb] at e; cases e
theorem WantAt.nes {w : World} {x kb c cb : Nat} {wait cnt : Int} {L : List EntW} {C : List (ByteArray × (Int × Int))} (h : WantAt w x kb c cb wait cnt L C) : ¬ footW kb c cb x ∧ kb ≠ c ∧ c ≠ cb := by
  obtain ⟨es, q, hb⟩ := mapW_not h.keys
  obtain ⟨es', q', hb'⟩ := mapW_not h.clk.map
  refine ⟨fun hk => ?_, fun e => ?_, h.clk.ne⟩
  · have hx := h.blk
    rcases hk with rfl | rfl | rfl
    · rw [hb] at hx; cases hx
    · rw [h.clk.blk] at hx; cases hx
    · rw [hb'] at hx; cases hx
  · rw [e, h.clk.blk] at hb; cases hb
theorem WantAt.new {w w' : World} {x kb c cb : Nat} {wait cnt : Int} {L : List EntW} {C : List (ByteArray × (Int × Int))} (h : WantAt w x kb c cb wait cnt L C) (ho : Only (fun _ => False) w w') : WantAt w' x kb c cb wait cnt L C :=
  ⟨ho.old h.blk id, h.keys.kept ho id, fun e he => row_kept (h.rows e he) ho (fun _ => False.elim), h.clk.kept ho id id, h.sync, h.ne, h.small⟩
end Go.Proofs.Ytefadkmdfhjaeaa
