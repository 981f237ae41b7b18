/- Small laws for regions that make blocks: what is kept, the block behind a chain of stores. -/
import Derived.Test.YtefadkmdfhjaeaaByt1
import Derived.Deep.RegionHeld3
namespace Go.Proofs.Ytefadkmdfhjaeaa
open Go.Conc Go.RowKit

theorem heldO {W w' : World} {C : World → Prop} (hC : ∀ w', Only (fun _ => False) W w' → C w') (h : Only (fun _ => False) W w') : Only (fun _ => False) W w' ∧ C w' := ⟨h, hC _ h⟩
theorem onlySet {W w : World} (h : Only (fun _ => False) W w) {c i : Nat} (hc : W.heap.size ≤ c) (v : Value) : Only (fun _ => False) W (w.setCell ⟨c, i, none⟩ v) := h.setCell (.inl hc) v
theorem blk_same {w : World} {b i : Nat} {cs : Array Value} {t : TypeId} {f : Nat × Nat} {v : Value} (h : w.heap[b]? = some (.cells cs t f)) : (w.setCell ⟨b, i, none⟩ v).heap[b]? = some (.cells (cs.setIfInBounds i v) t f) := set_at h i v
theorem blk_ne {w : World} {b c i : Nat} {v : Value} {x : Option Obj} (h : w.heap[b]? = x) (hn : c ≠ b) : (w.setCell ⟨c, i, none⟩ v).heap[b]? = x :=
  (Below.heap_setCell _ _ _ _ (Ne.symm hn)).trans h
theorem blk_new {w : World} {b : Nat} {o : Obj} (hb : b = w.heap.size) : (w.alloc o).heap[b]? = some o := by subst hb; exact heap_alloc_new w o
theorem blk_old {w : World} {o : Obj} {b : Nat} {x : Obj} (h : w.heap[b]? = some x) : (w.alloc o).heap[b]? = some x := (Below.heap_alloc _ _ _ (lt_of_block h)).trans h
theorem blk_drew {w : World} {b : Nat} {x : Option Obj} (h : w.heap[b]? = x) : w.drew.heap[b]? = x := h
theorem size_alloc (w : World) (o : Obj) : (w.alloc o).heap.size = w.heap.size + 1 := by simp
theorem size_set (w : World) (p : Addr) (v : Value) : (w.setCell p v).heap.size = w.heap.size := by simp
theorem size_drew (w : World) : w.drew.heap.size = w.heap.size := rfl
theorem sz_alloc {w : World} {o : Obj} {b : Nat} (h : b = w.heap.size) : b + 1 = (w.alloc o).heap.size := by rw [size_alloc, h]
theorem sz_set {w : World} {p : Addr} {v : Value} {b : Nat} (h : b = w.heap.size) : b = (w.setCell p v).heap.size := by rw [size_set, h]
theorem sz_drew {w : World} {b : Nat} (h : b = w.heap.size) : b = w.drew.heap.size := h
theorem two_new (w : World) (o o' : Obj) : ((w.alloc o).alloc o').heap[w.heap.size]? = some o ∧ ((w.alloc o).alloc o').heap[w.heap.size + 1]? = some o' := by
  refine ⟨blk_old (heap_alloc_new w o), ?_⟩
  have := heap_alloc_new (w.alloc o) o'
  simpa using this
/-- A callee that changes nothing, in a region that only reads. -/
theorem quiet_id {P : Program} {f : FuncId} {args : Array Value} {w : World} {n : Nat} {v : Value}
    (h : Calls P f args (w.drewN n) fun e w' => e = .returned v ∧ w.drewN n = w') : Calls P f args (w.drewN n) fun e w'' => e = .returned v ∧ ∃ m, w'' = w.drewN m :=
  h.mono fun _ _ ⟨he, hm⟩ => ⟨he, n, hm.symm⟩
theorem row_form {w : World} {base n size : Nat} {e : TypeId} {v : Value} {xs : List Value} (h : w.ownsRow base e size v n xs) (hn : xs ≠ []) :
    ∃ g cap cur, v = .slice (some ⟨g, 0, none⟩) n cap ∧ base ≤ g ∧ w.heap[g]? = some (.cells cur e (0, 0)) ∧ n ≤ cap ∧ cap ≤ maxLen ∧ cur.size = cap * size ∧ cur.toList.take (n * size) = xs := by
  obtain ⟨h1, h2⟩ := h
  rcases h2 with ⟨h2, rfl⟩ | ⟨g, cap, cur, hv, hb, hg, hnc, hcm, hcs, ht⟩
  · exact absurd (List.eq_nil_of_length_eq_zero (by simpa using h1)) hn
  · exact ⟨g, cap, cur, hv, hb, hg, hnc, hcm, hcs, ht⟩
end Go.Proofs.Ytefadkmdfhjaeaa
