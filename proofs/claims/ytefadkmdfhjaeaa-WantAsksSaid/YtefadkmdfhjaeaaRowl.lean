/- Rows: what slices.SortFunc and slices.DeleteFunc leave, said by 'ownsRow' and 'Only'. -/
import Derived.Test.YtefadkmdfhjaeaaSlices
import Derived.Shelf.SlSortCmp.Whole1
import Derived.Shelf.SlicesE.DeleteFunc
namespace Go.Proofs.Ytefadkmdfhjaeaa
open Go.Conc Go.RowKit Go.Sort

section
variable {α : Type} [Inhabited α] {enc : α → Value} {w : World} {base g n cap : Nat} {e : TypeId} {d : Array α}
theorem put_block (enc : α → Value) (w : World) (g : Nat) (d : Array α) {cur : Array Value} {e : TypeId} {f : Nat × Nat} (h : w.heap[g]? = some (.cells cur e f)) : (putRow enc w g 0 d).heap[g]? = some (.cells (putCells enc 0 d cur) e f) := by
  show (w.heap.modify g (onCells (putCells enc 0 d)))[g]? = _
  rw [Array.getElem?_modify, if_pos rfl, h]
  rfl
theorem put_other (enc : α → Value) (w : World) (g : Nat) (d : Array α) (k : Nat) (h : k ≠ g) : (putRow enc w g 0 d).heap[k]? = w.heap[k]? := by
  show (w.heap.modify g (onCells (putCells enc 0 d)))[k]? = _
  rw [Array.getElem?_modify, if_neg (fun e => h e.symm)]
theorem put_only (enc : α → Value) (w : World) (g : Nat) (d : Array α) : Only (fun i => i = g) w (putRow enc w g 0 d) :=
  ⟨rfl, rfl, rfl, by simp, fun k _ hn => put_other enc w g d k hn⟩
theorem grow_only (w : World) (os : Array Obj) : Only (fun _ => False) w (grow w os) :=
  ⟨rfl, rfl, rfl, by show w.heap.size ≤ (w.heap ++ os).size; simp, fun k hk _ => by
    show (w.heap ++ os)[k]? = _
    rw [Array.getElem?_append_left hk]⟩
theorem ahead_only (w : World) (q : Nat) : Only (fun _ => False) w (Sort.ahead w q) := ⟨rfl, rfl, rfl, Nat.le_refl _, fun _ _ _ => rfl⟩
theorem sortWorld_only (enc : α → Value) (w : World) (g m : Nat) (d : Array α) (os : Array Obj) : Only (fun i => i = g) w (sortWorld enc w g 0 m d os) :=
  (((ahead_only w m).weaken (fun _ _ => False.elim)).trans (put_only enc _ g d)).trans ((grow_only _ os).weaken (fun _ _ => False.elim))
theorem put_take (enc : α → Value) (d : Array α) (cur : Array Value) (h : d.size ≤ cur.size) : (putCells enc 0 d cur).toList.take d.size = d.toList.map enc := by
  apply List.ext_getElem?
  intro k
  rw [List.getElem?_take]
  by_cases hk : k < d.size
  · rw [if_pos hk, Array.getElem?_toList, putCells, Array.getElem?_mapIdx, Array.getElem?_eq_getElem (by omega), Option.map_some, if_pos ⟨by omega, by omega⟩, List.getElem?_map, Array.getElem?_toList, Array.getElem?_eq_getElem hk, Option.map_some,
      show k - 0 = k by omega, getElem!_pos d k hk]
  · rw [if_neg hk, List.getElem?_eq_none (by simp; omega)]
theorem size_putCells (enc : α → Value) (d : Array α) (cur : Array Value) : (putCells enc 0 d cur).size = cur.size := by simp [putCells]
/-- What an own row holds. -/
theorem row_holds (h : w.ownsRow base e 1 (.slice (some ⟨g, 0, none⟩) d.size cap) d.size (d.toList.map enc)) : Holds enc w g 0 d ∧ g < w.heap.size ∧ base ≤ g ∧ d.size ≤ cap ∧ cap ≤ maxLen := by
  rcases h.2 with ⟨h2, _⟩ | ⟨g', cap', cur, hv, hb, hg, hnc, hcm, hcs, ht⟩
  · cases h2
  · cases hv
    refine ⟨fun j hj => ⟨?_, free_at hg _⟩, lt_of_block hg, hb, hnc, hcm⟩
    have e1 : (d.toList.map enc)[j]? = some (enc d[j]!) := by rw [List.getElem?_map, Array.getElem?_toList, Array.getElem?_eq_getElem hj, getElem!_pos d j hj]; rfl
    rw [cell_at hg, ← Array.getElem?_toList, ← e1, ← ht, List.getElem?_take, if_pos (by omega), show 0 + j = j by omega]
theorem put_row (h : w.ownsRow base e 1 (.slice (some ⟨g, 0, none⟩) n cap) n (d.toList.map enc)) (hd : d.size = n) (d' : Array α) (hs : d'.size = d.size) (m : Nat) (hm : m ≤ d'.size) :
    (putRow enc w g 0 d').ownsRow base e 1 (.slice (some ⟨g, 0, none⟩) m cap) m ((d'.toList.take m).map enc) := by
  subst hd
  rcases h.2 with ⟨h2, _⟩ | ⟨g', cap', cur, hv, hb, hg, hnc, hcm, hcs, ht⟩
  · cases h2
  · cases hv
    refine ⟨by simp; omega, .inr ⟨g, cap, _, rfl, hb, put_block enc w g d' hg, by omega, hcm, by rw [size_putCells]; exact hcs, ?_⟩⟩
    rw [show m * 1 = m by omega]
    have := put_take enc d' cur (by omega)
    rw [List.map_take, ← this, List.take_take]
    congr 1
    omega
end
end Go.Proofs.Ytefadkmdfhjaeaa
