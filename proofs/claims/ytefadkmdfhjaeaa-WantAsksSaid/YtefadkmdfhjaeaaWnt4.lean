/- Rows of ints: Contains, Clone. -/
import Derived.Test.YtefadkmdfhjaeaaWnt3
import Derived.Test.YtefadkmdfhjaeaaShelf
namespace Go.Proofs.Ytefadkmdfhjaeaa
open Go.Conc Go.RowKit Go.Maps

theorem rowI_get (l : List Int) (j : Nat) (hj : j < l.length) : (rowI l)[j]? = some (.int .i64 (l.getD j 0)) := by
  unfold rowI
  rw [List.getElem?_map, List.getElem?_eq_getElem hj, List.getD_eq_getElem?_getD, List.getElem?_eq_getElem hj]
  rfl
theorem row_cells {w : World} {v : Value} {l : List Int} (h : w.ownsRow 0 3 1 v l.length (rowI l)) (hl : l ≠ []) : ∃ g cap, v = .slice (some ⟨g, 0, none⟩) l.length cap ∧ ∀ j, j < l.length → w.cell? ⟨g, 0 + j, none⟩ = some (.int .i64 (l.getD j 0)) := by
  obtain ⟨g, cap, cur, rfl, _, hg, _, _, _, ht⟩ := row_form h (fun e => hl (by unfold rowI at e; exact List.map_eq_nil_iff.1 e))
  refine ⟨g, cap, rfl, fun j hj => ?_⟩
  rw [Nat.zero_add, cell_at hg]
  have h1 := rowI_get l j hj
  rw [← ht, Nat.mul_one, List.getElem?_take_of_lt hj] at h1
  simpa using h1
theorem contains_row (w : World) (v : Value) (l : List Int) (h : w.ownsRow 0 3 1 v l.length (rowI l)) (hl : l ≠ []) (hb : l.length ≤ 1000) (x : Int) : Calls Try.prog 21 #[v, .int .i64 x] w fun e w' => e = .returned (.bool (l.contains x)) ∧ w = w' := by
  obtain ⟨g, cap, rfl, hc⟩ := row_cells h hl
  refine (Try.slices_Contains_int g 0 l.length cap l x w (Nat.le_refl _) (by omega) hc).mono ?_
  rintro e w' ⟨rfl, rfl⟩
  rw [List.take_length]
  exact ⟨rfl, rfl⟩
theorem clone_row (w : World) (v : Value) (l : List Int) (h : w.ownsRow 0 3 1 v l.length (rowI l)) (hl : l ≠ []) (hb : l.length ≤ 1000) : Calls Try.prog 22 #[v] w fun e w' => ∃ v', e = .returned v' ∧ w'.ownsRow w.heap.size 3 1 v' l.length (rowI l) ∧ Only (fun _ => False) w w' := by
  obtain ⟨g, cap, rfl, hc⟩ := row_cells h hl
  refine (Try.slices_Clone_int g 0 l.length cap l w (Nat.le_refl _) (by omega) hc).mono ?_
  rintro e w' ⟨v', rfl, h1, _, h3⟩
  rw [List.take_length] at h1
  exact ⟨v', rfl, h1, Only.of_below h3⟩
end Go.Proofs.Ytefadkmdfhjaeaa
