/- Slices of structs, whatever the struct: the cells of a list of elements, each of so many cells. -/
import Derived.Test.YtefadkmdfhjaeaaSlices
namespace Go.Proofs.Ytefadkmdfhjaeaa
open Go.Conc Go.RowKit

section
variable {α : Type} {size : Nat} {enc : α → List Value}
theorem fl_length (h : ∀ a, (enc a).length = size) (l : List α) : (l.flatMap enc).length = l.length * size := by
  induction l with
  | nil => simp
  | cons x l ih => rw [List.flatMap_cons, List.length_append, ih, h, List.length_cons, Nat.succ_mul]; omega
theorem fl_get (h : ∀ a, (enc a).length = size) (l : List α) (k : Nat) (hk : k < l.length) (i : Nat) (hi : i < size) : (l.flatMap enc)[k * size + i]? = (enc l[k])[i]? := by
  induction l generalizing k with
  | nil => exact absurd hk (by simp)
  | cons x l ih =>
    rw [List.flatMap_cons]
    cases k with
    | zero => rw [List.getElem?_append_left (by rw [h]; omega)]; simp
    | succ k =>
      rw [List.getElem?_append_right (by rw [h, Nat.succ_mul]; omega), h, show (k + 1) * size + i - size = k * size + i by rw [Nat.succ_mul]; omega]
      simpa using ih k (by simpa using hk)
theorem fl_take (h : ∀ a, (enc a).length = size) (l : List α) (k : Nat) : (l.flatMap enc).take (k * size) = (l.take k).flatMap enc := by
  induction l generalizing k with
  | nil => simp
  | cons x l ih =>
    cases k with
    | zero => simp
    | succ k =>
      rw [List.flatMap_cons, List.take_succ_cons, List.flatMap_cons, ← ih k, List.take_append, h, show (k + 1) * size - size = k * size by rw [Nat.succ_mul]; omega, List.take_of_length_le (by rw [h, Nat.succ_mul]; omega)]
theorem fl_drop (h : ∀ a, (enc a).length = size) (l : List α) (k : Nat) : (l.flatMap enc).drop (k * size) = (l.drop k).flatMap enc := by
  induction l generalizing k with
  | nil => simp
  | cons x l ih =>
    cases k with
    | zero => simp
    | succ k =>
      rw [List.flatMap_cons, List.drop_succ_cons, ← ih k, List.drop_append, h, show (k + 1) * size - size = k * size by rw [Nat.succ_mul]; omega, List.drop_of_length_le (by rw [h, Nat.succ_mul]; omega), List.nil_append]
theorem fl_one (h : ∀ a, ∀ u ∈ enc a, u.oneCell' = true) (l : List α) : ∀ u ∈ l.flatMap enc, u.oneCell' = true := by
  intro u hu
  obtain ⟨a, _, ha⟩ := List.mem_flatMap.1 hu
  exact h a u ha
/-- The cells of a slice of structs, for every index. -/
structure Cells (w : World) (size : Nat) (enc : α → List Value) (a : Option Addr) (l : List α) : Prop where
  out : l.length = 0 ∨ ∃ b off, a = some ⟨b, off, none⟩ ∧ ∀ k (hk : k < l.length), ∀ i u, (enc l[k])[i]? = some u → w.cell? ⟨b, off + k * size + i, none⟩ = some u
theorem Cells.at {w : World} {a : Option Addr} {l : List α} (h : Cells w size enc a l) (k : Nat) (hk : k < l.length) : ∃ b off, a = some ⟨b, off, none⟩ ∧ ∀ i u, (enc l[k])[i]? = some u → w.cell? ⟨b, off + k * size + i, none⟩ = some u := by
  rcases h.out with h | ⟨b, off, rfl, hc⟩
  · omega
  · exact ⟨b, off, rfl, fun i u hu => hc k hk i u hu⟩
/-- The cells of a slice of structs, for every index: its address once for all. -/
theorem Cells.once {w : World} {a : Option Addr} {l : List α} (h : Cells w size enc a l) (hl : 0 < l.length) : ∃ b off, a = some ⟨b, off, none⟩ ∧ ∀ k (hk : k < l.length), ∀ i u, (enc l[k])[i]? = some u → w.cell? ⟨b, off + k * size + i, none⟩ = some u := h.out.resolve_left (by omega)
theorem Cells.new {S : Nat → Prop} {w w' : World} {a : Option Addr} {l : List α} (h : Cells w size enc a l) (ho : Only S w w') (hn : ∀ p u, w.cell? p = some u → ¬ S p.block) : Cells w' size enc a l := by
  refine ⟨?_⟩
  rcases h.out with h | ⟨b, off, rfl, hc⟩
  · exact .inl h
  · exact .inr ⟨b, off, rfl, fun k hk i u hu => ho.cell (hc k hk i u hu) (hn _ _ (hc k hk i u hu))⟩
theorem Sl.cells {w : World} {v : Value} {l : List α} (hs : ∀ a, (enc a).length = size) (h : Sl w size v l.length (l.flatMap enc)) : ∃ a cap, v = .slice a l.length cap ∧ l.length ≤ cap ∧ cap ≤ maxLen ∧ Cells w size enc a l := by
  obtain ⟨_, a, cap, rfl, h3, h4, h5⟩ := h
  refine ⟨a, cap, rfl, h3, h4, ⟨?_⟩⟩
  rcases h5 with h5 | ⟨b, off, rfl, hc⟩
  · exact .inl h5
  · refine .inr ⟨b, off, rfl, fun k hk i u hu => ?_⟩
    have hi : i < size := by
      rw [← hs l[k]]
      exact (List.getElem?_eq_some_iff.1 hu).1
    have := hc (k * size + i) u (by rw [fl_get hs l k hk i hi]; exact hu)
    rwa [← Nat.add_assoc] at this
end
end Go.Proofs.Ytefadkmdfhjaeaa
