/- Rows of ints. -/
import Derived.Test.YtefadkmdfhjaeaaSlices
namespace Go.Proofs.Ytefadkmdfhjaeaa
open Go.Conc Go.RowKit

def rowI (l : List Int) : List Value := l.map (Value.int .i64)
theorem rowI_length (l : List Int) : (rowI l).length = l.length := by simp [rowI]
theorem rowI_append (l m : List Int) : rowI (l ++ m) = rowI l ++ rowI m := by simp [rowI]
theorem rowI_one (l : List Int) : ∀ u ∈ rowI l, u.oneCell' = true := by
  intro u hu
  obtain ⟨x, _, rfl⟩ := List.mem_map.1 hu
  rfl
theorem rowI_at (l : List Int) (k : Nat) (hk : k < l.length) : (rowI l)[k]? = some (.int .i64 l[k]) := by
  unfold rowI
  rw [List.getElem?_map, List.getElem?_eq_getElem hk]
  rfl
theorem rowI_take (l : List Int) (k : Nat) : (rowI l).take k = rowI (l.take k) := by simp [rowI, List.map_take]
theorem rowI_drop (l : List Int) (k : Nat) : (rowI l).drop k = rowI (l.drop k) := by simp [rowI, List.map_drop]
/-- A slice of ints: its cells, for every index. -/
structure IntsAt (w : World) (a : Option Addr) (l : List Int) : Prop where
  out : l.length = 0 ∨ ∃ b off, a = some ⟨b, off, none⟩ ∧ ∀ k (hk : k < l.length), w.cell? ⟨b, off + k, none⟩ = some (.int .i64 l[k])
theorem IntsAt.at {w : World} {a : Option Addr} {l : List Int} (h : IntsAt w a l) (k : Nat) (hk : k < l.length) : ∃ b off, a = some ⟨b, off, none⟩ ∧ w.cell? ⟨b, off + k, none⟩ = some (.int .i64 l[k]) := by
  rcases h.out with h | ⟨b, off, rfl, hc⟩
  · omega
  · exact ⟨b, off, rfl, hc k hk⟩
theorem Sl.intsAt {w : World} {a : Option Addr} {n cap : Nat} {l : List Int} (h : Sl w 1 (.slice a n cap) l.length (rowI l)) : n = l.length ∧ l.length ≤ cap ∧ cap ≤ maxLen ∧ IntsAt w a l := by
  obtain ⟨_, a', cap', he, h3, h4, h5⟩ := h
  simp only [Value.slice.injEq] at he
  obtain ⟨rfl, rfl, rfl⟩ := he
  refine ⟨rfl, h3, h4, ⟨?_⟩⟩
  rcases h5 with h5 | ⟨b, off, rfl, hc⟩
  · exact .inl h5
  · exact .inr ⟨b, off, rfl, fun k hk => hc k _ (rowI_at l k hk)⟩
end Go.Proofs.Ytefadkmdfhjaeaa
