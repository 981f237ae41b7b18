/- A row of bytes as '[]byte(s)' lays it. -/
import Derived.Test.YtefadkmdfhjaeaaStr
namespace Go.Proofs.Ytefadkmdfhjaeaa
open Go.Conc Go.RowKit

theorem set_at {w : World} {b : Nat} {cs : Array Value} {t : TypeId} {f : Nat × Nat} (h : w.heap[b]? = some (.cells cs t f)) (i : Nat) (u : Value) : (w.setCell ⟨b, i, none⟩ u).heap[b]? = some (.cells (cs.setIfInBounds i u) t f) := by
  have hlt := lt_of_block h
  have h' : w.heap[b] = .cells cs t f := by simpa [Array.getElem?_eq_getElem hlt] using h
  show (w.heap.modify b _)[b]? = _
  rw [Array.getElem?_eq_getElem (by simpa using hlt), Array.getElem_modify_self, h']
  rfl
/-- A row of bytes as '[]byte(s)' lays it: its first cells. -/
def Byt (w : World) (B N : Nat) (vs : List Value) : Prop :=
  ∃ cur, w.heap[B]? = some (.cells cur 5 (N, N + 1)) ∧ cur.size = N ∧ vs.length ≤ N ∧ cur.toList.take vs.length = vs
theorem Byt.cell {w : World} {B N : Nat} {vs : List Value} (h : Byt w B N vs) {j : Nat} {u : Value} (hu : vs[j]? = some u) : w.cell? ⟨B, j, none⟩ = some u := by
  obtain ⟨cur, h1, h2, h3, h4⟩ := h
  have hj : j < vs.length := (List.getElem?_eq_some_iff.1 hu).1
  rw [← h4, List.getElem?_take, if_pos hj] at hu
  rw [cell_at' h1]
  simpa using hu
where cell_at' {w : World} {b : Nat} {cs : Array Value} {t : TypeId} {f : Nat × Nat} (h : w.heap[b]? = some (.cells cs t f)) {i : Nat} : w.cell? ⟨b, i, none⟩ = cs[i]? := cell_at h i
theorem Byt.free {w : World} {B N : Nat} {vs : List Value} (h : Byt w B N vs) {j : Nat} (hj : j < vs.length) : w.frozen? ⟨B, j, none⟩ = false := by
  obtain ⟨cur, h1, h2, h3, h4⟩ := h
  simp only [World.frozen?, h1]
  have : ¬ N ≤ j := by omega
  simp [this]
theorem Byt.store {w : World} {B N : Nat} {vs : List Value} (h : Byt w B N vs) (j : Nat) (u : Value) : Byt (w.setCell ⟨B, j, none⟩ u) B N (vs.set j u) := by
  obtain ⟨cur, h1, h2, h3, h4⟩ := h
  refine ⟨_, set_at h1 _ u, by simpa using h2, by simpa using h3, ?_⟩
  rw [Array.toList_setIfInBounds, List.length_set, List.take_set, h4]
theorem Byt.kept {S : Nat → Prop} {w w' : World} {B N : Nat} {vs : List Value} (h : Byt w B N vs) (ho : Only S w w') (hn : ¬ S B) : Byt w' B N vs := by
  obtain ⟨cur, h1, h2⟩ := h
  exact ⟨cur, ho.old h1 hn, h2⟩
theorem Byt.lt {w : World} {B N : Nat} {vs : List Value} (h : Byt w B N vs) : B < w.heap.size := by
  obtain ⟨cur, h1, _⟩ := h
  exact lt_of_block h1
def byteVals (l : List UInt8) : List Value := l.map fun b => .int .u8 b.toNat
theorem Byt.new (w : World) (s : ByteArray) (cap : Nat) :
    Byt (w.alloc (.cells (bytesRow s cap) 5 ((bytesRow s cap).size, (bytesRow s cap).size + 1))).drew w.heap.size (bytesRow s cap).size (byteVals s.data.toList) := by
  have hl : (byteVals s.data.toList).length = s.size := by rw [byteVals, List.length_map]; rfl
  refine ⟨bytesRow s cap, heap_alloc_new w _, rfl, ?_, ?_⟩
  · rw [hl, bytesRow, Array.size_append, Array.size_map, Array.size_replicate]
    show s.data.size ≤ s.data.size + _
    omega
  · rw [bytesRow, Array.toList_append, Array.toList_map, List.take_append_of_le_length (Nat.le_of_eq (by simp [byteVals]))]
    rw [List.take_of_length_le (Nat.le_of_eq (by simp [byteVals]))]
    rfl
theorem Byt.sl {w : World} {B N n cap : Nat} {l : List UInt8} (h : Byt w B N (byteVals l)) (hn : n = l.length) (hc : n ≤ cap) (hm : cap ≤ maxLen) :
    Sl w 1 (.slice (some ⟨B, 0, none⟩) n cap) (l.map fun b => (b.toNat : Int)).length ((l.map fun b => (b.toNat : Int)).map (.int .u8)) := by
  subst hn
  rw [List.length_map]
  refine ⟨by simp, _, cap, rfl, hc, hm, .inr ⟨B, 0, rfl, fun j u hu => ?_⟩⟩
  rw [Nat.zero_add]
  refine h.cell ?_
  simpa [byteVals] using hu
theorem bytesOf_nat (l : List UInt8) : bytesOf (l.map fun b => (b.toNat : Int)) = ⟨l.toArray⟩ := by
  apply str_ext
  simp only [bytesOf, List.map_map]
  have e : ((fun n : Int => UInt8.ofNat n.toNat) ∘ fun b : UInt8 => (b.toNat : Int)) = id := funext fun b => by simp
  rw [e, List.map_id]

end Go.Proofs.Ytefadkmdfhjaeaa
