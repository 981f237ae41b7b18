/- Rows that are written in place: several cells at once. -/
import Derived.Test.YtianboachknfmaaDoorGen
import Derived.Test.YtianboachknfmaaDoorByt1
import Derived.Laws.IdiomCopy
namespace Go.Proofs.YtianboachknfmaaDoor
open Go.Conc Go.RowKit

theorem setCells_block {g : Nat} {e : TypeId} {f : Nat × Nat} : ∀ (us : List Value) (o : Nat) (w : World) (cur : Array Value), w.heap[g]? = some (.cells cur e f) → o + us.length ≤ cur.size →
    (w.setCells g o us).heap[g]? = some (.cells (cur.toList.take o ++ us ++ cur.toList.drop (o + us.length)).toArray e f)
  | [], o, w, cur, h, ho => by
    rw [World.setCells]
    simpa using h
  | u :: us, o, w, cur, h, ho => by
    rw [World.setCells, setCells_block us (o + 1) _ _ (set_at h o u) (by simp at ho ⊢; omega)]
    have hlt : o < cur.toList.length := by simp at ho ⊢; omega
    have e1 : (cur.setIfInBounds o u).toList = cur.toList.take o ++ u :: cur.toList.drop (o + 1) := by
      rw [Array.toList_setIfInBounds, List.set_eq_take_append_cons_drop, if_pos hlt]
    have e2 : (cur.toList.take o).length = o := by rw [List.length_take]; omega
    rw [e1]
    congr 2
    have e3 : o + 1 - o = 1 := by omega
    have e4 : o + 1 + us.length - o = us.length + 1 := by omega
    have e6 : List.drop (o + 1 + us.length) (cur.toList.take o) = [] := List.drop_of_length_le (by rw [e2]; omega)
    have e7 : List.take (o + 1) (cur.toList.take o) = cur.toList.take o := List.take_of_length_le (by rw [e2]; omega)
    rw [List.take_append, e2, List.drop_append, e2, e3, e4, e6, e7]
    simp only [List.take_succ_cons, List.take_zero, List.drop_succ_cons, List.nil_append, List.drop_drop, List.append_assoc, List.cons_append, List.length_cons]
    have e5 : o + 1 + us.length = o + (us.length + 1) := by omega
    rw [e5]
theorem setCells_only (g : Nat) : ∀ (us : List Value) (o : Nat) (w : World), Only (fun i => i = g) w (w.setCells g o us)
  | [], _, w => Only.refl _ w
  | u :: us, o, w => by
    rw [World.setCells]
    exact ((Only.refl (fun i => i = g) w).setCell (p := ⟨g, o, none⟩) (.inr rfl) u).trans (setCells_only g us (o + 1) _)
/-- A block that is written anew, whole. -/
theorem lit_set {w : World} {b : Nat} {cs : Array Value} {t : TypeId} (h : w.heap[b]? = some (.cells cs t (0, 0))) (us : List Value) (hl : us.length = cs.size) :
    (w.setCells b 0 us).heap[b]? = some (.cells us.toArray t (0, 0)) ∧ Only (fun i => i = b) w (w.setCells b 0 us) := by
  refine ⟨?_, setCells_only b us 0 w⟩
  rw [setCells_block us 0 w cs h (by omega)]
  have e : cs.toList.drop (0 + us.length) = [] := List.drop_of_length_le (by simp; omega)
  rw [e, List.take_zero, List.nil_append, List.append_nil]
section
variable {w : World} {base g n cap size : Nat} {e : TypeId} {xs : List Value}
theorem row_block (h : w.ownsRow base e size (.slice (some ⟨g, 0, none⟩) n cap) n xs) : ∃ cur, w.heap[g]? = some (.cells cur e (0, 0)) ∧ base ≤ g ∧ n ≤ cap ∧ cap ≤ maxLen ∧ cur.size = cap * size ∧ cur.toList.take (n * size) = xs ∧ xs.length = n * size := by
  obtain ⟨h1, h2⟩ := h
  rcases h2 with ⟨h2, _⟩ | ⟨g', cap', cur, hv, hb, hg, hnc, hcm, hcs, ht⟩
  · cases h2
  · cases hv
    exact ⟨cur, hg, hb, hnc, hcm, hcs, ht, h1⟩
theorem row_over (h : w.ownsRow base e size (.slice (some ⟨g, 0, none⟩) n cap) n xs) (o : Nat) (us : List Value) (ho : o + us.length ≤ n * size) :
    (w.setCells g o us).ownsRow base e size (.slice (some ⟨g, 0, none⟩) n cap) n (xs.take o ++ us ++ xs.drop (o + us.length)) := by
  obtain ⟨cur, hg, hb, hnc, hcm, hcs, ht, hl⟩ := row_block h
  have hn : n * size ≤ cap * size := Nat.mul_le_mul_right _ hnc
  refine ⟨by simp; omega, .inr ⟨g, cap, _, rfl, hb, setCells_block us o w cur hg (by omega), hnc, hcm, by simp; omega, ?_⟩⟩
  subst ht
  have hcl : cur.toList.length = cap * size := by simpa using hcs
  generalize cur.toList = c at *
  generalize n * size = N at *
  generalize cap * size = C at *
  have e1 : (c.take o).length = o := by rw [List.length_take]; omega
  have e2 : (c.take o ++ us ++ c.drop (o + us.length)).take N = c.take o ++ us ++ (c.drop (o + us.length)).take (N - (o + us.length)) := by
    rw [List.take_append, List.take_of_length_le (by rw [List.length_append, e1]; omega), List.length_append, e1]
  show (c.take o ++ us ++ c.drop (o + us.length)).take N = _
  rw [e2, List.take_take, Nat.min_eq_left (by omega), List.drop_take]
theorem row_cut (h : w.ownsRow base e size (.slice (some ⟨g, 0, none⟩) n cap) n xs) {m : Nat} (hm : m ≤ n) : w.ownsRow base e size (.slice (some ⟨g, 0, none⟩) m cap) m (xs.take (m * size)) := by
  obtain ⟨cur, hg, hb, hnc, hcm, hcs, ht, hl⟩ := row_block h
  have hn : m * size ≤ n * size := Nat.mul_le_mul_right _ hm
  refine ⟨by simp; omega, .inr ⟨g, cap, cur, rfl, hb, hg, by omega, hcm, hcs, ?_⟩⟩
  subst ht
  rw [List.take_take, Nat.min_eq_left hn]
end
section
variable {α : Type} {size : Nat} {enc : α → List Value}
theorem fl_set (hs : ∀ a, (enc a).length = size) (l : List α) (k : Nat) (hk : k < l.length) (x : α) : (l.flatMap enc).take (k * size) ++ enc x ++ (l.flatMap enc).drop (k * size + (enc x).length) = (l.set k x).flatMap enc := by
  rw [fl_take hs, hs, show k * size + size = (k + 1) * size by rw [Nat.succ_mul], fl_drop hs, List.set_eq_take_append_cons_drop, if_pos hk, List.flatMap_append, List.flatMap_cons, List.append_assoc]
end
end Go.Proofs.YtianboachknfmaaDoor
