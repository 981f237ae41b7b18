/- A slice of structs that came in, read as rows of cells. -/
import Derived.Test.YtjgcbcahikemdaaRow
namespace Go.Proofs.Ytjgcbcahikemdaa
open Go.Conc Go.RowKit Go.ChangeShapes Go.WideShapes Go.ChangeAt Go.WideMaps Go.WideElems

theorem rows_get {size : Nat} : ∀ (rows : List (List Value)), (∀ r ∈ rows, r.length = size) → ∀ (i j : Nat) (hi : i < rows.length), j < size → rows.flatten[i * size + j]? = rows[i][j]?
  | [], _, i, _, hi, _ => absurd hi (by simp)
  | r :: rows, h, i, j, hi, hj => by
    have hr : r.length = size := h r (by simp)
    rw [List.flatten_cons]
    cases i with
    | zero => rw [List.getElem?_append_left (by omega)]; simp
    | succ i =>
      rw [List.getElem?_append_right (by rw [hr, Nat.succ_mul]; omega), hr, show (i + 1) * size + j - size = i * size + j by rw [Nat.succ_mul]; omega]
      simpa using rows_get rows (fun r' h' => h r' (by simp [h'])) i j (by simpa using hi) hj
theorem rows_length {size : Nat} : ∀ (rows : List (List Value)), (∀ r ∈ rows, r.length = size) → rows.flatten.length = rows.length * size
  | [], _ => by simp
  | r :: rows, h => by
    rw [List.flatten_cons, List.length_append, rows_length rows (fun r' h' => h r' (by simp [h'])), h r (by simp), List.length_cons, Nat.succ_mul]; omega
section
variable {H : Type} {enc : TypeId × Value → H} {P : Program} {w : World} {base : Nat} {held : Bool} {t e : TypeId} {v : Value} {d : DataW H} {ps : List MemPlace}
/-- A slice of elements of some cells each that came in: what is read of each (Q). -/
theorem sl_structs {size : Nat} {Q : List Value → Prop} (ht : P.underlying t = some (.slice e)) (hc : P.cellsOf e = size) (hsz : 0 < size) (hok : Value.okWide P w .any base t v) (h : DataW.Trod enc P w 0 (fun _ => true) held t v d ps)
    (hdec : ∀ n cs x, DataW.trod enc P w 0 (fun _ => true) held n e cs = some x → Q cs) :
    ∃ rows : List (List Value), Sl w size v rows.length rows.flatten ∧ ∀ r ∈ rows, r.length = size ∧ Q r := by
  obtain ⟨a0, n0, c0, rfl⟩ := okWide_slice ht hok
  obtain ⟨fuel, hf⟩ := h
  rcases Deep.open_slice ht hf with ⟨hcs, -⟩ | ⟨a, len', cap', m, n, D, Pl, hcs, _, hl, hm, hmm, -, hel⟩
  · simp [Value.cells] at hcs
    obtain ⟨rfl, rfl, rfl⟩ := hcs
    exact ⟨[], Sl.nil _ _, by simp⟩
  · simp [Value.cells] at hcs
    obtain ⟨rfl, rfl, rfl⟩ := hcs
    simp only [if_true] at hmm
    have each : ∀ i, i < n0 → ∃ cs : List Value, cs.length = size ∧ Q cs ∧ ∀ j, j < size → w.cell? ((a.add (i * size)).add j) = cs[j]? := by
      intro i hi
      obtain ⟨cs, h1, h2⟩ := hel i (by omega)
      rw [hc] at h1
      obtain ⟨_, h3, h4⟩ := World.cells?_some h1
      exact ⟨cs, h3, hdec _ _ _ h2, h4⟩
    obtain ⟨f, hf2⟩ := Deep.choose_lt each
    refine ⟨(List.range n0).map f, ?_, fun r hr => ?_⟩
    · have hrl : ∀ r ∈ (List.range n0).map f, r.length = size := fun r hr => by
        obtain ⟨i, hi, rfl⟩ := List.mem_map.1 hr
        exact (hf2 i (by simpa using hi)).1
      have hfl := rows_length _ hrl
      rw [List.length_map, List.length_range] at hfl
      refine (sl_of_row hsz hfl hl hm ?_ : Sl w size _ n0 _).cast (by simp)
      intro j u hu
      have hj : j < n0 * size := by rw [← hfl]; exact (List.getElem?_eq_some_iff.1 hu).1
      have hq : j / size < n0 := Nat.div_lt_of_lt_mul (by rw [Nat.mul_comm]; exact hj)
      have hr : j % size < size := Nat.mod_lt _ hsz
      have hj2 : j = j / size * size + j % size := by rw [Nat.mul_comm]; exact (Nat.div_add_mod j size).symm
      have h3 := (hf2 _ hq).2.2 _ hr
      rw [Deep.add_add, ← hj2] at h3
      rw [h3, ← hu]
      have h4 := rows_get _ hrl (j / size) (j % size) (by simpa using hq) hr
      rw [← hj2] at h4
      rw [h4]
      simp
    · obtain ⟨i, hi, rfl⟩ := List.mem_map.1 hr
      have := hf2 i (by simpa using hi)
      exact ⟨this.1, this.2.1⟩
end
end Go.Proofs.Ytjgcbcahikemdaa
