/- A clock's due things, plainly: the order is the only one. -/
import Derived.Test.YtefadkmdfhjaeaaClk7
namespace Go.Proofs.Ytefadkmdfhjaeaa
open Go.Conc Go.RowKit

theorem entAt_mem {L : List (ByteArray × (Int × Int))} (ha : L.Pairwise (fun p q => p.1 ≠ q.1)) {x : ByteArray} {v : Int × Int} (h : (x, v) ∈ L) : entAt L x = v := by
  simp [entAt, lookL_of_mem ha h]
/-- No two were set at once. -/
def Orders (L : List (ByteArray × (Int × Int))) : Prop := L.Pairwise (fun p q => p.2.2 < q.2.2)
theorem orders_inj {L : List (ByteArray × (Int × Int))} (ho : Orders L) {p q : ByteArray × (Int × Int)} (hp : p ∈ L) (hq : q ∈ L) (h : p.2.2 = q.2.2) : p = q := by
  induction L with
  | nil => cases hp
  | cons a L ih =>
    obtain ⟨h1, h2⟩ := List.pairwise_cons.1 ho
    rcases List.mem_cons.1 hp with e | m1 <;> rcases List.mem_cons.1 hq with e' | m2
    · rw [e, e']
    · have := h1 q m2; rw [← e] at this; omega
    · have := h1 p m1; rw [← e'] at this; omega
    · exact ih h2 m1 m2
theorem due_unique {L : List (ByteArray × (Int × Int))} (ha : L.Pairwise (fun p q => p.1 ≠ q.1)) (ho : Orders L) : ∀ {d1 d2 : List ByteArray}, d1.Perm d2 → (∀ x ∈ d1, ∃ v, (x, v) ∈ L) → DueSorted L d1 → DueSorted L d2 → d1 = d2
  | [], d2, hp, _, _, _ => (List.Perm.nil_eq hp)
  | x :: d1, [], hp, _, _, _ => absurd hp.symm (by simp)
  | x :: d1, y :: d2, hp, hm, h1, h2 => by
    obtain ⟨s1, t1⟩ := List.pairwise_cons.1 h1
    obtain ⟨s2, t2⟩ := List.pairwise_cons.1 h2
    have hx : x ∈ y :: d2 := hp.mem_iff.1 (by simp)
    have hy : y ∈ x :: d1 := hp.mem_iff.2 (by simp)
    obtain ⟨vx, mx⟩ := hm x (by simp)
    obtain ⟨vy, my⟩ := hm y hy
    have e : x = y := by
      by_cases hxy : x = y
      · exact hxy
      · have a1 : y ∈ d1 := (List.mem_cons.1 hy).resolve_left (fun e => hxy e.symm)
        have a2 : x ∈ d2 := (List.mem_cons.1 hx).resolve_left hxy
        have b1 := s1 y a1
        have b2 := s2 x a2
        rw [entAt_mem ha mx, entAt_mem ha my] at b1 b2
        have : vx.2 = vy.2 := by unfold ltE at b1 b2; omega
        have := orders_inj ho mx my this
        exact congrArg Prod.fst this
    subst e
    have hp' : d1.Perm d2 := (List.perm_cons x).1 hp
    rw [due_unique ha ho hp' (fun z hz => hm z (List.mem_cons_of_mem _ hz)) t1 t2]
theorem orders_drop {L : List (ByteArray × (Int × Int))} (h : Orders L) (x : ByteArray) : Orders (dropL L x) := h.filter _
theorem orders_put {L : List (ByteArray × (Int × Int))} {cnt : Int} (h : Orders L) (hc : ∀ p ∈ L, p.2.2 ≤ cnt) (x : ByteArray) (a : Int) : Orders (putL L x (a, cnt + 1)) ∧ ∀ p ∈ putL L x (a, cnt + 1), p.2.2 ≤ cnt + 1 := by
  constructor
  · refine List.pairwise_append.2 ⟨orders_drop h x, by simp, fun p hp q hq => ?_⟩
    obtain rfl : q = (x, (a, cnt + 1)) := by simpa using hq
    have := hc p (mem_dropL.1 hp).1
    show p.2.2 < cnt + 1
    omega
  · intro p hp
    rcases List.mem_append.1 hp with hp | hp
    · have := hc p (mem_dropL.1 hp).1; omega
    · obtain rfl : p = (x, (a, cnt + 1)) := by simpa using hp
      exact Int.le_refl _
/-- What is due at a tick, and then what is due at a later one. -/
theorem due_split {L : List (ByteArray × (Int × Int))} (ha : L.Pairwise (fun p q => p.1 ≠ q.1)) (ho : Orders L) {now later : Int} (hl : now ≤ later) {o1 o2 oall : List ByteArray}
    (p1 : o1.Perm ((L.filter (fun p => !decide (now < p.2.1))).map (·.1))) (s1 : DueSorted L o1)
    (p2 : o2.Perm (((L.filter (fun p => decide (now < p.2.1))).filter (fun p => !decide (later < p.2.1))).map (·.1))) (s2 : DueSorted (L.filter (fun p => decide (now < p.2.1))) o2)
    (p3 : oall.Perm ((L.filter (fun p => !decide (later < p.2.1))).map (·.1))) (s3 : DueSorted L oall) : o1 ++ o2 = oall := by
  have mem1 : ∀ x ∈ o1, ∃ v : Int × Int, (x, v) ∈ L ∧ v.1 ≤ now := fun x hx => by
    obtain ⟨p, hp, e⟩ := List.mem_map.1 (p1.mem_iff.1 hx)
    obtain ⟨h1, h2⟩ := List.mem_filter.1 hp
    refine ⟨p.2, by rw [← e]; exact h1, ?_⟩
    have : ¬ now < p.2.1 := by simpa using h2
    omega
  have mem2 : ∀ x ∈ o2, ∃ v : Int × Int, (x, v) ∈ L ∧ (x, v) ∈ L.filter (fun p => decide (now < p.2.1)) ∧ now < v.1 := fun x hx => by
    obtain ⟨p, hp, e⟩ := List.mem_map.1 (p2.mem_iff.1 hx)
    obtain ⟨h1, h2⟩ := List.mem_filter.1 hp
    obtain ⟨h3, h4⟩ := List.mem_filter.1 h1
    subst e
    exact ⟨p.2, h3, h1, by simpa using h4⟩
  refine due_unique ha ho ?_ ?_ ?_ s3
  · refine (p1.append p2).trans (List.Perm.trans ?_ p3.symm)
    rw [← List.map_append]
    refine List.Perm.map _ ?_
    have h1 := List.filter_append_perm (fun p : ByteArray × (Int × Int) => !decide (now < p.2.1)) (L.filter (fun p => !decide (later < p.2.1)))
    rw [List.filter_filter, List.filter_filter] at h1
    rw [List.filter_filter]
    have e1 : (L.filter fun p => (!decide (now < p.2.1)) && (!decide (later < p.2.1))) = L.filter (fun p => !decide (now < p.2.1)) := List.filter_congr (fun p _ => by
      by_cases h2 : now < p.2.1
      · simp [h2]
      · have : ¬ later < p.2.1 := by omega
        simp [h2, this])
    have e2 : (L.filter fun p => (!!decide (now < p.2.1)) && (!decide (later < p.2.1))) = L.filter (fun p => (!decide (later < p.2.1)) && decide (now < p.2.1)) := List.filter_congr (fun p _ => by rw [Bool.not_not, Bool.and_comm])
    rw [e1, e2] at h1
    exact h1
  · intro x hx
    rcases List.mem_append.1 hx with hx | hx
    · obtain ⟨v, h, _⟩ := mem1 x hx; exact ⟨v, h⟩
    · obtain ⟨v, h, _⟩ := mem2 x hx; exact ⟨v, h⟩
  · refine List.pairwise_append.2 ⟨s1, ?_, ?_⟩
    · refine List.Pairwise.imp_of_mem ?_ s2
      intro x y hx hy h
      obtain ⟨v, h1, h2, _⟩ := mem2 x hx
      obtain ⟨u, h3, h4, _⟩ := mem2 y hy
      have ha' := List.Pairwise.filter (fun p : ByteArray × (Int × Int) => decide (now < p.2.1)) ha
      rw [entAt_mem ha' h2, entAt_mem ha' h4] at h
      rwa [entAt_mem ha h1, entAt_mem ha h3]
    · intro x hx y hy
      obtain ⟨v, h1, h2⟩ := mem1 x hx
      obtain ⟨u, h3, _, h4⟩ := mem2 y hy
      rw [entAt_mem ha h1, entAt_mem ha h3]
      unfold ltE
      omega
end Go.Proofs.Ytefadkmdfhjaeaa
