/- The reference's Due, plainly: what has been picked, what is left. -/
import Derived.Test.YtjgcbcahikemdaaClk9
namespace Go.Proofs.Ytjgcbcahikemdaa
open Go.Conc Go.RowKit

structure Picked (L : List (ByteArray × (Int × Int))) (now : Int) (OL RL : List (ByteArray × (Int × Int))) : Prop where
  perm : (OL ++ RL).Perm L
  sub : RL.Sublist L
  due : ∀ p ∈ OL, ¬ now < p.2.1
  sorted : OL.Pairwise (fun p q => ¬ ltE q.2 p.2)
  cross : ∀ p ∈ OL, ∀ q ∈ RL, ¬ now < q.2.1 → ¬ ltE q.2 p.2
theorem Picked.start (L : List (ByteArray × (Int × Int))) (now : Int) : Picked L now [] L :=
  ⟨by simp, List.Sublist.refl _, by simp, List.Pairwise.nil, by simp⟩
theorem take_drop_perm {α : Type} (l : List α) (k : Nat) (hk : k < l.length) : (l[k] :: (l.take k ++ l.drop (k + 1))).Perm l := by
  have h : l = l.take k ++ l[k] :: l.drop (k + 1) := by rw [List.getElem_cons_drop, List.take_append_drop]
  conv => rhs; rw [h]
  exact List.perm_middle.symm
theorem Picked.step {L : List (ByteArray × (Int × Int))} {now : Int} {OL RL : List (ByteArray × (Int × Int))} (h : Picked L now OL RL) (ho : Orders L) (k : Nat) (hk : k < RL.length) (h1 : ¬ now < RL[k].2.1)
    (h2 : ∀ j (hj : j < RL.length), ¬ now < RL[j].2.1 → RL[k].2.1 ≤ RL[j].2.1) (h3 : ∀ j (hj : j < RL.length), j < k → ¬ now < RL[j].2.1 → RL[k].2.1 < RL[j].2.1) : Picked L now (OL ++ [RL[k]]) (RL.take k ++ RL.drop (k + 1)) := by
  have hsub : (RL.take k ++ RL.drop (k + 1)).Sublist RL := by
    have e : RL = RL.take k ++ RL.drop k := (List.take_append_drop k RL).symm
    conv => rhs; rw [e]
    exact (List.Sublist.refl _).append (by rw [List.drop_eq_getElem_cons hk]; exact List.sublist_cons_self _ _)
  have hoR : Orders RL := List.Pairwise.sublist h.sub ho
  refine ⟨?_, hsub.trans h.sub, ?_, ?_, ?_⟩
  · rw [List.append_assoc]
    refine List.Perm.trans ?_ h.perm
    exact List.Perm.append_left OL (take_drop_perm RL k hk)
  · intro p hp
    rcases List.mem_append.1 hp with hp | hp
    · exact h.due p hp
    · obtain rfl : p = RL[k] := by simpa using hp
      exact h1
  · refine List.pairwise_append.2 ⟨h.sorted, by simp, fun p hp q hq => ?_⟩
    obtain rfl : q = RL[k] := by simpa using hq
    exact h.cross p hp _ (List.getElem_mem hk) h1
  · intro p hp q hq hn
    have hqm : q ∈ RL := hsub.subset hq
    rcases List.mem_append.1 hp with hp | hp
    · exact h.cross p hp q hqm hn
    · obtain rfl : p = RL[k] := by simpa using hp
      rcases List.mem_append.1 hq with hq | hq
      · obtain ⟨j, hj, e⟩ := List.getElem_of_mem hq
        have hjk : j < k := by simp at hj; omega
        have hjl : j < RL.length := by omega
        rw [List.getElem_take] at e
        subst e
        have := h3 j hjl hjk hn
        unfold ltE
        omega
      · obtain ⟨j, hj, e⟩ := List.getElem_of_mem hq
        rw [List.getElem_drop] at e
        subst e
        have hjl : k + 1 + j < RL.length := by simp at hj; omega
        have g1 := h2 _ hjl hn
        have g2 := List.pairwise_iff_getElem.1 hoR k (k + 1 + j) hk hjl (by omega)
        unfold ltE
        omega
theorem Picked.done {L : List (ByteArray × (Int × Int))} {now : Int} {OL RL : List (ByteArray × (Int × Int))} (h : Picked L now OL RL) (ha : L.Pairwise (fun p q => p.1 ≠ q.1)) (h0 : ∀ p ∈ RL, now < p.2.1) :
    (OL.map (·.1)).Perm ((L.filter (fun p => !decide (now < p.2.1))).map (·.1)) ∧ DueSorted L (OL.map (·.1)) ∧ RL = L.filter (fun p => decide (now < p.2.1)) := by
  have hO : OL.filter (fun p => !decide (now < p.2.1)) = OL := List.filter_eq_self.2 (fun p hp => by simpa using h.due p hp)
  have hR : RL.filter (fun p => !decide (now < p.2.1)) = [] := List.filter_eq_nil_iff.2 (fun p hp => by simpa using h0 p hp)
  have hO2 : OL.filter (fun p => decide (now < p.2.1)) = [] := List.filter_eq_nil_iff.2 (fun p hp => by simpa using h.due p hp)
  have hR2 : RL.filter (fun p => decide (now < p.2.1)) = RL := List.filter_eq_self.2 (fun p hp => by simpa using h0 p hp)
  have p1 := h.perm.filter (fun p => !decide (now < p.2.1))
  rw [List.filter_append, hO, hR, List.append_nil] at p1
  have p2 := h.perm.filter (fun p => decide (now < p.2.1))
  rw [List.filter_append, hO2, hR2, List.nil_append] at p2
  refine ⟨p1.map _, ?_, ?_⟩
  · unfold DueSorted
    rw [List.pairwise_map]
    refine List.Pairwise.imp_of_mem ?_ h.sorted
    intro p q hp hq hpq
    have mp : p ∈ L := h.perm.mem_iff.1 (List.mem_append_left _ hp)
    have mq : q ∈ L := h.perm.mem_iff.1 (List.mem_append_left _ hq)
    rw [entAt_mem ha mp, entAt_mem ha mq]
    exact hpq
  · have hs := h.sub.filter (fun p => decide (now < p.2.1))
    rw [hR2] at hs
    exact hs.eq_of_length p2.length_eq
end Go.Proofs.Ytjgcbcahikemdaa
