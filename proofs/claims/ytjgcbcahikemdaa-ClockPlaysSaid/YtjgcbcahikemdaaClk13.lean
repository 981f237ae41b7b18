/- The reference's things, plainly: the earliest, the last of a name. -/
import Derived.Test.YtjgcbcahikemdaaClk11
import Derived.Test.YtjgcbcahikemdaaClk12
namespace Go.Proofs.Ytjgcbcahikemdaa
open Go.Conc Go.RowKit

def thL (L : List (ByteArray × (Int × Int))) : List (ByteArray × Int) := L.map (fun p => (p.1, p.2.1))
theorem thL_length (L : List (ByteArray × (Int × Int))) : (thL L).length = L.length := by simp [thL]
theorem thL_append (L M : List (ByteArray × (Int × Int))) : thL (L ++ M) = thL L ++ thL M := by simp [thL]
theorem thL_take (L : List (ByteArray × (Int × Int))) (k : Nat) : (thL L).take k = thL (L.take k) := by simp [thL, List.map_take]
theorem thL_drop (L : List (ByteArray × (Int × Int))) (k : Nat) : (thL L).drop k = thL (L.drop k) := by simp [thL, List.map_drop]
theorem thL_get0 (L : List (ByteArray × (Int × Int))) (k : Nat) (hk : k < L.length) : (thsC (thL L))[k * 2 + 0]? = some (.string L[k].1) := by
  rw [thsC_get _ k (by rw [thL_length]; exact hk) 0 (by decide)]
  simp [thL, thC]
theorem thL_get1 (L : List (ByteArray × (Int × Int))) (k : Nat) (hk : k < L.length) : (thsC (thL L))[k * 2 + 1]? = some (.int .i64 L[k].2.1) := by
  rw [thsC_get _ k (by rw [thL_length]; exact hk) 1 (by decide)]
  simp [thL, thC]
theorem thL_rdrop (L : List (ByteArray × (Int × Int))) (x : ByteArray) : rdropL (thL L) x = thL (dropL L x) := by
  unfold rdropL thL dropL
  rw [List.filter_map]
  rfl
theorem thL_put (L : List (ByteArray × (Int × Int))) (x : ByteArray) (v : Int × Int) : thL (putL L x v) = rdropL (thL L) x ++ [(x, v.1)] := by
  rw [thL_rdrop, putL, thL_append]
  rfl

/-- The earliest of those that are due among the first m, the first of them; -1: none. -/
def Best (RL : List (ByteArray × (Int × Int))) (now : Int) (m : Nat) (kv : Int) : Prop :=
  (kv = -1 ∧ ∀ j (hj : j < RL.length), j < m → now < RL[j].2.1) ∨
  ∃ (k : Nat) (hk : k < RL.length), kv = (k : Int) ∧ k < m ∧ ¬ now < RL[k].2.1 ∧ (∀ j (hj : j < RL.length), j < m → ¬ now < RL[j].2.1 → RL[k].2.1 ≤ RL[j].2.1) ∧ (∀ j (hj : j < RL.length), j < k → ¬ now < RL[j].2.1 → RL[k].2.1 < RL[j].2.1)
theorem best_zero (RL : List (ByteArray × (Int × Int))) (now : Int) : Best RL now 0 (-1) := .inl ⟨rfl, fun j _ h => absurd h (by omega)⟩
theorem best_skip {RL : List (ByteArray × (Int × Int))} {now : Int} {m : Nat} {kv : Int} (h : Best RL now m kv) (hm : m < RL.length) (hn : now < RL[m].2.1) : Best RL now (m + 1) kv := by
  rcases h with ⟨e, h⟩ | ⟨k, hk, e, h1, h2, h3, h4⟩
  · refine .inl ⟨e, fun j hj hjm => ?_⟩
    rcases (by omega : j < m ∨ j = m) with h5 | rfl
    · exact h j hj h5
    · exact hn
  · refine .inr ⟨k, hk, e, by omega, h2, fun j hj hjm hd => ?_, h4⟩
    rcases (by omega : j < m ∨ j = m) with h5 | rfl
    · exact h3 j hj h5 hd
    · exact absurd hn hd
theorem best_first {RL : List (ByteArray × (Int × Int))} {now : Int} {m : Nat} {kv : Int} (h : Best RL now m kv) (hkv : kv < 0) (hm : m < RL.length) (hn : ¬ now < RL[m].2.1) : Best RL now (m + 1) (m : Int) := by
  rcases h with ⟨_, h⟩ | ⟨k, hk, e, _⟩
  · refine .inr ⟨m, hm, rfl, by omega, hn, fun j hj hjm hd => ?_, fun j hj hjm hd => absurd (h j hj hjm) hd⟩
    rcases (by omega : j < m ∨ j = m) with h5 | rfl
    · exact absurd (h j hj h5) hd
    · exact Int.le_refl _
  · omega
theorem best_less {RL : List (ByteArray × (Int × Int))} {now : Int} {m k : Nat} (h : Best RL now m (k : Int)) (hk : k < RL.length) (hm : m < RL.length) (hn : ¬ now < RL[m].2.1) (hl : RL[m].2.1 < RL[k].2.1) : Best RL now (m + 1) (m : Int) := by
  rcases h with ⟨e, h⟩ | ⟨k', hk', e, h1, h2, h3, h4⟩
  · omega
  · obtain rfl : k = k' := by omega
    refine .inr ⟨m, hm, rfl, by omega, hn, fun j hj hjm hd => ?_, fun j hj hjm hd => ?_⟩
    · rcases (by omega : j < m ∨ j = m) with h5 | rfl
      · have := h3 j hj h5 hd; omega
      · exact Int.le_refl _
    · have := h3 j hj hjm hd; omega
theorem best_keep {RL : List (ByteArray × (Int × Int))} {now : Int} {m k : Nat} (h : Best RL now m (k : Int)) (hk : k < RL.length) (hm : m < RL.length) (hl : ¬ RL[m].2.1 < RL[k].2.1) : Best RL now (m + 1) (k : Int) := by
  rcases h with ⟨e, h⟩ | ⟨k', hk', e, h1, h2, h3, h4⟩
  · omega
  · obtain rfl : k = k' := by omega
    refine .inr ⟨k, hk, rfl, by omega, h2, fun j hj hjm hd => ?_, h4⟩
    rcases (by omega : j < m ∨ j = m) with h5 | rfl
    · exact h3 j hj h5 hd
    · omega
theorem best_cases {RL : List (ByteArray × (Int × Int))} {now : Int} {m : Nat} {kv : Int} (h : Best RL now m kv) : (kv = -1 ∧ Best RL now m (-1)) ∨ ∃ k : Nat, kv = (k : Int) ∧ k < RL.length ∧ k < m ∧ Best RL now m (k : Int) := by
  rcases h with ⟨e, h⟩ | ⟨k, hk, e, h1, h2⟩
  · exact .inl ⟨e, .inl ⟨rfl, h⟩⟩
  · subst e
    exact .inr ⟨k, rfl, hk, h1, .inr ⟨k, hk, rfl, h1, h2⟩⟩
theorem Picked.best {L : List (ByteArray × (Int × Int))} {now : Int} {OL RL : List (ByteArray × (Int × Int))} (h : Picked L now OL RL) (ho : Orders L) {k : Nat} (hb : Best RL now RL.length (k : Int)) (hk : k < RL.length) : Picked L now (OL ++ [RL[k]]) (RL.take k ++ RL.drop (k + 1)) := by
  rcases hb with ⟨e, _⟩ | ⟨k', hk', e, h1, h2, h3, h4⟩
  · omega
  · obtain rfl : k = k' := by omega
    exact h.step ho k hk h2 (fun j hj hd => h3 j hj hj hd) h4
theorem best_none {RL : List (ByteArray × (Int × Int))} {now : Int} (hb : Best RL now RL.length (-1)) : ∀ p ∈ RL, now < p.2.1 := by
  rcases hb with ⟨_, h⟩ | ⟨k', hk', e, _⟩
  · intro p hp
    obtain ⟨j, hj, e⟩ := List.getElem_of_mem hp
    subst e
    exact h j hj hj
  · omega

/-- What the search by name finds: the last one. -/
def lastS (l : List (ByteArray × Int)) (name : ByteArray) : Int × Bool := l.foldl (fun s p => if p.1 = name then (p.2, true) else s) (0, false)
theorem lastS_snoc (l : List (ByteArray × Int)) (p : ByteArray × Int) (name : ByteArray) : lastS (l ++ [p]) name = if p.1 = name then (p.2, true) else lastS l name := by simp [lastS]
theorem foldl_none (name : ByteArray) : ∀ (l : List (ByteArray × Int)) (s : Int × Bool), (∀ p ∈ l, p.1 ≠ name) → l.foldl (fun s p => if p.1 = name then (p.2, true) else s) s = s
  | [], s, _ => rfl
  | a :: l, s, h => by
    rw [List.foldl_cons, if_neg (h a (by simp))]
    exact foldl_none name l s (fun p hp => h p (by simp [hp]))
theorem lastS_look {L : List (ByteArray × (Int × Int))} (ha : L.Pairwise (fun p q => p.1 ≠ q.1)) (name : ByteArray) : lastS (thL L) name = (((lookL L name).getD (0, 0)).1, (lookL L name).isSome) := by
  cases hl : lookL L name with
  | none =>
    refine foldl_none name _ _ (fun p hp => ?_)
    obtain ⟨q, hq, rfl⟩ := List.mem_map.1 hp
    exact lookL_none hl q hq
  | some v =>
    have hm := lookL_some hl
    obtain ⟨s, t, e⟩ := List.append_of_mem hm
    subst e
    obtain ⟨h1, h2, h3⟩ := List.pairwise_append.1 ha
    obtain ⟨h4, h5⟩ := List.pairwise_cons.1 h2
    rw [thL_append]
    show ((thL s) ++ ((name, v.1) :: thL t)).foldl _ _ = _
    rw [List.foldl_append, List.foldl_cons, if_pos rfl]
    refine foldl_none name _ _ (fun p hp => ?_)
    obtain ⟨q, hq, rfl⟩ := List.mem_map.1 hp
    exact fun e => h4 q hq e.symm
end Go.Proofs.Ytjgcbcahikemdaa
