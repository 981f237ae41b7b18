/- NameTables in plain: what a table and a message keep through every name that is added. -/
import Derived.Test.YtfgkljjiopohgaaDoorName16
namespace Go.Proofs.YtfgkljjiopohgaaDoor
open Go.Conc Go.RowKit

theorem addR_size : ∀ (l : List ByteArray) (t : RTab) (m : ByteArray), (addR t m l).1.size ≤ m.size + (bytesL l).size + 2 ∧ (addR t m l).2.length ≤ t.length + l.length := by
  intro l
  induction l with
  | nil =>
    intro t m
    rw [addR, bytesL_nil]
    refine ⟨?_, by simp⟩
    dsimp only
    rw [ByteArray.size_append]
    show m.size + 1 ≤ m.size + 0 + 2
    omega
  | cons s l ih =>
    intro t m
    rw [bytesL_size_cons]
    cases h : look t (bytesL (s :: l)).data.toList with
    | some c =>
      rw [addR, h]
      refine ⟨?_, by simp⟩
      dsimp only
      rw [ByteArray.size_append, show (bytesOf [192 + c / 256, c % 256]).size = 2 from rfl]
      omega
    | none =>
      rw [addR, h]
      dsimp only
      obtain ⟨h1, h2⟩ := ih (if m.size < 16384 then t ++ [(bytesL (s :: l), m.size)] else t) (m ++ labelB s)
      rw [ByteArray.size_append, labelB_size] at h1
      refine ⟨by omega, ?_⟩
      rw [List.length_cons]
      have h3 : (if m.size < 16384 then t ++ [(bytesL (s :: l), m.size)] else t).length ≤ t.length + 1 := by
        split
        · rw [List.length_append]; exact Nat.le_refl _
        · omega
      omega
theorem addR_ranged : ∀ (l : List ByteArray) (t : RTab) (m : ByteArray), RangedT t → RangedT (addR t m l).2 := by
  intro l
  induction l with
  | nil => intro t m h; exact h
  | cons s l ih =>
    intro t m h
    cases hk : look t (bytesL (s :: l)).data.toList with
    | some c => rw [addR, hk]; exact h
    | none =>
      rw [addR, hk]
      dsimp only
      apply ih
      intro p hp
      split at hp
      · rcases List.mem_append.1 hp with hp | hp
        · exact h p hp
        · rw [List.mem_singleton] at hp
          rw [hp]
          assumption
      · exact h p hp
theorem ranged_look : ∀ (t : RTab), RangedT t → Ranged (look t) := by
  intro t
  induction t with
  | nil => intro _ k c h; cases h
  | cons p t ih =>
    intro h k c hk
    rw [look] at hk
    split at hk
    · injection hk with hk
      have := h p (by simp)
      omega
    · exact ih (fun q hq => h q (by simp [hq])) k c hk

structure Spot where
  pos : Nat
  stop : Nat
  ls : List ByteArray
def SpotOk (m : ByteArray) (s : Spot) : Prop := s.pos ≤ m.size ∧ mayGo 0 s.ls = true ∧ ReadsAs m s.pos s.pos s.ls s.stop
theorem SpotOk.more {m : ByteArray} {s : Spot} (h : SpotOk m s) (x : ByteArray) : SpotOk (m ++ x) s := ⟨by rw [ByteArray.size_append]; have := h.1; omega, h.2.1, h.2.2.more x⟩
theorem SpotOk.read {m : ByteArray} {s : Spot} (h : SpotOk m s) : rdP m s.pos s.pos [] = ⟨s.ls, s.stop, 0⟩ := h.2.2 [] s.pos (Nat.le_refl _) h.2.1
def TabInv (t : RTab) (m : ByteArray) : Prop := RangedT t ∧ ∀ k c, look t k = some c → Entry m k c
theorem TabInv.nil (m : ByteArray) : TabInv [] m := ⟨fun p h => by simp at h, fun k c h => by cases h⟩
theorem tab_step {t : RTab} {m : ByteArray} (h : TabInv t m) (l : List ByteArray) (hm : mayGo 0 l = true) :
    (∃ x, (addR t m l).1 = m ++ x) ∧ TabInv (addR t m l).2 (addR t m l).1 ∧ SpotOk (addR t m l).1 ⟨m.size, (addR t m l).1.size, l⟩ := by
  obtain ⟨a1, a2, a3⟩ := mayGo_all l 0 hm
  obtain ⟨e1, e2⟩ := addR_addP l t m
  obtain ⟨x, hx1, hx2, hx3⟩ := addP_reads m.size l (look t) m a1 (Nat.le_refl _) (fun k c _ hk => ⟨h.2 k c hk, by have := (h.2 k c hk).2.2.1; exact this⟩)
  rw [e1, hx1]
  refine ⟨⟨x, rfl⟩, ⟨addR_ranged l t m h.1, fun k c hk => ?_⟩, ⟨by rw [ByteArray.size_append]; dsimp only; omega, hm, hx2⟩⟩
  rw [e2] at hk
  rcases hx3 k c hk with h1 | h1
  · exact (h.2 k c h1).more x
  · exact h1
end Go.Proofs.YtfgkljjiopohgaaDoor
