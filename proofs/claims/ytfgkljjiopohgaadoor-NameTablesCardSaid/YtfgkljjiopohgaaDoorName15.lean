/- The reference's Add, as a function; it agrees with addP. -/
import Derived.Test.YtfgkljjiopohgaaDoorName14
namespace Go.Proofs.YtfgkljjiopohgaaDoor
open Go.Conc Go.RowKit

abbrev RTab : Type := List (ByteArray × Nat)
def look : RTab → Tab
  | [], _ => none
  | p :: t, k => if p.1.data.toList = k then some (p.2 : Int) else look t k
def addR : RTab → ByteArray → List ByteArray → ByteArray × RTab
  | t, m, [] => (m ++ ⟨#[0]⟩, t)
  | t, m, s :: l => match look t (bytesL (s :: l)).data.toList with
    | some c => (m ++ bytesOf [192 + c / 256, c % 256], t)
    | none => addR (if m.size < 16384 then t ++ [(bytesL (s :: l), m.size)] else t) (m ++ labelB s) l
theorem look_append (t : RTab) (p : ByteArray × Nat) (k : List UInt8) : look (t ++ [p]) k = match look t k with
    | some c => some c
    | none => if p.1.data.toList = k then some (p.2 : Int) else none := by
  induction t with
  | nil => rfl
  | cons q t ih =>
    rw [List.cons_append, look, look, ih]
    by_cases h : q.1.data.toList = k
    · rw [if_pos h, if_pos h]
    · rw [if_neg h, if_neg h]
theorem look_noted (t : RTab) (r : ByteArray) (c : Nat) (h : look t r.data.toList = none) : notedV true (look t) r.data.toList c = look (if c < 16384 then t ++ [(r, c)] else t) := by
  funext k
  unfold notedV noted
  simp only [if_true, h]
  by_cases hc : c < 16384
  · rw [if_neg (by simp; omega), if_pos hc, look_append]
    unfold upd
    by_cases hk : k = r.data.toList
    · subst hk
      rw [if_pos rfl, h]
      simp
    · rw [if_neg hk]
      cases hl : look t k with
      | some d => rfl
      | none => simp [Ne.symm hk]
  · rw [if_pos (by right; omega), if_neg hc]
theorem addR_addP : ∀ (l : List ByteArray) (t : RTab) (m : ByteArray), (addR t m l).1 = (addP true (look t) m l).1 ∧ look (addR t m l).2 = (addP true (look t) m l).2 := by
  intro l
  induction l with
  | nil => intro t m; exact ⟨rfl, rfl⟩
  | cons s l ih =>
    intro t m
    cases h : look t (bytesL (s :: l)).data.toList with
    | some c => rw [addR, addP, h]; exact ⟨rfl, rfl⟩
    | none =>
      rw [addR, addP, h]
      dsimp only
      rw [look_noted t _ _ h]
      exact ih _ _
end Go.Proofs.YtfgkljjiopohgaaDoor
