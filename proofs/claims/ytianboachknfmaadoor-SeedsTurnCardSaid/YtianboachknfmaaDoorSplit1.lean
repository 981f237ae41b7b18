/- strings.Split at the full stop, by the library's contract; in plain. -/
import Derived.Test.YtianboachknfmaaDoorStr
import Derived.Test.YtianboachknfmaaDoorShelf
import Derived.Lib.SplitLaws
namespace Go.Proofs.YtianboachknfmaaDoor
open Go.Conc Go.RowKit

def dot : ByteArray := ⟨#[46]⟩
/-- What stands between the full stops. -/
def splitL (s : ByteArray) : List ByteArray := Lib.splitB dot 0 (Lib.countB s dot) s
theorem splitL_length (s : ByteArray) : (splitL s).length = Lib.countB s dot + 1 := Lib.splitB_all dot (by decide) 0 _ s rfl
theorem countB_small (s : ByteArray) : Lib.countB s dot ≤ s.size := Lib.countB_le dot (by decide) _ s (Nat.le_refl _)
theorem splitL_size (s : ByteArray) : ∀ x ∈ splitL s, x.size ≤ s.size := by
  unfold splitL
  generalize Lib.countB s dot = k
  induction k generalizing s with
  | zero => intro x hx; simp [Lib.splitB] at hx; subst hx; exact Nat.le_refl _
  | succ k ih =>
    intro x hx
    unfold Lib.splitB at hx
    split at hx
    · simp at hx; subst hx; exact Nat.le_refl _
    · rcases List.mem_cons.1 hx with rfl | hx
      · rw [ByteArray.size_extract]; omega
      · have := ih _ x hx
        rw [ByteArray.size_extract] at this
        omega

/-- The world behind strings.Split. -/
theorem lsplit_any (w : World) (s : ByteArray) (m : Int) (hs : s.size ≤ 1000) (hm : w.cell? ⟨0, 0, none⟩ = some (.int .i64 m)) :
    Calls Tryd.prog 98 #[.string s, .string ⟨#[46]⟩] w fun e w' => ∃ v, e = .returned v ∧ Only (fun _ => False) w w' ∧ Sl w' 1 v (splitL s).length ((splitL s).map .string) := by
  refine (Tryd.strings_Split s ⟨#[46]⟩ m w (by omega) hm (by decide)).mono ?_
  rintro e w' ⟨rfl, rfl⟩
  refine ⟨_, rfl, (Only.refl _ _).alloc _, ?_⟩
  have h1 := Sl.fresh w ((splitL s).map Value.string) 9 (splitL s).length 1 (by simp) (by rw [splitL_length]; have := countB_small s; unfold maxLen; omega)
  rw [splitL_length] at h1 ⊢
  exact h1

def spl : List UInt8 → List UInt8 → List (List UInt8)
  | cur, [] => [cur]
  | cur, b :: l => if b = 46 then cur :: spl [] l else spl (cur ++ [b]) l
def ph (c : List UInt8) : List (List UInt8) → List (List UInt8)
  | [] => [c]
  | x :: r => (c ++ x) :: r
theorem spl_app (c : List UInt8) : ∀ (l cur : List UInt8), spl (c ++ cur) l = ph c (spl cur l) := by
  intro l
  induction l with
  | nil => intro cur; rfl
  | cons b l ih =>
    intro cur
    unfold spl
    by_cases hb : b = 46
    · rw [if_pos hb, if_pos hb]; rfl
    · rw [if_neg hb, if_neg hb, List.append_assoc, ih]
theorem splitK_ne (b : UInt8) (hb : b ≠ 46) (l : List UInt8) : ∀ k, Lib.splitK [46] 0 k (b :: l) = ph [b] (Lib.splitK [46] 0 k l) := by
  intro k
  cases k with
  | zero => rfl
  | succ k =>
    have hi : Lib.index (b :: l) [46] = if Lib.index l [46] == -1 then -1 else Lib.index l [46] + 1 := by
      rw [Lib.index]
      have : ([46] : List UInt8).isPrefixOf (b :: l) = false := by simp [List.isPrefixOf]; exact fun e => hb e.symm
      rw [if_neg (by simp [this])]
    unfold Lib.splitK
    rw [hi]
    have hge := Lib.index_ge l [46]
    by_cases h : Lib.index l [46] = -1
    · rw [if_pos (by simp [h]), if_pos (by simp [h])]; rfl
    · obtain ⟨i, hi2⟩ := Int.eq_ofNat_of_zero_le (show 0 ≤ Lib.index l [46] by omega)
      rw [if_neg (by simp [hi2]; omega), hi2, if_neg (by simp), if_neg (by simp)]
      have e1 : ((i : Int) + 1).toNat = i + 1 := by omega
      rw [e1]
      simp [ph]
theorem splitK_spl : ∀ l : List UInt8, Lib.splitK [46] 0 (Lib.count l [46]) l = spl [] l := by
  intro l
  induction l with
  | nil => rfl
  | cons b l ih =>
    by_cases hb : b = 46
    · subst hb
      rw [Lib.count_cons_eq, Nat.add_comm]
      unfold Lib.splitK
      have hi : Lib.index (46 :: l) [46] = 0 := by
        rw [Lib.index]
        simp [List.isPrefixOf]
      rw [hi]
      simp only [spl]
      rw [if_neg (by decide)]
      simp [ih]
    · rw [Lib.count_cons_ne b 46 l hb, splitK_ne b hb, ih, spl, if_neg hb, show ([] : List UInt8) ++ [b] = [b] ++ [] by simp, spl_app]
theorem splitL_data (s : ByteArray) : (splitL s).map (·.data.toList) = spl [] s.data.toList := by
  unfold splitL
  rw [Lib.splitB_data]
  exact splitK_spl _
end Go.Proofs.YtianboachknfmaaDoor
