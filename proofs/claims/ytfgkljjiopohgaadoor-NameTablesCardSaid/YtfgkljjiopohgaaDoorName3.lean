/- name.Split and name.Join, by the library's contracts. -/
import Derived.Test.YtfgkljjiopohgaaDoorName2
import Derived.Test.YtfgkljjiopohgaaDoorShelf
import Derived.Lib.SplitLaws
namespace Go.Proofs.YtfgkljjiopohgaaDoor
open Go.Conc Go.RowKit

def dot : ByteArray := ⟨#[46]⟩
/-- What stands between the full stops. -/
def splitL (s : ByteArray) : List ByteArray := Lib.splitB dot 0 (Lib.countB s dot) s
theorem splitL_length (s : ByteArray) : (splitL s).length = Lib.countB s dot + 1 := Lib.splitB_all dot (by decide) 0 _ s rfl
theorem countB_small (s : ByteArray) : Lib.countB s dot ≤ s.size := Lib.countB_le dot (by decide) _ s (Nat.le_refl _)
theorem splitL_size (s : ByteArray) : ∀ x ∈ splitL s, x.size ≤ s.size := by
  unfold splitL
  generalize Lib.countB s dot = k
  induction k generalizing s with
  | zero => intro x hx; simp [Lib.splitB] at hx; subst hx; exact Nat.le_refl _
  | succ k ih =>
    intro x hx
    unfold Lib.splitB at hx
    split at hx
    · simp at hx; subst hx; exact Nat.le_refl _
    · rcases List.mem_cons.1 hx with rfl | hx
      · rw [ByteArray.size_extract]; omega
      · have := ih _ x hx
        rw [ByteArray.size_extract] at this
        omega

set_option maxRecDepth 100000 in
theorem split_empty (w : World) (s : ByteArray) (h0 : s.size = 0) : Calls Tryd.prog 10 #[.string s] w fun e w' => e = .returned (.tuple #[.slice none 0 0, .int .i64 0]) ∧ w = w' := by
  have e0 := empty_true h0
  clear h0
  go_enter Tryd.func10, Tryd.ntmps10
  go_wp2_with fail
  go_ret2
  exact ⟨rfl, rfl⟩

/-- The world behind strings.Split. -/
theorem lsplit_any (w : World) (s : ByteArray) (m : Int) (hs : s.size ≤ 1000) (hm : w.cell? ⟨0, 0, none⟩ = some (.int .i64 m)) :
    Calls Tryd.prog 31 #[.string s, .string ⟨#[46]⟩] w fun e w' => ∃ v, e = .returned v ∧ Only (fun _ => False) w w' ∧ Sl w' 1 v (splitL s).length ((splitL s).map .string) := by
  refine (Tryd.strings_Split s ⟨#[46]⟩ m w (by omega) hm (by decide)).mono ?_
  rintro e w' ⟨rfl, rfl⟩
  refine ⟨_, rfl, (Only.refl _ _).alloc _, ?_⟩
  have h1 := Sl.fresh w ((splitL s).map Value.string) 9 (splitL s).length 1 (by simp) (by rw [splitL_length]; have := countB_small s; unfold maxLen; omega)
  rw [splitL_length] at h1 ⊢
  exact h1

set_option maxRecDepth 100000 in
theorem split_any (w : World) (s : ByteArray) (m : Int) (hs : s.size ≤ 1000) (h0 : s.size ≠ 0) (hm : w.cell? ⟨0, 0, none⟩ = some (.int .i64 m)) :
    Calls Tryd.prog 10 #[.string s] w fun e w' => Only (fun _ => False) w w' ∧ ((mayGo 0 (splitL s) = false ∧ e = .returned (.tuple #[.slice none 0 0, .int .i64 9])) ∨
      (mayGo 0 (splitL s) = true ∧ ∃ v, e = .returned (.tuple #[v, .int .i64 0]) ∧ Sl w' 1 v (splitL s).length ((splitL s).map .string))) := by
  have e0 := empty_false h0
  have hsz : ∀ x ∈ splitL s, x.size ≤ maxLen := fun x hx => by have := splitL_size s x hx; unfold maxLen; omega
  have Hsz := Lib.hid hsz
  have HM := Lib.hid hm
  clear hsz hm h0
  go_enter Tryd.func10, Tryd.ntmps10
  go_wp2_with fail
  refine (lsplit_any _ s m hs HM.out).mono ?_
  rintro e w1 ⟨v, rfl, h1, h2⟩
  go_wp2_with fail
  refine (may_any _ v (splitL s) h2 Hsz.out).mono ?_
  rintro e w2 ⟨rfl, rfl⟩
  generalize hmay : mayGo 0 (splitL s) = b at *
  have Hm := Lib.hid hmay
  clear hmay
  cases b with
  | false =>
    go_wp2_with fail
    go_ret2
    exact ⟨h1, .inl ⟨Hm.out, rfl⟩⟩
  | true =>
    go_wp2_with fail
    go_ret2
    exact ⟨h1, .inr ⟨Hm.out, v, rfl, h2⟩⟩

/-- Labels put together. -/
def joinL (l : List ByteArray) : ByteArray := ⟨(Lib.join (l.map (·.data.toList)) [46]).toArray⟩
set_option maxRecDepth 100000 in
theorem join_any (w : World) (v : Value) (l : List ByteArray) (h : Sl w 1 v l.length (l.map .string)) (hl : (Lib.join (l.map (·.data.toList)) [46]).length ≤ 100000) (hn : l.length ≤ 1000) :
    Calls Tryd.prog 14 #[v] w fun e w' => e = .returned (.string (joinL l)) ∧ Only (fun _ => False) w w' := by
  have HL := Lib.hid hl
  clear hl
  obtain ⟨_, a, cap, rfl, h3, h4, h5⟩ := h
  by_cases h0 : l.length = 0
  · obtain rfl : l = [] := List.eq_nil_of_length_eq_zero h0
    clear h5
    go_enter Tryd.func14, Tryd.ntmps14
    go_wp2_with fail
    refine (Tryd.strings_Join_none a cap ⟨#[46]⟩ w).mono ?_
    rintro e w1 ⟨rfl, rfl⟩
    go_wp2_with fail
    go_ret
    exact ⟨rfl, Only.refl _ _⟩
  · obtain ⟨b, off, ha, hc⟩ := h5.resolve_left h0
    subst ha
    have hc2 : ∀ (j : Nat) x, l[j]? = some x → w.cell? ⟨b, off + j, none⟩ = some (.string x) := fun j x hx => hc j _ (by simp [hx])
    have hb : b < w.heap.size := World.block_lt_of_cell? _ _ (hc2 0 l[0] (by simp))
    have Hc := Lib.hid hc2
    clear hc hc2 h5
    go_enter Tryd.func14, Tryd.ntmps14
    go_wp2_with fail
    refine (Tryd.strings_Join b off cap l ⟨#[46]⟩ w Hc.out hb (by omega) h3 (Nat.le_trans HL.out (by omega))).mono ?_
    rintro e w1 ⟨rfl, hw⟩
    go_wp2_with fail
    go_ret
    exact ⟨rfl, Only.of_below hw⟩
end Go.Proofs.YtfgkljjiopohgaaDoor
