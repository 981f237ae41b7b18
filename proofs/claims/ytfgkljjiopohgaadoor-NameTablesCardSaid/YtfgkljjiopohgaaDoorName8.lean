/- What every law of layer 21 asks first. -/
import Derived.Test.YtfgkljjiopohgaaDoorName3
import Derived.Test.YtfgkljjiopohgaaDoorName7
namespace Go.Proofs.YtfgkljjiopohgaaDoor
open Go.Conc Go.RowKit

def abS : ByteArray := ⟨#[97, 46, 98]⟩
def abL : List ByteArray := [⟨#[97]⟩, ⟨#[98]⟩]
def abM : ByteArray := ⟨#[1, 97, 1, 98, 0, 192, 0]⟩
theorem ab_split : splitL abS = abL := by decide +kernel
theorem ab_may : mayGo 0 abL = true := by decide +kernel
theorem ab_add1 : (addP true (fun _ => none) ⟨#[]⟩ abL).1 = ⟨#[1, 97, 1, 98, 0]⟩ := by decide +kernel
theorem ab_add2 : (addP true (addP true (fun _ => none) ⟨#[]⟩ abL).2 ⟨#[1, 97, 1, 98, 0]⟩ abL).1 = abM := by decide +kernel
theorem ab_join : joinL abL = abS := by decide +kernel
theorem ab_read : rdP abM 5 5 [] = ⟨abL, 7, 0⟩ := by
  rw [rdP_ptr (by decide) (by decide) (by decide +kernel) (by decide) (by decide +kernel)]
  rw [show 256 * (bAt abM 5 - 192) + bAt abM (5 + 1) = 0 by decide +kernel]
  rw [rdP_step (by decide) (by decide) (by decide +kernel) (by decide +kernel) (by decide +kernel)]
  rw [show 0 + 1 + bAt abM 0 = 2 by decide +kernel]
  rw [rdP_step (by decide +kernel) (by decide) (by decide +kernel) (by decide +kernel) (by decide +kernel)]
  rw [show 2 + 1 + bAt abM 2 = 4 by decide +kernel]
  rw [rdP_zero (by decide +kernel) (by decide) (by decide +kernel)]
  rfl

theorem ab_e1 : (abM.toList == [1, 97, 1, 98, 0, 192, 0]) = true := by decide +kernel
theorem ab_e2 : (abS.toList == [97, 46, 98]) = true := by decide +kernel

set_option maxRecDepth 100000 in
theorem speaks_any (w : World) (m : Int) (hm : w.cell? ⟨0, 0, none⟩ = some (.int .i64 m)) :
    Calls Tryd.prog 9 #[] w fun e w' => e = .returned (.bool true) ∧ Only (fun _ => False) w w' := by
  have HM := Lib.hid hm
  clear hm
  go_enter Tryd.func9, Tryd.ntmps9
  go_wp2_with fail
  refine (split_any w abS m (by decide) (by decide) HM.out).mono ?_
  rintro e w1 ⟨ho1, h⟩
  rw [ab_split] at h
  obtain ⟨v, rfl, hs⟩ := (h.resolve_left (fun x => by rw [ab_may] at x; cases x.1)).2
  clear h
  go_wp2_with fail
  refine (add_good _ _ (fun x => x = w1.heap.size) 0 (fun _ => none) true _ v abL (.inr ⟨w1.heap.size, none, rfl, rfl, fun x => by simp, ⟨.map none, heap_alloc_new _ _, .inl ⟨rfl, rfl, rfl⟩⟩⟩) (fun _ _ h => by cases h) (hs.new ((Only.refl _ _).alloc _)) ab_may (by omega) (Nat.zero_le _)).mono ?_
  rintro e w2 ⟨rfl, S1, ho2, ht2, hr2, hS2⟩
  rw [ab_add1]
  have hw12 : Only (fun _ => False) w1 w2 := ((Only.refl _ _).alloc _).tr ho2 (fun i hi e => absurd hi (by omega))
  have hsv : Sl w2 1 v abL.length (abL.map .string) := hs.new hw12
  go_wp2_with fail
  refine (add_good _ _ S1 _ _ true _ v abL ht2 hr2 hsv ab_may (by decide) (by decide)).mono ?_
  rintro e w3 ⟨rfl, S3, ho3, -⟩
  have hw13 : Only (fun _ => False) w1 w3 := hw12.tr ho3 (fun i hi e => by
    rcases hS2 i e with h | h
    · omega
    · simp at h; omega)
  have hE1 := ab_e1
  have hE2 := ab_e2
  have hs1 : abL.length = 2 := rfl
  rw [ab_add2]
  go_wp2_with fail
  refine (read_any _ abM 5 (by decide) (by decide)).mono ?_
  rintro e w4 ⟨v4, rfl, ho4, hs4⟩
  rw [ab_read] at hs4 ⊢
  go_wp2_with fail
  refine (join_any _ v4 abL hs4 (by decide +kernel) (by decide)).mono ?_
  rintro e w5 ⟨rfl, ho5⟩
  rw [ab_join]
  go_wp2_with fail
  go_ret
  exact ⟨rfl, (((ho1.trans hw13).trans ho4).trans ho5)⟩
end Go.Proofs.YtfgkljjiopohgaaDoor
