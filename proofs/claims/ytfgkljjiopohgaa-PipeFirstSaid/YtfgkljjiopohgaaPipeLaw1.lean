/- 'speaks' of bellhoplaw07 returns true and touches nothing that was there. -/
import Derived.Test.YtfgkljjiopohgaaPipe2
namespace Go.Proofs.Ytfgkljjiopohgaa
open Go.Conc Go.RowKit

theorem speaks_any (w : World) : Calls Try.prog 6 #[] w fun e w' => e = .returned (.bool true) ∧ Only (fun _ => False) w w' := by
  go_enter Try.func6, Try.ntmps6
  go_wp2_with fail
  refine (new_any _).mono ?_
  rintro e w1 ⟨rfl, h1, p1, s1⟩
  go_wp2_with fail
  refine (send_room _ _ _ [] _ p1 (by decide)).mono ?_
  rintro e w2 ⟨rfl, h2, p2⟩
  go_wp2_with fail
  refine (break_any _ _ _ [(false, ⟨#[97]⟩)] p2).mono ?_
  rintro e w3 ⟨rfl, h3, p3⟩
  go_wp2_with fail
  refine (send_room _ _ _ _ _ p3 (by decide)).mono ?_
  rintro e w4 ⟨rfl, h4, p4⟩
  go_wp2_with fail
  refine (take_some _ _ _ _ _ _ p4).mono ?_
  rintro e w5 ⟨rfl, h5, p5⟩
  go_wp2_with fail
  refine (take_some _ _ _ _ _ _ (p5.kept (S := fun _ => False) ((Only.refl _ _).alloc _) id id)).mono ?_
  rintro e w6 ⟨rfl, h6, p6⟩
  have hc6 : ¬ (w5.heap.size = w.heap.size) := by have := p5.lt.2; omega
  have b6 := h6.new hc6
  have k0 := cell_at b6 0
  have k1 := cell_at b6 1
  have hlt6 := lt_of_block b6
  clear b6
  go_wp2_with fail
  refine (len_any _ _ _ [] (p6.kept (S := fun _ => False) ((Only.refl _ _).alloc _) id id)).mono ?_
  rintro e w7 ⟨rfl, rfl⟩
  go_wp2_with fail
  go_ret
  refine ⟨rfl, ?_⟩
  have hb : ∀ k, k < w.heap.size → ¬ (k = w.heap.size) := by omega
  have e2 : Only (fun _ => False) w w6 := Only.of_below ((h1.below (Nat.le_refl _) (fun _ _ => id)).trans
    ((((((h2.trans h3).trans h4).trans h5).alloc _).trans h6).below (by have := h1.size; omega) hb))
  exact e2.alloc _
end Go.Proofs.Ytfgkljjiopohgaa
