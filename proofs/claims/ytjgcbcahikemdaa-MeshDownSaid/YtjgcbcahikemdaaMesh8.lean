/- bellhoplaw08's speaks; the walk of MeshFull. -/
import Derived.Test.YtjgcbcahikemdaaMesh7
namespace Go.Proofs.Ytjgcbcahikemdaa
open Go.Conc Go.RowKit Go.Maps

theorem took_one {a x : Bool} {b y : ByteArray} {ok : Bool} {l rest : List (Bool × ByteArray)} (h : Took ((a, b) :: l) x y ok rest) : x = a ∧ y = b ∧ ok = true ∧ rest = l := by
  rcases h with ⟨h1, h2⟩ | ⟨_, h2, _⟩
  · cases h2; exact ⟨rfl, rfl, h1, rfl⟩
  · cases h2
theorem took_nil {x : Bool} {y : ByteArray} {ok : Bool} {rest : List (Bool × ByteArray)} (h : Took [] x y ok rest) : x = false ∧ y = ⟨#[]⟩ ∧ ok = false ∧ rest = [] := by
  rcases h with ⟨_, h2⟩ | ⟨h1, _, h3, h4, h5⟩
  · cases h2
  · exact ⟨h4, h5, h1, h3⟩
abbrev G0 : Ways := fun _ _ => []
set_option maxRecDepth 100000 in
set_option maxHeartbeats 2000000 in
theorem speaks08_any (w : World) : Calls Try.prog 22 #[] w fun e w' => e = .returned (.bool true) ∧ Only (fun _ => False) w w' := by
  go_enter Try.func22, Try.ntmps22
  go_wp2_with fail
  refine (mrun_new w).mono ?_
  rintro e w1 ⟨m, lb, pb, rfl, h1⟩
  have H1 := Lib.hid (mrun_up h1 1 (by omega) (by omega) (by simp))
  clear h1
  go_wp2_with fail
  refine H1.out.mono ?_
  rintro e w2 ⟨rfl, h2, _⟩
  have H2 := Lib.hid (mrun_send h2 1 2 ⟨#[115]⟩ (by decide) (by decide) (by omega))
  clear h2
  go_wp2_with fail
  refine H2.out.mono ?_
  rintro e w3 ⟨rfl, h3, _⟩
  have e3 : sendG (upL [] 1) G0 1 2 ⟨#[115]⟩ = brk1 G0 2 1 := by unfold sendG; rw [if_pos (by decide), if_neg (by decide)]
  rw [e3] at h3
  have H3 := Lib.hid (mrun_take h3 2 1 (by decide) (by decide))
  clear h3 e3
  go_wp2_with fail
  refine H3.out.mono ?_
  rintro e w4 ⟨x, y, ok, rest, rfl, hT, h4, _⟩
  obtain ⟨rfl, rfl, rfl, rfl⟩ := took_one (l := []) hT
  have hG : ∀ p q, setG (brk1 G0 2 1) 2 1 [] p q = [] := fun p q => by
    unfold brk1 setG
    split
    · rfl
    · rfl
  obtain ⟨W, hW⟩ : ∃ W, W = w4.alloc (.cells #[.bool true, .string ⟨#[]⟩] 58) := ⟨_, rfl⟩
  have hbW : W.heap[w4.heap.size]? = some (.cells #[.bool true, .string ⟨#[]⟩] 58 (0, 0)) := by rw [hW]; exact heap_alloc_new w4 _
  have hoW : Only (fun _ => False) w4 W := by rw [hW]; exact (Only.refl _ _).alloc _
  have hsW : W.heap.size = w4.heap.size + 1 := by rw [hW]; simp
  have x0 : W.cell? ⟨w4.heap.size, 0, none⟩ = some (.bool true) := cell_at hbW 0
  have h5 := h4.new hoW
  have HL1 := Lib.hid (mrun_live h5 1 (by decide))
  have HL2 := Lib.hid (mrun_live h5 2 (by decide))
  have HWY := Lib.hid (mrun_ways h5 hG)
  have HO := Lib.hid h5.only
  have HW := Lib.hid hW
  have HLIV := Lib.hid (show decide ((1 : Int) ∈ upL [] 1) = true by decide)
  have HLIW := Lib.hid (show decide ((2 : Int) ∈ upL [] 1) = false by decide)
  rw [HLIV.out] at HL1
  rw [HLIW.out] at HL2
  clear hT h4 h5 hG hbW hoW hsW hW H1 H2 H3
  go_upto_region 5 with (fail)
  rw [← HW.out]
  go_wp2_with fail
  refine HL1.out.mono ?_
  rintro e w' ⟨rfl, rfl⟩
  go_wp2_with fail
  refine HL2.out.mono ?_
  rintro e w' ⟨rfl, rfl⟩
  clear x0
  go_wp2_with fail
  refine HWY.out.mono ?_
  rintro e w5 ⟨rfl, ho5⟩
  go_wp2_with fail
  go_ret
  exact ⟨rfl, HO.out.trans ho5⟩
end Go.Proofs.Ytjgcbcahikemdaa
