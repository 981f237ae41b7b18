/- cmp.Or of two ints. -/
import Derived.Test.YtefadkmdfhjaeaaClk0
namespace Go.Proofs.Ytefadkmdfhjaeaa
open Go.Conc Go.RowKit

/-- The first that is not 0. -/
def orZ (x y : Int) : Int := if x = 0 then y else x
set_option maxRecDepth 100000 in
theorem or_two (w : World) (B : Nat) (x y : Int) (c0 : w.cell? ⟨B, 0, none⟩ = some (.int .i64 x)) (c1 : w.cell? ⟨B, 1, none⟩ = some (.int .i64 y)) :
    Calls Try.prog 38 #[.slice (some ⟨B, 0, none⟩) 2 2] w fun e w' => e = .returned (.int .i64 (orZ x y)) ∧ w = w' := by
  go_enter Try.func38, Try.ntmps38
  go_wp2_with fail
  go_loopg [5, 8] 2 (fun g v5 v8 wx => ∃ k : Nat, v8 = .int .i64 k ∧ k ≤ 2 ∧ w = wx ∧ (1 ≤ k → x = 0) ∧ (2 ≤ k → y = 0) ∧ g = 2 - k)
  case atStart => exact ⟨0, rfl, Nat.zero_le _, rfl, fun h => absurd h (by decide), fun h => absurd h (by decide), rfl⟩
  case round =>
    obtain ⟨k, rfl, hk, rfl, hx, hy, hg⟩ := hrel
    have Hg := Lib.hid hg
    have HX := Lib.hid hx
    have HY := Lib.hid hy
    clear hg hx hy
    rcases (by omega : k = 0 ∨ k = 1 ∨ k = 2) with rfl | rfl | rfl
    · by_cases h0 : x = 0
      · subst h0
        go_wp2_with fail
        go_roundg 1
        case measure => rw [Hg.out]; omega
        case rel =>
          refine ⟨1, by go_num, by omega, rfl, (by simp), fun h => absurd h (by decide), rfl⟩
      · have h1 : (x != 0) = true := by simpa using h0
        go_wp2_with fail
        go_ret
        exact ⟨(by rw [show orZ x y = x from if_neg h0]; rfl), rfl⟩
    · have h0 := HX.out (by decide)
      subst h0
      by_cases h2 : y = 0
      · subst h2
        go_wp2_with fail
        go_roundg 0
        case measure => rw [Hg.out]; omega
        case rel =>
          refine ⟨2, by go_num, by omega, rfl, (by simp), (by simp), rfl⟩
      · have h1 : (y != 0) = true := by simpa using h2
        go_wp2_with fail
        go_ret
        exact ⟨rfl, rfl⟩
    · have h0 := HX.out (by decide)
      have h2 := HY.out (by decide)
      subst h0 h2
      go_wp2_with fail
      go_ret
      exact ⟨rfl, rfl⟩
end Go.Proofs.Ytefadkmdfhjaeaa
