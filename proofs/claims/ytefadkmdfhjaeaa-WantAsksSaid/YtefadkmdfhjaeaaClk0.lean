/- Comparing. -/
import Derived.Test.YtefadkmdfhjaeaaBase
import Derived.Conc.LoneSelectN
namespace Go.Proofs.Ytefadkmdfhjaeaa
open Go.Conc Go.RowKit

theorem nan64_any (w : World) (a : Int) : Calls Try.prog 50 #[.int .i64 a] w fun e w' => e = .returned (.bool false) ∧ w = w' := by
  go_enter Try.func50, Try.ntmps50
  go_wp2_with fail
  go_ret
  exact ⟨by simp, rfl⟩
theorem nanI_any (w : World) (a : Int) : Calls Try.prog 51 #[.int .i64 a] w fun e w' => e = .returned (.bool false) ∧ w = w' := by
  go_enter Try.func51, Try.ntmps51
  go_wp2_with fail
  go_ret
  exact ⟨by simp, rfl⟩
/-- Three ways. -/
def cmpZ (a b : Int) : Int := if a < b then -1 else if b < a then 1 else 0
theorem cmpI_any (w : World) (a b : Int) : Calls Try.prog 40 #[.int .i64 a, .int .i64 b] w fun e w' => e = .returned (.int .i64 (cmpZ a b)) ∧ w = w' := by
  unfold cmpZ
  go_enter Try.func40, Try.ntmps40
  go_wp2_with (first | (go_at_call 51; refine (nanI_any _ _).mono ?_; rintro e w2 ⟨rfl, rfl⟩))
  all_goals
    go_ret
    exact ⟨rfl, rfl⟩
theorem cmp64_any (w : World) (a b : Int) : Calls Try.prog 39 #[.int .i64 a, .int .i64 b] w fun e w' => e = .returned (.int .i64 (cmpZ a b)) ∧ w = w' := by
  unfold cmpZ
  go_enter Try.func39, Try.ntmps39
  go_wp2_with (first | (go_at_call 50; refine (nan64_any _ _).mono ?_; rintro e w2 ⟨rfl, rfl⟩))
  all_goals
    go_ret
    exact ⟨rfl, rfl⟩
end Go.Proofs.Ytefadkmdfhjaeaa
