/- A new clock. -/
import Derived.Test.YtefadkmdfhjaeaaClk2
namespace Go.Proofs.Ytefadkmdfhjaeaa
open Go.Conc Go.RowKit

set_option maxRecDepth 100000 in
theorem newClock_any (w : World) (m : Int) : Calls Try.prog 18 #[.int .i64 m] w fun e w' => e = .returned (.pointer (some ⟨w.heap.size + 1, 0, none⟩)) ∧ w' = (w.alloc (.map #[] 0)).alloc (.cells #[.map (some w.heap.size), .int .i64 (min (max m 0) 64), .int .i64 0] 92) := by
  have hmm := @run_makeMap Try.prog
  go_enter Try.func18, Try.ntmps18
  go_wp2_with fail
  all_goals
    go_ret
    refine ⟨rfl, ?_⟩
    exact congrArg (fun z : Int => (w.alloc (.map #[] 0)).alloc (.cells #[.map (some w.heap.size), .int .i64 z, .int .i64 0] 92)) (by omega)
end Go.Proofs.Ytefadkmdfhjaeaa
