/- A clock's Due: its closures. -/
import Derived.Test.YtefadkmdfhjaeaaClk4
import Derived.Deep.RegionHeld3
import Derived.Outline
import Derived.Sort.Grow
import Derived.StillTailTactics
namespace Go.Proofs.Ytefadkmdfhjaeaa
open Go.Conc Go.RowKit Go.Maps Go.Sort

def entAt (L : List (ByteArray × (Int × Int))) (x : ByteArray) : Int × Int := (lookL L x).getD (0, 0)
def cfC (L : List (ByteArray × (Int × Int))) (x y : ByteArray) : Int := orZ (cmpZ (entAt L x).1 (entAt L y).1) (cmpZ (entAt L x).2 (entAt L y).2)
theorem fieldE0 (x y : Int) (w : World) : (Instr.field 94 (.agg #[.int .i64 x, .int .i64 y]) 0).run Try.prog w = .ok (.int .i64 x) w := by kernel_rfl
theorem fieldE1 (x y : Int) (w : World) : (Instr.field 94 (.agg #[.int .i64 x, .int .i64 y]) 1).run Try.prog w = .ok (.int .i64 y) w := by kernel_rfl
set_option maxRecDepth 100000 in
theorem due2_any (W : World) (B1 B2 c b : Nat) (L : List (ByteArray × (Int × Int))) (now : Int) (h1 : W.cell? ⟨B1, 0, none⟩ = some (.pointer (some ⟨c, 0, none⟩))) (h2 : W.cell? ⟨B2, 0, none⟩ = some (.int .i64 now))
    (hc : W.cell? ⟨c, 0, none⟩ = some (.map (some b))) (hm : CMap W b L) (x : ByteArray) (hx : x.size ≤ maxLen) :
    Calls Try.prog 42 #[.string x, .pointer (some ⟨B1, 0, none⟩), .pointer (some ⟨B2, 0, none⟩)] W fun e w' => e = .returned (.bool (decide (now < (entAt L x).1))) ∧ ∃ q, w' = W.drewN q := by
  obtain ⟨W2, hW2⟩ : ∃ W2, W2 = W.drew := ⟨_, rfl⟩
  have hm2 : CMap W2 b L := by rw [hW2]; exact hm.kept ((Only.refl (fun _ => False) W).drew) id
  have g1 : W2.cell? ⟨B1, 0, none⟩ = some (.pointer (some ⟨c, 0, none⟩)) := by rw [hW2]; exact h1
  have g2 : W2.cell? ⟨B2, 0, none⟩ = some (.int .i64 now) := by rw [hW2]; exact h2
  have gc : W2.cell? ⟨c, 0, none⟩ = some (.map (some b)) := by rw [hW2]; exact hc
  have hl0 := hm2.look strKeyed strInj Try.underlying90 (z := (0, 0)) (zeroC _) (strOk hx) false
  unfold entAt
  generalize (lookL L x).getD (0, 0) = r at *
  obtain ⟨a, o⟩ := r
  have hl : (Instr.lookup 90 (.map (some b)) (.string x) false).run Try.prog W2 = .ok (.agg #[.int .i64 a, .int .i64 o]) W2 := hl0
  have H := Lib.hid hW2
  clear hl0 hm hm2 h1 h2 hc
  have hf0 := fieldE0
  go_enter Try.func42, Try.ntmps42
  go_upto_region 1 with (fail)
  refine wp_region_still_tail 8 (by kernel_rfl) (by kernel_rfl) ?_
  change wpStill _ _ W.drew (fun a' => wpList _ _ _ _ a' W.drew) _ _
  rw [← hW2]
  clear hW2
  simp only [List.take_succ_cons, List.take_zero, List.drop_succ_cons, List.drop_zero]
  repeat still_step
  refine wpStill_nil ?_
  clear hl g1 g2 gc
  go_wp2_with fail
  all_goals
    go_ret
    refine ⟨?_, 1, H.out⟩
    simp_all
theorem grow_one (w : World) (o : Obj) : w.alloc o = grow w #[o] := by
  unfold grow World.alloc
  rw [Array.push_eq_append]
set_option maxRecDepth 100000 in
theorem due1_any (W : World) (B1 c b : Nat) (L : List (ByteArray × (Int × Int))) (h1 : W.cell? ⟨B1, 0, none⟩ = some (.pointer (some ⟨c, 0, none⟩)))
    (hc : W.cell? ⟨c, 0, none⟩ = some (.map (some b))) (hm : CMap W b L) (x y : ByteArray) (hx : x.size ≤ maxLen) (hy : y.size ≤ maxLen) :
    Calls Try.prog 37 #[.string x, .string y, .pointer (some ⟨B1, 0, none⟩)] W fun e w' => e = .returned (.int .i64 (cfC L x y)) ∧ ∃ q os, w' = grow (W.drewN q) os := by
  obtain ⟨W2, hW2⟩ : ∃ W2, W2 = W.drew := ⟨_, rfl⟩
  have hm2 : CMap W2 b L := by rw [hW2]; exact hm.kept ((Only.refl (fun _ => False) W).drew) id
  have g1 : W2.cell? ⟨B1, 0, none⟩ = some (.pointer (some ⟨c, 0, none⟩)) := by rw [hW2]; exact h1
  have gc : W2.cell? ⟨c, 0, none⟩ = some (.map (some b)) := by rw [hW2]; exact hc
  have hl0 := hm2.look strKeyed strInj Try.underlying90 (z := (0, 0)) (zeroC _) (strOk hx) false
  have hl1 := hm2.look strKeyed strInj Try.underlying90 (z := (0, 0)) (zeroC _) (strOk hy) false
  unfold cfC entAt
  generalize (lookL L x).getD (0, 0) = r at *
  generalize (lookL L y).getD (0, 0) = s at *
  obtain ⟨a, o⟩ := r
  obtain ⟨a2, o2⟩ := s
  have hl : (Instr.lookup 90 (.map (some b)) (.string x) false).run Try.prog W2 = .ok (.agg #[.int .i64 a, .int .i64 o]) W2 := hl0
  have hl' : (Instr.lookup 90 (.map (some b)) (.string y) false).run Try.prog W2 = .ok (.agg #[.int .i64 a2, .int .i64 o2]) W2 := hl1
  have H := Lib.hid hW2
  clear hl0 hl1 hm hm2 h1 hc
  have hf0 := fieldE0
  have hf1 := fieldE1
  go_enter Try.func37, Try.ntmps37
  go_upto_region 1 with (fail)
  refine wp_region_still_tail 30 (by kernel_rfl) (by kernel_rfl) ?_
  change wpStill _ _ W.drew (fun a' => wpList _ _ _ _ a' W.drew) _ _
  rw [← hW2]
  clear hW2
  simp only [List.take_succ_cons, List.take_zero, List.drop_succ_cons, List.drop_zero]
  repeat still_step
  still_call ((cmp64_any W2 a a2).mono fun _ _ h => ⟨h.1, h.2.symm⟩)
  repeat still_step
  still_call ((cmpI_any W2 o o2).mono fun _ _ h => ⟨h.1, h.2.symm⟩)
  refine wpStill_nil ?_
  clear hl hl' g1 gc
  go_wp2_with fail
  refine (or_two _ W2.heap.size (cmpZ a a2) (cmpZ o o2) (by simp) (by simp)).mono ?_
  rintro e w3 ⟨rfl, rfl⟩
  go_wp2_with fail
  go_ret
  refine ⟨rfl, 1, #[.cells #[.int .i64 (cmpZ a a2), .int .i64 (cmpZ o o2)] 3 (0, 0)], ?_⟩
  rw [grow_one, H.out]
  rfl
end Go.Proofs.Ytefadkmdfhjaeaa
