/- pack: Refuse, run: a call that returns, one that is refused. -/
import Derived.Test.YtianboachknfmaaDoorByt1
import Derived.Defers
import Derived.Recover
namespace Go.Proofs.YtianboachknfmaaDoor
open Go.Conc Go.RowKit

/-- What a refused call ends with. -/
def refused (n : Int) : Ending := .panicked [{ v := .iface 219 (.agg #[.int .i64 n]), recovered := false }]
theorem refuse_any (w : World) (n : Int) (hn : n ≠ 0) : Calls Tryd.prog 117 #[.int .i64 n] w fun e w' => e = refused n ∧ w = w' := by
  have h0 : (n == 0) = false := by simp; exact hn
  go_enter Tryd.func117, Tryd.ntmps117
  go_wp2
  exact ⟨rfl, rfl, rfl⟩

set_option maxRecDepth 100000 in
theorem run1_idle (p : Addr) (w : World) :
    CallsD Tryd.prog 129 #[.pointer (some p)] .returning w fun e u' w' => e = .returned (.tuple #[]) ∧ u' = .returning ∧ w' = w := by
  refine callsD_of_wpS Tryd.func129 rfl fun c₀ cs hu => ?_
  apply wpS_seq
  apply wpS_region
  simp [wpOpsS, go_sem, recoverD, hu, Tryd.ntmps129, Exit.thenS]
  refine wpS_of_wp ?_
  go_wp2
  cases c₀
  simp_all [bodyPostS, results, Tryd.results129]

theorem assert_ref (W : World) (v : Value) : (Instr.typeAssert (.iface 219 v) 20 219 true).run Tryd.prog W = .ok (.tuple #[v, .bool true]) W := by kernel_rfl
set_option maxRecDepth 100000 in
theorem run1_refused (b : Nat) (n x : Int) (w : World) (hb : w.heap[b]? = some (.cells #[.int .i64 x] 25 (0, 0))) :
    CallsD Tryd.prog 129 #[.pointer (some ⟨b, 0, none⟩)] (.panicking ({ v := .iface 219 (.agg #[.int .i64 n]), recovered := false } :: [])) w fun e u' w' =>
      e = .returned (.tuple #[]) ∧ u' = .panicking ({ v := .iface 219 (.agg #[.int .i64 n]), recovered := true } :: []) ∧ w' = (w.setCell ⟨b, 0, none⟩ (.int .i64 n)).alloc (.cells #[.int .i64 n] 219) := by
  have hta := assert_ref
  have hc : w.cell? ⟨b, 0, none⟩ = some (.int .i64 x) := cell_at hb 0
  have hz := free_at hb 0
  have hlt := lt_of_block hb
  refine callsD_of_wpS Tryd.func129 rfl fun c₀ cs hu => ?_
  apply wpS_seq
  apply wpS_region
  simp [wpOpsS, go_sem, recoverD, hu, Tryd.ntmps129, Exit.thenS]
  rw [show (#[Value.pointer (some ⟨b, 0, none⟩)] ++ (Array.replicate 11 undef).setIfInBounds 3 (Value.iface 219 (Value.agg #[Value.int IntKind.i64 n]))) = #[.pointer (some ⟨b, 0, none⟩), undef, undef, undef, .iface 219 (.agg #[.int .i64 n]), undef, undef, undef, undef, undef, undef, undef] from rfl]
  refine wpS_of_wp ?_
  go_wp2_with fail
  cases c₀
  simp_all [bodyPostS, results, Tryd.results129]

theorem setCell_alloc_lt {w : World} {b : Nat} {o : Obj} {v : Value} (h : b < w.heap.size) : (w.alloc o).setCell ⟨b, 0, none⟩ v = (w.setCell ⟨b, 0, none⟩ v).alloc o := by
  go_simp
set_option maxRecDepth 100000 in
/-- A call of a function value by run: what it returns with. -/
theorem run_ok (w : World) (k : Nat) (cap : Array Value) (R : World → Prop) (he : ∀ args w, (callFunc k args).run Tryd.prog w = .ok (.enter k args) w)
    (h : Calls Tryd.prog k cap (w.alloc (.cells #[.int .i64 0] 25)) fun e w' => e = .returned (.tuple #[]) ∧ R w') (hR : ∀ w', R w' → w'.heap[w.heap.size]? = some (.cells #[.int .i64 0] 25 (0, 0))) :
    Calls Tryd.prog 115 #[.func (.func k) #[] cap] w fun e w' => e = .returned (.int .i64 0) ∧ ∃ w1, R w1 ∧ Only (fun x => x = w.heap.size) w1 w' := by
  have hmf : ∀ (fn : Fn) (first cap : Array Value) (w : World), (Instr.makeFunc fn first cap).run Tryd.prog w = .ok (.func fn first cap) w := fun _ _ _ _ => rfl
  go_enter_defers Tryd.func115, Tryd.ntmps115
  go_wp2
  refine h.mono ?_
  rintro e w1 ⟨rfl, hw1⟩
  have hb := hR _ hw1
  have hc : w1.cell? ⟨w.heap.size, 0, none⟩ = some (.int .i64 0) := cell_at hb 0
  have hz := free_at hb 0
  have HW := Lib.hid hw1
  clear hw1
  go_wp2
  refine leaves_cons (f := 129) (args := #[.pointer (some ⟨w.heap.size, 0, none⟩)]) (by simp) (by simp [go_sem]) ?_
  refine (run1_idle ⟨w.heap.size, 0, none⟩ _).mono ?_
  rintro e u' w'' ⟨rfl, rfl, rfl⟩
  have hs := set_at hb 0 (.int .i64 0)
  have hc2 : (w1.setCell ⟨w.heap.size, 0, none⟩ (.int .i64 0)).cell? ⟨w.heap.size, 0, none⟩ = some (.int .i64 0) := cell_at hs 0
  simp [Leaves, settle, results, Tryd.results115, go_sem, hc2]
  exact ⟨w1, HW.out, (Only.refl _ _).setCell (S := fun x => x = w.heap.size) (p := ⟨w.heap.size, 0, none⟩) (.inr rfl) _⟩
set_option maxRecDepth 100000 in
/-- A call of a function value by run: what it is refused with. -/
theorem run_no (w : World) (k : Nat) (cap : Array Value) (n : Int) (R : World → Prop) (he : ∀ args w, (callFunc k args).run Tryd.prog w = .ok (.enter k args) w)
    (h : Calls Tryd.prog k cap (w.alloc (.cells #[.int .i64 0] 25)) fun e w' => e = refused n ∧ R w') (hR : ∀ w', R w' → w'.heap[w.heap.size]? = some (.cells #[.int .i64 0] 25 (0, 0))) :
    Calls Tryd.prog 115 #[.func (.func k) #[] cap] w fun e w' => e = .returned (.int .i64 n) ∧ ∃ w1, R w1 ∧ Only (fun x => x = w.heap.size) w1 w' := by
  have hmf : ∀ (fn : Fn) (first cap : Array Value) (w : World), (Instr.makeFunc fn first cap).run Tryd.prog w = .ok (.func fn first cap) w := fun _ _ _ _ => rfl
  unfold refused at h
  go_enter_defers Tryd.func115, Tryd.ntmps115
  go_wp2
  refine h.mono ?_
  rintro e w1 ⟨rfl, hw1⟩
  have hb := hR _ hw1
  have HW := Lib.hid hw1
  clear hw1
  go_wp2
  refine leaves_cons (f := 129) (args := #[.pointer (some ⟨w.heap.size, 0, none⟩)]) (by simp) (by simp [go_sem]) ?_
  refine (run1_refused w.heap.size n 0 _ hb).mono ?_
  rintro e u' w'' ⟨rfl, rfl, rfl⟩
  have hs := set_at hb 0 (.int .i64 n)
  have hlt := lt_of_block hs
  have hc2 : ((w1.setCell ⟨w.heap.size, 0, none⟩ (.int .i64 n)).alloc (.cells #[.int .i64 n] 219)).cell? ⟨w.heap.size, 0, none⟩ = some (.int .i64 n) := by
    rw [World.cell?_alloc_past _ _ _ hlt]
    exact cell_at hs 0
  simp [Leaves, settle, results, Tryd.results115, go_sem, hc2]
  exact ⟨w1, HW.out, ((Only.refl _ _).setCell (S := fun x => x = w.heap.size) (p := ⟨w.heap.size, 0, none⟩) (.inr rfl) _).alloc _⟩
end Go.Proofs.YtianboachknfmaaDoor
