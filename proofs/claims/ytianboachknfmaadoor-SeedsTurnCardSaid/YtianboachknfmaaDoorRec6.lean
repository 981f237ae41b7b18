/- record: Good. -/
import Derived.Test.YtianboachknfmaaDoorRec5
namespace Go.Proofs.YtianboachknfmaaDoor
open Go.Conc Go.RowKit

def goodP (key : ByteArray) (ver : Nat) (o age : Int) (gone : Bool) (data : ByteArray) : Bool :=
  (splitE key == 0) && (splitN key == o) && decide (0 < ver / 2 ^ 32) && decide (0 ≤ age) && decide (age ≤ 65535) && decide (data.size = if gone then 0 else 10)
set_option maxRecDepth 100000 in
set_option maxHeartbeats 2000000 in
theorem good_any (w : World) (key : ByteArray) (ver : Nat) (o age : Int) (gone : Bool) (data : ByteArray) (m : Int) (hm : w.cell? ⟨0, 0, none⟩ = some (.int .i64 m)) (hv : ver < 2 ^ 64) (hk : key.size ≤ 1000000) :
    Calls Tryd.prog 63 #[.agg #[.string key, .int .u64 ver, .int .i64 o, .int .i64 age, .bool gone, .string data]] w fun e w' => e = .returned (.bool (goodP key ver o age gone data)) ∧ Only (fun _ => False) w w' := by
  have hB := heap_alloc_new w (.cells #[.string key, .int .u64 ver, .int .i64 o, .int .i64 age, .bool gone, .string data] 33)
  have HB := Lib.hid hB
  have HM := Lib.hid hm
  have HV := Lib.hid hv
  have HG := Lib.hid (show goodP key ver o age gone data = ((splitE key == 0) && (splitN key == o) && decide (0 < ver / 2 ^ 32) && decide (0 ≤ age) && decide (age ≤ 65535) && decide (data.size = if gone then 0 else 10)) from rfl)
  clear hB hm hv
  go_enter Tryd.func63, Tryd.ntmps63
  go_wp2_with fail
  refine (split_any _ key m (((Only.refl (fun _ => False) w).alloc _).cell HM.out id) hk).mono ?_
  rintro e w1 ⟨rfl, ho1⟩
  have hb1 := ho1.old HB.out id
  have HO := Lib.hid (((Only.refl (fun _ => False) w).alloc _).trans ho1)
  have c0 : w1.cell? ⟨w.heap.size, 0, none⟩ = some (.string key) := cell_at hb1 0
  have c1 : w1.cell? ⟨w.heap.size, 1, none⟩ = some (.int .u64 ver) := cell_at hb1 1
  have c2 : w1.cell? ⟨w.heap.size, 2, none⟩ = some (.int .i64 o) := cell_at hb1 2
  have c3 : w1.cell? ⟨w.heap.size, 3, none⟩ = some (.int .i64 age) := cell_at hb1 3
  have c4 : w1.cell? ⟨w.heap.size, 4, none⟩ = some (.bool gone) := cell_at hb1 4
  have c5 : w1.cell? ⟨w.heap.size, 5, none⟩ = some (.string data) := cell_at hb1 5
  clear ho1 hb1
  generalize splitE key = E at *
  generalize splitN key = Nn at *
  generalize splitS key = Ss at *
  go_wp2_with fail
  refine (life_any _ ver HV.out).mono ?_
  rintro e w2 ⟨rfl, rfl⟩
  generalize ver / 2 ^ 32 = L at *
  cases gone with
  | true =>
    go_wp2_with fail
    all_goals (
      go_ret
      refine ⟨ret_bool ?_, HO.out⟩
      rw [HG.out, Bool.eq_iff_iff]
      simp
      try omega)
  | false =>
    go_wp2_with fail
    all_goals (
      go_ret
      refine ⟨ret_bool ?_, HO.out⟩
      rw [HG.out, Bool.eq_iff_iff]
      simp
      try omega)
end Go.Proofs.YtianboachknfmaaDoor
