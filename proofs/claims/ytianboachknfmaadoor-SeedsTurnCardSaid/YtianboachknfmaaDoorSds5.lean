/- bellhoplaw20: rec. -/
import Derived.Test.YtianboachknfmaaDoorSds4
import Derived.Test.YtianboachknfmaaDoorBits
namespace Go.Proofs.YtianboachknfmaaDoor
open Go.Conc Go.RowKit Go.Maps

def rec20 (o : Int) (nm cnt : Nat) : RecT := ⟨keyB o (bytesOf [97 + ((nm % 4 : Nat) : Int)]), 4294967296 + cnt, o, 0, false, ⟨#[97, 98, 99, 100, 101, 102, 103, 104, 105, 106]⟩⟩
theorem cv20 (W : World) (z : Int) : (convert 130 9 (.slice (some ⟨W.heap.size, 0, none⟩) 1 1)).run Tryd.prog (W.alloc (.cells #[.int .u8 z] 5)) = .ok (.string (bytesOf [z])) (W.alloc (.cells #[.int .u8 z] 5)) := by
  have h := Sl.fresh W ([z].map (.int .u8)) 5 1 1 rfl (by unfold maxLen; decide)
  exact run_bytes_str (P := Tryd.prog) (src := 130) (dst := 9) (e := 5) (ns := [z]) Tryd.underlying130 Tryd.underlying5 Tryd.underlying9 h
set_option maxRecDepth 100000 in
set_option maxHeartbeats 1000000 in
theorem rec20_any (w : World) (o : Int) (nm cnt : Nat) (ho0 : 0 ≤ o) (ho1 : o ≤ 65535) (hn : nm < 256) (hc : cnt < 256) :
    Calls Tryd.prog 21 #[.int .i64 o, .int .u8 nm, .int .u8 cnt] w fun e w' => e = .returned (recT (rec20 o nm cnt)) ∧ Only (fun _ => False) w w' := by
  have hb1 : bits BinOp.and IntKind.u8 (nm : Int) 3 = (nm : Int) % 4 := by rw [and3_u8 nm hn]; omega
  have hb2 : IntKind.u8.wrap (97 + (nm : Int) % 4) = 97 + (nm : Int) % 4 := by
    rcases (by omega : (nm : Int) % 4 = 0 ∨ (nm : Int) % 4 = 1 ∨ (nm : Int) % 4 = 2 ∨ (nm : Int) % 4 = 3) with e | e | e | e <;> rw [e] <;> rfl
  have HK := Lib.hid (fun w => rkey_any w o (bytesOf [97 + (nm : Int) % 4]) ho0 ho1 (show 1 ≤ 1000 by omega))
  unfold rec20 recT
  simp only
  rw [show ((nm % 4 : Nat) : Int) = (nm : Int) % 4 by omega]
  obtain ⟨W, hW⟩ : ∃ W, W = w.alloc (.cells #[.string ⟨#[]⟩, .int .u64 0, .int .i64 0, .int .i64 0, .bool false, .string ⟨#[]⟩] 33) := ⟨_, rfl⟩
  have hbW : W.heap[w.heap.size]? = some (.cells #[.string ⟨#[]⟩, .int .u64 0, .int .i64 0, .int .i64 0, .bool false, .string ⟨#[]⟩] 33 (0, 0)) := by rw [hW]; exact heap_alloc_new w _
  have hoW : Only (fun _ => False) w W := by rw [hW]; exact (Only.refl _ _).alloc _
  have hsW : W.heap.size = w.heap.size + 1 := by rw [hW]; simp
  have hcv := cv20 W (97 + (nm : Int) % 4)
  generalize (nm : Int) % 4 = q at *
  have HBW := Lib.hid hbW
  have HOW := Lib.hid hoW
  clear hbW hoW
  clear hsW
  go_enter Tryd.func21, Tryd.ntmps21
  go_upto_region 1 with (fail)
  rw [← hW]
  clear hW
  go_wp2_with fail
  refine (HK.out _).mono ?_
  rintro e w2 ⟨rfl, ho2⟩
  have ho3 : Only (fun _ => False) W w2 := ((Only.refl _ _).alloc _).trans ho2
  have hb3 := ho3.old HBW.out id
  generalize hKK : keyB o (bytesOf [97 + q]) = K at *
  have z0 : w2.cell? ⟨w.heap.size, 0, none⟩ = some (.string ⟨#[]⟩) := cell_at hb3 0
  have z1 : w2.cell? ⟨w.heap.size, 1, none⟩ = some (.int .u64 0) := cell_at hb3 1
  have z2 : w2.cell? ⟨w.heap.size, 2, none⟩ = some (.int .i64 0) := cell_at hb3 2
  have z3 : w2.cell? ⟨w.heap.size, 3, none⟩ = some (.int .i64 0) := cell_at hb3 3
  have z4 : w2.cell? ⟨w.heap.size, 4, none⟩ = some (.bool false) := cell_at hb3 4
  have z5 : w2.cell? ⟨w.heap.size, 5, none⟩ = some (.string ⟨#[]⟩) := cell_at hb3 5
  have zf : ∀ i, w2.frozen? ⟨w.heap.size, i, none⟩ = false := free_at hb3
  have hoA := HOW.out.trans ho3
  have hwl : w.heap.size < w2.heap.size := lt_of_block hb3
  have hcc : (cnt : Int) < 256 := by omega
  have HB3 := Lib.hid hb3
  have HOA := Lib.hid hoA
  have HKK := Lib.hid hKK
  clear hb3 hoA hKK
  clear ho2 ho3 hcv hb1 hb2
  go_wp2_with fail
  obtain ⟨s1, s2⟩ := six_set HB3.out (.string K) (.int .u64 (4294967296 + (cnt : Int))) (.int .i64 o) (.int .i64 0) (.bool false) (.string ⟨#[97, 98, 99, 100, 101, 102, 103, 104, 105, 106]⟩)
  generalize ((((((w2.setCell ⟨w.heap.size, 0, none⟩ (.string K)).setCell ⟨w.heap.size, 1, none⟩ (.int .u64 (4294967296 + (cnt : Int)))).setCell ⟨w.heap.size, 2, none⟩ (.int .i64 o)).setCell ⟨w.heap.size, 3, none⟩ (.int .i64 0)).setCell ⟨w.heap.size, 4, none⟩ (.bool false)).setCell ⟨w.heap.size, 5, none⟩ (.string ⟨#[97, 98, 99, 100, 101, 102, 103, 104, 105, 106]⟩)) = wz at *
  have p0 : wz.cell? ⟨w.heap.size, 0, none⟩ = some (.string K) := cell_at s1 0
  have p1 : wz.cell? ⟨w.heap.size, 1, none⟩ = some (.int .u64 (4294967296 + (cnt : Int))) := cell_at s1 1
  have p2 : wz.cell? ⟨w.heap.size, 2, none⟩ = some (.int .i64 o) := cell_at s1 2
  have p3 : wz.cell? ⟨w.heap.size, 3, none⟩ = some (.int .i64 0) := cell_at s1 3
  have p4 : wz.cell? ⟨w.heap.size, 4, none⟩ = some (.bool false) := cell_at s1 4
  have p5 : wz.cell? ⟨w.heap.size, 5, none⟩ = some (.string ⟨#[97, 98, 99, 100, 101, 102, 103, 104, 105, 106]⟩) := cell_at s1 5
  refine bodyPost_ret (v := .agg #[.string K, .int .u64 (4294967296 + (cnt : Int)), .int .i64 o, .int .i64 0, .bool false, .string ⟨#[97, 98, 99, 100, 101, 102, 103, 104, 105, 106]⟩]) (by simp [results, Tryd.results21, go_sem, p0, p1, p2, p3, p4, p5]) rfl ?_
  exact ⟨by rw [HKK.out]; simp, HOA.out.tr s2 (fun i hi e => by omega)⟩
end Go.Proofs.YtianboachknfmaaDoor
