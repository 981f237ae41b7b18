/- record: Sent, Gone; the reference's Good, Data. -/
import Derived.Test.YtfmplmchpdmbmaaDoorRecordKeys
namespace Go.Proofs.YtfmplmchpdmbmaaDoor
open Go.Conc Go.RowKit

set_option maxRecDepth 100000 in
set_option maxHeartbeats 2000000 in
theorem sent_any (w : World) (key : ByteArray) (ver : Nat) (o age : Int) (gone : Bool) (data : ByteArray) (ha1 : -9223372036854775808 ≤ age) (ha2 : age ≤ 9223372036854775807) :
    Calls Tryd.prog 18 #[.agg #[.string key, .int .u64 ver, .int .i64 o, .int .i64 age, .bool gone, .string data]] w fun e w' => e = .returned (.agg #[.string key, .int .u64 ver, .int .i64 o, .int .i64 (min (max age 0) 65533 + 2), .bool gone, .string data]) ∧ Only (fun _ => False) w w' := by
  obtain ⟨W, hW⟩ : ∃ W, W = (w.alloc (.cells #[.string key, .int .u64 ver, .int .i64 o, .int .i64 age, .bool gone, .string data] 44)).alloc (.cells #[.string ⟨#[]⟩, .int .u64 0, .int .i64 0, .int .i64 0, .bool false, .string ⟨#[]⟩] 44) := ⟨_, rfl⟩
  obtain ⟨z1, z2⟩ := two_blocks w _ _ (w1 := W) (by rw [← hW]; exact Only.refl _ _)
  have hWo : Only (fun _ => False) w W := by rw [hW]; exact ((Only.refl _ _).alloc _).alloc _
  have hWs : W.heap.size = w.heap.size + 2 := by rw [hW]; simp
  have Z1 := Lib.hid z1
  have Z2 := Lib.hid z2
  clear z1 z2
  go_enter Tryd.func18, Tryd.ntmps18
  go_upto_region 1 with (fail)
  rw [← hW]
  have z1 := Z1.out
  have z2 := Z2.out
  have r0 : W.cell? ⟨w.heap.size, 0, none⟩ = some (.string key) := cell_at z1 0
  have r1 : W.cell? ⟨w.heap.size, 1, none⟩ = some (.int .u64 ver) := cell_at z1 1
  have r2 : W.cell? ⟨w.heap.size, 2, none⟩ = some (.int .i64 o) := cell_at z1 2
  have r3 : W.cell? ⟨w.heap.size, 3, none⟩ = some (.int .i64 age) := cell_at z1 3
  have r4 : W.cell? ⟨w.heap.size, 4, none⟩ = some (.bool gone) := cell_at z1 4
  have r5 : W.cell? ⟨w.heap.size, 5, none⟩ = some (.string data) := cell_at z1 5
  have rf : ∀ i, W.frozen? ⟨w.heap.size, i, none⟩ = false := free_at z1
  have c0 : W.cell? ⟨w.heap.size + 1, 0, none⟩ = some (.string ⟨#[]⟩) := cell_at z2 0
  have c1 : W.cell? ⟨w.heap.size + 1, 1, none⟩ = some (.int .u64 0) := cell_at z2 1
  have c2 : W.cell? ⟨w.heap.size + 1, 2, none⟩ = some (.int .i64 0) := cell_at z2 2
  have c3 : W.cell? ⟨w.heap.size + 1, 3, none⟩ = some (.int .i64 0) := cell_at z2 3
  have c4 : W.cell? ⟨w.heap.size + 1, 4, none⟩ = some (.bool false) := cell_at z2 4
  have c5 : W.cell? ⟨w.heap.size + 1, 5, none⟩ = some (.string ⟨#[]⟩) := cell_at z2 5
  have cf : ∀ i, W.frozen? ⟨w.heap.size + 1, i, none⟩ = false := free_at z2
  have hlt : w.heap.size + 1 < W.heap.size := by omega
  clear z1 z2 hW
  have hm1 : (0 : Int) ≤ max age 0 := by omega
  have hm2 : (0 : Int) ≤ min (max age 0) 65533 := by omega
  have hm3 : min (max age 0) 65533 ≤ (65533 : Int) := by omega
  go_wp2_with fail
  have o8 : Only (fun x => x = w.heap.size) W (W.setCell ⟨w.heap.size, 3, none⟩ (.int .i64 (min (max age 0) 65533 + 2))) := (Only.refl _ _).setCell (S := fun x => x = w.heap.size) (p := ⟨w.heap.size, 3, none⟩) (.inr rfl) _
  have X2 := Lib.hid (o8.old Z2.out (by omega))
  obtain ⟨s1, s2⟩ := six_set X2.out (.string key) (.int .u64 ver) (.int .i64 o) (.int .i64 (min (max age 0) 65533 + 2)) (.bool gone) (.string data)
  generalize (((((((W.setCell ⟨w.heap.size, 3, none⟩ (.int .i64 (min (max age 0) 65533 + 2))).setCell ⟨w.heap.size + 1, 0, none⟩ (.string key)).setCell ⟨w.heap.size + 1, 1, none⟩ (.int .u64 ver)).setCell ⟨w.heap.size + 1, 2, none⟩ (.int .i64 o)).setCell ⟨w.heap.size + 1, 3, none⟩ (.int .i64 (min (max age 0) 65533 + 2))).setCell ⟨w.heap.size + 1, 4, none⟩ (.bool gone)).setCell ⟨w.heap.size + 1, 5, none⟩ (.string data)) = wz at *
  have d0 : wz.cell? ⟨w.heap.size + 1, 0, none⟩ = some (.string key) := cell_at s1 0
  have d1 : wz.cell? ⟨w.heap.size + 1, 1, none⟩ = some (.int .u64 ver) := cell_at s1 1
  have d2 : wz.cell? ⟨w.heap.size + 1, 2, none⟩ = some (.int .i64 o) := cell_at s1 2
  have d3 : wz.cell? ⟨w.heap.size + 1, 3, none⟩ = some (.int .i64 (min (max age 0) 65533 + 2)) := cell_at s1 3
  have d4 : wz.cell? ⟨w.heap.size + 1, 4, none⟩ = some (.bool gone) := cell_at s1 4
  have d5 : wz.cell? ⟨w.heap.size + 1, 5, none⟩ = some (.string data) := cell_at s1 5
  refine bodyPost_ret (v := .agg #[.string key, .int .u64 ver, .int .i64 o, .int .i64 (min (max age 0) 65533 + 2), .bool gone, .string data]) (by simp [results, Tryd.results18, go_sem, d0, d1, d2, d3, d4, d5]) rfl ?_
  exact ⟨rfl, (hWo.tr o8 (fun i hi e => by omega)).tr s2 (fun i hi e => by omega)⟩

def goneV (o : Int) (name : ByteArray) (ver : Nat) : Value := if beginE o name ver = 0 then recV (keyS o name) ver o 0 true ⟨#[]⟩ else rec0
set_option maxRecDepth 100000 in
set_option maxHeartbeats 2000000 in
theorem gone_any (w : World) (o : Int) (ver : Nat) (name : ByteArray) (m : Int) (hm : w.cell? ⟨0, 0, none⟩ = some (.int .i64 m)) (hv : ver < 2 ^ 64) (hs : name.size ≤ maxLen) :
    Calls Tryd.prog 22 #[.int .i64 o, .int .u64 ver, .string name] w fun e w' => e = .returned (.tuple #[goneV o name ver, .int .i64 (beginE o name ver)]) ∧ Only (fun _ => False) w w' := by
  have HM := Lib.hid hm
  obtain ⟨W, hW⟩ : ∃ W, W = w.alloc (.cells #[.string ⟨#[]⟩, .int .u64 0, .int .i64 0, .int .i64 0, .bool false, .string ⟨#[]⟩] 44) := ⟨_, rfl⟩
  have z2 : W.heap[w.heap.size]? = some (.cells #[.string ⟨#[]⟩, .int .u64 0, .int .i64 0, .int .i64 0, .bool false, .string ⟨#[]⟩] 44 (0, 0)) := by rw [hW]; exact heap_alloc_new w _
  have hWo : Only (fun _ => False) w W := by rw [hW]; exact (Only.refl _ _).alloc _
  have hWs : W.heap.size = w.heap.size + 1 := by rw [hW]; simp
  have HMV := Lib.hid (show goneV o name ver = if beginE o name ver = 0 then recV (keyS o name) ver o 0 true ⟨#[]⟩ else rec0 from rfl)
  have HBV := Lib.hid (show beginV o name ver = if beginE o name ver = 0 then recV (keyS o name) ver o 0 false ⟨#[]⟩ else rec0 from rfl)
  have HBE := Lib.hid (begin_any W o ver name m (hWo.cell HM.out id) hv hs)
  have Z2 := Lib.hid z2
  clear hm z2
  go_enter Tryd.func22, Tryd.ntmps22
  go_wp2_with fail
  rw [← hW]
  refine HBE.out.mono ?_
  rintro e w1 ⟨rfl, ho1⟩
  have hs1 := ho1.size
  have hlt1 : w.heap.size < w1.heap.size := by omega
  have hn1 : ¬ (w.heap.size = w1.heap.size) := by omega
  have hn2 : ¬ (w1.heap.size = w.heap.size) := by omega
  have HO := Lib.hid (hWo.trans ho1)
  have Y2 := Lib.hid (ho1.old Z2.out id)
  clear hW ho1 hWo
  by_cases hE : beginE o name ver = 0
  · have hbv : beginV o name ver = .agg #[.string (keyS o name), .int .u64 ver, .int .i64 o, .int .i64 0, .bool false, .string ⟨#[]⟩] := by rw [HBV.out, if_pos hE]; rfl
    have hmv : goneV o name ver = recV (keyS o name) ver o 0 true ⟨#[]⟩ := by rw [HMV.out, if_pos hE]
    rw [hbv, hE]
    have HMV2 := Lib.hid hmv
    have HE := Lib.hid hE
    clear hmv hbv hE
    generalize keyS o name = K at *
    obtain ⟨W3, hW3⟩ : ∃ W3, W3 = w1.alloc (.cells #[.string K, .int .u64 ver, .int .i64 o, .int .i64 0, .bool false, .string ⟨#[]⟩] 44) := ⟨_, rfl⟩
    have v8 : W3.heap[w1.heap.size]? = some (.cells #[.string K, .int .u64 ver, .int .i64 o, .int .i64 0, .bool false, .string ⟨#[]⟩] 44 (0, 0)) := by rw [hW3]; exact heap_alloc_new w1 _
    have hWW : Only (fun _ => False) w1 W3 := by rw [hW3]; exact (Only.refl _ _).alloc _
    have v2 := hWW.old Y2.out id
    have hs3 := hWW.size
    have V2 := Lib.hid v2
    have V8 := Lib.hid v8
    have HWW := Lib.hid hWW
    clear v8 v2 hWW
    go_upto_region 2 with (fail)
    rw [← hW3]
    have v8 := V8.out
    have v2 := V2.out
    have e0 : W3.cell? ⟨w1.heap.size, 0, none⟩ = some (.string K) := cell_at v8 0
    have e1 : W3.cell? ⟨w1.heap.size, 1, none⟩ = some (.int .u64 ver) := cell_at v8 1
    have e2 : W3.cell? ⟨w1.heap.size, 2, none⟩ = some (.int .i64 o) := cell_at v8 2
    have e3 : W3.cell? ⟨w1.heap.size, 3, none⟩ = some (.int .i64 0) := cell_at v8 3
    have e4 : W3.cell? ⟨w1.heap.size, 4, none⟩ = some (.bool false) := cell_at v8 4
    have e5 : W3.cell? ⟨w1.heap.size, 5, none⟩ = some (.string ⟨#[]⟩) := cell_at v8 5
    have ef : ∀ i, W3.frozen? ⟨w1.heap.size, i, none⟩ = false := free_at v8
    have c0 : W3.cell? ⟨w.heap.size, 0, none⟩ = some (.string ⟨#[]⟩) := cell_at v2 0
    have c1 : W3.cell? ⟨w.heap.size, 1, none⟩ = some (.int .u64 0) := cell_at v2 1
    have c2 : W3.cell? ⟨w.heap.size, 2, none⟩ = some (.int .i64 0) := cell_at v2 2
    have c3 : W3.cell? ⟨w.heap.size, 3, none⟩ = some (.int .i64 0) := cell_at v2 3
    have c4 : W3.cell? ⟨w.heap.size, 4, none⟩ = some (.bool false) := cell_at v2 4
    have c5 : W3.cell? ⟨w.heap.size, 5, none⟩ = some (.string ⟨#[]⟩) := cell_at v2 5
    have cf : ∀ i, W3.frozen? ⟨w.heap.size, i, none⟩ = false := free_at v2
    clear v8 v2 hW3
    have hlt3 : w.heap.size < W3.heap.size := by omega
    have hlt4 : w1.heap.size < W3.heap.size := lt_of_block V8.out
    go_wp2_with fail
    have o8 : Only (fun x => x = w1.heap.size) W3 (W3.setCell ⟨w1.heap.size, 4, none⟩ (.bool true)) := (Only.refl _ _).setCell (S := fun x => x = w1.heap.size) (p := ⟨w1.heap.size, 4, none⟩) (.inr rfl) _
    have X2 := Lib.hid (o8.old V2.out hn1)
    obtain ⟨s1, s2⟩ := six_set X2.out (.string K) (.int .u64 ver) (.int .i64 o) (.int .i64 0) (.bool true) (.string ⟨#[]⟩)
    generalize (((((((W3.setCell ⟨w1.heap.size, 4, none⟩ (.bool true)).setCell ⟨w.heap.size, 0, none⟩ (.string K)).setCell ⟨w.heap.size, 1, none⟩ (.int .u64 ver)).setCell ⟨w.heap.size, 2, none⟩ (.int .i64 o)).setCell ⟨w.heap.size, 3, none⟩ (.int .i64 0)).setCell ⟨w.heap.size, 4, none⟩ (.bool true)).setCell ⟨w.heap.size, 5, none⟩ (.string ⟨#[]⟩)) = wz at *
    have d0 : wz.cell? ⟨w.heap.size, 0, none⟩ = some (.string K) := cell_at s1 0
    have d1 : wz.cell? ⟨w.heap.size, 1, none⟩ = some (.int .u64 ver) := cell_at s1 1
    have d2 : wz.cell? ⟨w.heap.size, 2, none⟩ = some (.int .i64 o) := cell_at s1 2
    have d3 : wz.cell? ⟨w.heap.size, 3, none⟩ = some (.int .i64 0) := cell_at s1 3
    have d4 : wz.cell? ⟨w.heap.size, 4, none⟩ = some (.bool true) := cell_at s1 4
    have d5 : wz.cell? ⟨w.heap.size, 5, none⟩ = some (.string ⟨#[]⟩) := cell_at s1 5
    refine bodyPost_ret (v := .tuple #[.agg #[.string K, .int .u64 ver, .int .i64 o, .int .i64 0, .bool true, .string ⟨#[]⟩], .int .i64 0]) (by simp [results, Tryd.results22, go_sem, d0, d1, d2, d3, d4, d5]) rfl ?_
    rw [HMV2.out, HE.out]
    exact ⟨rfl, ((HO.out.trans HWW.out).tr o8 (fun i hi e => by omega)).tr s2 (fun i hi e => by omega)⟩
  · have hbv : beginV o name ver = .agg #[.string ⟨#[]⟩, .int .u64 0, .int .i64 0, .int .i64 0, .bool false, .string ⟨#[]⟩] := by rw [HBV.out, if_neg hE]; rfl
    have hmv : goneV o name ver = rec0 := by rw [HMV.out, if_neg hE]
    have h0 : (beginE o name ver == 0) = false := by simp; exact hE
    rw [hbv]
    have HMV2 := Lib.hid hmv
    clear hmv hbv hE
    generalize hbe : beginE o name ver = E at *
    have HE := Lib.hid hbe
    clear hbe
    obtain ⟨W3, hW3⟩ : ∃ W3, W3 = w1.alloc (.cells #[.string ⟨#[]⟩, .int .u64 0, .int .i64 0, .int .i64 0, .bool false, .string ⟨#[]⟩] 44) := ⟨_, rfl⟩
    have v8 : W3.heap[w1.heap.size]? = some (.cells #[.string ⟨#[]⟩, .int .u64 0, .int .i64 0, .int .i64 0, .bool false, .string ⟨#[]⟩] 44 (0, 0)) := by rw [hW3]; exact heap_alloc_new w1 _
    have hWW : Only (fun _ => False) w1 W3 := by rw [hW3]; exact (Only.refl _ _).alloc _
    have v2 := hWW.old Y2.out id
    have hs3 := hWW.size
    have V2 := Lib.hid v2
    have V8 := Lib.hid v8
    have HWW := Lib.hid hWW
    clear v8 v2 hWW
    go_upto_region 2 with (fail)
    rw [← hW3]
    have v8 := V8.out
    have v2 := V2.out
    have e0 : W3.cell? ⟨w1.heap.size, 0, none⟩ = some (.string ⟨#[]⟩) := cell_at v8 0
    have e1 : W3.cell? ⟨w1.heap.size, 1, none⟩ = some (.int .u64 0) := cell_at v8 1
    have e2 : W3.cell? ⟨w1.heap.size, 2, none⟩ = some (.int .i64 0) := cell_at v8 2
    have e3 : W3.cell? ⟨w1.heap.size, 3, none⟩ = some (.int .i64 0) := cell_at v8 3
    have e4 : W3.cell? ⟨w1.heap.size, 4, none⟩ = some (.bool false) := cell_at v8 4
    have e5 : W3.cell? ⟨w1.heap.size, 5, none⟩ = some (.string ⟨#[]⟩) := cell_at v8 5
    have ef : ∀ i, W3.frozen? ⟨w1.heap.size, i, none⟩ = false := free_at v8
    have c0 : W3.cell? ⟨w.heap.size, 0, none⟩ = some (.string ⟨#[]⟩) := cell_at v2 0
    have c1 : W3.cell? ⟨w.heap.size, 1, none⟩ = some (.int .u64 0) := cell_at v2 1
    have c2 : W3.cell? ⟨w.heap.size, 2, none⟩ = some (.int .i64 0) := cell_at v2 2
    have c3 : W3.cell? ⟨w.heap.size, 3, none⟩ = some (.int .i64 0) := cell_at v2 3
    have c4 : W3.cell? ⟨w.heap.size, 4, none⟩ = some (.bool false) := cell_at v2 4
    have c5 : W3.cell? ⟨w.heap.size, 5, none⟩ = some (.string ⟨#[]⟩) := cell_at v2 5
    have cf : ∀ i, W3.frozen? ⟨w.heap.size, i, none⟩ = false := free_at v2
    clear v8 v2 hW3
    have hlt3 : w.heap.size < W3.heap.size := by omega
    have hlt4 : w1.heap.size < W3.heap.size := lt_of_block V8.out
    go_wp2_with fail
    have o8 : Only (fun x => x = w1.heap.size) W3 (W3.setCell ⟨w1.heap.size, 4, none⟩ (.bool false)) := (Only.refl _ _).setCell (S := fun x => x = w1.heap.size) (p := ⟨w1.heap.size, 4, none⟩) (.inr rfl) _
    have X2 := Lib.hid (o8.old V2.out hn1)
    obtain ⟨s1, s2⟩ := six_set X2.out (.string ⟨#[]⟩) (.int .u64 0) (.int .i64 0) (.int .i64 0) (.bool false) (.string ⟨#[]⟩)
    generalize (((((((W3.setCell ⟨w1.heap.size, 4, none⟩ (.bool false)).setCell ⟨w.heap.size, 0, none⟩ (.string ⟨#[]⟩)).setCell ⟨w.heap.size, 1, none⟩ (.int .u64 0)).setCell ⟨w.heap.size, 2, none⟩ (.int .i64 0)).setCell ⟨w.heap.size, 3, none⟩ (.int .i64 0)).setCell ⟨w.heap.size, 4, none⟩ (.bool false)).setCell ⟨w.heap.size, 5, none⟩ (.string ⟨#[]⟩)) = wz at *
    have d0 : wz.cell? ⟨w.heap.size, 0, none⟩ = some (.string ⟨#[]⟩) := cell_at s1 0
    have d1 : wz.cell? ⟨w.heap.size, 1, none⟩ = some (.int .u64 0) := cell_at s1 1
    have d2 : wz.cell? ⟨w.heap.size, 2, none⟩ = some (.int .i64 0) := cell_at s1 2
    have d3 : wz.cell? ⟨w.heap.size, 3, none⟩ = some (.int .i64 0) := cell_at s1 3
    have d4 : wz.cell? ⟨w.heap.size, 4, none⟩ = some (.bool false) := cell_at s1 4
    have d5 : wz.cell? ⟨w.heap.size, 5, none⟩ = some (.string ⟨#[]⟩) := cell_at s1 5
    refine bodyPost_ret (v := .tuple #[.agg #[.string ⟨#[]⟩, .int .u64 0, .int .i64 0, .int .i64 0, .bool false, .string ⟨#[]⟩], .int .i64 E]) (by simp [results, Tryd.results22, go_sem, d0, d1, d2, d3, d4, d5]) rfl ?_
    rw [HMV2.out, HE.out]
    exact ⟨rfl, ((HO.out.trans HWW.out).tr o8 (fun i hi e => by omega)).tr s2 (fun i hi e => by omega)⟩
end Go.Proofs.YtfmplmchpdmbmaaDoor
