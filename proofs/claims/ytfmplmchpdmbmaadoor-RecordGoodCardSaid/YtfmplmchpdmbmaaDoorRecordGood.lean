/- The walk of bellhoplaw14.RecordGood. -/
import Derived.Test.YtfmplmchpdmbmaaDoorRec15
import Derived.Test.YtfmplmchpdmbmaaDoorRec11
import Derived.BigQuiet
import Derived.Deep.RegionHeld3
namespace Go.Proofs.YtfmplmchpdmbmaaDoor
open Go.Conc Go.RowKit

theorem tell_cases (key : ByteArray) (ver : Nat) (o age : Int) (gone : Bool) (data : ByteArray) : ∃ (nm : ByteArray) (a0 a1 a2 a3 p q r : Nat), tellV key ver o age gone data = svcV nm a0 a1 a2 a3 p q r ∧ p < 65536 ∧ q < 65536 ∧ r < 65536 ∧
    (goodP key ver o age gone data = true → gone = false → nm = key.extract 2 key.size ∧ 2 ≤ key.size ∧ refD a0 a1 a2 a3 p q r = data) ∧ ((goodP key ver o age gone data && !gone) = false → nm = ⟨#[]⟩ ∧ a0 = 0 ∧ a1 = 0 ∧ a2 = 0 ∧ a3 = 0 ∧ p = 0 ∧ q = 0 ∧ r = 0) := by
  unfold tellV
  cases h : goodP key ver o age gone data && !gone with
  | true =>
    rw [if_pos rfl]
    have h4 := bA_lt data 4
    have h5 := bA_lt data 5
    have h6 := bA_lt data 6
    have h7 := bA_lt data 7
    have h8 := bA_lt data 8
    have h9 := bA_lt data 9
    refine ⟨_, _, _, _, _, _, _, _, rfl, by omega, by omega, by omega, fun hg hn => ?_, fun h => by cases h⟩
    rw [good_form, decide_eq_true_iff] at hg
    obtain ⟨g1, g2, _, _, _, g3⟩ := hg
    rw [hn] at g3
    have h2 := (split_origin key).1 (by omega)
    exact ⟨rfl, h2.2.2.2, refD_told data g3⟩
  | false =>
    rw [if_neg (by simp)]
    refine ⟨_, _, _, _, _, _, _, _, rfl, by omega, by omega, by omega, fun hg hn => ?_, fun h => ⟨rfl, rfl, rfl, rfl, rfl, rfl, rfl, rfl⟩⟩
    rw [hg, hn] at h
    cases h
set_option maxRecDepth 100000 in
set_option maxHeartbeats 4000000 in
theorem recordGood_any (w : World) (m0 : Int) (hm : w.cell? ⟨0, 0, none⟩ = some (.int .i64 m0)) (t0 t1 : ByteArray) (ver : Nat) (x0 x1 x2 : Int) (ht0 : t0.size ≤ maxLen) (ht1 : t1.size ≤ maxLen) (hv : ver < 2 ^ 64) (_ : (Lit.int .i64 x0).wf = true) (hx1 : (Lit.int .i64 x1).wf = true) (_ : (Lit.int .i64 x2).wf = true) :
    Calls Tryd.prog 5 #[.agg #[.string t0, .string t1], .int .u64 ver, .agg #[.int .i64 x0, .int .i64 x1, .int .i64 x2]] w fun e w' => e = .returned (.bool true) ∧ Only (fun _ => False) w w' := by
  have HM := Lib.hid hm
  have HV := Lib.hid hv
  have HX1 := Lib.hid hx1
  obtain ⟨W, hW⟩ : ∃ W, W = (w.alloc (.cells #[.string t0, .string t1] 39)).alloc (.cells #[.int .i64 x0, .int .i64 x1, .int .i64 x2] 40) := ⟨_, rfl⟩
  obtain ⟨z1, z2⟩ := two_blocks w _ _ (w1 := W) (by rw [← hW]; exact Only.refl _ _)
  have hWo : Only (fun _ => False) w W := by rw [hW]; exact ((Only.refl _ _).alloc _).alloc _
  have HSP := Lib.hid (speaks_any W m0 (hWo.cell HM.out id))
  have Z1 := Lib.hid z1
  have Z2 := Lib.hid z2
  clear hm hv z1 z2 hx1
  unfold maxLen at ht0 ht1
  go_enter Tryd.func5, Tryd.ntmps5
  go_wp2_with fail
  rw [← hW]
  refine HSP.out.mono ?_
  rintro e w1 ⟨rfl, ho1⟩
  have y1 := ho1.old Z1.out id
  have y2 := ho1.old Z2.out id
  have c0 : w1.cell? ⟨w.heap.size, 0, none⟩ = some (.string t0) := cell_at y1 0
  have c1 : w1.cell? ⟨w.heap.size, 1, none⟩ = some (.string t1) := cell_at y1 1
  have d0 : w1.cell? ⟨w.heap.size + 1, 0, none⟩ = some (.int .i64 x0) := cell_at y2 0
  have d1 : w1.cell? ⟨w.heap.size + 1, 1, none⟩ = some (.int .i64 x1) := cell_at y2 1
  have d2 : w1.cell? ⟨w.heap.size + 1, 2, none⟩ = some (.int .i64 x2) := cell_at y2 2
  have hlt1 : w.heap.size + 1 < w1.heap.size := lt_of_block y2
  have HO := Lib.hid (hWo.trans ho1)
  have HY2 := Lib.hid y2
  clear hWo hW ho1 y1 y2
  have hA1 : (0 : Int) ≤ min (t0.size : Int) 70 := by omega
  have hA2 : min (t0.size : Int) 70 ≤ (t0.size : Int) := by omega
  have hB1 : (0 : Int) ≤ min (t1.size : Int) 12 := by omega
  have hB2 : min (t1.size : Int) 12 ≤ (t1.size : Int) := by omega
  have hAs : (t0.extract 0 (min (t0.size : Int) 70).toNat).size ≤ 70 := by rw [ByteArray.size_extract]; omega
  have hBs : (t1.extract 0 (min (t1.size : Int) 12).toNat).size ≤ 12 := by rw [ByteArray.size_extract]; omega
  generalize hA : t0.extract 0 (min (t0.size : Int) 70).toNat = key at hAs
  generalize hB : t1.extract 0 (min (t1.size : Int) 12).toNat = data at hBs
  generalize hG : (bits BinOp.and IntKind.i64 x2 1 == 1) = gone
  go_upto_region 3 with (fail)
  go_quiet (fail)
  clear hA hB hG hA1 hA2 hB1 hB2 c0 c1
  obtain ⟨wz, hwz⟩ : ∃ wz, wz = w1.drewN nq := ⟨_, rfl⟩
  have hwo : Only (fun _ => False) w1 wz := by rw [hwz]; exact (Only.refl (fun _ => False) w1).drewN _
  rw [← hwz]
  have y2 := hwo.old HY2.out id
  have d0 : wz.cell? ⟨w.heap.size + 1, 0, none⟩ = some (.int .i64 x0) := cell_at y2 0
  have d1 : wz.cell? ⟨w.heap.size + 1, 1, none⟩ = some (.int .i64 x1) := cell_at y2 1
  have hlt : w.heap.size + 1 < wz.heap.size := lt_of_block y2
  have HOZ := Lib.hid (HO.out.trans hwo)
  have HYZ := Lib.hid y2
  clear hwo hwz y2 HO HY2 hlt1
  generalize w.heap.size + 1 = B at *
  have hne : ¬ (B = wz.heap.size) := by omega
  have hne2 : ¬ (wz.heap.size = B) := by omega
  go_wp2_with fail
  obtain ⟨W2, hW2⟩ : ∃ W2, W2 = wz.alloc (.cells #[.string key, .int .u64 ver, .int .i64 x0, .int .i64 x1, .bool gone, .string data] 44) := ⟨_, rfl⟩
  have hr : W2.heap[wz.heap.size]? = some (.cells #[.string key, .int .u64 ver, .int .i64 x0, .int .i64 x1, .bool gone, .string data] 44 (0, 0)) := by rw [hW2]; exact heap_alloc_new wz _
  have hWo2 : Only (fun _ => False) wz W2 := by rw [hW2]; exact (Only.refl _ _).alloc _
  rw [← hW2]
  refine (rgood_any W2 key ver x0 x1 gone data (by unfold maxLen; omega)).mono ?_
  rintro e w3 ⟨rfl, ho3⟩
  have hlt2 : wz.heap.size < W2.heap.size := lt_of_block hr
  have y4 := (hWo2.trans ho3).old HYZ.out id
  have y3 := ho3.old hr id
  have HR := Lib.hid y3
  have HY3 := Lib.hid y4
  have HO3 := Lib.hid ((HOZ.out.trans hWo2).trans ho3)
  have hBR : ¬ (B = wz.heap.size) := by omega
  have hRB : ¬ (wz.heap.size = B) := by omega
  clear hW2 hWo2 hr ho3 y4 hlt2 d0 d1 d2 hne hne2 hlt HOZ HYZ
  generalize wz.heap.size = R at *
  have c0 : w3.cell? ⟨R, 0, none⟩ = some (.string key) := cell_at y3 0
  have c1 : w3.cell? ⟨R, 1, none⟩ = some (.int .u64 ver) := cell_at y3 1
  have c2 : w3.cell? ⟨R, 2, none⟩ = some (.int .i64 x0) := cell_at y3 2
  have c3 : w3.cell? ⟨R, 3, none⟩ = some (.int .i64 x1) := cell_at y3 3
  have c4 : w3.cell? ⟨R, 4, none⟩ = some (.bool gone) := cell_at y3 4
  have c5 : w3.cell? ⟨R, 5, none⟩ = some (.string data) := cell_at y3 5
  have hlt3 : R < w3.heap.size := lt_of_block y3
  clear y3
  obtain ⟨nm, a0, a1, a2, a3, p, q, r, hT, hp, hq, hr, hg1, hg2⟩ := tell_cases key ver x0 x1 gone data
  have HTL := Lib.hid (tell_any w3 key ver x0 x1 gone data m0 (HO3.out.cell HM.out id) HV.out (by omega))
  rw [hT] at HTL
  have HTE := Lib.hid (show tellE key ver x0 x1 gone data = if goodP key ver x0 x1 gone data = false then 4 else if gone then 6 else 0 from rfl)
  have HGA := Lib.hid (fun (w : World) (hm : w.cell? ⟨0, 0, none⟩ = some (.int .i64 m0)) => good_any w key ver x0 x1 gone data m0 hm HV.out (by omega))
  have HG1 := Lib.hid hg1
  have HG2 := Lib.hid hg2
  have HPQ := Lib.hid (And.intro hp (And.intro hq hr))
  unfold svcV at HTL
  clear hT hg1 hg2 hp hq hr
  generalize tellE key ver x0 x1 gone data = E at *
  generalize goodP key ver x0 x1 gone data = G at *
  go_wp2_with fail
  refine HTL.out.mono ?_
  rintro e w4 ⟨rfl, ho4⟩
  have y5 := ho4.old HR.out id
  have y6 := ho4.old HY3.out id
  have HO4 := Lib.hid (HO3.out.trans ho4)
  have HR4 := Lib.hid y5
  have HY4 := Lib.hid y6
  have hlt4 : R < w4.heap.size := lt_of_block y5
  clear c0 c1 c2 c3 c4 c5 hlt3 ho4 HTL HR HY3 HO3
  have c0 : w4.cell? ⟨R, 0, none⟩ = some (.string key) := cell_at y5 0
  have c1 : w4.cell? ⟨R, 1, none⟩ = some (.int .u64 ver) := cell_at y5 1
  have c2 : w4.cell? ⟨R, 2, none⟩ = some (.int .i64 x0) := cell_at y5 2
  have c3 : w4.cell? ⟨R, 3, none⟩ = some (.int .i64 x1) := cell_at y5 3
  have c4 : w4.cell? ⟨R, 4, none⟩ = some (.bool gone) := cell_at y5 4
  have c5 : w4.cell? ⟨R, 5, none⟩ = some (.string data) := cell_at y5 5
  have hne : ¬ (R = w4.heap.size) := by omega
  have hne2 : ¬ (w4.heap.size = R) := by omega
  clear y5 y6
  go_wp2_with fail
  have hx := HX1.out
  simp [Lit.wf, IntKind.min, IntKind.max, IntKind.signed, IntKind.bits] at hx
  obtain ⟨W5, hW5⟩ : ∃ W5, W5 = w4.alloc (.cells #[.string nm, .int .u8 (a0 : Nat), .int .u8 (a1 : Nat), .int .u8 (a2 : Nat), .int .u8 (a3 : Nat), .int .u16 (p : Nat), .int .u16 (q : Nat), .int .u16 (r : Nat)] 49) := ⟨_, rfl⟩
  have hv5 : W5.heap[w4.heap.size]? = some (.cells #[.string nm, .int .u8 (a0 : Nat), .int .u8 (a1 : Nat), .int .u8 (a2 : Nat), .int .u8 (a3 : Nat), .int .u16 (p : Nat), .int .u16 (q : Nat), .int .u16 (r : Nat)] 49 (0, 0)) := by rw [hW5]; exact heap_alloc_new w4 _
  have hWo5 : Only (fun _ => False) w4 W5 := by rw [hW5]; exact (Only.refl _ _).alloc _
  rw [← hW5]
  refine (sent_any W5 key ver x0 x1 gone data (by omega) (by omega)).mono ?_
  rintro e w6 ⟨rfl, ho6⟩
  obtain ⟨ag, hag⟩ : ∃ ag, ag = min (max x1 0) 65533 + 2 := ⟨_, rfl⟩
  rw [← hag]
  have b6 := (hWo5.trans ho6).old HY4.out id
  have r6 := (hWo5.trans ho6).old HR4.out id
  have s6 := ho6.old hv5 id
  have HO6 := Lib.hid ((HO4.out.trans hWo5).trans ho6)
  have hRV : ¬ (R = w4.heap.size) := hne
  have hBV : ¬ (B = w4.heap.size) := by have := lt_of_block HY4.out; omega
  have HD1 := Lib.hid (And.intro hRV hBV)
  have HB6 := Lib.hid b6
  have HR6 := Lib.hid r6
  have HS6 := Lib.hid s6
  have HAG := Lib.hid hag
  have HXX := Lib.hid hx
  clear hW5 hv5 hWo5 ho6 b6 r6 s6 hne hne2 hlt4 hRV hBV HO4 HR4 HY4 hag hx c0 c1 c2 c3 c4 c5
  generalize w4.heap.size = V at *
  go_upto_region 8 with (fail)
  obtain ⟨W7, hW7⟩ : ∃ W7, W7 = w6.alloc (.cells #[.string key, .int .u64 ver, .int .i64 x0, .int .i64 ag, .bool gone, .string data] 44) := ⟨_, rfl⟩
  have y7 : W7.heap[w6.heap.size]? = some (.cells #[.string key, .int .u64 ver, .int .i64 x0, .int .i64 ag, .bool gone, .string data] 44 (0, 0)) := by rw [hW7]; exact heap_alloc_new w6 _
  have hWo7 : Only (fun _ => False) w6 W7 := by rw [hW7]; exact (Only.refl _ _).alloc _
  rw [← hW7]
  have b7 := hWo7.old HB6.out id
  have r7 := hWo7.old HR6.out id
  have s7 := hWo7.old HS6.out id
  have HO7 := Lib.hid (HO6.out.trans hWo7)
  have hYB : ¬ (w6.heap.size = B) := by have := lt_of_block HB6.out; omega
  have hYR : ¬ (w6.heap.size = R) := by have := lt_of_block HR6.out; omega
  have hYV : ¬ (w6.heap.size = V) := by have := lt_of_block HS6.out; omega
  have HD2 := Lib.hid (And.intro hYB (And.intro hYR hYV))
  have HB7 := Lib.hid b7
  have HR7 := Lib.hid r7
  have HS7 := Lib.hid s7
  have HY7 := Lib.hid y7
  have HYW := Lib.hid HO6.out.size
  clear hW7 hWo7 hYB hYR hYV HO6 HB6 HR6 HS6
  generalize w6.heap.size = Y at *
  have d1 : W7.cell? ⟨B, 1, none⟩ = some (.int .i64 x1) := cell_at b7 1
  clear b7 r7 s7 y7
  go_upto_if 64 with (fail)
  go_cut [15] (fun v15 wx => v15 = .int .i64 ag ∧ W7 = wx)
  case first =>
    have hcase : (65533 ≤ x1 ∧ ag = 65535) ∨ ((x1 < 65533 ∧ 0 < x1) ∧ ag = x1 + 2) ∨ (x1 ≤ 0 ∧ ag = 2) := by have := HAG.out; omega
    rcases hcase with ⟨h1, h2⟩ | ⟨⟨h1, h1'⟩, h2⟩ | ⟨h1, h2⟩
    · have k1 : decide ((65533 : Int) ≤ x1) = true := decide_eq_true h1
      go_wp2_with fail
      go_meet
      exact ⟨by rw [h2], rfl⟩
    · have k1 : decide ((65533 : Int) ≤ x1) = false := decide_eq_false (by omega)
      have k2 : decide ((0 : Int) < x1) = true := decide_eq_true h1'
      have k3 : IntKind.i64.wrap (x1 + 2) = x1 + 2 := IntWalk.i64_in _ (by have := HXX.out; omega)
      go_wp2_with fail
      go_meet
      exact ⟨by rw [h2], rfl⟩
    · have k1 : decide ((65533 : Int) ≤ x1) = false := decide_eq_false (by omega)
      have k2 : decide ((0 : Int) < x1) = false := decide_eq_false (by omega)
      go_wp2_with fail
      go_meet
      exact ⟨by rw [h2], rfl⟩
  case rest =>
  obtain ⟨rfl, rfl⟩ := hcut
  clear d1
  have r7 := HR7.out
  have b0 : W7.cell? ⟨R, 0, none⟩ = some (.string key) := cell_at r7 0
  have b1 : W7.cell? ⟨R, 1, none⟩ = some (.int .u64 ver) := cell_at r7 1
  have b2 : W7.cell? ⟨R, 2, none⟩ = some (.int .i64 x0) := cell_at r7 2
  have b3 : W7.cell? ⟨R, 3, none⟩ = some (.int .i64 x1) := cell_at r7 3
  have b4 : W7.cell? ⟨R, 4, none⟩ = some (.bool gone) := cell_at r7 4
  have b5 : W7.cell? ⟨R, 5, none⟩ = some (.string data) := cell_at r7 5
  clear r7
  go_wp2_with fail
  refine (HGA.out W7 (HO7.out.cell HM.out id)).mono ?_
  rintro e w8 ⟨rfl, ho8⟩
  have r8 := ho8.old HR7.out id
  have s8 := ho8.old HS7.out id
  have y8 := ho8.old HY7.out id
  have HO8 := Lib.hid (HO7.out.trans ho8)
  have HR8 := Lib.hid r8
  have HS8 := Lib.hid s8
  have HY8 := Lib.hid y8
  have c3 : w8.cell? ⟨R, 3, none⟩ = some (.int .i64 x1) := cell_at r8 3
  have e3 : w8.cell? ⟨Y, 3, none⟩ = some (.int .i64 ag) := cell_at y8 3
  have ef : ∀ i, w8.frozen? ⟨Y, i, none⟩ = false := free_at y8
  clear b0 b1 b2 b3 b4 b5 ho8 r8 s8 y8 HO7 HB7 HR7 HS7 HY7
  go_upto_region 16 with (fail)
  obtain ⟨W9, hW9⟩ : ∃ W9, W9 = w8.setCell ⟨Y, 3, none⟩ (.int .i64 x1) := ⟨_, rfl⟩
  have t9 : W9.heap[Y]? = some (.cells #[.string key, .int .u64 ver, .int .i64 x0, .int .i64 x1, .bool gone, .string data] 44 (0, 0)) := by rw [hW9]; exact set_at HY8.out 3 _
  have n9 : Only (fun k => k = Y) w8 W9 := by rw [hW9]; exact (Only.refl _ _).setCell (S := fun x => x = Y) (p := ⟨Y, 3, none⟩) (.inr rfl) _
  have r9 := n9.old HR8.out (fun e => HD2.out.2.1 e.symm)
  have s9 := n9.old HS8.out (fun e => HD2.out.2.2 e.symm)
  have HO9 := Lib.hid (HO8.out.tr n9 (fun k hk e => absurd hk (by have := HYW.out; omega)))
  have HS9 := Lib.hid s9
  rw [← hW9]
  clear hW9 n9 s9 c3 e3 ef HO8 HR8 HS8 HY8
  have y0 : W9.cell? ⟨Y, 0, none⟩ = some (.string key) := cell_at t9 0
  have y1 : W9.cell? ⟨Y, 1, none⟩ = some (.int .u64 ver) := cell_at t9 1
  have y2 : W9.cell? ⟨Y, 2, none⟩ = some (.int .i64 x0) := cell_at t9 2
  have y3 : W9.cell? ⟨Y, 3, none⟩ = some (.int .i64 x1) := cell_at t9 3
  have y4 : W9.cell? ⟨Y, 4, none⟩ = some (.bool gone) := cell_at t9 4
  have y5 : W9.cell? ⟨Y, 5, none⟩ = some (.string data) := cell_at t9 5
  have r0 : W9.cell? ⟨R, 0, none⟩ = some (.string key) := cell_at r9 0
  have r1 : W9.cell? ⟨R, 1, none⟩ = some (.int .u64 ver) := cell_at r9 1
  have r2 : W9.cell? ⟨R, 2, none⟩ = some (.int .i64 x0) := cell_at r9 2
  have r3 : W9.cell? ⟨R, 3, none⟩ = some (.int .i64 x1) := cell_at r9 3
  have r4 : W9.cell? ⟨R, 4, none⟩ = some (.bool gone) := cell_at r9 4
  have r5 : W9.cell? ⟨R, 5, none⟩ = some (.string data) := cell_at r9 5
  clear t9 r9
  have hne := neR
  cases G with
  | false =>
    have hE := HTE.out
    rw [if_pos rfl] at hE
    subst hE
    obtain ⟨rfl, rfl, rfl, rfl, rfl, rfl, rfl, rfl⟩ := HG2.out rfl
    have s9 := HS9.out
    have z0 : W9.cell? ⟨V, 0, none⟩ = some (.string ⟨#[]⟩) := cell_at s9 0
    have z1 : W9.cell? ⟨V, 1, none⟩ = some (.int .u8 0) := cell_at s9 1
    have z2 : W9.cell? ⟨V, 2, none⟩ = some (.int .u8 0) := cell_at s9 2
    have z3 : W9.cell? ⟨V, 3, none⟩ = some (.int .u8 0) := cell_at s9 3
    have z4 : W9.cell? ⟨V, 4, none⟩ = some (.int .u8 0) := cell_at s9 4
    have z5 : W9.cell? ⟨V, 5, none⟩ = some (.int .u16 0) := cell_at s9 5
    have z6 : W9.cell? ⟨V, 6, none⟩ = some (.int .u16 0) := cell_at s9 6
    have z7 : W9.cell? ⟨V, 7, none⟩ = some (.int .u16 0) := cell_at s9 7
    clear s9
    have heq := eqS0
    go_wp2_with fail
    go_ret
    exact ⟨rfl, HO9.out⟩
  | true =>
    have hE := HTE.out
    rw [if_neg (by decide)] at hE
    cases gone with
    | true =>
      rw [if_pos rfl] at hE
      subst hE
      obtain ⟨rfl, rfl, rfl, rfl, rfl, rfl, rfl, rfl⟩ := HG2.out rfl
      have s9 := HS9.out
      have z0 : W9.cell? ⟨V, 0, none⟩ = some (.string ⟨#[]⟩) := cell_at s9 0
      have z1 : W9.cell? ⟨V, 1, none⟩ = some (.int .u8 0) := cell_at s9 1
      have z2 : W9.cell? ⟨V, 2, none⟩ = some (.int .u8 0) := cell_at s9 2
      have z3 : W9.cell? ⟨V, 3, none⟩ = some (.int .u8 0) := cell_at s9 3
      have z4 : W9.cell? ⟨V, 4, none⟩ = some (.int .u8 0) := cell_at s9 4
      have z5 : W9.cell? ⟨V, 5, none⟩ = some (.int .u16 0) := cell_at s9 5
      have z6 : W9.cell? ⟨V, 6, none⟩ = some (.int .u16 0) := cell_at s9 6
      have z7 : W9.cell? ⟨V, 7, none⟩ = some (.int .u16 0) := cell_at s9 7
      clear s9
      have heq := eqS0
      go_wp2_with fail
      go_ret
      exact ⟨rfl, HO9.out⟩
    | false =>
      rw [if_neg (by decide)] at hE
      subst hE
      obtain ⟨rfl, h2, hD⟩ := HG1.out rfl rfl
      have h2' : (2 : Int) ≤ (key.size : Int) := by omega
      have s9 := HS9.out
      have v0 : W9.cell? ⟨V, 0, none⟩ = some (.string (key.extract 2 key.size)) := cell_at s9 0
      have v1 : W9.cell? ⟨V, 1, none⟩ = some (.int .u8 (a0 : Nat)) := cell_at s9 1
      have v2 : W9.cell? ⟨V, 2, none⟩ = some (.int .u8 (a1 : Nat)) := cell_at s9 2
      have v3 : W9.cell? ⟨V, 3, none⟩ = some (.int .u8 (a2 : Nat)) := cell_at s9 3
      have v4 : W9.cell? ⟨V, 4, none⟩ = some (.int .u8 (a3 : Nat)) := cell_at s9 4
      have v5 : W9.cell? ⟨V, 5, none⟩ = some (.int .u16 (p : Nat)) := cell_at s9 5
      have v6 : W9.cell? ⟨V, 6, none⟩ = some (.int .u16 (q : Nat)) := cell_at s9 6
      have v7 : W9.cell? ⟨V, 7, none⟩ = some (.int .u16 (r : Nat)) := cell_at s9 7
      clear s9 h2
      have hrd := fun (w : World) => rdata_any w a0 a1 a2 a3 p q r HPQ.out.1 HPQ.out.2.1 HPQ.out.2.2
      rw [hD] at hrd
      have HRD := Lib.hid hrd
      have HD := Lib.hid hD
      clear hrd hD
      go_upto_region 22 with (fail)
      go_region_held3 (fun w' => w'.cell? ⟨V, 0, none⟩ = some (.string (key.extract 2 key.size)) ∧ w'.cell? ⟨V, 1, none⟩ = some (.int .u8 (a0 : Nat)) ∧ w'.cell? ⟨V, 2, none⟩ = some (.int .u8 (a1 : Nat)) ∧ w'.cell? ⟨V, 3, none⟩ = some (.int .u8 (a2 : Nat)) ∧ w'.cell? ⟨V, 4, none⟩ = some (.int .u8 (a3 : Nat)) ∧ w'.cell? ⟨V, 5, none⟩ = some (.int .u16 (p : Nat)) ∧ w'.cell? ⟨V, 6, none⟩ = some (.int .u16 (q : Nat)) ∧ w'.cell? ⟨V, 7, none⟩ = some (.int .u16 (r : Nat))) (refine ⟨?_, ?_, ?_, ?_, ?_, ?_, ?_, ?_⟩ <;> (first | assumption | (apply keepD; assumption) | exact Only.cell (by assumption) (by assumption) id))
        (first | (go_at_call 20; (with_reducible refine (HRD.out _).mono ?_); rintro e w2 ⟨rfl, hd2⟩))
      all_goals
        go_wp2_with fail
        go_ret
        exact ⟨rfl, Only.trans HO9.out.drew (by assumption)⟩
end Go.Proofs.YtfmplmchpdmbmaaDoor
