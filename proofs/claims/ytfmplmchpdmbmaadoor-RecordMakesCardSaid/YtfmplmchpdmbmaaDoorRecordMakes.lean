/- The walk of bellhoplaw14.RecordMakes. -/
import Derived.Test.YtfmplmchpdmbmaaDoorRec16
import Derived.BigQuiet
import Derived.Deep.RegionHeld3
namespace Go.Proofs.YtfmplmchpdmbmaaDoor
open Go.Conc Go.RowKit

set_option maxRecDepth 100000 in
set_option maxHeartbeats 4000000 in
theorem recordMakes_any (w : World) (m0 : Int) (hm : w.cell? ⟨0, 0, none⟩ = some (.int .i64 m0)) (o : Int) (ver : Nat) (nm : ByteArray) (a0 a1 a2 a3 p q r : Nat) (_ : (Lit.int .i64 o).wf = true) (hv : ver < 2 ^ 64) (hnm : nm.size ≤ maxLen) (h0 : a0 < 256) (h1 : a1 < 256) (h2 : a2 < 256) (h3 : a3 < 256) (hp : p < 65536) (hq : q < 65536) (hr : r < 65536) :
    Calls Tryd.prog 6 #[.int .i64 o, .int .u64 ver, .agg #[.string nm, .int .u8 (a0 : Nat), .int .u8 (a1 : Nat), .int .u8 (a2 : Nat), .int .u8 (a3 : Nat), .int .u16 (p : Nat), .int .u16 (q : Nat), .int .u16 (r : Nat)]] w fun e w' => e = .returned (.bool true) ∧ Only (fun _ => False) w w' := by
  have HM := Lib.hid hm
  have HV := Lib.hid hv
  have HAB := Lib.hid (And.intro h0 (And.intro h1 (And.intro h2 (And.intro h3 (And.intro hp (And.intro hq hr))))))
  obtain ⟨W, hW⟩ : ∃ W, W = w.alloc (.cells #[.string nm, .int .u8 (a0 : Nat), .int .u8 (a1 : Nat), .int .u8 (a2 : Nat), .int .u8 (a3 : Nat), .int .u16 (p : Nat), .int .u16 (q : Nat), .int .u16 (r : Nat)] 56) := ⟨_, rfl⟩
  have z1 : W.heap[w.heap.size]? = some (.cells #[.string nm, .int .u8 (a0 : Nat), .int .u8 (a1 : Nat), .int .u8 (a2 : Nat), .int .u8 (a3 : Nat), .int .u16 (p : Nat), .int .u16 (q : Nat), .int .u16 (r : Nat)] 56 (0, 0)) := by rw [hW]; exact heap_alloc_new w _
  have hWo : Only (fun _ => False) w W := by rw [hW]; exact (Only.refl _ _).alloc _
  have HSP := Lib.hid (speaks_any W m0 (hWo.cell HM.out id))
  have Z1 := Lib.hid z1
  clear hm hv z1 h0 h1 h2 h3 hp hq hr
  unfold maxLen at hnm
  go_enter Tryd.func6, Tryd.ntmps6
  go_wp2_with fail
  rw [← hW]
  refine HSP.out.mono ?_
  rintro e w1 ⟨rfl, ho1⟩
  have y1 := ho1.old Z1.out id
  have HO := Lib.hid (hWo.trans ho1)
  have HY1 := Lib.hid y1
  have b0 : w1.cell? ⟨w.heap.size, 0, none⟩ = some (.string nm) := cell_at y1 0
  have bf : ∀ i, w1.frozen? ⟨w.heap.size, i, none⟩ = false := free_at y1
  clear hWo hW ho1 y1 Z1
  have hA1 : (0 : Int) ≤ min (nm.size : Int) 70 := by omega
  have hA2 : min (nm.size : Int) 70 ≤ (nm.size : Int) := by omega
  have hAs : (nm.extract 0 (min (nm.size : Int) 70).toNat).size ≤ 70 := by rw [ByteArray.size_extract]; omega
  generalize hA : nm.extract 0 (min (nm.size : Int) 70).toNat = name at hAs
  go_upto_region 4 with (fail)
  obtain ⟨W3, hW3⟩ : ∃ W3, W3 = w1.setCell ⟨w.heap.size, 0, none⟩ (.string name) := ⟨_, rfl⟩
  have t3 : W3.heap[w.heap.size]? = some (.cells #[.string name, .int .u8 (a0 : Nat), .int .u8 (a1 : Nat), .int .u8 (a2 : Nat), .int .u8 (a3 : Nat), .int .u16 (p : Nat), .int .u16 (q : Nat), .int .u16 (r : Nat)] 56 (0, 0)) := by rw [hW3]; exact set_at HY1.out 0 _
  have n3 : Only (fun k => k = w.heap.size) w1 W3 := by rw [hW3]; exact (Only.refl _ _).setCell (S := fun x => x = w.heap.size) (p := ⟨w.heap.size, 0, none⟩) (.inr rfl) _
  have HO3 := Lib.hid (HO.out.tr n3 (fun k hk e => absurd hk (by omega)))
  have HS3 := Lib.hid t3
  rw [← hW3]
  clear hW3 n3 b0 bf hA hA1 hA2 HO HY1
  have c0 : W3.cell? ⟨w.heap.size, 0, none⟩ = some (.string name) := cell_at t3 0
  clear t3
  have HBE := Lib.hid (show beginE o name ver = if keyE o name ≠ 0 then keyE o name else if ver / 2 ^ 32 = 0 then 11 else 0 from rfl)
  have HKE := Lib.hid (show keyE o name = if nodeB o = false then 1 else if namedP name = false then 9 else 0 from rfl)
  have HNB := Lib.hid (show nodeB o = (decide (1 ≤ o) && decide (o ≤ 65535)) from rfl)
  have HNM := Lib.hid (fun w => rnamed_any w name (by unfold maxLen; omega))
  generalize hE0 : beginE o name ver = E at *
  have HE0 := Lib.hid hE0
  clear hE0
  go_upto_region 5 with (fail)
  go_cut [32] (fun v32 wx => v32 = .bool (!nodeB o) ∧ W3 = wx)
  case first =>
    have hcase : (o < 1 ∧ nodeB o = false) ∨ ((1 ≤ o ∧ 65535 < o) ∧ nodeB o = false) ∨ ((1 ≤ o ∧ o ≤ 65535) ∧ nodeB o = true) := by
      rw [HNB.out]
      simp
      omega
    rcases hcase with ⟨h1, h2⟩ | ⟨⟨h1, h1'⟩, h2⟩ | ⟨⟨h1, h1'⟩, h2⟩
    · have k1 : decide (o < 1) = true := decide_eq_true h1
      go_wp2_with fail
      go_meet
      exact ⟨by rw [h2]; rfl, rfl⟩
    · have k1 : decide (o < 1) = false := decide_eq_false (by omega)
      have k2 : decide ((65535 : Int) < o) = true := decide_eq_true h1'
      go_wp2_with fail
      go_meet
      exact ⟨by rw [h2]; rfl, rfl⟩
    · have k1 : decide (o < 1) = false := decide_eq_false (by omega)
      have k2 : decide ((65535 : Int) < o) = false := decide_eq_false (by omega)
      go_wp2_with fail
      go_meet
      exact ⟨by rw [h2]; rfl, rfl⟩
  case rest =>
  obtain ⟨rfl, rfl⟩ := hcut
  go_upto_if 32 with (fail)
  go_cut [7] (fun v7 wx => v7 = .int .i64 E ∧ W3 = wx)
  case first =>
    have hE := HBE.out
    rw [HKE.out] at hE
    cases hn1 : nodeB o with
    | false =>
      replace hE : E = 1 := by simpa [hn1] using hE
      have hn2 : (!nodeB o) = true := by rw [hn1]; rfl
      go_wp2_with fail
      go_meet
      exact ⟨by rw [hE], rfl⟩
    | true =>
      have hn2 : (!nodeB o) = false := by rw [hn1]; rfl
      go_wp2_with fail
      refine (HNM.out W3).mono ?_
      rintro e w2 ⟨rfl, rfl⟩
      cases hn3 : namedP name with
      | false =>
        replace hE : E = 9 := by simpa [hn1, hn3] using hE
        go_wp2_with fail
        go_meet
        exact ⟨by rw [hE], rfl⟩
      | true =>
        by_cases hv : ver / 2 ^ 32 = 0
        · replace hE : E = 11 := by simpa [hn1, hn3, hv] using hE
          have k1 : decide ((ver : Int) < 4294967296) = true := decide_eq_true (by omega)
          go_wp2_with fail
          go_meet
          exact ⟨by rw [hE], rfl⟩
        · replace hE : E = 0 := by simpa [hn1, hn3, hv] using hE
          have k1 : decide ((ver : Int) < 4294967296) = false := decide_eq_false (by omega)
          go_wp2_with fail
          go_meet
          exact ⟨by rw [hE], rfl⟩
  case rest =>
  obtain ⟨rfl, rfl⟩ := hcut
  have t3 := HS3.out
  have s1 : W3.cell? ⟨w.heap.size, 1, none⟩ = some (.int .u8 (a0 : Nat)) := cell_at t3 1
  have s2 : W3.cell? ⟨w.heap.size, 2, none⟩ = some (.int .u8 (a1 : Nat)) := cell_at t3 2
  have s3 : W3.cell? ⟨w.heap.size, 3, none⟩ = some (.int .u8 (a2 : Nat)) := cell_at t3 3
  have s4 : W3.cell? ⟨w.heap.size, 4, none⟩ = some (.int .u8 (a3 : Nat)) := cell_at t3 4
  have s5 : W3.cell? ⟨w.heap.size, 5, none⟩ = some (.int .u16 (p : Nat)) := cell_at t3 5
  have s6 : W3.cell? ⟨w.heap.size, 6, none⟩ = some (.int .u16 (q : Nat)) := cell_at t3 6
  have s7 : W3.cell? ⟨w.heap.size, 7, none⟩ = some (.int .u16 (r : Nat)) := cell_at t3 7
  clear t3
  have HMK := Lib.hid (make_any W3 o ver name a0 a1 a2 a3 p q r m0 (HO3.out.cell HM.out id) HV.out (by unfold maxLen; omega) HAB.out.2.2.2.2.1 HAB.out.2.2.2.2.2.1 HAB.out.2.2.2.2.2.2)
  have HGN := Lib.hid (fun w hm => gone_any w o ver name m0 hm HV.out (by unfold maxLen; omega))
  rw [HE0.out] at HMK HGN
  unfold makeV at HMK
  unfold goneV at HGN
  rw [HE0.out] at HMK HGN
  by_cases hE : E = 0
  case neg =>
    rw [if_neg hE] at HMK HGN
    unfold rec0 at HMK HGN
    have k1 : (E == 0) = false := by simpa using hE
    have k2 : (E != 0) = true := by simp [k1, bne]
    go_wp2_with fail
    refine HMK.out.mono ?_
    rintro e w4 ⟨rfl, ho4⟩
    go_upto_region 12 with (fail)
    obtain ⟨W5, hW⟩ : ∃ W5, W5 = w4.alloc (.cells #[.string ⟨#[]⟩, .int .u64 0, .int .i64 0, .int .i64 0, .bool false, .string ⟨#[]⟩] 44) := ⟨_, rfl⟩
    have hx5 : W5.heap[w4.heap.size]? = some (.cells #[.string ⟨#[]⟩, .int .u64 0, .int .i64 0, .int .i64 0, .bool false, .string ⟨#[]⟩] 44 (0, 0)) := by rw [hW]; exact heap_alloc_new w4 _
    have ho5 : Only (fun _ => False) w4 W5 := by rw [hW]; exact (Only.refl _ _).alloc _
    rw [← hW]
    clear hW
    have sb5 := (ho4.trans ho5).old HS3.out id
    have hlt : w.heap.size < w4.heap.size := lt_of_block (ho4.old HS3.out id)
    have n1 : ¬ (w.heap.size = w4.heap.size) := by omega
    have n2 : ¬ (w4.heap.size = w.heap.size) := by omega
    have HO5 := Lib.hid ((HO3.out.trans ho4).trans ho5)
    have HX5 := Lib.hid hx5
    clear s1 s2 s3 s4 s5 s6 s7 c0
    have c0 : W5.cell? ⟨w.heap.size, 0, none⟩ = some (.string name) := cell_at sb5 0
    clear sb5 hx5 ho4 ho5
    generalize w4.heap.size = X at *
    go_wp2_with fail
    refine (HGN.out W5 (HO5.out.cell HM.out id)).mono ?_
    rintro e w6 ⟨rfl, ho6⟩
    have x6 := ho6.old HX5.out id
    have hlt6 := lt_of_block x6
    have n3 : ¬ (X = w6.heap.size) := by omega
    have n4 : ¬ (w6.heap.size = X) := by omega
    have x0 : w6.cell? ⟨X, 0, none⟩ = some (.string ⟨#[]⟩) := cell_at x6 0
    have x1 : w6.cell? ⟨X, 1, none⟩ = some (.int .u64 0) := cell_at x6 1
    have x2 : w6.cell? ⟨X, 2, none⟩ = some (.int .i64 0) := cell_at x6 2
    have x3 : w6.cell? ⟨X, 3, none⟩ = some (.int .i64 0) := cell_at x6 3
    have x4 : w6.cell? ⟨X, 4, none⟩ = some (.bool false) := cell_at x6 4
    have x5 : w6.cell? ⟨X, 5, none⟩ = some (.string ⟨#[]⟩) := cell_at x6 5
    have HO6 := Lib.hid (HO5.out.trans ho6)
    have heq := eqR
    clear x6 ho6 c0
    go_wp2_with fail
    go_ret
    exact ⟨rfl, HO6.out.alloc _⟩
  subst hE
  rw [if_pos rfl] at HMK HGN
  unfold recV at HMK HGN
  have hkE : nodeB o = true ∧ namedP name = true ∧ ver / 2 ^ 32 ≠ 0 := by
    have hE := HBE.out
    rw [HKE.out] at hE
    cases hn1 : nodeB o with
    | false => simp [hn1] at hE
    | true =>
      cases hn3 : namedP name with
      | false => simp [hn1, hn3] at hE
      | true =>
        refine ⟨rfl, rfl, fun h => ?_⟩
        simp [hn1, hn3, h] at hE
  obtain ⟨e1, e2, e3⟩ := hkE
  have hob : 1 ≤ o ∧ o ≤ 65535 := by have := HNB.out; rw [e1] at this; simp at this; exact this
  obtain ⟨n, rfl⟩ : ∃ n : Nat, o = (n : Int) := ⟨o.toNat, by omega⟩
  have hkS : keyS n name = keyB n name := by unfold keyS; rw [e1, e2]; rfl
  obtain ⟨ha0, ha1, ha2, ha3, hp, hq, hr⟩ := HAB.out
  rw [hkS, dataB_ref a0 a1 a2 a3 p q r hp hq hr] at HMK
  rw [hkS] at HGN
  have g1 := made_good n name ver false (refD a0 a1 a2 a3 p q r) e1 e2 e3 rfl
  have g2 := made_good n name ver true ⟨#[]⟩ e1 e2 e3 rfl
  have hK : (keyB n name).size ≤ 1000000 := by rw [keyB_size]; omega
  have HRK := Lib.hid (fun w => rkey_any w n name (by omega) (by omega) (by omega))
  have HRD := Lib.hid (fun w => rdata_any w a0 a1 a2 a3 p q r hp hq hr)
  have HT1 := Lib.hid (fun w hm => tell_any w (keyB n name) ver n 0 false (refD a0 a1 a2 a3 p q r) m0 hm HV.out hK)
  have HT2 := Lib.hid (fun w hm => tell_any w (keyB n name) ver n 0 true ⟨#[]⟩ m0 hm HV.out hK)
  have HD1 := Lib.hid (fun w hm => good_any w (keyB n name) ver n 0 false (refD a0 a1 a2 a3 p q r) m0 hm HV.out hK)
  have HD2 := Lib.hid (fun w hm => good_any w (keyB n name) ver n 0 true ⟨#[]⟩ m0 hm HV.out hK)
  obtain ⟨b0, b1, b2, b3, b4, b5, b6⟩ := refD_bytes a0 a1 a2 a3 p q r ha0 ha1 ha2 ha3 hp hq hr
  have ht1 : tellV (keyB n name) ver n 0 false (refD a0 a1 a2 a3 p q r) = svcV name a0 a1 a2 a3 p q r := by
    unfold tellV
    rw [g1, if_pos (by rfl), key_rest, b0, b1, b2, b3, b4, b5, b6]
  have he1 : tellE (keyB n name) ver n 0 false (refD a0 a1 a2 a3 p q r) = 0 := by unfold tellE; rw [g1]; rfl
  have ht2 : tellV (keyB n name) ver n 0 true ⟨#[]⟩ = svcV ⟨#[]⟩ 0 0 0 0 0 0 0 := by unfold tellV; rw [g2]; rfl
  have he2 : tellE (keyB n name) ver n 0 true ⟨#[]⟩ = 6 := by unfold tellE; rw [g2]; rfl
  rw [ht1, he1] at HT1
  rw [ht2, he2] at HT2
  rw [g1] at HD1
  rw [g2] at HD2
  unfold svcV at HT1 HT2
  clear g1 g2 hK ht1 he1 ht2 he2 b0 b1 b2 b3 b4 b5 b6 ha0 ha1 ha2 ha3 hp hq hr hkS e1 e2 e3 HBE HKE HNB HNM HE0 hob
  generalize refD a0 a1 a2 a3 p q r = D at *
  generalize keyB n name = K at *
  go_wp2_with fail
  refine HMK.out.mono ?_
  rintro e w4 ⟨rfl, ho4⟩
  go_upto_region 12 with (fail)
  obtain ⟨W5, hW⟩ : ∃ W5, W5 = w4.alloc (.cells #[.string K, .int .u64 ver, .int .i64 (n : Nat), .int .i64 0, .bool false, .string D] 44) := ⟨_, rfl⟩
  have hx5 : W5.heap[w4.heap.size]? = some (.cells #[.string K, .int .u64 ver, .int .i64 (n : Nat), .int .i64 0, .bool false, .string D] 44 (0, 0)) := by rw [hW]; exact heap_alloc_new w4 _
  have ho5 : Only (fun _ => False) w4 W5 := by rw [hW]; exact (Only.refl _ _).alloc _
  rw [← hW]
  clear hW
  have sb5 := (ho4.trans ho5).old HS3.out id
  have HO5 := Lib.hid ((HO3.out.trans ho4).trans ho5)
  have HX5 := Lib.hid hx5
  have HS5 := Lib.hid sb5
  clear s1 s2 s3 s4 s5 s6 s7 c0
  have c0 : W5.cell? ⟨w.heap.size, 0, none⟩ = some (.string name) := cell_at sb5 0
  clear sb5 hx5 ho4 ho5 HO3 HS3 HMK
  generalize w4.heap.size = X at *
  go_wp2_with fail
  refine (HGN.out W5 (HO5.out.cell HM.out id)).mono ?_
  rintro e w6 ⟨rfl, ho6⟩
  go_upto_region 13 with (fail)
  obtain ⟨W7, hW⟩ : ∃ W7, W7 = w6.alloc (.cells #[.string K, .int .u64 ver, .int .i64 (n : Nat), .int .i64 0, .bool true, .string ⟨#[]⟩] 44) := ⟨_, rfl⟩
  have hy7 : W7.heap[w6.heap.size]? = some (.cells #[.string K, .int .u64 ver, .int .i64 (n : Nat), .int .i64 0, .bool true, .string ⟨#[]⟩] 44 (0, 0)) := by rw [hW]; exact heap_alloc_new w6 _
  have ho7 : Only (fun _ => False) w6 W7 := by rw [hW]; exact (Only.refl _ _).alloc _
  rw [← hW]
  clear hW
  have sb7 := (ho6.trans ho7).old HS5.out id
  have HX7 := Lib.hid ((ho6.trans ho7).old HX5.out id)
  have HO7 := Lib.hid ((HO5.out.trans ho6).trans ho7)
  have HY7 := Lib.hid hy7
  have HS7 := Lib.hid sb7
  clear c0
  have c0 : W7.cell? ⟨w.heap.size, 0, none⟩ = some (.string name) := cell_at sb7 0
  clear sb7 hy7 ho6 ho7 HO5 HS5 HX5 HGN
  generalize w6.heap.size = Y at *
  go_wp2_with fail
  refine (HRK.out W7).mono ?_
  rintro e w8 ⟨rfl, ho8⟩
  go_upto_region 18 with (fail)
  obtain ⟨W9, hW⟩ : ∃ W9, W9 = w8.alloc (.cells #[.string K, .int .u64 ver] 42) := ⟨_, rfl⟩
  have hi9 : W9.heap[w8.heap.size]? = some (.cells #[.string K, .int .u64 ver] 42 (0, 0)) := by rw [hW]; exact heap_alloc_new w8 _
  have ho9 : Only (fun _ => False) w8 W9 := by rw [hW]; exact (Only.refl _ _).alloc _
  rw [← hW]
  clear hW
  have sb9 := (ho8.trans ho9).old HS7.out id
  have xb9 := (ho8.trans ho9).old HX7.out id
  have yb9 := (ho8.trans ho9).old HY7.out id
  have HO9 := Lib.hid ((HO7.out.trans ho8).trans ho9)
  have HX9 := Lib.hid xb9
  have HY9 := Lib.hid yb9
  have HS9 := Lib.hid sb9
  clear c0 ho8 ho9 HO7 HS7 HX7 HY7 HRK
  generalize w8.heap.size = I at *
  have x0 : W9.cell? ⟨X, 0, none⟩ = some (.string K) := cell_at xb9 0
  have x1 : W9.cell? ⟨X, 1, none⟩ = some (.int .u64 ver) := cell_at xb9 1
  have x2 : W9.cell? ⟨X, 2, none⟩ = some (.int .i64 (n : Nat)) := cell_at xb9 2
  have x3 : W9.cell? ⟨X, 3, none⟩ = some (.int .i64 0) := cell_at xb9 3
  have x4 : W9.cell? ⟨X, 4, none⟩ = some (.bool false) := cell_at xb9 4
  have x5 : W9.cell? ⟨X, 5, none⟩ = some (.string D) := cell_at xb9 5
  have y0 : W9.cell? ⟨Y, 0, none⟩ = some (.string K) := cell_at yb9 0
  have y1 : W9.cell? ⟨Y, 1, none⟩ = some (.int .u64 ver) := cell_at yb9 1
  have y2 : W9.cell? ⟨Y, 2, none⟩ = some (.int .i64 (n : Nat)) := cell_at yb9 2
  have y3 : W9.cell? ⟨Y, 3, none⟩ = some (.int .i64 0) := cell_at yb9 3
  have y4 : W9.cell? ⟨Y, 4, none⟩ = some (.bool true) := cell_at yb9 4
  have y5 : W9.cell? ⟨Y, 5, none⟩ = some (.string ⟨#[]⟩) := cell_at yb9 5
  have i0 : W9.cell? ⟨I, 0, none⟩ = some (.string K) := cell_at hi9 0
  have i1 : W9.cell? ⟨I, 1, none⟩ = some (.int .u64 ver) := cell_at hi9 1
  have s1 : W9.cell? ⟨w.heap.size, 1, none⟩ = some (.int .u8 (a0 : Nat)) := cell_at sb9 1
  have s2 : W9.cell? ⟨w.heap.size, 2, none⟩ = some (.int .u8 (a1 : Nat)) := cell_at sb9 2
  have s3 : W9.cell? ⟨w.heap.size, 3, none⟩ = some (.int .u8 (a2 : Nat)) := cell_at sb9 3
  have s4 : W9.cell? ⟨w.heap.size, 4, none⟩ = some (.int .u8 (a3 : Nat)) := cell_at sb9 4
  have s5 : W9.cell? ⟨w.heap.size, 5, none⟩ = some (.int .u16 (p : Nat)) := cell_at sb9 5
  have s6 : W9.cell? ⟨w.heap.size, 6, none⟩ = some (.int .u16 (q : Nat)) := cell_at sb9 6
  have s7 : W9.cell? ⟨w.heap.size, 7, none⟩ = some (.int .u16 (r : Nat)) := cell_at sb9 7
  clear sb9 xb9 yb9 hi9
  have hne := neR
  go_region_held3 (fun w' => w'.cell? ⟨X, 0, none⟩ = some (.string K) ∧ w'.cell? ⟨X, 1, none⟩ = some (.int .u64 ver) ∧ w'.cell? ⟨X, 2, none⟩ = some (.int .i64 (n : Nat)) ∧ w'.cell? ⟨X, 3, none⟩ = some (.int .i64 0) ∧ w'.cell? ⟨X, 4, none⟩ = some (.bool false) ∧ w'.cell? ⟨X, 5, none⟩ = some (.string D) ∧ w'.cell? ⟨Y, 0, none⟩ = some (.string K) ∧ w'.cell? ⟨Y, 1, none⟩ = some (.int .u64 ver) ∧ w'.cell? ⟨Y, 2, none⟩ = some (.int .i64 (n : Nat)) ∧ w'.cell? ⟨Y, 3, none⟩ = some (.int .i64 0) ∧ w'.cell? ⟨Y, 4, none⟩ = some (.bool true) ∧ w'.cell? ⟨Y, 5, none⟩ = some (.string ⟨#[]⟩) ∧ w'.cell? ⟨I, 0, none⟩ = some (.string K) ∧ w'.cell? ⟨I, 1, none⟩ = some (.int .u64 ver) ∧ w'.cell? ⟨w.heap.size, 1, none⟩ = some (.int .u8 (a0 : Nat)) ∧ w'.cell? ⟨w.heap.size, 2, none⟩ = some (.int .u8 (a1 : Nat)) ∧ w'.cell? ⟨w.heap.size, 3, none⟩ = some (.int .u8 (a2 : Nat)) ∧ w'.cell? ⟨w.heap.size, 4, none⟩ = some (.int .u8 (a3 : Nat)) ∧ w'.cell? ⟨w.heap.size, 5, none⟩ = some (.int .u16 (p : Nat)) ∧ w'.cell? ⟨w.heap.size, 6, none⟩ = some (.int .u16 (q : Nat)) ∧ w'.cell? ⟨w.heap.size, 7, none⟩ = some (.int .u16 (r : Nat))) (refine ⟨?_, ?_, ?_, ?_, ?_, ?_, ?_, ?_, ?_, ?_, ?_, ?_, ?_, ?_, ?_, ?_, ?_, ?_, ?_, ?_, ?_⟩ <;> (first | assumption | (apply keepD; assumption) | exact Only.cell (by assumption) (by assumption) id))
    (first | (go_at_call 20; (with_reducible refine (HRD.out _).mono ?_); rintro e w2 ⟨rfl, hd2⟩))
  clear x0 x1 x2 x3 x4 x5 y0 y1 y2 y3 y4 y5 i0 i1 s1 s2 s3 s4 s5 s6 s7
  rename_i hh
  clear hh
  have hdo : Only (fun _ => False) W9 w2 := ((Only.refl _ W9).drew).trans hd2
  have xb := hdo.old HX9.out id
  have yb := hdo.old HY9.out id
  have sb := hdo.old HS9.out id
  have HO10 := Lib.hid (HO9.out.drew.trans hd2)
  have HX10 := Lib.hid xb
  have HY10 := Lib.hid yb
  have HS10 := Lib.hid sb
  have x0 : w2.cell? ⟨X, 0, none⟩ = some (.string K) := cell_at xb 0
  have x1 : w2.cell? ⟨X, 1, none⟩ = some (.int .u64 ver) := cell_at xb 1
  have x2 : w2.cell? ⟨X, 2, none⟩ = some (.int .i64 (n : Nat)) := cell_at xb 2
  have x3 : w2.cell? ⟨X, 3, none⟩ = some (.int .i64 0) := cell_at xb 3
  have x4 : w2.cell? ⟨X, 4, none⟩ = some (.bool false) := cell_at xb 4
  have x5 : w2.cell? ⟨X, 5, none⟩ = some (.string D) := cell_at xb 5
  clear xb yb sb hd2 hdo hne HO9 HX9 HY9 HS9
  go_wp2_with fail
  refine (HT1.out w2 (HO10.out.cell HM.out id)).mono ?_
  rintro e w11 ⟨rfl, ho11⟩
  go_upto_region 21 with (fail)
  obtain ⟨W12, hW⟩ : ∃ W12, W12 = w11.alloc (.cells #[.string name, .int .u8 (a0 : Nat), .int .u8 (a1 : Nat), .int .u8 (a2 : Nat), .int .u8 (a3 : Nat), .int .u16 (p : Nat), .int .u16 (q : Nat), .int .u16 (r : Nat)] 49) := ⟨_, rfl⟩
  have ht12 : W12.heap[w11.heap.size]? = some (.cells #[.string name, .int .u8 (a0 : Nat), .int .u8 (a1 : Nat), .int .u8 (a2 : Nat), .int .u8 (a3 : Nat), .int .u16 (p : Nat), .int .u16 (q : Nat), .int .u16 (r : Nat)] 49 (0, 0)) := by rw [hW]; exact heap_alloc_new w11 _
  have ho12 : Only (fun _ => False) w11 W12 := by rw [hW]; exact (Only.refl _ _).alloc _
  rw [← hW]
  clear hW
  have HX12 := Lib.hid ((ho11.trans ho12).old HX10.out id)
  have yb := (ho11.trans ho12).old HY10.out id
  have HS12 := Lib.hid ((ho11.trans ho12).old HS10.out id)
  have HO12 := Lib.hid ((HO10.out.trans ho11).trans ho12)
  have HT12 := Lib.hid ht12
  have HY12 := Lib.hid yb
  clear x0 x1 x2 x3 x4 x5 ht12 ho11 ho12 HO10 HX10 HY10 HS10
  have y0 : W12.cell? ⟨Y, 0, none⟩ = some (.string K) := cell_at yb 0
  have y1 : W12.cell? ⟨Y, 1, none⟩ = some (.int .u64 ver) := cell_at yb 1
  have y2 : W12.cell? ⟨Y, 2, none⟩ = some (.int .i64 (n : Nat)) := cell_at yb 2
  have y3 : W12.cell? ⟨Y, 3, none⟩ = some (.int .i64 0) := cell_at yb 3
  have y4 : W12.cell? ⟨Y, 4, none⟩ = some (.bool true) := cell_at yb 4
  have y5 : W12.cell? ⟨Y, 5, none⟩ = some (.string ⟨#[]⟩) := cell_at yb 5
  clear yb
  generalize w11.heap.size = T1 at *
  go_wp2_with fail
  refine (HT2.out W12 (HO12.out.cell HM.out id)).mono ?_
  rintro e w13 ⟨rfl, ho13⟩
  go_upto_region 22 with (fail)
  obtain ⟨W14, hW⟩ : ∃ W14, W14 = w13.alloc (.cells #[.string ⟨#[]⟩, .int .u8 0, .int .u8 0, .int .u8 0, .int .u8 0, .int .u16 0, .int .u16 0, .int .u16 0] 49) := ⟨_, rfl⟩
  have hu14 : W14.heap[w13.heap.size]? = some (.cells #[.string ⟨#[]⟩, .int .u8 0, .int .u8 0, .int .u8 0, .int .u8 0, .int .u16 0, .int .u16 0, .int .u16 0] 49 (0, 0)) := by rw [hW]; exact heap_alloc_new w13 _
  have ho14 : Only (fun _ => False) w13 W14 := by rw [hW]; exact (Only.refl _ _).alloc _
  rw [← hW]
  clear hW
  have xb := (ho13.trans ho14).old HX12.out id
  have yb := (ho13.trans ho14).old HY12.out id
  have sb := (ho13.trans ho14).old HS12.out id
  have tb := (ho13.trans ho14).old HT12.out id
  have HO14 := Lib.hid ((HO12.out.trans ho13).trans ho14)
  have HY14 := Lib.hid yb
  clear y0 y1 y2 y3 y4 y5 ho13 ho14 HO12 HX12 HY12 HS12 HT12
  generalize w13.heap.size = T2 at *
  have x0 : W14.cell? ⟨X, 0, none⟩ = some (.string K) := cell_at xb 0
  have x1 : W14.cell? ⟨X, 1, none⟩ = some (.int .u64 ver) := cell_at xb 1
  have x2 : W14.cell? ⟨X, 2, none⟩ = some (.int .i64 (n : Nat)) := cell_at xb 2
  have x3 : W14.cell? ⟨X, 3, none⟩ = some (.int .i64 0) := cell_at xb 3
  have x4 : W14.cell? ⟨X, 4, none⟩ = some (.bool false) := cell_at xb 4
  have x5 : W14.cell? ⟨X, 5, none⟩ = some (.string D) := cell_at xb 5
  have s0 : W14.cell? ⟨w.heap.size, 0, none⟩ = some (.string name) := cell_at sb 0
  have s1 : W14.cell? ⟨w.heap.size, 1, none⟩ = some (.int .u8 (a0 : Nat)) := cell_at sb 1
  have s2 : W14.cell? ⟨w.heap.size, 2, none⟩ = some (.int .u8 (a1 : Nat)) := cell_at sb 2
  have s3 : W14.cell? ⟨w.heap.size, 3, none⟩ = some (.int .u8 (a2 : Nat)) := cell_at sb 3
  have s4 : W14.cell? ⟨w.heap.size, 4, none⟩ = some (.int .u8 (a3 : Nat)) := cell_at sb 4
  have s5 : W14.cell? ⟨w.heap.size, 5, none⟩ = some (.int .u16 (p : Nat)) := cell_at sb 5
  have s6 : W14.cell? ⟨w.heap.size, 6, none⟩ = some (.int .u16 (q : Nat)) := cell_at sb 6
  have s7 : W14.cell? ⟨w.heap.size, 7, none⟩ = some (.int .u16 (r : Nat)) := cell_at sb 7
  have t0 : W14.cell? ⟨T1, 0, none⟩ = some (.string name) := cell_at tb 0
  have t1 : W14.cell? ⟨T1, 1, none⟩ = some (.int .u8 (a0 : Nat)) := cell_at tb 1
  have t2 : W14.cell? ⟨T1, 2, none⟩ = some (.int .u8 (a1 : Nat)) := cell_at tb 2
  have t3 : W14.cell? ⟨T1, 3, none⟩ = some (.int .u8 (a2 : Nat)) := cell_at tb 3
  have t4 : W14.cell? ⟨T1, 4, none⟩ = some (.int .u8 (a3 : Nat)) := cell_at tb 4
  have t5 : W14.cell? ⟨T1, 5, none⟩ = some (.int .u16 (p : Nat)) := cell_at tb 5
  have t6 : W14.cell? ⟨T1, 6, none⟩ = some (.int .u16 (q : Nat)) := cell_at tb 6
  have t7 : W14.cell? ⟨T1, 7, none⟩ = some (.int .u16 (r : Nat)) := cell_at tb 7
  have u0 : W14.cell? ⟨T2, 0, none⟩ = some (.string ⟨#[]⟩) := cell_at hu14 0
  have u1 : W14.cell? ⟨T2, 1, none⟩ = some (.int .u8 0) := cell_at hu14 1
  have u2 : W14.cell? ⟨T2, 2, none⟩ = some (.int .u8 0) := cell_at hu14 2
  have u3 : W14.cell? ⟨T2, 3, none⟩ = some (.int .u8 0) := cell_at hu14 3
  have u4 : W14.cell? ⟨T2, 4, none⟩ = some (.int .u8 0) := cell_at hu14 4
  have u5 : W14.cell? ⟨T2, 5, none⟩ = some (.int .u16 0) := cell_at hu14 5
  have u6 : W14.cell? ⟨T2, 6, none⟩ = some (.int .u16 0) := cell_at hu14 6
  have u7 : W14.cell? ⟨T2, 7, none⟩ = some (.int .u16 0) := cell_at hu14 7
  clear xb yb sb tb hu14
  have heq1 := eqL
  have heq2 := eqS0
  go_wp2_with fail
  refine (HD1.out W14 (HO14.out.cell HM.out id)).mono ?_
  rintro e w15 ⟨rfl, ho15⟩
  have yb := ho15.old HY14.out id
  have HO15 := Lib.hid (HO14.out.trans ho15)
  have y0 : w15.cell? ⟨Y, 0, none⟩ = some (.string K) := cell_at yb 0
  have y1 : w15.cell? ⟨Y, 1, none⟩ = some (.int .u64 ver) := cell_at yb 1
  have y2 : w15.cell? ⟨Y, 2, none⟩ = some (.int .i64 (n : Nat)) := cell_at yb 2
  have y3 : w15.cell? ⟨Y, 3, none⟩ = some (.int .i64 0) := cell_at yb 3
  have y4 : w15.cell? ⟨Y, 4, none⟩ = some (.bool true) := cell_at yb 4
  have y5 : w15.cell? ⟨Y, 5, none⟩ = some (.string ⟨#[]⟩) := cell_at yb 5
  clear yb ho15 x0 x1 x2 x3 x4 x5 s0 s1 s2 s3 s4 s5 s6 s7 t0 t1 t2 t3 t4 t5 t6 t7 u0 u1 u2 u3 u4 u5 u6 u7
  go_wp2_with fail
  refine (HD2.out w15 (HO15.out.cell HM.out id)).mono ?_
  rintro e w16 ⟨rfl, ho16⟩
  have HO16 := Lib.hid (HO15.out.trans ho16)
  clear ho16
  go_wp2_with fail
  go_ret
  exact ⟨rfl, HO16.out⟩
end Go.Proofs.YtfmplmchpdmbmaaDoor
