/- The walk of bellhoplaw14.RecordVersions. -/
import Derived.Test.YtfmplmchpdmbmaaDoorRec11
namespace Go.Proofs.YtfmplmchpdmbmaaDoor
open Go.Conc Go.RowKit

theorem u64_or32 (a b : Nat) (ha : a < 2 ^ 32) (hb : b < 2 ^ 32) : bits .or .u64 ((a : Int) * 4294967296) (b : Int) = ((a * 4294967296 + b : Nat) : Int) := by
  have hx : a * 4294967296 ||| b < 2 ^ 64 := Nat.or_lt_two_pow (by omega) (by omega)
  rw [show ((a : Int) * 4294967296) = ((a * 4294967296 : Nat) : Int) by omega]
  show IntKind.u64.wrap ((BitVec.ofInt 64 ((a * 4294967296 : Nat) : Int) ||| BitVec.ofInt 64 (b : Int)).toNat : Int) = _
  rw [BitVec.toNat_or, BitVec.ofInt_natCast, BitVec.ofInt_natCast, BitVec.toNat_ofNat, BitVec.toNat_ofNat, Nat.mod_eq_of_lt (by omega), Nat.mod_eq_of_lt (by omega)]
  rw [show a * 4294967296 = a <<< 32 by rw [Nat.shiftLeft_eq]] at hx ⊢
  rw [← Nat.shiftLeft_add_eq_or_of_lt (i := 32) (by omega) a, Nat.shiftLeft_eq] at hx ⊢
  exact IntWalk.u64_in _ (by omega)
theorem version_any (w : World) (a b : Nat) (ha : a < 2 ^ 32) (hb : b < 2 ^ 32) : Calls Tryd.prog 14 #[.int .u32 a, .int .u32 b] w fun e w' => e = .returned (.int .u64 (a * 4294967296 + b : Nat)) ∧ w = w' := by
  have hor := u64_or32 a b ha hb
  have hor2 : ∀ z : Int, z = (b : Int) → bits BinOp.or IntKind.u64 ((a : Int) * 4294967296) z = ((a * 4294967296 + b : Nat) : Int) := by rintro z rfl; exact hor
  have hw1 : ∀ z : Int, z = (a : Int) * 4294967296 → IntKind.u64.wrap z = (a : Int) * 4294967296 := by
    rintro z rfl
    exact IntWalk.u64_in _ (by omega)
  have ha' : (a : Int) ≤ 4294967295 := by omega
  have hb' : (b : Int) ≤ 4294967295 := by omega
  have ha2 : (0 : Int) ≤ (a : Int) := by omega
  have hb2 : (0 : Int) ≤ (b : Int) := by omega
  clear hor ha hb
  generalize a * 4294967296 + b = r at *
  go_enter Tryd.func14, Tryd.ntmps14
  go_wp2_with fail
  go_ret
  exact ⟨rfl, rfl⟩
theorem life_of (w : World) (a b : Nat) (ha : a < 2 ^ 32) (hb : b < 2 ^ 32) : Calls Tryd.prog 15 #[.int .u64 (a * 4294967296 + b : Nat)] w fun e w' => e = .returned (.tuple #[.int .u32 a, .int .u32 b]) ∧ w = w' := by
  refine (life_any w (a * 4294967296 + b) (by omega)).mono ?_
  rintro e w' ⟨rfl, rfl⟩
  exact ⟨ret_int2 (by omega) (by omega), rfl⟩
theorem ltF {a b : Nat} (h : a < b) : (decide (a < b) = true ∧ decide ((a : Int) < (b : Int)) = true) ∧ (decide (b < a) = false ∧ decide ((b : Int) < (a : Int)) = false) ∧ ((a == b) = false ∧ ((a : Int) == (b : Int)) = false ∧ ¬ (a = b) ∧ ¬ ((a : Int) = (b : Int))) ∧ ¬ (b < a) := by
  simp
  omega
set_option maxRecDepth 100000 in
set_option maxHeartbeats 4000000 in
theorem recordVersions_any (w : World) (m0 : Int) (hm : w.cell? ⟨0, 0, none⟩ = some (.int .i64 m0)) (a0 a1 b0 b1 v : Nat) (ha0 : a0 < 2 ^ 32) (ha1 : a1 < 2 ^ 32) (hb0 : b0 < 2 ^ 32) (hb1 : b1 < 2 ^ 32) (hv : v < 2 ^ 64) :
    Calls Tryd.prog 4 #[.agg #[.int .u32 a0, .int .u32 a1], .agg #[.int .u32 b0, .int .u32 b1], .int .u64 v] w fun e w' => e = .returned (.bool true) ∧ Only (fun _ => False) w w' := by
  have HM := Lib.hid hm
  have HV := Lib.hid hv
  obtain ⟨W, hW⟩ : ∃ W, W = (w.alloc (.cells #[.int .u32 a0, .int .u32 a1] 33)).alloc (.cells #[.int .u32 b0, .int .u32 b1] 33) := ⟨_, rfl⟩
  obtain ⟨z1, z2⟩ := two_blocks w _ _ (w1 := W) (by rw [← hW]; exact Only.refl _ _)
  have hWo : Only (fun _ => False) w W := by rw [hW]; exact ((Only.refl _ _).alloc _).alloc _
  have HSP := Lib.hid (speaks_any W m0 (hWo.cell HM.out id))
  have Z1 := Lib.hid z1
  have Z2 := Lib.hid z2
  have hve := version_any
  have HVE := Lib.hid hve
  have HA := Lib.hid (And.intro ha0 ha1)
  have HB := Lib.hid (And.intro hb0 hb1)
  clear hm hv z1 z2 hve
  go_enter Tryd.func4, Tryd.ntmps4
  go_wp2_with fail
  rw [← hW]
  refine HSP.out.mono ?_
  rintro e w1 ⟨rfl, ho1⟩
  have y1 := ho1.old Z1.out id
  have y2 := ho1.old Z2.out id
  have c0 : w1.cell? ⟨w.heap.size, 0, none⟩ = some (.int .u32 a0) := cell_at y1 0
  have c1 : w1.cell? ⟨w.heap.size, 1, none⟩ = some (.int .u32 a1) := cell_at y1 1
  have d0 : w1.cell? ⟨w.heap.size + 1, 0, none⟩ = some (.int .u32 b0) := cell_at y2 0
  have d1 : w1.cell? ⟨w.heap.size + 1, 1, none⟩ = some (.int .u32 b1) := cell_at y2 1
  have HO := Lib.hid (hWo.trans ho1)
  clear hWo hW ho1 y1 y2
  obtain ⟨X, hX⟩ : ∃ X : Nat, X = a0 * 4294967296 + a1 := ⟨_, rfl⟩
  obtain ⟨Y, hY⟩ : ∃ Y : Nat, Y = b0 * 4294967296 + b1 := ⟨_, rfl⟩
  have HX := Lib.hid hX
  have HY := Lib.hid hY
  clear hX hY
  go_upto_region 3 with (fail)
  go_cut [7, 8] from 16 to 25 (fun s7 s8 wx => s7 = .int .u64 (X : Nat) ∧ s8 = .int .u64 (Y : Nat) ∧ w1.drew = wx)
  case first =>
    go_region_law ((go_simp; (with_reducible refine (HVE.out _ _ _ (by assumption) (by assumption)).mono ?_); rintro e w2 ⟨rfl, rfl⟩))
    all_goals (
      go_wp2_with fail
      go_meet
      exact ⟨congrArg (Value.int .u64) (by rw [HX.out]; omega), congrArg (Value.int .u64) (by rw [HY.out]; omega), rfl⟩)
  case rest =>
  obtain ⟨rfl, rfl, rfl⟩ := hcut
  have HL := Lib.hid (life_of w1.drew a0 a1 ha0 ha1)
  have HL2 := Lib.hid (life_any w1.drew v HV.out)
  have HVD := Lib.hid (version_any w1.drew (v / 2 ^ 32) (v % 2 ^ 32) (by have := HV.out; omega) (by omega))
  have hvd : v / 2 ^ 32 * 4294967296 + v % 2 ^ 32 = v := by omega
  rw [hvd] at HVD
  have hcase : ((a0 < b0 ∧ X < Y) ∨ (b0 < a0 ∧ Y < X)) ∨ (a0 = b0 ∧ ((a1 < b1 ∧ X < Y) ∨ (b1 < a1 ∧ Y < X) ∨ (a1 = b1 ∧ X = Y))) := by
    rw [HX.out, HY.out]
    omega
  rw [← HX.out] at HL
  have HCASE := Lib.hid hcase
  clear hvd hcase
  generalize v / 2 ^ 32 = q1 at *
  generalize v % 2 ^ 32 = q2 at *
  clear ha0 ha1 hb0 hb1
  go_wp2_with fail
  refine HL.out.mono ?_
  rintro e w2 ⟨rfl, rfl⟩
  go_wp2_with fail
  refine HL2.out.mono ?_
  rintro e w2 ⟨rfl, rfl⟩
  have HO2 := Lib.hid HO.out.drew
  have heq := eqA
  rcases HCASE.out with (⟨h1, h2⟩ | ⟨h1, h2⟩) | ⟨rfl, ⟨h1, h2⟩ | ⟨h1, h2⟩ | ⟨rfl, rfl⟩⟩
  · obtain ⟨⟨i1, i2⟩, ⟨i3, i4⟩, ⟨i5, i6, i7, i8⟩, i9⟩ := ltF h1
    obtain ⟨⟨j1, j2⟩, ⟨j3, j4⟩, ⟨j5, j6, j7, j8⟩, j9⟩ := ltF h2
    go_wp2_with fail
    refine HVD.out.mono ?_
    rintro e w2 ⟨rfl, rfl⟩
    go_wp2_with fail
    go_ret
    exact ⟨rfl, HO2.out⟩
  · obtain ⟨⟨i1, i2⟩, ⟨i3, i4⟩, ⟨i5, i6, i7, i8⟩, i9⟩ := ltF h1
    obtain ⟨⟨j1, j2⟩, ⟨j3, j4⟩, ⟨j5, j6, j7, j8⟩, j9⟩ := ltF h2
    have i10 : ((a0 : Int) == (b0 : Int)) = false := by simp; omega
    have j10 : ((X : Int) == (Y : Int)) = false := by simp; omega
    have i11 : ¬ (a0 = b0) := by omega
    have j11 : ¬ (X = Y) := by omega
    go_wp2_with fail
    refine HVD.out.mono ?_
    rintro e w2 ⟨rfl, rfl⟩
    go_wp2_with fail
    go_ret
    exact ⟨rfl, HO2.out⟩
  · obtain ⟨⟨i1, i2⟩, ⟨i3, i4⟩, ⟨i5, i6, i7, i8⟩, i9⟩ := ltF h1
    obtain ⟨⟨j1, j2⟩, ⟨j3, j4⟩, ⟨j5, j6, j7, j8⟩, j9⟩ := ltF h2
    go_wp2_with fail
    refine HVD.out.mono ?_
    rintro e w2 ⟨rfl, rfl⟩
    go_wp2_with fail
    go_ret
    exact ⟨rfl, HO2.out⟩
  · obtain ⟨⟨i1, i2⟩, ⟨i3, i4⟩, ⟨i5, i6, i7, i8⟩, i9⟩ := ltF h1
    obtain ⟨⟨j1, j2⟩, ⟨j3, j4⟩, ⟨j5, j6, j7, j8⟩, j9⟩ := ltF h2
    have i10 : ((a1 : Int) == (b1 : Int)) = false := by simp; omega
    have j10 : ((X : Int) == (Y : Int)) = false := by simp; omega
    have i11 : ¬ (a1 = b1) := by omega
    have j11 : ¬ (X = Y) := by omega
    go_wp2_with fail
    refine HVD.out.mono ?_
    rintro e w2 ⟨rfl, rfl⟩
    go_wp2_with fail
    go_ret
    exact ⟨rfl, HO2.out⟩
  · go_wp2_with fail
    refine HVD.out.mono ?_
    rintro e w2 ⟨rfl, rfl⟩
    go_wp2_with fail
    go_ret
    exact ⟨rfl, HO2.out⟩
end Go.Proofs.YtfmplmchpdmbmaaDoor
