/- x & mask, plainly. -/
import Derived.Test.YtjgcbcahikemdaaBase
namespace Go.Proofs.Ytjgcbcahikemdaa
open Go.Conc Go.RowKit

theorem and_i64 (a : Int) (m : Nat) (hm : m < 60) : bits .and .i64 a ((2 ^ m - 1 : Nat) : Int) = a % (2 ^ m : Nat) := by
  show IntKind.i64.wrap ((BitVec.ofInt 64 a &&& BitVec.ofInt 64 ((2 ^ m - 1 : Nat) : Int)).toNat : Int) = _
  have hp : 2 ^ m ≤ 2 ^ 60 := Nat.pow_le_pow_right (by omega) (by omega)
  have hp0 : 0 < 2 ^ m := Nat.two_pow_pos m
  rw [BitVec.toNat_and, BitVec.ofInt_natCast, BitVec.toNat_ofNat, Nat.mod_eq_of_lt (show 2 ^ m - 1 < 2 ^ 64 by omega), Nat.and_two_pow_sub_one_eq_mod, BitVec.toNat_ofInt]
  have h1 : ((a % ((2 ^ 64 : Nat) : Int)).toNat % 2 ^ m : Nat) < 2 ^ 60 := Nat.lt_of_lt_of_le (Nat.mod_lt _ hp0) hp
  have h2 : (((a % ((2 ^ 64 : Nat) : Int)).toNat % 2 ^ m : Nat) : Int) = a % (2 ^ m : Nat) := by
    rw [Int.natCast_emod, Int.toNat_of_nonneg (Int.emod_nonneg _ (by omega))]
    exact Int.emod_emod_of_dvd a (Int.natCast_dvd_natCast.2 (Nat.pow_dvd_pow 2 (by omega)))
  rw [← h2, IntKind.wrap_i64]
  omega
theorem and_u8 (a : Nat) (ha : a < 256) (m : Nat) (hm : m < 8) : bits .and .u8 (a : Int) ((2 ^ m - 1 : Nat) : Int) = ((a % 2 ^ m : Nat) : Int) := by
  show IntKind.u8.wrap ((BitVec.ofInt 8 (a : Int) &&& BitVec.ofInt 8 ((2 ^ m - 1 : Nat) : Int)).toNat : Int) = _
  have hp : 2 ^ m ≤ 2 ^ 7 := Nat.pow_le_pow_right (by omega) (by omega)
  have hp0 : 0 < 2 ^ m := Nat.two_pow_pos m
  rw [BitVec.toNat_and, BitVec.ofInt_natCast, BitVec.ofInt_natCast, BitVec.toNat_ofNat, BitVec.toNat_ofNat, Nat.mod_eq_of_lt (show a < 2 ^ 8 by omega), Nat.mod_eq_of_lt (show 2 ^ m - 1 < 2 ^ 8 by omega), Nat.and_two_pow_sub_one_eq_mod]
  have h1 : a % 2 ^ m < 2 ^ 7 := Nat.lt_of_lt_of_le (Nat.mod_lt _ hp0) hp
  rw [show IntKind.u8.wrap ((a % 2 ^ m : Nat) : Int) = ((a % 2 ^ m : Nat) : Int) % 256 from rfl]
  omega
theorem and3_i64 (a : Int) : bits .and .i64 a 3 = a % 4 := and_i64 a 2 (by omega)
theorem and1_u8 (a : Nat) (ha : a < 256) : bits .and .u8 (a : Int) 1 = ((a % 2 : Nat) : Int) := and_u8 a ha 1 (by omega)
theorem and3_u8 (a : Nat) (ha : a < 256) : bits .and .u8 (a : Int) 3 = ((a % 4 : Nat) : Int) := and_u8 a ha 2 (by omega)
end Go.Proofs.Ytjgcbcahikemdaa
