/- Equality of services; a service's data told and put together again. -/
import Derived.Test.YtfmplmchpdmbmaaDoorRec14
import Derived.ChangeKeysEq
namespace Go.Proofs.YtfmplmchpdmbmaaDoor
open Go.Conc Go.RowKit

theorem infoU8 : (Tryd.prog.info? 5).map (fun i => (i.zero, i.size, i.bytes)) = some (some (.int .u8 0), 1, 1) := by kernel_rfl
theorem eqS0 (w : World) : (binOp BinOp.eql 49 (.agg #[.string ⟨#[]⟩, .int .u8 0, .int .u8 0, .int .u8 0, .int .u8 0, .int .u16 0, .int .u16 0, .int .u16 0]) (.agg #[.string ⟨#[]⟩, .int .u8 0, .int .u8 0, .int .u8 0, .int .u8 0, .int .u16 0, .int .u16 0, .int .u16 0])).run Tryd.prog w = .ok (.bool true) w := by kernel_rfl
theorem refD_told (data : ByteArray) (h : data.size = 10) : refD (bA data 0 : Nat) (bA data 1 : Nat) (bA data 2 : Nat) (bA data 3 : Nat) (bA data 4 * 256 + bA data 5) (bA data 6 * 256 + bA data 7) (bA data 8 * 256 + bA data 9) = data := by
  obtain ⟨x0, x1, x2, x3, x4, x5, x6, x7, x8, x9, rfl⟩ := ten_bytes data h
  have hx : ∀ x : UInt8, UInt8.ofNat ((x.toNat : Int)).toNat = x := fun x => by simp
  have hq : ∀ x y : UInt8, UInt8.ofNat ((((x.toNat * 256 + y.toNat : Nat) : Int) / 256).toNat) = x := fun x y => by
    have := y.toNat_lt
    rw [show ((((x.toNat * 256 + y.toNat : Nat) : Int) / 256).toNat) = x.toNat by omega]
    simp
  have hr : ∀ x y : UInt8, UInt8.ofNat ((((x.toNat * 256 + y.toNat : Nat) : Int) % 256).toNat) = y := fun x y => by
    have := y.toNat_lt
    rw [show ((((x.toNat * 256 + y.toNat : Nat) : Int) % 256).toNat) = y.toNat by omega]
    simp
  apply str_ext
  simp only [refD, twoB, ByteArray.data_append, Array.toList_append]
  show [UInt8.ofNat ((x0.toNat : Int)).toNat, UInt8.ofNat ((x1.toNat : Int)).toNat, UInt8.ofNat ((x2.toNat : Int)).toNat, UInt8.ofNat ((x3.toNat : Int)).toNat] ++ [UInt8.ofNat ((((x4.toNat * 256 + x5.toNat : Nat) : Int) / 256).toNat), UInt8.ofNat ((((x4.toNat * 256 + x5.toNat : Nat) : Int) % 256).toNat)] ++ [UInt8.ofNat ((((x6.toNat * 256 + x7.toNat : Nat) : Int) / 256).toNat), UInt8.ofNat ((((x6.toNat * 256 + x7.toNat : Nat) : Int) % 256).toNat)] ++ [UInt8.ofNat ((((x8.toNat * 256 + x9.toNat : Nat) : Int) / 256).toNat), UInt8.ofNat ((((x8.toNat * 256 + x9.toNat : Nat) : Int) % 256).toNat)] = _
  simp only [hx, hq, hr]
  rfl
end Go.Proofs.YtfmplmchpdmbmaaDoor
