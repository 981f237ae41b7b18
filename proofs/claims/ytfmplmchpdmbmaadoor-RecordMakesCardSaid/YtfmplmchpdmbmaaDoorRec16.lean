/- What a made record is and tells. -/
import Derived.Test.YtfmplmchpdmbmaaDoorRec15
import Derived.Test.YtfmplmchpdmbmaaDoorRec11
namespace Go.Proofs.YtfmplmchpdmbmaaDoor
open Go.Conc Go.RowKit

theorem beL2 (n : Nat) (hn : n < 65536) : beL n 2 = (twoB n).data.toList := by
  have h := congrArg (fun b : ByteArray => b.data.toList) (keyB_be n ⟨#[]⟩ hn)
  unfold keyB at h
  simpa [ByteArray.data_append, twoB] using h
theorem dataB_ref (a0 a1 a2 a3 : Int) (p q r : Nat) (hp : p < 65536) (hq : q < 65536) (hr : r < 65536) : dataB a0 a1 a2 a3 p q r = refD a0 a1 a2 a3 p q r := by
  apply str_ext
  unfold dataB dataL refD
  rw [beL2 p hp, beL2 q hq, beL2 r hr]
  simp [ByteArray.data_append]
theorem refD_bytes (a0 a1 a2 a3 p q r : Nat) (h0 : a0 < 256) (h1 : a1 < 256) (h2 : a2 < 256) (h3 : a3 < 256) (hp : p < 65536) (hq : q < 65536) (hr : r < 65536) :
    bA (refD a0 a1 a2 a3 p q r) 0 = a0 ∧ bA (refD a0 a1 a2 a3 p q r) 1 = a1 ∧ bA (refD a0 a1 a2 a3 p q r) 2 = a2 ∧ bA (refD a0 a1 a2 a3 p q r) 3 = a3 ∧ bA (refD a0 a1 a2 a3 p q r) 4 * 256 + bA (refD a0 a1 a2 a3 p q r) 5 = p ∧ bA (refD a0 a1 a2 a3 p q r) 6 * 256 + bA (refD a0 a1 a2 a3 p q r) 7 = q ∧ bA (refD a0 a1 a2 a3 p q r) 8 * 256 + bA (refD a0 a1 a2 a3 p q r) 9 = r := by
  have e : (refD a0 a1 a2 a3 p q r).data.toList = [UInt8.ofNat ((a0 : Int)).toNat, UInt8.ofNat ((a1 : Int)).toNat, UInt8.ofNat ((a2 : Int)).toNat, UInt8.ofNat ((a3 : Int)).toNat] ++ [UInt8.ofNat ((p : Int) / 256).toNat, UInt8.ofNat ((p : Int) % 256).toNat] ++ [UInt8.ofNat ((q : Int) / 256).toNat, UInt8.ofNat ((q : Int) % 256).toNat] ++ [UInt8.ofNat ((r : Int) / 256).toNat, UInt8.ofNat ((r : Int) % 256).toNat] := by
    simp only [refD, twoB, ByteArray.data_append, Array.toList_append]
    rfl
  unfold bA
  rw [e]
  simp only [List.cons_append, List.nil_append, List.getD_cons_zero, List.getD_cons_succ, UInt8.toNat_ofNat']
  omega
theorem refD_size (a0 a1 a2 a3 : Int) (p q r : Nat) : (refD a0 a1 a2 a3 p q r).size = 10 := rfl
theorem made_good (n : Nat) (name : ByteArray) (ver : Nat) (gone : Bool) (d : ByteArray) (h1 : nodeB n = true) (h2 : namedP name = true) (h3 : ver / 2 ^ 32 ≠ 0) (hd : d.size = if gone then 0 else 10) : goodP (keyB n name) ver n 0 gone d = true := by
  obtain ⟨s1, s2, s3⟩ := split_key h1 h2
  unfold goodP
  rw [s1, s3, hd]
  simp
  omega
theorem eqL (w : World) (n : ByteArray) (a0 a1 a2 a3 p q r : Int) : (binOp BinOp.eql 56 (.agg #[.string n, .int .u8 a0, .int .u8 a1, .int .u8 a2, .int .u8 a3, .int .u16 p, .int .u16 q, .int .u16 r]) (.agg #[.string n, .int .u8 a0, .int .u8 a1, .int .u8 a2, .int .u8 a3, .int .u16 p, .int .u16 q, .int .u16 r])).run Tryd.prog w = .ok (.bool true) w := by
  have hc : Tryd.prog.cellsOf 5 = 1 := by kernel_rfl
  have hsz : ∀ w, (Go.sizeOf 5).run Tryd.prog w = .ok 1 w := fun w => by kernel_rfl
  obtain ⟨i, hi, _⟩ := info_parts infoU8
  simp [run_equalIn_array (P := Tryd.prog) _ _ _ _ Tryd.underlying46 hi, Op.eqItems, List.range, List.range.loop, hc, part, hsz, go_sem]
end Go.Proofs.YtfmplmchpdmbmaaDoor
