/- The walk of bellhoplaw21.NameReads. -/
import Derived.Test.YtfgkljjiopohgaaDoorName8
namespace Go.Proofs.YtfgkljjiopohgaaDoor
open Go.Conc Go.RowKit

set_option maxRecDepth 100000 in
theorem nameReads_any (w : World) (m0 : Int) (hm : w.cell? ⟨0, 0, none⟩ = some (.int .i64 m0)) (msg : ByteArray) (i : Int) (hmsg : msg.size ≤ maxLen) (hi : (Lit.int .i64 i).wf = true) :
    Calls Tryd.prog 4 #[.string msg, .int .i64 i] w fun e w' => e = .returned (.bool true) ∧ Only (fun _ => False) w w' := by
  have HM := Lib.hid hm
  clear hm
  unfold maxLen at hmsg
  simp [Lit.wf, IntKind.min, IntKind.max, IntKind.signed, IntKind.bits] at hi
  go_enter Tryd.func4, Tryd.ntmps4
  go_wp2_with fail
  refine (speaks_any w m0 HM.out).mono ?_
  rintro e w1 ⟨rfl, ho1⟩
  go_wp2_with fail
  have hmm : (msg.extract 0 (min (msg.size : Int) 400).toNat).size ≤ 400 := by rw [ByteArray.size_extract]; omega
  generalize msg.extract 0 (min (msg.size : Int) 400).toNat = mm at *
  clear hmsg
  by_cases hr : i < 0 ∨ (mm.size : Int) < i
  · have HR := Lib.hid hr
    clear hr
    refine (read_range _ mm i HR.out).mono ?_
    rintro e w2 ⟨rfl, rfl⟩
    go_wp2_with fail
    refine (rread_range _ mm i HR.out).mono ?_
    rintro e w3 ⟨rfl, rfl⟩
    go_wp2_with fail
    refine (same_any _ _ _ [] [] (Sl.nil _ _) (Sl.nil _ _)).mono ?_
    rintro e w4 ⟨rfl, ho4⟩
    go_wp2_with fail
    go_ret
    exact ⟨rfl, ho1.trans ho4⟩
  · obtain ⟨k, rfl⟩ := Int.eq_ofNat_of_zero_le (show 0 ≤ i by omega)
    have hk : k ≤ mm.size := by omega
    clear hr hi
    refine (read_any _ mm k (by omega) hk).mono ?_
    rintro e w2 ⟨v2, rfl, ho2, hs2⟩
    go_wp2_with fail
    refine (rread_top _ mm k (by omega) hk).mono ?_
    rintro e w3 ⟨v3, rfl, ho3, hs3⟩
    generalize rdP mm k k [] = r at *
    have hs23 := hs2.new ho3
    have e1 : (((r.err : Nat) : Int) == ((r.err : Nat) : Int)) = true := by simp
    have e2 : (r.stop == r.stop) = true := by simp
    go_wp2_with fail
    refine (same_any _ _ _ r.ls r.ls hs23 hs3).mono ?_
    rintro e w4 ⟨rfl, ho4⟩
    go_wp2_with fail
    go_ret
    exact ⟨ret_bool (by simp), ((ho1.trans ho2).trans ho3).trans ho4⟩
end Go.Proofs.YtfgkljjiopohgaaDoor
