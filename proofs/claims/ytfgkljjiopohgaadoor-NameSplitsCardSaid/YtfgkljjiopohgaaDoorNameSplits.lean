/- The walk of bellhoplaw21.NameSplits. -/
import Derived.Test.YtfgkljjiopohgaaDoorName8
import Derived.Test.YtfgkljjiopohgaaDoorName9
namespace Go.Proofs.YtfgkljjiopohgaaDoor
open Go.Conc Go.RowKit

set_option maxRecDepth 100000 in
set_option maxHeartbeats 1000000 in
theorem nameSplits_any (w : World) (m0 : Int) (hm : w.cell? ⟨0, 0, none⟩ = some (.int .i64 m0)) (msg : ByteArray) (hmsg : msg.size ≤ maxLen) :
    Calls Tryd.prog 3 #[.string msg] w fun e w' => e = .returned (.bool true) ∧ Only (fun _ => False) w w' := by
  have HM := Lib.hid hm
  unfold maxLen at hmsg
  go_enter Tryd.func3, Tryd.ntmps3
  go_wp2_with fail
  refine (speaks_any w m0 HM.out).mono ?_
  rintro e w1 ⟨rfl, ho1⟩
  go_wp2_with fail
  have hmm : (msg.extract 0 (min (msg.size : Int) 300).toNat).size ≤ 300 := by rw [ByteArray.size_extract]; omega
  generalize msg.extract 0 (min (msg.size : Int) 300).toNat = s at *
  have HM1 := Lib.hid (ho1.cell HM.out id)
  clear hmsg hm
  by_cases h0 : s.size = 0
  · refine (split_empty _ s h0).mono ?_
    rintro e w2 ⟨rfl, rfl⟩
    go_wp2_with fail
    refine (rsplit_empty _ s h0).mono ?_
    rintro e w3 ⟨rfl, rfl⟩
    go_wp2_with fail
    refine (rmay_any _ _ [] (Sl.nil _ _) (by simp)).mono ?_
    rintro e w4 ⟨rfl, rfl⟩
    have hmay : mayGo 0 [] = true := rfl
    rw [hmay]
    have hse := Lib.hid (show s = ⟨#[]⟩ from str_ext (by simpa using List.eq_nil_of_length_eq_zero (show s.data.toList.length = 0 from h0)))
    go_wp2_with fail
    refine (same_any _ _ _ [] [] (Sl.nil _ _) (Sl.nil _ _)).mono ?_
    rintro e w5 ⟨rfl, ho5⟩
    go_wp2_with fail
    refine (join_any _ _ [] (Sl.nil _ _) (by decide) (by decide)).mono ?_
    rintro e w6 ⟨rfl, ho6⟩
    have e6 := str_eq (show joinL [] = s by rw [hse.out]; rfl)
    go_wp2_with fail
    go_ret
    exact ⟨rfl, (ho1.trans ho5).trans ho6⟩
  · have hlen : (splitL s).length ≤ 301 := by rw [splitL_length]; have := countB_small s; omega
    have hszs : ∀ x ∈ splitL s, x.size ≤ maxLen := fun x hx => by have := splitL_size s x hx; unfold maxLen; omega
    have hj := join_splitL s
    have hjl : (Lib.join ((splitL s).map (·.data.toList)) [46]).length ≤ 100000 := by
      rw [splitL_data, join_spl]
      show s.size ≤ 100000
      omega
    refine (split_any _ s m0 (by omega) h0 HM1.out).mono ?_
    rintro e w2 ⟨ho2, h⟩
    have HZ := Lib.hid hszs
    have HJ := Lib.hid hj
    have HL := Lib.hid hjl
    clear hszs hj hjl
    rcases h with ⟨hf, rfl⟩ | ⟨hf, v, rfl, hs⟩
    · have HF := Lib.hid hf
      clear hf
      go_wp2_with fail
      refine (rsplit_any _ s h0 (by omega)).mono ?_
      rintro e w3 ⟨v3, rfl, ho3, hs3⟩
      go_wp2_with fail
      refine (rmay_any _ v3 _ hs3 HZ.out).mono ?_
      rintro e w4 ⟨rfl, rfl⟩
      rw [HF.out]
      go_wp2_with fail
      go_ret
      exact ⟨rfl, (ho1.trans ho2).trans ho3⟩
    · have HF := Lib.hid hf
      clear hf
      go_wp2_with fail
      refine (rsplit_any _ s h0 (by omega)).mono ?_
      rintro e w3 ⟨v3, rfl, ho3, hs3⟩
      go_wp2_with fail
      refine (rmay_any _ v3 _ hs3 HZ.out).mono ?_
      rintro e w4 ⟨rfl, rfl⟩
      rw [HF.out]
      have hs2 := hs.new ho3
      go_wp2_with fail
      refine (same_any _ _ _ _ _ hs2 hs3).mono ?_
      rintro e w5 ⟨rfl, ho5⟩
      have q6 : decide (splitL s = splitL s) = true := by simp
      rw [q6]
      go_wp2_with fail
      refine (join_any _ _ _ (hs2.new ho5) HL.out (by omega)).mono ?_
      rintro e w6 ⟨rfl, ho6⟩
      have e6 := str_eq HJ.out
      go_wp2_with fail
      go_ret
      exact ⟨rfl, (((ho1.trans ho2).trans ho3).trans ho5).trans ho6⟩
end Go.Proofs.YtfgkljjiopohgaaDoor
