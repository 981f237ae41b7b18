/- The reference's Good and Data. -/
import Derived.Test.YtianboachknfmaaDoorRec6
import Derived.Test.YtianboachknfmaaDoorRecK
namespace Go.Proofs.YtianboachknfmaaDoor
open Go.Conc Go.RowKit

theorem good_form (key : ByteArray) (ver : Nat) (o age : Int) (gone : Bool) (data : ByteArray) : goodP key ver o age gone data = decide ((originP key : Int) = o ∧ o ≠ 0 ∧ 4294967296 ≤ ver ∧ 0 ≤ age ∧ age ≤ 65535 ∧ data.size = if gone then 0 else 10) := by
  have hso := split_origin key
  unfold goodP
  generalize (if gone then 0 else 10) = z
  by_cases hp : 0 < originP key
  · obtain ⟨r1, r2, _⟩ := hso.1 hp
    rw [r1, r2, Bool.eq_iff_iff]
    simp
    omega
  · obtain ⟨r1, r2, _⟩ := hso.2 (by omega)
    rw [r1, Bool.eq_iff_iff]
    simp
    omega
set_option maxRecDepth 100000 in
set_option maxHeartbeats 2000000 in
theorem rgood_any (w : World) (key : ByteArray) (ver : Nat) (o age : Int) (gone : Bool) (data : ByteArray) (hk : key.size ≤ maxLen) :
    Calls Tryd.prog 85 #[.string key, .int .u64 ver, .int .i64 o, .int .i64 age, .bool gone, .string data] w fun e w' => e = .returned (.bool (goodP key ver o age gone data)) ∧ Only (fun _ => False) w w' := by
  have GF := Lib.hid (good_form key ver o age gone data)
  go_enter Tryd.func85, Tryd.ntmps85
  go_wp2_with fail
  refine (rorigin_any _ key hk).mono ?_
  rintro e w1 ⟨rfl, ho1⟩
  generalize originP key = L at *
  have HO1 := Lib.hid ho1
  have hdz : data.size = 0 ∨ data.size ≠ 0 := by omega
  have HDZ := Lib.hid hdz
  clear ho1 hdz
  by_cases c1 : (L : Int) = o
  · subst c1
    by_cases c2 : (L : Int) = 0
    · have q2 : ((L : Int) == 0) = true := by simp; omega
      go_wp2_with fail
      go_ret
      refine ⟨ret_bool ?_, HO1.out⟩
      rw [GF.out]
      refine (decide_eq_false ?_).symm
      omega
    · have q2 : ((L : Int) == 0) = false := by simp; omega
      by_cases c3 : (ver : Int) < 4294967296
      · have q3 : decide ((ver : Int) < 4294967296) = true := decide_eq_true c3
        go_wp2_with fail
        go_ret
        refine ⟨ret_bool ?_, HO1.out⟩
        rw [GF.out]
        refine (decide_eq_false ?_).symm
        omega
      · have q3 : decide ((ver : Int) < 4294967296) = false := decide_eq_false c3
        by_cases c4 : age < 0
        · have q4 : decide (age < 0) = true := decide_eq_true c4
          go_wp2_with fail
          go_ret
          refine ⟨ret_bool ?_, HO1.out⟩
          rw [GF.out]
          refine (decide_eq_false ?_).symm
          omega
        · have q4 : decide (age < 0) = false := decide_eq_false c4
          have h8 : 0 ≤ age := by omega
          by_cases c5 : 65535 < age
          · have q5 : decide (65535 < age) = true := decide_eq_true c5
            go_wp2_with fail
            go_ret
            refine ⟨ret_bool ?_, HO1.out⟩
            rw [GF.out]
            refine (decide_eq_false ?_).symm
            omega
          · have q5 : decide (65535 < age) = false := decide_eq_false c5
            have h10 : age ≤ 65535 := by omega
            have hv : 4294967296 ≤ ver := by omega
            have HV := Lib.hid (And.intro c2 (And.intro hv (And.intro h8 h10)))
            cases gone with
            | true =>
              rcases HDZ.out with h0 | h0
              · have e0 := empty_true h0
                have HD := Lib.hid h0
                clear h0
                go_wp2_with fail
                go_ret
                refine ⟨ret_bool ?_, HO1.out⟩
                rw [GF.out]
                exact (decide_eq_true ⟨(by first | trivial | rfl), HV.out.1, HV.out.2.1, HV.out.2.2.1, HV.out.2.2.2, HD.out⟩).symm
              · have e0 := empty_false h0
                have HD := Lib.hid h0
                clear h0
                go_wp2_with fail
                go_ret
                refine ⟨ret_bool ?_, HO1.out⟩
                rw [GF.out]
                exact (decide_eq_false (fun h => HD.out h.2.2.2.2.2)).symm
            | false =>
              by_cases hd : data.size = 10
              · have e1 : ((data.size : Int) == 10) = true := by simp; omega
                have HD := Lib.hid hd
                clear hd
                go_wp2_with fail
                go_ret
                refine ⟨ret_bool ?_, HO1.out⟩
                rw [GF.out]
                exact (decide_eq_true ⟨(by first | trivial | rfl), HV.out.1, HV.out.2.1, HV.out.2.2.1, HV.out.2.2.2, HD.out⟩).symm
              · have e1 : ((data.size : Int) == 10) = false := by simp; omega
                have HD := Lib.hid hd
                clear hd
                go_wp2_with fail
                go_ret
                refine ⟨ret_bool ?_, HO1.out⟩
                rw [GF.out]
                exact (decide_eq_false (fun h => HD.out h.2.2.2.2.2)).symm
  · have q1 : ((L : Int) != o) = true := by simp; omega
    have q1' : ((L : Int) == o) = false := by simp; omega
    go_wp2_with fail
    go_ret
    refine ⟨ret_bool ?_, HO1.out⟩
    rw [GF.out]
    refine (decide_eq_false ?_).symm
    omega
end Go.Proofs.YtianboachknfmaaDoor
