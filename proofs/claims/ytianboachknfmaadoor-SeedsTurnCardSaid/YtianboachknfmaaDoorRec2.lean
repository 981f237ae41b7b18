/- The reference's Named, Key, Origin. -/
import Derived.Test.YtianboachknfmaaDoorRec1
namespace Go.Proofs.YtianboachknfmaaDoor
open Go.Conc Go.RowKit

/-- Is there no label's byte ahead of place k? -/
def pd (l : List UInt8) : Nat → Bool
  | 0 => true
  | j + 1 => decide (l.getD j 0 = 46)
theorem namedP_go {s : ByteArray} (h1 : s.size ≠ 0) (h2 : ¬ 62 < s.size) : namedP s = good true s.data.toList := by
  rw [namedP_ok h1 h2, named_split]
  rfl

set_option maxRecDepth 100000 in
set_option maxHeartbeats 1000000 in
theorem rnamed_any (w : World) (s : ByteArray) (hs : s.size ≤ maxLen) :
    Calls Tryd.prog 76 #[.string s] w fun e w' => e = .returned (.bool (namedP s)) ∧ w = w' := by
  unfold maxLen at hs
  by_cases h0 : s.size = 0
  · have HB := Lib.hid (namedP_bad (.inl h0))
    have q1 : decide ((s.size : Int) < 1) = true := by simp; omega
    clear h0
    go_enter Tryd.func76, Tryd.ntmps76
    go_wp2_with fail
    go_ret
    exact ⟨ret_bool HB.out.symm, rfl⟩
  · have q1 : decide ((s.size : Int) < 1) = false := by simp; omega
    by_cases h6 : 62 < s.size
    · have e1 : decide ((62 : Int) < (s.size : Int)) = true := by simp; omega
      have HB := Lib.hid (namedP_bad (.inr h6))
      clear h0
      go_enter Tryd.func76, Tryd.ntmps76
      go_wp2_with fail
      go_ret
      exact ⟨ret_bool HB.out.symm, rfl⟩
    · have e1 : decide ((62 : Int) < (s.size : Int)) = false := by simp; omega
      have HB := Lib.hid (namedP_go h0 h6)
      have H0 := Lib.hid h0
      clear h0
      go_enter Tryd.func76, Tryd.ntmps76
      go_wp2_with fail
      clear q1
      go_loopg [3, 4] s.size (fun g v3 v4 wx => ∃ k : Nat, v3 = .int .i64 k ∧ k ≤ s.size ∧ w = wx ∧ good true s.data.toList = good (pd s.data.toList k) (s.data.toList.drop k) ∧ (k = s.size → pd s.data.toList k = false) ∧ g = s.size - k)
      case atStart => exact ⟨0, rfl, Nat.zero_le _, rfl, rfl, fun e => absurd e.symm H0.out, rfl⟩
      case round =>
        obtain ⟨k, rfl, hk, rfl, hg0, hend, hg⟩ := hrel
        have Hg := Lib.hid hg
        have HG0 := Lib.hid hg0
        have HE := Lib.hid hend
        clear hg hg0 hend
        by_cases hlt : k < s.size
        · have hd : s.data.toList.drop k = s.data.toList[k]'hlt :: s.data.toList.drop (k + 1) := List.drop_eq_getElem_cons hlt
          have hbg := byte_get s k hlt
          have hpd : pd s.data.toList (k + 1) = decide (s.data.toList[k]'hlt = 46) := by
            show decide (s.data.toList.getD k 0 = 46) = _
            rw [List.getD_eq_getElem?_getD, List.getElem?_eq_getElem hlt]
            rfl
          generalize hc0 : s.data.toList[k]'hlt = c at *
          have HC := Lib.hid hc0
          have HD := Lib.hid hd
          have HPD := Lib.hid hpd
          clear hd hc0 hpd
          by_cases hdot : c = 46
          · have HP2 := Lib.hid (show pd s.data.toList (k + 1) = true by rw [HPD.out]; exact decide_eq_true hdot)
            have HGD := Lib.hid (show good true s.data.toList = (!pd s.data.toList k && good true (s.data.toList.drop (k + 1))) by rw [HG0.out, HD.out, good, if_pos hdot])
            have d1 : ((c.toNat : Int) == 46) = true := by subst hdot; rfl
            clear hdot
            by_cases hk0 : k = 0
            · have d2 : ((k : Int) == 0) = true := by simp; omega
              have HF := Lib.hid (show namedP s = false by rw [HB.out, HGD.out, hk0]; rfl)
              clear hk0
              go_wp2_with fail
              go_ret
              exact ⟨ret_bool HF.out.symm, rfl⟩
            · have d2 : ((k : Int) == 0) = false := by simp; omega
              by_cases hkl : k + 1 = s.size
              · have d3 : ((k : Int) == (s.size : Int) - 1) = true := by simp; omega
                have HF := Lib.hid (show namedP s = false by
                  rw [HB.out, HGD.out, List.drop_eq_nil_of_le (by show s.size ≤ k + 1; omega)]
                  simp [good])
                clear hkl hk0
                go_wp2_with fail
                go_ret
                exact ⟨ret_bool HF.out.symm, rfl⟩
              · have d3 : ((k : Int) == (s.size : Int) - 1) = false := by simp; omega
                obtain ⟨j, rfl⟩ : ∃ j, k = j + 1 := ⟨k - 1, by omega⟩
                have d5 : ((j : Int) + 1 == 0) = false := by simp; omega
                have d6 : ((j : Int) + 1 == (s.size : Int) - 1) = false := by simp; omega
                clear d2 d3
                have hjl : j < s.size := by omega
                have hbj := byte_get s j hjl
                have hpj : pd s.data.toList (j + 1) = decide (s.data.toList[j]'hjl = 46) := by
                  show decide (s.data.toList.getD j 0 = 46) = _
                  rw [List.getD_eq_getElem?_getD, List.getElem?_eq_getElem hjl]
                  rfl
                generalize hcj : s.data.toList[j]'hjl = cj at *
                have HPJ := Lib.hid hpj
                clear hcj hpj
                have hj1 : ((j + 1 : Nat) : Int) - 1 = (j : Int) := by omega
                by_cases hdj : cj = 46
                · have d4 : ((cj.toNat : Int) == 46) = true := by subst hdj; rfl
                  have HF := Lib.hid (show namedP s = false by rw [HB.out, HGD.out, HPJ.out, hdj]; rfl)
                  clear hdj hkl hk0
                  go_wp2_with fail
                  go_ret
                  exact ⟨ret_bool HF.out.symm, rfl⟩
                · have d4 : ((cj.toNat : Int) == 46) = false := by
                    simp
                    intro e
                    exact hdj (UInt8.toNat_inj.1 (by simpa using (show cj.toNat = 46 by omega)))
                  have HF := Lib.hid (show good true s.data.toList = good (pd s.data.toList (j + 1 + 1)) (s.data.toList.drop (j + 1 + 1)) by
                    rw [HGD.out, HPJ.out, HP2.out, decide_eq_false hdj]
                    rfl)
                  have HKL := Lib.hid hkl
                  clear hdj hkl hk0
                  go_wp2_with fail
                  go_roundg (s.size - (j + 1 + 1))
                  case measure => rw [Hg.out]; omega
                  case rel => exact ⟨j + 1 + 1, by go_num, by omega, rfl, HF.out, fun e => absurd e HKL.out, rfl⟩
          · have d1 : ((c.toNat : Int) == 46) = false := by
              simp
              intro e
              exact hdot (UInt8.toNat_inj.1 (by simpa using (show c.toNat = 46 by omega)))
            have HP2 := Lib.hid (show pd s.data.toList (k + 1) = false by rw [HPD.out]; exact decide_eq_false hdot)
            have HGD := Lib.hid (show good true s.data.toList = (letterB c && good false (s.data.toList.drop (k + 1))) by rw [HG0.out, HD.out, good, if_neg hdot])
            have HL := Lib.hid (show letterB c = ((decide (97 ≤ c.toNat) && decide (c.toNat ≤ 122)) || (decide (48 ≤ c.toNat) && decide (c.toNat ≤ 57)) || decide (c.toNat = 45) || decide (c.toNat = 95)) from rfl)
            clear hdot
            have hcl := c.toNat_lt
            cases hlb : letterB c with
            | true =>
              have hcase : ((97 : Int) ≤ c.toNat ∧ (c.toNat : Int) ≤ 122) ∨ ((48 : Int) ≤ c.toNat ∧ (c.toNat : Int) ≤ 57) ∨ ((45 : Int) ≤ c.toNat ∧ (c.toNat : Int) ≤ 45 ∧ ((c.toNat : Int) == 45) = true ∧ ((c.toNat : Int) != 45) = false) ∨
                  ((95 : Int) ≤ c.toNat ∧ (c.toNat : Int) ≤ 95 ∧ ((c.toNat : Int) == 45) = false ∧ ((c.toNat : Int) != 45) = true ∧ ((c.toNat : Int) == 95) = true ∧ ((c.toNat : Int) != 95) = false) := by
                rw [HL.out] at hlb
                simp at hlb ⊢
                omega
              have HLB := Lib.hid hlb
              clear hlb
              rcases hcase with ⟨h1, h2⟩ | ⟨h1, h2⟩ | ⟨h1, h2, h3, h4⟩ | ⟨h1, h2, h3, h4, h5, h6⟩
              all_goals (
                go_wp2_with fail
                go_roundg (s.size - (k + 1))
                case measure => rw [Hg.out]; omega
                case rel =>
                  refine ⟨k + 1, by go_num, by omega, rfl, ?_, fun _ => HP2.out, rfl⟩
                  rw [HGD.out, HP2.out, HLB.out]
                  rfl)
            | false =>
              have hcase : (((c.toNat : Int) == 45) = false ∧ ((c.toNat : Int) != 45) = true ∧ ((c.toNat : Int) == 95) = false ∧ ((c.toNat : Int) != 95) = true) ∧ ((c.toNat : Int) < 48 ∨ (decide ((c.toNat : Int) ≤ 57) = false ∧ (57 : Int) < c.toNat ∧ (c.toNat : Int) < 97) ∨ (decide ((c.toNat : Int) ≤ 57) = false ∧ decide ((c.toNat : Int) ≤ 122) = false ∧ (122 : Int) < c.toNat)) := by
                rw [HL.out] at hlb
                simp at hlb ⊢
                omega
              have HLB := Lib.hid hlb
              clear hlb
              obtain ⟨⟨h1, h2, h3, h4⟩, hcase⟩ := hcase
              rcases hcase with h5 | ⟨h5, h6, h7⟩ | ⟨h5, h6, h7⟩
              all_goals (
                go_wp2_with fail
                go_ret
                exact ⟨ret_bool (by rw [HB.out, HGD.out, HLB.out]; rfl), rfl⟩)
        · have hke : k = s.size := by omega
          have HF := Lib.hid (show namedP s = true by
            rw [HB.out, HG0.out, List.drop_eq_nil_of_le (by show s.size ≤ k; omega), HE.out hke]
            rfl)
          clear hke
          go_wp2_with fail
          go_ret
          exact ⟨ret_bool HF.out.symm, rfl⟩
end Go.Proofs.YtianboachknfmaaDoor
