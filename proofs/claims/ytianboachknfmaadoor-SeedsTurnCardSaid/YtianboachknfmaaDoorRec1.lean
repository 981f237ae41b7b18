/- record: letter, node, Named; the reference's Named. -/
import Derived.Test.YtianboachknfmaaDoorRec0
namespace Go.Proofs.YtianboachknfmaaDoor
open Go.Conc Go.RowKit

theorem letter_any (w : World) (c : Int) (b : UInt8) (hc : c = (b.toNat : Int)) : Calls Tryd.prog 99 #[.int .u8 c] w fun e w' => e = .returned (.bool (letterB b)) ∧ w = w' := by
  subst hc
  have hb := b.toNat_lt
  unfold letterB
  generalize b.toNat = n at *
  go_enter Tryd.func99, Tryd.ntmps99
  go_wp2_with fail
  all_goals (
    go_ret
    refine ⟨ret_bool ?_, rfl⟩
    rw [Bool.eq_iff_iff]
    simp
    omega)
def nodeB (n : Int) : Bool := decide (1 ≤ n) && decide (n ≤ 65535)
theorem node_any (w : World) (n : Int) : Calls Tryd.prog 113 #[.int .i64 n] w fun e w' => e = .returned (.bool (nodeB n)) ∧ w = w' := by
  unfold nodeB
  go_enter Tryd.func113, Tryd.ntmps113
  go_wp2_with fail
  all_goals (
    go_ret
    refine ⟨ret_bool ?_, rfl⟩
    rw [Bool.eq_iff_iff]
    simp
    omega)

def okS (x : ByteArray) : Bool := labelOk x.data.toList
theorem strs_cell {w : World} {b off k : Nat} {l : List ByteArray} (hc : ∀ j u, (l.map Value.string)[j]? = some u → w.cell? ⟨b, off + j, none⟩ = some u) (hk : k < l.length) : w.cell? ⟨b, off + k, none⟩ = some (.string l[k]) := hc k _ (by simp [hk])
theorem namedP_bad {s : ByteArray} (h : s.size = 0 ∨ 62 < s.size) : namedP s = false := by
  unfold namedP
  rcases h with h | h
  · have : decide (1 ≤ s.size) = false := decide_eq_false (by omega)
    rw [this]
    rfl
  · have : decide (s.size ≤ 62) = false := decide_eq_false (by omega)
    rw [this]
    simp
theorem namedP_ok {s : ByteArray} (h1 : s.size ≠ 0) (h2 : ¬ 62 < s.size) : namedP s = (splitL s).all okS := by
  unfold namedP
  have e1 : decide (1 ≤ s.size) = true := decide_eq_true (by omega)
  have e2 : decide (s.size ≤ 62) = true := decide_eq_true (by omega)
  rw [e1, e2, named_split]
  rfl
theorem byte_get (x : ByteArray) (j : Nat) (h : j < x.size) : (x[j]'h) = x.data.toList[j]'h := rfl

set_option maxRecDepth 100000 in
set_option maxHeartbeats 1000000 in
theorem named_any (w : World) (s : ByteArray) (m : Int) (hm : w.cell? ⟨0, 0, none⟩ = some (.int .i64 m)) (hs : s.size ≤ maxLen) :
    Calls Tryd.prog 72 #[.string s] w fun e w' => e = .returned (.bool (namedP s)) ∧ Only (fun _ => False) w w' := by
  have HM := Lib.hid hm
  unfold maxLen at hs
  clear hm
  by_cases h0 : s.size = 0
  · have e0 := empty_true h0
    have HB := Lib.hid (namedP_bad (.inl h0))
    clear h0
    go_enter Tryd.func72, Tryd.ntmps72
    go_wp2_with fail
    go_ret
    exact ⟨ret_bool HB.out.symm, Only.refl _ _⟩
  · have e0 := empty_false h0
    by_cases h6 : 62 < s.size
    · have e1 : decide ((62 : Int) < (s.size : Int)) = true := by simp; omega
      have HB := Lib.hid (namedP_bad (.inr h6))
      clear h0
      go_enter Tryd.func72, Tryd.ntmps72
      go_wp2_with fail
      go_ret
      exact ⟨ret_bool HB.out.symm, Only.refl _ _⟩
    · have e1 : decide ((62 : Int) < (s.size : Int)) = false := by simp; omega
      have HB := Lib.hid (namedP_ok h0 h6)
      clear h0
      go_enter Tryd.func72, Tryd.ntmps72
      go_wp2_with fail
      refine (lsplit_any _ s m (by omega) HM.out).mono ?_
      rintro e w1 ⟨v, rfl, ho1, hsl⟩
      have hsz := splitL_size s
      generalize splitL s = l at *
      obtain ⟨hh, a, cap, rfl, h3, h4, h5⟩ := hsl
      unfold maxLen at h4
      have H5 := Lib.hid h5
      have HSZ := Lib.hid hsz
      clear hh h5 hsz
      go_wp2_with fail
      go_loopg [4, 5, 16, 22, 23, 24] l.length (fun g v4 v5 v16 v22 v23 v24 wx => ∃ k : Nat, v16 = .int .i64 k ∧ k ≤ l.length ∧ w1 = wx ∧ l.all okS = (l.drop k).all okS ∧ g = l.length - k)
      case atStart => exact ⟨0, rfl, Nat.zero_le _, rfl, rfl, rfl⟩
      case round =>
        obtain ⟨k, rfl, hk, rfl, hall, hg⟩ := hrel
        have Hg := Lib.hid hg
        have HA := Lib.hid hall
        clear hg hall
        by_cases hlt : k < l.length
        · obtain ⟨b, off, ha, hc⟩ := H5.out.resolve_left (by omega)
          subst ha
          have hz := strs_cell hc hlt
          have hd : l.drop k = l[k] :: l.drop (k + 1) := List.drop_eq_getElem_cons hlt
          have hxs : l[k].size ≤ 62 := by have := HSZ.out _ (List.getElem_mem hlt); omega
          generalize l[k] = x at *
          have HD := Lib.hid hd
          clear hd hc
          by_cases hx0 : x.size = 0
          · have f0 := empty_true hx0
            have HX := Lib.hid (show okS x = false by
              have : x.data.toList = [] := List.eq_nil_of_length_eq_zero hx0
              unfold okS labelOk
              rw [this]
              rfl)
            clear hx0
            go_wp2_with fail
            go_ret
            exact ⟨ret_bool (by rw [HB.out, HA.out, HD.out, List.all_cons, HX.out]; rfl), ho1⟩
          · have f0 := empty_false hx0
            have HX := Lib.hid (show okS x = x.data.toList.all letterB by
              have : x.data.toList.isEmpty = false := by
                cases hl : x.data.toList with
                | nil => exact absurd (by show x.data.toList.length = 0; rw [hl]; rfl) hx0
                | cons => rfl
              unfold okS labelOk
              rw [this]
              rfl)
            clear hx0
            go_wp2_with fail
            go_loopg [5, 24] x.size (fun g v5 v24 wy => ∃ j : Nat, v24 = .int .i64 j ∧ j ≤ x.size ∧ w1 = wy ∧ x.data.toList.all letterB = (x.data.toList.drop j).all letterB ∧ g = x.size - j)
            case atStart => exact ⟨0, rfl, Nat.zero_le _, rfl, rfl, rfl⟩
            case round =>
              obtain ⟨j, rfl, hj, rfl, hxa, hgj⟩ := hrel
              have Hgj := Lib.hid hgj
              have HXA := Lib.hid hxa
              clear hgj hxa
              by_cases hjl : j < x.size
              · have hdj : x.data.toList.drop j = x.data.toList[j]'hjl :: x.data.toList.drop (j + 1) := List.drop_eq_getElem_cons hjl
                have hbg := byte_get x j hjl
                generalize hc0 : x.data.toList[j]'hjl = c at *
                have HDJ := Lib.hid hdj
                clear hdj hc0
                go_wp2_with fail
                refine (letter_any _ _ c (by rw [← hbg])).mono ?_
                rintro e w2 ⟨rfl, rfl⟩
                cases hlc : letterB c with
                | true =>
                  have HLC := Lib.hid hlc
                  clear hlc
                  go_wp2_with fail
                  go_roundg (x.size - (j + 1))
                  case measure => rw [Hgj.out]; omega
                  case rel => exact ⟨j + 1, by go_num, by omega, rfl, by rw [HXA.out, HDJ.out, List.all_cons, HLC.out]; rfl, rfl⟩
                | false =>
                  have HLC := Lib.hid hlc
                  clear hlc
                  go_wp2_with fail
                  go_ret
                  exact ⟨ret_bool (by rw [HB.out, HA.out, HD.out, List.all_cons, HX.out, HXA.out, HDJ.out, List.all_cons, HLC.out]; rfl), ho1⟩
              · have HXT := Lib.hid (show x.data.toList.all letterB = true by
                  rw [HXA.out, List.drop_eq_nil_of_le (by show x.size ≤ j; omega)]
                  rfl)
                go_wp2_with fail
                go_roundg (l.length - (k + 1))
                case measure => rw [Hg.out]; omega
                case rel => exact ⟨k + 1, by go_num, by omega, rfl, by rw [HA.out, HD.out, List.all_cons, HX.out, HXT.out]; rfl, rfl⟩
        · have HN := Lib.hid (show l.all okS = true by
            rw [HA.out, List.drop_eq_nil_of_le (by omega)]
            rfl)
          go_wp2_with fail
          go_ret
          exact ⟨ret_bool (by rw [HB.out, HN.out]), ho1⟩
end Go.Proofs.YtianboachknfmaaDoor
