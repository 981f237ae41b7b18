/- The walk of bellhoplaw14.RecordKeys. -/
import Derived.Test.YtfmplmchpdmbmaaDoorRec10
namespace Go.Proofs.YtfmplmchpdmbmaaDoor
open Go.Conc Go.RowKit

theorem bA_key (o : Nat) (name : ByteArray) (h : o < 65536) : bA (keyB o name) 0 = o / 256 ∧ bA (keyB o name) 1 = o % 256 := by
  have e : (keyB o name).data.toList = [UInt8.ofNat ((o : Int) / 256).toNat, UInt8.ofNat ((o : Int) % 256).toNat] ++ name.data.toList := by
    unfold keyB
    rw [ByteArray.data_append, Array.toList_append]
    rfl
  unfold bA
  rw [e]
  constructor
  · show (UInt8.ofNat ((o : Int) / 256).toNat).toNat = _
    rw [UInt8.toNat_ofNat']
    omega
  · show (UInt8.ofNat ((o : Int) % 256).toNat).toNat = _
    rw [UInt8.toNat_ofNat']
    omega
theorem key_rest (o : Int) (name : ByteArray) : (keyB o name).extract 2 (keyB o name).size = name := by
  unfold keyB
  exact ByteArray.extract_append_eq_right rfl ByteArray.size_append
theorem split_key {o : Nat} {name : ByteArray} (h1 : nodeB o = true) (h2 : namedP name = true) : splitN (keyB o name) = o ∧ splitS (keyB o name) = name ∧ splitE (keyB o name) = 0 := by
  have h16 : o < 65536 := by unfold nodeB at h1; simp at h1; omega
  obtain ⟨b0, b1⟩ := bA_key o name h16
  have hn : nodeN (keyB o name) = o := by unfold nodeN; rw [b0, b1]; omega
  have hok : splitOk (keyB o name) = true := by
    unfold splitOk
    rw [key_rest, hn, h1, h2, keyB_size]
    simp
  unfold splitN splitS splitE
  rw [hok, hn, key_rest]
  exact ⟨rfl, rfl, rfl⟩
theorem split_origin (s : ByteArray) : (0 < originP s → splitE s = 0 ∧ splitN s = originP s ∧ splitS s = s.extract 2 s.size ∧ 2 ≤ s.size) ∧ (originP s = 0 → splitE s = 4 ∧ splitN s = 0 ∧ splitS s = ⟨#[]⟩) := by
  have b0 := bA_lt s 0
  have b1 := bA_lt s 1
  have hN : nodeN s = 256 * bA s 0 + bA s 1 := rfl
  constructor
  · intro h
    unfold originP at h
    split at h
    · omega
    · next h2 =>
      split at h
      · next h3 =>
        have hok : splitOk s = true := by
          unfold splitOk nodeB
          rw [h3, decide_eq_true (by omega : 2 ≤ s.size)]
          simp
          omega
        refine ⟨by unfold splitE; rw [hok]; rfl, ?_, by unfold splitS; rw [hok]; rfl, by omega⟩
        unfold splitN originP
        rw [hok, if_neg h2, if_pos h3, hN]
        rfl
      · omega
  · intro h
    have hok : splitOk s = false := by
      unfold originP at h
      unfold splitOk nodeB
      split at h
      · next h2 =>
        rw [decide_eq_false (by omega : ¬ 2 ≤ s.size)]
        rfl
      · split at h
        · have : decide ((1 : Int) ≤ (nodeN s : Nat)) = false := decide_eq_false (by omega)
          rw [this]
          simp
        · next h3 =>
          have : namedP (s.extract 2 s.size) = false := by simpa using h3
          rw [this]
          simp
    obtain ⟨a, b, c⟩ := split_bad hok
    exact ⟨c, a, b⟩

set_option maxRecDepth 100000 in
set_option maxHeartbeats 4000000 in
theorem recordKeys_any (w : World) (m0 : Int) (hm : w.cell? ⟨0, 0, none⟩ = some (.int .i64 m0)) (s0 : ByteArray) (o : Int) (hs0 : s0.size ≤ maxLen) (_ho : (Lit.int .i64 o).wf = true) :
    Calls Tryd.prog 3 #[.string s0, .int .i64 o] w fun e w' => e = .returned (.bool true) ∧ Only (fun _ => False) w w' := by
  have HM := Lib.hid hm
  clear hm
  unfold maxLen at hs0
  go_enter Tryd.func3, Tryd.ntmps3
  go_wp2_with fail
  refine (speaks_any w m0 HM.out).mono ?_
  rintro e w1 ⟨rfl, ho1⟩
  have hA1 : (0 : Int) ≤ min (s0.size : Int) 80 := by omega
  have hA2 : min (s0.size : Int) 80 ≤ (s0.size : Int) := by omega
  have hAs : (s0.extract 0 (min (s0.size : Int) 80).toNat).size ≤ 80 := by rw [ByteArray.size_extract]; omega
  generalize hA : s0.extract 0 (min (s0.size : Int) 80).toNat = s at hAs
  go_wp2_with fail
  refine (rnamed_any _ s (by unfold maxLen; omega)).mono ?_
  rintro e w2 ⟨rfl, rfl⟩
  clear hA1 hA2 hA
  go_wp2_with fail
  refine (key_any _ o s m0 (ho1.cell HM.out id) (by unfold maxLen; omega)).mono ?_
  rintro e w3 ⟨rfl, ho3⟩
  have HO3 := Lib.hid (ho1.trans ho3)
  clear ho1 ho3
  cases hn2 : namedP s with
  | false =>
    cases hn1 : nodeB o with
    | false =>
      have hE : keyE o s = 1 := by unfold keyE; rw [if_pos hn1]
      have hS : keyS o s = ⟨#[]⟩ := by unfold keyS; rw [hn1]; rfl
      rw [hE, hS]
      clear hE hS
      have ho : o < 1 ∨ 65535 < o := by unfold nodeB at hn1; simp at hn1; omega
      rcases ho with ho | ho
      all_goals (
        have HN2 := Lib.hid hn2
        clear hn1 hn2
        go_wp2_with fail
        refine (named_any _ s m0 (HO3.out.cell HM.out id) (by unfold maxLen; omega)).mono ?_
        rintro e w4 ⟨rfl, ho4⟩
        have HO4 := Lib.hid (HO3.out.trans ho4)
        clear ho4
        rw [HN2.out]
        have HOX := HO4
        clear HO4
        go_wp2_with fail
        refine (split_any _ s m0 (HOX.out.cell HM.out id) (by omega)).mono ?_
        rintro e wa ⟨rfl, hoa⟩
        have HOA := Lib.hid (HOX.out.trans hoa)
        clear hoa
        have hso := split_origin s
        generalize splitN s = sN at *
        generalize splitS s = sS at *
        generalize splitE s = sE at *
        go_wp2_with fail
        refine (rorigin_any _ s (by unfold maxLen; omega)).mono ?_
        rintro e wb ⟨rfl, hob⟩
        have HOB := Lib.hid (HOA.out.trans hob)
        clear hob
        generalize originP s = oP at *
        by_cases hp : 0 < oP
        · obtain ⟨r1, r2, r3, r4⟩ := hso.1 hp
          subst r1 r2 r3
          have r5 : (2 : Int) ≤ (s.size : Int) := by omega
          have hp2 : decide ((0 : Int) < (oP : Int)) = true := by simp; exact hp
          clear hso r4
          go_wp2_with fail
          go_ret
          exact ⟨rfl, HOB.out⟩
        · obtain ⟨r1, r2, r3⟩ := hso.2 (by omega)
          subst r1 r2 r3
          have hp2 : decide ((0 : Int) < (oP : Int)) = false := by simp; omega
          clear hso
          go_wp2_with fail
          go_ret
          exact ⟨rfl, HOB.out⟩)
    | true =>
      have hE : keyE o s = 9 := by unfold keyE; rw [if_neg (by simp [hn1]), if_pos hn2]
      have hS : keyS o s = ⟨#[]⟩ := by unfold keyS; rw [hn1, hn2]; rfl
      rw [hE, hS]
      clear hE hS
      have ho1 : 1 ≤ o := by unfold nodeB at hn1; simp at hn1; omega
      have ho2 : o ≤ 65535 := by unfold nodeB at hn1; simp at hn1; omega
      have HN2 := Lib.hid hn2
      clear hn1 hn2
      go_wp2_with fail
      refine (named_any _ s m0 (HO3.out.cell HM.out id) (by unfold maxLen; omega)).mono ?_
      rintro e w4 ⟨rfl, ho4⟩
      have HO4 := Lib.hid (HO3.out.trans ho4)
      clear ho4
      rw [HN2.out]
      have HOX := HO4
      clear HO4
      go_wp2_with fail
      refine (split_any _ s m0 (HOX.out.cell HM.out id) (by omega)).mono ?_
      rintro e wa ⟨rfl, hoa⟩
      have HOA := Lib.hid (HOX.out.trans hoa)
      clear hoa
      have hso := split_origin s
      generalize splitN s = sN at *
      generalize splitS s = sS at *
      generalize splitE s = sE at *
      go_wp2_with fail
      refine (rorigin_any _ s (by unfold maxLen; omega)).mono ?_
      rintro e wb ⟨rfl, hob⟩
      have HOB := Lib.hid (HOA.out.trans hob)
      clear hob
      generalize originP s = oP at *
      by_cases hp : 0 < oP
      · obtain ⟨r1, r2, r3, r4⟩ := hso.1 hp
        subst r1 r2 r3
        have r5 : (2 : Int) ≤ (s.size : Int) := by omega
        have hp2 : decide ((0 : Int) < (oP : Int)) = true := by simp; exact hp
        clear hso r4
        go_wp2_with fail
        go_ret
        exact ⟨rfl, HOB.out⟩
      · obtain ⟨r1, r2, r3⟩ := hso.2 (by omega)
        subst r1 r2 r3
        have hp2 : decide ((0 : Int) < (oP : Int)) = false := by simp; omega
        clear hso
        go_wp2_with fail
        go_ret
        exact ⟨rfl, HOB.out⟩
  | true =>
    cases hn1 : nodeB o with
    | false =>
      have hE : keyE o s = 1 := by unfold keyE; rw [if_pos hn1]
      have hS : keyS o s = ⟨#[]⟩ := by unfold keyS; rw [hn1]; rfl
      rw [hE, hS]
      clear hE hS
      have ho : o < 1 ∨ 65535 < o := by unfold nodeB at hn1; simp at hn1; omega
      rcases ho with ho | ho
      all_goals (
        have HN2 := Lib.hid hn2
        clear hn1 hn2
        go_wp2_with fail
        refine (named_any _ s m0 (HO3.out.cell HM.out id) (by unfold maxLen; omega)).mono ?_
        rintro e w4 ⟨rfl, ho4⟩
        have HO4 := Lib.hid (HO3.out.trans ho4)
        clear ho4
        rw [HN2.out]
        have HOX := HO4
        clear HO4
        go_wp2_with fail
        refine (split_any _ s m0 (HOX.out.cell HM.out id) (by omega)).mono ?_
        rintro e wa ⟨rfl, hoa⟩
        have HOA := Lib.hid (HOX.out.trans hoa)
        clear hoa
        have hso := split_origin s
        generalize splitN s = sN at *
        generalize splitS s = sS at *
        generalize splitE s = sE at *
        go_wp2_with fail
        refine (rorigin_any _ s (by unfold maxLen; omega)).mono ?_
        rintro e wb ⟨rfl, hob⟩
        have HOB := Lib.hid (HOA.out.trans hob)
        clear hob
        generalize originP s = oP at *
        by_cases hp : 0 < oP
        · obtain ⟨r1, r2, r3, r4⟩ := hso.1 hp
          subst r1 r2 r3
          have r5 : (2 : Int) ≤ (s.size : Int) := by omega
          have hp2 : decide ((0 : Int) < (oP : Int)) = true := by simp; exact hp
          clear hso r4
          go_wp2_with fail
          go_ret
          exact ⟨rfl, HOB.out⟩
        · obtain ⟨r1, r2, r3⟩ := hso.2 (by omega)
          subst r1 r2 r3
          have hp2 : decide ((0 : Int) < (oP : Int)) = false := by simp; omega
          clear hso
          go_wp2_with fail
          go_ret
          exact ⟨rfl, HOB.out⟩)
    | true =>
      have hE : keyE o s = 0 := by unfold keyE; rw [if_neg (by simp [hn1]), if_neg (by simp [hn2])]
      have hS : keyS o s = keyB o s := by unfold keyS; rw [hn1, hn2]; rfl
      rw [hE, hS]
      clear hE hS
      have ho1 : 1 ≤ o := by unfold nodeB at hn1; simp at hn1; omega
      have ho2 : o ≤ 65535 := by unfold nodeB at hn1; simp at hn1; omega
      obtain ⟨on, rfl⟩ : ∃ n : Nat, o = (n : Int) := ⟨o.toNat, by omega⟩
      have HSK := Lib.hid (split_key hn1 hn2)
      have hks : (keyB on s).size = 2 + s.size := keyB_size _ _
      have HN2 := Lib.hid hn2
      clear hn1 hn2
      go_wp2_with fail
      refine (named_any _ s m0 (HO3.out.cell HM.out id) (by unfold maxLen; omega)).mono ?_
      rintro e w4 ⟨rfl, ho4⟩
      have HO4 := Lib.hid (HO3.out.trans ho4)
      clear ho4
      rw [HN2.out]
      go_wp2_with fail
      refine (rkey_any _ on s (by omega) (by omega) (by omega)).mono ?_
      rintro e w5 ⟨rfl, ho5⟩
      have HO5 := Lib.hid (HO4.out.trans ho5)
      clear ho5 HO4
      go_wp2_with fail
      refine (split_any _ (keyB on s) m0 (HO5.out.cell HM.out id) (by omega)).mono ?_
      rw [HSK.out.1, HSK.out.2.1, HSK.out.2.2]
      rintro e w6 ⟨rfl, ho6⟩
      have HOX := Lib.hid (HO5.out.trans ho6)
      clear ho6 HO5
      go_wp2_with fail
      refine (split_any _ s m0 (HOX.out.cell HM.out id) (by omega)).mono ?_
      rintro e wa ⟨rfl, hoa⟩
      have HOA := Lib.hid (HOX.out.trans hoa)
      clear hoa
      have hso := split_origin s
      generalize splitN s = sN at *
      generalize splitS s = sS at *
      generalize splitE s = sE at *
      go_wp2_with fail
      refine (rorigin_any _ s (by unfold maxLen; omega)).mono ?_
      rintro e wb ⟨rfl, hob⟩
      have HOB := Lib.hid (HOA.out.trans hob)
      clear hob
      generalize originP s = oP at *
      by_cases hp : 0 < oP
      · obtain ⟨r1, r2, r3, r4⟩ := hso.1 hp
        subst r1 r2 r3
        have r5 : (2 : Int) ≤ (s.size : Int) := by omega
        have hp2 : decide ((0 : Int) < (oP : Int)) = true := by simp; exact hp
        clear hso r4
        go_wp2_with fail
        go_ret
        exact ⟨rfl, HOB.out⟩
      · obtain ⟨r1, r2, r3⟩ := hso.2 (by omega)
        subst r1 r2 r3
        have hp2 : decide ((0 : Int) < (oP : Int)) = false := by simp; omega
        clear hso
        go_wp2_with fail
        go_ret
        exact ⟨rfl, HOB.out⟩
end Go.Proofs.YtfmplmchpdmbmaaDoor
