/- The walk of bellhoplaw21.NameEnds. -/
import Derived.Test.YtfgkljjiopohgaaDoorName8
namespace Go.Proofs.YtfgkljjiopohgaaDoor
open Go.Conc Go.RowKit

theorem rdP_ok_may (m : ByteArray) (k bd : Nat) (l : List ByteArray) : (rdP m k bd l).err = 0 → mayGo 0 (rdP m k bd l).ls = true := by
  fun_induction rdP m k bd l with
  | case1 => intro h; cases h
  | case2 => intro h; cases h
  | case3 _ _ _ hm => intro _; simpa using hm
  | case4 => intro h; cases h
  | case5 => intro h; cases h
  | case6 _ _ _ _ _ _ _ _ _ ih =>
    intro h
    unfold Rd.fin at h ⊢
    split
    · next h1 => exact ih h1.1
    · rw [if_neg ‹_›] at h; exact ih h
  | case7 => intro h; cases h
  | case8 => intro h; cases h
  | case9 _ _ _ _ _ _ _ _ _ ih => exact ih
theorem rdP_ok_stop (m : ByteArray) (k bd : Nat) (l : List ByteArray) : (rdP m k bd l).err = 0 → (k : Int) < (rdP m k bd l).stop ∧ (rdP m k bd l).stop ≤ m.size := by
  fun_induction rdP m k bd l with
  | case1 => intro h; cases h
  | case2 => intro h; cases h
  | case3 => intro _; dsimp only; omega
  | case4 => intro h; cases h
  | case5 => intro h; cases h
  | case6 _ _ _ _ _ _ _ _ _ ih =>
    intro h
    unfold Rd.fin at h ⊢
    split
    · dsimp only; omega
    · next h1 =>
      rw [if_neg h1] at h
      exact absurd ⟨h, by omega⟩ h1
  | case7 => intro h; cases h
  | case8 => intro h; cases h
  | case9 _ _ _ _ _ _ _ _ _ ih =>
    intro h
    have := ih h
    omega
theorem bAt_append (m x : ByteArray) (i : Nat) (h : i < m.size) : bAt (m ++ x) i = bAt m i := by
  unfold bAt
  have h2 : i < m.data.toList.length := h
  rw [ByteArray.data_append, Array.toList_append, List.getD_eq_getElem?_getD, List.getD_eq_getElem?_getD, List.getElem?_append_left h2]
theorem extract_left (m x : ByteArray) (i j : Nat) (h : j ≤ m.size) : (m ++ x).extract i j = m.extract i j := by
  apply ByteArray.ext
  rw [ByteArray.data_extract, ByteArray.data_extract, ByteArray.data_append, Array.extract_append, show j - m.data.size = 0 from Nat.sub_eq_zero_of_le h]
  simp
theorem rdP_more (m x : ByteArray) (k bd : Nat) (l : List ByteArray) : (rdP m k bd l).err = 0 → rdP (m ++ x) k bd l = rdP m k bd l := by
  have hsz : (m ++ x).size = m.size + x.size := ByteArray.size_append
  fun_induction rdP m k bd l with
  | case1 => intro h; cases h
  | case2 => intro h; cases h
  | case3 k bd l hm h1 h2 =>
    intro _
    have hb := bAt_append m x k (by omega)
    exact rdP_zero (by simpa using hm) (by omega) (by omega)
  | case4 => intro h; cases h
  | case5 => intro h; cases h
  | case6 k bd l hm h1 h2 h3 h4 h5 ih =>
    intro h
    have hb := bAt_append m x k (by omega)
    have hb1 := bAt_append m x (k + 1) (by omega)
    rw [rdP_ptr (by simpa using hm) (by omega) (by omega) (by omega) (by rw [hb, hb1]; exact h5), hb, hb1, ih ?_]
    unfold Rd.fin at h
    by_cases h6 : (rdP m (256 * (bAt m k - 192) + bAt m (k + 1)) (256 * (bAt m k - 192) + bAt m (k + 1)) l).err = 0
    · exact h6
    · rw [if_neg (fun x => h6 x.1)] at h
      exact h
  | case7 => intro h; cases h
  | case8 => intro h; cases h
  | case9 k bd l hm h1 h2 h3 h4 h5 ih =>
    intro h
    have hb := bAt_append m x k (by omega)
    rw [rdP_step (by simpa using hm) (by omega) (by omega) (by omega) (by omega), hb, extract_left m x _ _ (by omega)]
    exact ih h
/-- A pointer behind all. -/
theorem rdP_behind (m : ByteArray) (k : Nat) (hk : k < m.size) (hk2 : k < 120) (h : (rdP m k k []).err = 0) : rdP (m ++ bytesOf [192, (k : Int)]) m.size m.size [] = ⟨(rdP m k k []).ls, m.size + 2, 0⟩ := by
  have hsz : (m ++ bytesOf [192, (k : Int)]).size = m.size + 2 := ByteArray.size_append
  have hb : bAt (m ++ bytesOf [192, (k : Int)]) m.size = 192 := by
    unfold bAt
    rw [ByteArray.data_append, Array.toList_append, List.getD_eq_getElem?_getD, List.getElem?_append_right (show m.data.toList.length ≤ m.size from Nat.le_refl _)]
    show ((bytesOf [192, (k : Int)]).data.toList[m.size - m.size]?.getD 0).toNat = 192
    rw [Nat.sub_self]
    rfl
  have hb1 : bAt (m ++ bytesOf [192, (k : Int)]) (m.size + 1) = k := by
    unfold bAt
    rw [ByteArray.data_append, Array.toList_append, List.getD_eq_getElem?_getD, List.getElem?_append_right (show m.data.toList.length ≤ m.size + 1 from Nat.le_succ _)]
    show ((bytesOf [192, (k : Int)]).data.toList[m.size + 1 - m.size]?.getD 0).toNat = k
    rw [Nat.add_sub_cancel_left]
    show (UInt8.ofNat (k : Int).toNat).toNat = k
    simp
    omega
  rw [rdP_ptr rfl (by omega) (by omega) (by omega) (by rw [hb, hb1]; omega), hb, hb1]
  have e : 256 * (192 - 192) + k = k := by omega
  rw [e, rdP_more m _ k k [] h, Rd.fin, if_pos ⟨h, by omega⟩]

set_option maxRecDepth 100000 in
set_option maxHeartbeats 1000000 in
theorem nameEnds_any (w : World) (m0 : Int) (hm : w.cell? ⟨0, 0, none⟩ = some (.int .i64 m0)) (msg : ByteArray) (hmsg : msg.size ≤ maxLen) :
    Calls Tryd.prog 6 #[.string msg] w fun e w' => e = .returned (.bool true) ∧ Only (fun _ => False) w w' := by
  have HM := Lib.hid hm
  clear hm
  unfold maxLen at hmsg
  have hc2 := conv2
  have e2 : ∀ x y : Int, (bytesOf [x, y]).size = 2 := fun _ _ => rfl
  go_enter Tryd.func6, Tryd.ntmps6
  go_wp2_with fail
  refine (speaks_any w m0 HM.out).mono ?_
  rintro e w1 ⟨rfl, ho1⟩
  go_wp2_with fail
  have hmm : (msg.extract 0 (min (msg.size : Int) 120).toNat).size ≤ 120 := by rw [ByteArray.size_extract]; omega
  generalize msg.extract 0 (min (msg.size : Int) 120).toNat = mm at *
  clear hmsg
  go_loopg [3, 4, 5, 6, 7, 8, 9, 10, 11] (mm.size + 1) (fun g v3 v4 v5 v6 v7 v8 v9 v10 v11 wx => ∃ k : Nat, v3 = .int .i64 k ∧ k ≤ mm.size + 1 ∧ Only (fun _ => False) w wx ∧ g = mm.size + 1 - k)
  case atStart => exact ⟨0, rfl, by omega, ho1, rfl⟩
  case round =>
    clear ho1
    obtain ⟨k, rfl, hk, ho, hg⟩ := hrel
    have Hg := Lib.hid hg
    clear hg
    by_cases hle : k ≤ mm.size
    · go_wp2_with fail
      refine (read_any _ mm k (by omega) hle).mono ?_
      rintro e w2 ⟨v2, rfl, ho2, hs2⟩
      have he := rdP_err mm k k []
      have hmay := rdP_ok_may mm k k []
      have hstop := rdP_ok_stop mm k k []
      have hbeh := rdP_behind mm k
      have hend := fun h => rdP_short (m := mm) (k := k) (bd := k) (l := []) rfl h
      generalize rdP mm k k [] = r at *
      by_cases hz : r.err = 0
      · have hmay := hmay hz
        have hstop := hstop hz
        obtain ⟨_, a, cap, rfl, hc1, hc2', hc3⟩ := id hs2
        obtain ⟨a1, a2, a3⟩ := mayGo_all r.ls 0 hmay
        have hkl : k < mm.size := by omega
        have HB := Lib.hid (hbeh hkl (by omega) hz)
        have HM := Lib.hid hmay
        have hz0 : (((r.err : Nat) : Int) != 0) = false := by simp; omega
        clear he hmay hbeh hend hc3 a1 hz
        go_wp2_with fail
        refine (encode_good _ _ r.ls hs2 HM.out).mono ?_
        rintro e w3 ⟨rfl, ho3⟩
        have hbs : (bytesL r.ls ++ ⟨#[0]⟩).size = (bytesL r.ls).size + 1 := ByteArray.size_append
        have q1 : decide ((255 : Int) < ((bytesL r.ls ++ ⟨#[0]⟩).size : Int)) = false := decide_eq_false (by rw [hbs]; omega)
        have q2 : decide (r.stop ≤ (k : Int)) = false := by simp; omega
        have q3 : decide ((mm.size : Int) < r.stop) = false := by simp; omega
        have q4 : decide ((k : Int) < 120) = true := by simp; omega
        have hk120 : k < 120 := by omega
        have e2 : ∀ x y : Int, (bytesOf [x, y]).size = 2 := fun _ _ => rfl
        clear hbs hstop
        go_wp2_with fail
        refine (read_any _ (mm ++ bytesOf [192, (k : Int)]) mm.size (by rw [ByteArray.size_append, e2]; omega) (by rw [ByteArray.size_append]; omega)).mono ?_
        rintro e w4 ⟨v4, rfl, ho4, hs4⟩
        rw [HB.out] at hs4 ⊢
        have hs24 := (hs2.new ho3).new (((Only.refl _ _).alloc _).trans ho4)
        have q5 : ((((mm.size : Nat) : Int) + 2) != (((mm.size : Nat) : Int) + 2)) = false := by simp
        go_wp2_with fail
        refine (same_any _ _ _ r.ls r.ls hs4 hs24).mono ?_
        rintro e w5 ⟨rfl, ho5⟩
        have q6 : decide (r.ls = r.ls) = true := by simp
        rw [q6]
        go_wp2_with fail
        go_roundg (mm.size + 1 - (k + 1))
        case measure => rw [Hg.out]; omega
        case rel => exact ⟨k + 1, by go_num, by omega, ((((ho.trans ho2).trans ho3).alloc _).trans ho4).trans ho5, rfl⟩
      · have he := he hz
        have hls : r.ls = [] := by rw [he]; rfl
        have hst : r.stop = 0 := by rw [he]; rfl
        rw [hls] at hs2
        obtain ⟨_, a, cap, rfl, hc1, hc2', hc3⟩ := id hs2
        have hz0 : (((r.err : Nat) : Int) != 0) = true := by simp; omega
        by_cases hkl : k = mm.size
        · have h2 : r.err = 2 := by rw [hend (by omega)]; rfl
          have q1 : ((k : Int) == (mm.size : Int)) = true := by simp; omega
          have q2 : (((r.err : Nat) : Int) != 2) = false := by simp; omega
          clear he hmay hbeh hend hc3 hz hstop h2 hs2 hkl
          go_wp2_with fail
          go_roundg (mm.size + 1 - (k + 1))
          case measure => rw [Hg.out]; omega
          case rel => exact ⟨k + 1, by go_num, by omega, ho.trans ho2, rfl⟩
        · have q1 : ((k : Int) == (mm.size : Int)) = false := by simp; omega
          clear he hmay hbeh hend hc3 hz hstop hs2
          go_wp2_with fail
          go_roundg (mm.size + 1 - (k + 1))
          case measure => rw [Hg.out]; omega
          case rel => exact ⟨k + 1, by go_num, by omega, ho.trans ho2, rfl⟩
    · go_wp2_with fail
      go_ret
      exact ⟨rfl, ho⟩
end Go.Proofs.YtfgkljjiopohgaaDoor
