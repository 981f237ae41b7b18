/- AnswerResponds is true of every input: the reply of a store of any records to any bytes is, byte by byte, that of the reference, or there is none on both sides. No condition; the package variables that it names are tied to the text. -/
import Derived.Test.YtbdfijgejkimnaaGreatDoorNJ
import Derived.Test.YtbdfijgejkimnaaGreatDoorNG
import Derived.Test.YtbdfijgejkimnaaGreatDoorNL
import Derived.Test.YtbdfijgejkimnaaGreatDoorNB
import Derived.Test.YtbdfijgejkimnaaGreatDoorNM
import Derived.Test.YtbdfijgejkimnaaGreatDoorNH
import Derived.Test.YtbdfijgejkimnaaGreatDoorNA
import Derived.Test.YtbdfijgejkimnaaGreatDoorNP
import Derived.Test.YtbdfijgejkimnaaGreatDoorNN
import Derived.Test.YtbdfijgejkimnaaGreatDoorNQ
import Derived.ChangeMaps5
import Derived.Test.YtbdfijgejkimnaaGreatDoorCards
import Derived.Test.YtbdfijgejkimnaaGreatDoorTie
/-! The reference's heads. -/
namespace Go.Proofs.YtbdfijgejkimnaaGreatDoor
open Go.Conc Go.RowKit

theorem rbit_any (w : World) (x : Bool) (n : Int) : Calls Tryz.prog 106 #[.bool x, .int .i64 n] w fun e w' => e = .returned (.int .i64 ((x.toNat : Int) * n)) ∧ w = w' := by
  cases x
  · go_enter Tryz.func106, Tryz.ntmps106
    go_wp2_with fail
    go_ret
    exact ⟨ret_int (by simp), rfl⟩
  · go_enter Tryz.func106, Tryz.ntmps106
    go_wp2_with fail
    go_ret
    exact ⟨ret_int (by simp), rfl⟩
set_option maxRecDepth 100000 in
theorem rtwo22_any (w : World) (n : Nat) (hn : n < 65536) : Calls Tryz.prog 65 #[.int .i64 n] w fun e w' => e = .returned (.string (twoB n)) ∧ Only (fun _ => False) w w' := by
  have hc2 := cv2
  have e1 : ((n : Int) / 256) % 256 = (n : Int) / 256 := by omega
  have e0 : (0 : Int) ≤ (n : Int) / 256 := by omega
  have e2 : (n : Int) / 256 ≤ 255 := by omega
  have e3 : (0 : Int) ≤ (n : Int) % 256 := by omega
  have e4 : (n : Int) % 256 ≤ 255 := by omega
  have hd : twoB n = bytesOf [(n : Int) / 256, (n : Int) % 256] := rfl
  rw [hd]
  clear hd
  go_enter Tryz.func65, Tryz.ntmps65
  go_wp2_with fail
  go_ret
  exact ⟨rfl, (Only.refl _ _).alloc _⟩
set_option maxRecDepth 100000 in
set_option maxHeartbeats 1000000 in
theorem rflags_any (w : World) (h : HeadT) (h1 : h.op ≤ 15) (h2 : h.zero ≤ 7) (h3 : h.code ≤ 15) :
    Calls Tryz.prog 67 #[.bool h.resp, .int .i64 h.op, .bool h.auth, .bool h.trunc, .bool h.des, .bool h.avail, .int .i64 h.zero, .int .i64 h.code] w fun e w' => e = .returned (.int .i64 (flagN h)) ∧ w = w' := by
  obtain ⟨ix, resp, op, auth, trunc, des, avail, zr, code, c0, c1, c2, c3⟩ := h
  dsimp only at h1 h2 h3 ⊢
  have hb (x : Bool) : x.toNat ≤ 1 := Bool.toNat_le x
  have b1 := hb resp; have b2 := hb auth; have b3 := hb trunc; have b4 := hb des; have b5 := hb avail
  have hf : flagN ⟨ix, resp, op, auth, trunc, des, avail, zr, code, (c0, c1, c2, c3)⟩ = resp.toNat * 32768 + op * 2048 + auth.toNat * 1024 + trunc.toNat * 512 + des.toNat * 256 + avail.toNat * 128 + zr * 16 + code := rfl
  have HF := Lib.hid hf
  have HC := Lib.hid (fun (x : Bool) (n : Int) => rbit_any w x n)
  clear hf hb
  generalize flagN ⟨ix, resp, op, auth, trunc, des, avail, zr, code, (c0, c1, c2, c3)⟩ = F at *
  go_enter Tryz.func67, Tryz.ntmps67
  go_wp2_with ((with_reducible refine (HC.out _ _).mono ?_); rintro e w' ⟨rfl, rfl⟩)
  go_ret
  exact ⟨ret_int (by rw [HF.out]; omega), rfl⟩
end Go.Proofs.YtbdfijgejkimnaaGreatDoor
/-! The reference's question. -/
namespace Go.Proofs.YtbdfijgejkimnaaGreatDoor
open Go.Conc Go.RowKit

def q23C (asked : Bool) (nv : Value) (t c : Nat) : List Value := [.bool asked, nv, .int .i64 t, .int .i64 c]
theorem infoQ23 (a : Bool) (nv : Value) (t c : Nat) : (Tryz.prog.info? 88).map (·.size) = some (q23C a nv t c).toArray.size := by kernel_rfl
theorem q23_one (a : Bool) (nv : Value) (t c : Nat) (hv : nv.oneCell' = true) : (q23C a nv t c).toArray.all (·.oneCell') = true := by
  rw [List.all_toArray]
  simp only [q23C, List.all_cons, List.all_nil, hv, Bool.and_true, Bool.true_and]
  rfl
theorem head_bytes (m : ByteArray) : (headD m).resp = decide (128 ≤ bA m 2) ∧ (headD m).op = bA m 2 / 8 % 16 := by
  have h2 := bA_lt m 2
  have h3 := bA_lt m 3
  constructor
  · show decide (gA m 2 / 32768 % 2 = 1) = _
    rw [Bool.eq_iff_iff, decide_eq_true_iff, decide_eq_true_iff]
    show (bA m 2 * 256 + bA m 3) / 32768 % 2 = 1 ↔ _
    omega
  · show (bA m 2 * 256 + bA m 3) / 2048 % 16 = _
    omega
theorem rget_any (w : World) (s : ByteArray) (i : Nat) (h : i + 1 < s.size) (hi : i ≤ 100000) : Calls Tryz.prog 30 #[.string s, .int .i64 i] w fun e w' => e = .returned (.int .i64 (gA s i)) ∧ Only (fun _ => False) w w' := by
  have hg : gA s i = 256 * bA s i + bA s (i + 1) := by unfold gA; omega
  rw [hg]
  exact rget22_any w s i h hi
set_option maxRecDepth 100000 in
set_option maxHeartbeats 2000000 in
theorem rparse_op (w : World) (m : ByteArray) (hm : 12 ≤ m.size) (hm2 : m.size ≤ 100000) (hr : (headD m).resp = false) (ho : (headD m).op ≠ 0) :
    Calls Tryz.prog 29 #[.string m] w fun e w' => e = .returned (.tuple #[.agg (q23C false (.slice none 0 0) 0 0).toArray, .int .i64 4, .int .i64 0]) ∧ Only (fun _ => False) w w' := by
  obtain ⟨k1, k2⟩ := head_bytes m
  rw [k1] at hr
  rw [k2] at ho
  have hb : ((m[2]'(by omega)).toNat : Int) = (bA m 2 : Int) := congrArg _ (bA_get m 2 (by omega))
  have h2 := bA_lt m 2
  have q1 : decide ((128 : Int) ≤ (bA m 2 : Int)) = false := by simp at hr ⊢; omega
  have q0 : decide ((m.size : Int) < 12) = false := by simp; omega
  have q0' : decide (m.size < 12) = false := by simp; omega
  have q2 : (((bA m 2 : Int) / 8 % 16) == 0) = false := by simp; omega
  have hlt : 2 < m.size := by omega
  clear k1 k2 hr
  generalize bA m 2 = y at *
  go_enter Tryz.func29, Tryz.ntmps29
  obtain ⟨W, hW⟩ : ∃ W, W = w.alloc (.cells #[.bool false, .slice none 0 0, .int .i64 0, .int .i64 0] 88) := ⟨_, rfl⟩
  have hbW : W.heap[w.heap.size]? = some (.cells #[.bool false, .slice none 0 0, .int .i64 0, .int .i64 0] 88 (0, 0)) := by rw [hW]; exact heap_alloc_new w _
  have hoW : Only (fun _ => False) w W := by rw [hW]; exact (Only.refl _ _).alloc _
  have hsW : W.heap.size = w.heap.size + 1 := by rw [hW]; simp
  have hbq : W.heap[w.heap.size]? = some (.cells (q23C false (.slice none 0 0) 0 0).toArray 88 (0, 0)) := hbW
  have HO := Lib.hid hoW
  have HB := Lib.hid hbq
  clear hoW hbq
  clear hbW hsW
  go_upto_region 5 with (fail)
  rw [← hW]
  clear hW
  go_upto_region 6 with (fail)
  go_wp2_with ((with_reducible refine wpList_store_row (o := ⟨none, .store 88 (.tmp 2) (.tmp 22), _, _, _, none⟩) rfl _ _ _ rfl (w.heap.size) ((q23C false (.slice none 0 0) 0 0).toArray) ?_ ?_ 88 _ HB.out (infoQ23 _ _ _ _) ?_ (q23_one _ _ _ _ rfl) ?_); (· rfl); (· rfl); (· rfl))
  have hb9 := row_set HB.out (q23C false (.slice none 0 0) 0 0).toArray
  refine bodyPost_ret (results_row2 rfl _ _ w.heap.size 88 _ (0, 0) _ rfl hb9 Tryz.underlying88 rfl (infoQ23 _ _ _ _) _ _ rfl rfl) rfl ?_
  exact ⟨rfl, HO.out.setRow (.inl (Nat.le_refl _)) _⟩
theorem q23_nostr (t c i : Nat) {s : ByteArray} : (q23C false (.slice none 0 0) t c).toArray[i]? ≠ some (.string s) := by
  match i with
  | 0 => simp [q23C]
  | 1 => simp [q23C]
  | 2 => simp [q23C]
  | 3 => simp [q23C]
  | i + 4 => simp [q23C]
def QPost23 (w w' : World) (r : QT × Nat) (e : Ending) : Prop :=
  ∃ nv, e = .returned (.tuple #[.agg (q23C r.1.asked nv r.1.typ r.1.cls).toArray, .int .i64 r.2, .int .i64 0]) ∧ Only (fun _ => False) w w' ∧ Sl w' 1 nv r.1.name.length (r.1.name.map .string)
set_option maxRecDepth 100000 in
set_option maxHeartbeats 4000000 in
theorem rparse_rest (w : World) (m : ByteArray) (hm : 12 ≤ m.size) (hm2 : m.size ≤ 100000) (hr : (headD m).resp = false) (ho : (headD m).op = 0) :
    Calls Tryz.prog 29 #[.string m] w fun e w' => QPost23 w w' (qM m) e := by
  obtain ⟨k1, k2⟩ := head_bytes m
  have hqm : qM m = match askM m with
    | none => (⟨(headD m).id, (headD m).op, (headD m).des, false, [], 0, 0⟩, 1)
    | some (l, t, c) => (⟨(headD m).id, (headD m).op, (headD m).des, true, l, t, c⟩, if (t = 1 ∨ t = 33) ∧ c = 1 then 0 else 4) := by
    unfold qM
    rw [if_neg (by omega)]
    cases askM m <;> rfl
  obtain ⟨r, hrr⟩ : ∃ r, r = qM m := ⟨_, rfl⟩
  rw [← hrr] at hqm ⊢
  rw [k1] at hr
  rw [k2] at ho
  have hb : ((m[2]'(by omega)).toNat : Int) = (bA m 2 : Int) := congrArg _ (bA_get m 2 (by omega))
  have h2 := bA_lt m 2
  have q1 : decide ((128 : Int) ≤ (bA m 2 : Int)) = false := by simp at hr ⊢; omega
  have q0 : decide ((m.size : Int) < 12) = false := by simp; omega
  have q0' : decide (m.size < 12) = false := by simp; omega
  have q2 : (((bA m 2 : Int) / 8 % 16) == 0) = true := by simp; omega
  have hlt : 2 < m.size := by omega
  have g4 : ∀ W : World, Calls Tryz.prog 30 #[.string m, .int .i64 4] W fun e w' => e = .returned (.int .i64 (gA m 4)) ∧ Only (fun _ => False) W w' := fun W : World => rget_any W m 4 (by omega) (by decide)
  have g6 : ∀ W : World, Calls Tryz.prog 30 #[.string m, .int .i64 6] W fun e w' => e = .returned (.int .i64 (gA m 6)) ∧ Only (fun _ => False) W w' := fun W : World => rget_any W m 6 (by omega) (by decide)
  have g8 : ∀ W : World, Calls Tryz.prog 30 #[.string m, .int .i64 8] W fun e w' => e = .returned (.int .i64 (gA m 8)) ∧ Only (fun _ => False) W w' := fun W : World => rget_any W m 8 (by omega) (by decide)
  have g10 : ∀ W : World, Calls Tryz.prog 30 #[.string m, .int .i64 10] W fun e w' => e = .returned (.int .i64 (gA m 10)) ∧ Only (fun _ => False) W w' := fun W : World => rget_any W m 10 (by omega) (by decide)
  have HQM := Lib.hid hqm
  have G4 := Lib.hid g4
  have G6 := Lib.hid g6
  have G8 := Lib.hid g8
  have G10 := Lib.hid g10
  clear hqm g4 g6 g8 g10
  clear k1 k2 hr hrr
  generalize bA m 2 = y at *
  go_enter Tryz.func29, Tryz.ntmps29
  obtain ⟨W, hW⟩ : ∃ W, W = w.alloc (.cells #[.bool false, .slice none 0 0, .int .i64 0, .int .i64 0] 88) := ⟨_, rfl⟩
  have hbW : W.heap[w.heap.size]? = some (.cells #[.bool false, .slice none 0 0, .int .i64 0, .int .i64 0] 88 (0, 0)) := by rw [hW]; exact heap_alloc_new w _
  have hoW : Only (fun _ => False) w W := by rw [hW]; exact (Only.refl _ _).alloc _
  have hsW : W.heap.size = w.heap.size + 1 := by rw [hW]; simp
  have hbq : W.heap[w.heap.size]? = some (.cells #[.bool false, .slice none 0 0, .int .i64 0, .int .i64 0] 88 (0, 0)) := hbW
  have HO := Lib.hid hoW
  have HB := Lib.hid hbq
  clear hoW hbq
  clear hbW hsW
  go_upto_region 5 with (fail)
  rw [← hW]
  clear hW
  go_upto_region 7 with (fail)
  clear q0 q0' q1 q2 hb h2 ho
  obtain ⟨bad, hbad⟩ : ∃ bad, bad = !decide (gA m 4 = 1 ∧ gA m 6 = 0 ∧ gA m 8 = 0) := ⟨_, rfl⟩
  have HBAD := Lib.hid hbad
  clear hbad
  go_cut [35] (fun v wx => v = .bool bad ∧ Only (fun _ => False) W wx)
  case first =>
    by_cases h4 : gA m 4 = 1
    · have e4 : ((gA m 4 : Int) != 1) = false := by simp; omega
      by_cases h6 : gA m 6 = 0
      · have e6 : ((gA m 6 : Int) != 0) = false := by simp; omega
        have hbe := Lib.hid (show bad = ((gA m 8 : Int) != 0) by rw [HBAD.out, Bool.eq_iff_iff]; simp; omega)
        clear h4 h6
        go_wp2_with (first | ((with_reducible refine (G4.out _).mono ?_); rintro e wg4 ⟨rfl, hog4⟩) | ((with_reducible refine (G6.out _).mono ?_); rintro e wg6 ⟨rfl, hog6⟩) | ((with_reducible refine (G8.out _).mono ?_); rintro e wg8 ⟨rfl, hog8⟩))
        go_meet
        exact ⟨by rw [hbe.out], (hog4.trans hog6).trans hog8⟩
      · have e6 : ((gA m 6 : Int) != 0) = true := by simp; omega
        have hbe := Lib.hid (show bad = true by rw [HBAD.out]; simp; omega)
        clear h4 h6
        go_wp2_with (first | ((with_reducible refine (G4.out _).mono ?_); rintro e wg4 ⟨rfl, hog4⟩) | ((with_reducible refine (G6.out _).mono ?_); rintro e wg6 ⟨rfl, hog6⟩) | ((with_reducible refine (G8.out _).mono ?_); rintro e wg8 ⟨rfl, hog8⟩))
        go_meet
        exact ⟨by rw [hbe.out], hog4.trans hog6⟩
    · have e4 : ((gA m 4 : Int) != 1) = true := by simp; omega
      have hbe := Lib.hid (show bad = true by rw [HBAD.out]; simp; omega)
      clear h4
      go_wp2_with (first | ((with_reducible refine (G4.out _).mono ?_); rintro e wg4 ⟨rfl, hog4⟩) | ((with_reducible refine (G6.out _).mono ?_); rintro e wg6 ⟨rfl, hog6⟩) | ((with_reducible refine (G8.out _).mono ?_); rintro e wg8 ⟨rfl, hog8⟩))
      go_meet
      exact ⟨by rw [hbe.out], hog4⟩
  case rest =>
  obtain ⟨rfl, hoc⟩ := hcut
  have HBC := Lib.hid (hoc.old HB.out id)
  have HOC := Lib.hid (HO.out.trans hoc)
  clear hoc
  cases bad with
  | true =>
    have hr : r = (⟨(headD m).id, (headD m).op, (headD m).des, false, [], 0, 0⟩, 1) := by
      have hn : askM m = none := by
        have h := HBAD.out
        unfold askM
        rw [if_neg (fun x => by simp at h; omega)]
      rw [HQM.out, hn]
    have HR := Lib.hid hr
    have hltc : w.heap.size < wc.heap.size := lt_of_block HBC.out
    clear hr
    go_wp2_with ((with_reducible refine wpList_store_row (o := ⟨none, .store 88 (.tmp 2) (.tmp 36), _, _, _, none⟩) rfl _ _ _ rfl (w.heap.size) ((q23C false (.slice none 0 0) 0 0).toArray) ?_ ?_ 88 _ HBC.out (infoQ23 _ _ _ _) ?_ (q23_one _ _ _ _ rfl) ?_); (· rfl); (· rfl); (· rfl))
    have hb9 := row_set HBC.out (q23C false (.slice none 0 0) 0 0).toArray
    refine bodyPost_ret (results_row2 rfl _ _ w.heap.size 88 _ (0, 0) _ rfl hb9 Tryz.underlying88 rfl (infoQ23 _ _ _ _) _ _ rfl rfl) rfl ?_
    rw [HR.out]
    exact ⟨_, rfl, HOC.out.setRow (.inl (Nat.le_refl _)) _, Sl.nil _ _⟩
  | false =>
    have hcc : gA m 4 = 1 ∧ gA m 6 = 0 ∧ gA m 8 = 0 := by have h := HBAD.out; simpa using h
    have hask : askM m = if (rdP m 12 12 []).err ≠ 0 ∨ m.size < (rdP m 12 12 []).stop.toNat + 4 ∨ ((rdP m 12 12 []).stop.toNat + 4 < m.size ∧ gA m 10 = 0) then none else some ((rdP m 12 12 []).ls, gA m (rdP m 12 12 []).stop.toNat, gA m ((rdP m 12 12 []).stop.toNat + 2)) := by
      unfold askM
      rw [if_pos hcc]
    have hrd : ∀ W : World, Calls Tryz.prog 62 #[.string m, .int .i64 12] W fun e w' => ReadPost W (rdP m 12 12 []) e w' := fun W => rread_top W m 12 hm2 hm
    have hstop := rdP_stop m 12 12 []
    generalize rdP m 12 12 [] = rd at *
    obtain ⟨l, stop, err⟩ := rd
    dsimp only at hask hstop
    have HASK := Lib.hid hask
    have HRD := Lib.hid hrd
    have HSTOP := Lib.hid hstop
    clear hask hrd hstop
    clear hcc
    go_upto_region 10 with ((with_reducible refine (HRD.out _).mono ?_); rintro e w2 ⟨nv, rfl, ho2, hsl⟩)
    obtain ⟨bad, hbad⟩ : ∃ bad, bad = decide (err ≠ 0 ∨ m.size < stop.toNat + 4 ∨ (stop.toNat + 4 < m.size ∧ gA m 10 = 0)) := ⟨_, rfl⟩
    have HBAD2 := Lib.hid hbad
    have HO2 := Lib.hid ho2
    have HSL := Lib.hid hsl
    clear hbad ho2 hsl
    go_cut [63] (fun v wx => v = .bool bad ∧ Only (fun _ => False) w2 wx)
    case first =>
      by_cases he : err = 0
      · have n1 : ((err : Int) != 0) = false := by simp; exact he
        obtain ⟨s0, s1⟩ := HSTOP.out he
        obtain ⟨p, rfl⟩ : ∃ p : Nat, stop = p := ⟨stop.toNat, by omega⟩
        by_cases h4 : m.size < p + 4
        · have n2 : decide ((m.size : Int) - (p : Int) < 4) = true := by simp; omega
          have hbe := Lib.hid (show bad = true by rw [HBAD2.out]; simp; omega)
          clear he h4
          go_wp2_with fail
          go_meet
          exact ⟨by rw [hbe.out], Only.refl _ _⟩
        · have n2 : decide ((m.size : Int) - (p : Int) < 4) = false := by simp; omega
          by_cases h5 : p + 4 < m.size
          · have n3 : decide ((4 : Int) < (m.size : Int) - (p : Int)) = true := by simp; omega
            have hbe := Lib.hid (show bad = ((gA m 10 : Int) == 0) by rw [HBAD2.out, Bool.eq_iff_iff]; simp; omega)
            clear he h4 h5
            go_wp2_with ((with_reducible refine (G10.out _).mono ?_); rintro e wg ⟨rfl, hog⟩)
            go_meet
            exact ⟨by rw [hbe.out], hog⟩
          · have n3 : decide ((4 : Int) < (m.size : Int) - (p : Int)) = false := by simp; omega
            have hbe := Lib.hid (show bad = false by rw [HBAD2.out]; simp; omega)
            clear he h4 h5
            go_wp2_with fail
            go_meet
            exact ⟨by rw [hbe.out], Only.refl _ _⟩
      · have n1 : ((err : Int) != 0) = true := by simp; exact he
        have hbe := Lib.hid (show bad = true by rw [HBAD2.out]; simp; exact .inl he)
        clear he
        go_wp2_with fail
        go_meet
        exact ⟨by rw [hbe.out], Only.refl _ _⟩
    case rest =>
    rename World => w3
    obtain ⟨rfl, ho3⟩ := hcut
    have HB3 := Lib.hid (ho3.old (HO2.out.old HBC.out id) id)
    have HO3 := Lib.hid ((HOC.out.trans HO2.out).trans ho3)
    have HSL3 := Lib.hid (HSL.out.new ho3)
    clear ho3
    cases bad with
    | true =>
      have hr : r = (⟨(headD m).id, (headD m).op, (headD m).des, false, [], 0, 0⟩, 1) := by
        have h := HBAD2.out
        have hn : askM m = none := by
          rw [HASK.out, if_pos (of_decide_eq_true h.symm)]
        rw [HQM.out, hn]
      have HR := Lib.hid hr
      have hltc : w.heap.size < w3.heap.size := lt_of_block HB3.out
      clear hr
      go_wp2_with ((with_reducible refine wpList_store_row (o := ⟨none, .store 88 (.tmp 2) (.tmp 64), _, _, _, none⟩) rfl _ _ _ rfl (w.heap.size) ((q23C false (.slice none 0 0) 0 0).toArray) ?_ ?_ 88 _ HB3.out (infoQ23 _ _ _ _) ?_ (q23_one _ _ _ _ rfl) ?_); (· rfl); (· rfl); (· rfl))
      have hb9 := row_set HB3.out (q23C false (.slice none 0 0) 0 0).toArray
      refine bodyPost_ret (results_row2 rfl _ _ w.heap.size 88 _ (0, 0) _ rfl hb9 Tryz.underlying88 rfl (infoQ23 _ _ _ _) _ _ rfl rfl) rfl ?_
      rw [HR.out]
      exact ⟨_, rfl, HO3.out.setRow (.inl (Nat.le_refl _)) _, Sl.nil _ _⟩
    | false =>
      have hnb := of_decide_eq_false HBAD2.out.symm
      have he : err = 0 := by omega
      obtain ⟨s0, s1⟩ := HSTOP.out he
      have hask2 := HASK.out
      rw [if_neg hnb] at hask2
      obtain ⟨p, rfl⟩ : ∃ p : Nat, stop = p := ⟨stop.toNat, by omega⟩
      rw [Int.toNat_natCast] at hnb hask2
      have hp4 : p + 4 ≤ m.size := by omega
      have hp5 : p ≤ 100000 := by omega
      have hr := HQM.out
      rw [hask2] at hr
      dsimp only at hr
      have gp := fun W : World => rget_any W m p (by omega) hp5
      have gp2 := fun W : World => rget_any W m (p + 2) (by omega) (by omega)
      rw [show (((p + 2 : Nat)) : Int) = (p : Int) + 2 by omega] at gp2
      generalize gA m p = ty at *
      generalize gA m (p + 2) = cl at *
      obtain ⟨_, na, nc, rfl, _⟩ := id HSL3.out
      have GP := Lib.hid gp
      have GP2 := Lib.hid gp2
      have HR := Lib.hid hr
      clear gp gp2 hr
      clear hnb hask2 HASK HQM HRD HBAD HBAD2 HSTOP he s0 s1 G4 G6 G8 G10 hp4
      go_upto_region 13 with (first
        | ((with_reducible refine (GP.out _).mono ?_); rintro e wg1 ⟨rfl, hg1⟩)
        | ((with_reducible refine (GP2.out _).mono ?_); rintro e wg2 ⟨rfl, hg2⟩))
      have ho5 := (hg1.trans hg2)
      obtain ⟨W5, hW5⟩ : ∃ W5, W5 = wg2.alloc (.cells #[.bool true, .slice na l.length nc, .int .i64 ty, .int .i64 cl] 88) := ⟨_, rfl⟩
      have hbW5 : W5.heap[wg2.heap.size]? = some (.cells #[.bool true, .slice na l.length nc, .int .i64 ty, .int .i64 cl] 88 (0, 0)) := by rw [hW5]; exact heap_alloc_new wg2 _
      have hoW5 : Only (fun _ => False) wg2 W5 := by rw [hW5]; exact (Only.refl _ _).alloc _
      have hsW5 : W5.heap.size = wg2.heap.size + 1 := by rw [hW5]; simp
      have HBQ := Lib.hid (show W5.heap[wg2.heap.size]? = some (.cells (q23C true (.slice na l.length nc) ty cl).toArray 88 (0, 0)) from hbW5)
      have HB5 := Lib.hid ((ho5.trans hoW5).old HB3.out id)
      have HO5 := Lib.hid ((HO3.out.trans ho5).trans hoW5)
      have HSL5 := Lib.hid (HSL3.out.new (ho5.trans hoW5))
      have hl1 : wg2.heap.size < W5.heap.size := by omega
      have hl2 : w.heap.size < W5.heap.size := lt_of_block HB5.out
      have x2 : W5.cell? ⟨wg2.heap.size, 2, none⟩ = some (.int .i64 ty) := cell_at hbW5 2
      have x3 : W5.cell? ⟨wg2.heap.size, 3, none⟩ = some (.int .i64 cl) := cell_at hbW5 3
      rw [← hW5]
      clear hW5 hoW5 hsW5 ho5 hg1 hg2 hbW5
      generalize wg2.heap.size = Y at *
      by_cases h1 : ty = 1
      · have e2 : ((ty : Int) != 1) = false := by simp; omega
        by_cases hc : cl = 1
        · have e4 : ((cl : Int) != 1) = false := by simp; omega
          have HIF := Lib.hid (show (ty = 1 ∨ ty = 33) ∧ cl = 1 from ⟨.inl h1, hc⟩)
          clear h1 hc
          have hr := HR.out
          rw [if_pos HIF.out] at hr
          have HR4 := Lib.hid hr
          clear hr
          go_wp2_with (first
            | ((with_reducible refine wpList_load_row (o := ⟨some 88, .load 88 (.tmp 8), _, _, _, none⟩) rfl _ _ rfl Y ?_ 88 _ (0, 0) _ HBQ.out Tryz.underlying88 ?_ (infoQ23 _ _ _ _) ?_); (· rfl); (· rfl))
            | ((with_reducible refine wpList_store_row (o := ⟨none, .store 88 (.tmp 2) (.tmp 88), _, _, _, none⟩) rfl _ _ _ rfl (w.heap.size) ((q23C true (.slice na l.length nc) ty cl).toArray) ?_ ?_ 88 _ HB5.out (infoQ23 _ _ _ _) ?_ (q23_one _ _ _ _ rfl) ?_); (· rfl); (· rfl); (· rfl)))
          have hb9 := row_set HB5.out (q23C true (.slice na l.length nc) ty cl).toArray
          have ho9 : Only (fun x => x = w.heap.size) W5 (W5.setRow w.heap.size (q23C true (.slice na l.length nc) ty cl).toArray) := (Only.refl (fun x => x = w.heap.size) W5).setRow (b := w.heap.size) (.inr rfl) _
          refine bodyPost_ret (results_row2 rfl _ _ w.heap.size 88 _ (0, 0) _ rfl hb9 Tryz.underlying88 rfl (infoQ23 _ _ _ _) _ _ rfl rfl) rfl ?_
          rw [HR4.out]
          exact ⟨_, rfl, HO5.out.tr ho9 (fun x hx e => by omega), slS HSL5.out ho9 (fun b i s e he => by
            subst e
            rw [cell_at HB5.out] at he
            exact q23_nostr _ _ _ he)⟩
        · have e4 : ((cl : Int) != 1) = true := by simp; omega
          have HIF := Lib.hid (show ¬ ((ty = 1 ∨ ty = 33) ∧ cl = 1) from fun x => hc x.2)
          clear h1 hc
          have hr := HR.out
          rw [if_neg HIF.out] at hr
          have HR4 := Lib.hid hr
          clear hr
          go_wp2_with (first
            | ((with_reducible refine wpList_load_row (o := ⟨some 87, .load 88 (.tmp 8), _, _, _, none⟩) rfl _ _ rfl Y ?_ 88 _ (0, 0) _ HBQ.out Tryz.underlying88 ?_ (infoQ23 _ _ _ _) ?_); (· rfl); (· rfl))
            | ((with_reducible refine wpList_store_row (o := ⟨none, .store 88 (.tmp 2) (.tmp 87), _, _, _, none⟩) rfl _ _ _ rfl (w.heap.size) ((q23C true (.slice na l.length nc) ty cl).toArray) ?_ ?_ 88 _ HB5.out (infoQ23 _ _ _ _) ?_ (q23_one _ _ _ _ rfl) ?_); (· rfl); (· rfl); (· rfl)))
          have hb9 := row_set HB5.out (q23C true (.slice na l.length nc) ty cl).toArray
          have ho9 : Only (fun x => x = w.heap.size) W5 (W5.setRow w.heap.size (q23C true (.slice na l.length nc) ty cl).toArray) := (Only.refl (fun x => x = w.heap.size) W5).setRow (b := w.heap.size) (.inr rfl) _
          refine bodyPost_ret (results_row2 rfl _ _ w.heap.size 88 _ (0, 0) _ rfl hb9 Tryz.underlying88 rfl (infoQ23 _ _ _ _) _ _ rfl rfl) rfl ?_
          rw [HR4.out]
          exact ⟨_, rfl, HO5.out.tr ho9 (fun x hx e => by omega), slS HSL5.out ho9 (fun b i s e he => by
            subst e
            rw [cell_at HB5.out] at he
            exact q23_nostr _ _ _ he)⟩
      · have e2 : ((ty : Int) != 1) = true := by simp; omega
        by_cases h3 : ty = 33
        · have e6 : ((ty : Int) != 33) = false := by simp; omega
          by_cases hc : cl = 1
          · have e4 : ((cl : Int) != 1) = false := by simp; omega
            have HIF := Lib.hid (show (ty = 1 ∨ ty = 33) ∧ cl = 1 from ⟨.inr h3, hc⟩)
            clear h1 h3 hc
            have hr := HR.out
            rw [if_pos HIF.out] at hr
            have HR4 := Lib.hid hr
            clear hr
            go_wp2_with (first
              | ((with_reducible refine wpList_load_row (o := ⟨some 88, .load 88 (.tmp 8), _, _, _, none⟩) rfl _ _ rfl Y ?_ 88 _ (0, 0) _ HBQ.out Tryz.underlying88 ?_ (infoQ23 _ _ _ _) ?_); (· rfl); (· rfl))
              | ((with_reducible refine wpList_store_row (o := ⟨none, .store 88 (.tmp 2) (.tmp 88), _, _, _, none⟩) rfl _ _ _ rfl (w.heap.size) ((q23C true (.slice na l.length nc) ty cl).toArray) ?_ ?_ 88 _ HB5.out (infoQ23 _ _ _ _) ?_ (q23_one _ _ _ _ rfl) ?_); (· rfl); (· rfl); (· rfl)))
            have hb9 := row_set HB5.out (q23C true (.slice na l.length nc) ty cl).toArray
            have ho9 : Only (fun x => x = w.heap.size) W5 (W5.setRow w.heap.size (q23C true (.slice na l.length nc) ty cl).toArray) := (Only.refl (fun x => x = w.heap.size) W5).setRow (b := w.heap.size) (.inr rfl) _
            refine bodyPost_ret (results_row2 rfl _ _ w.heap.size 88 _ (0, 0) _ rfl hb9 Tryz.underlying88 rfl (infoQ23 _ _ _ _) _ _ rfl rfl) rfl ?_
            rw [HR4.out]
            exact ⟨_, rfl, HO5.out.tr ho9 (fun x hx e => by omega), slS HSL5.out ho9 (fun b i s e he => by
              subst e
              rw [cell_at HB5.out] at he
              exact q23_nostr _ _ _ he)⟩
          · have e4 : ((cl : Int) != 1) = true := by simp; omega
            have HIF := Lib.hid (show ¬ ((ty = 1 ∨ ty = 33) ∧ cl = 1) from fun x => hc x.2)
            clear h1 h3 hc
            have hr := HR.out
            rw [if_neg HIF.out] at hr
            have HR4 := Lib.hid hr
            clear hr
            go_wp2_with (first
              | ((with_reducible refine wpList_load_row (o := ⟨some 87, .load 88 (.tmp 8), _, _, _, none⟩) rfl _ _ rfl Y ?_ 88 _ (0, 0) _ HBQ.out Tryz.underlying88 ?_ (infoQ23 _ _ _ _) ?_); (· rfl); (· rfl))
              | ((with_reducible refine wpList_store_row (o := ⟨none, .store 88 (.tmp 2) (.tmp 87), _, _, _, none⟩) rfl _ _ _ rfl (w.heap.size) ((q23C true (.slice na l.length nc) ty cl).toArray) ?_ ?_ 88 _ HB5.out (infoQ23 _ _ _ _) ?_ (q23_one _ _ _ _ rfl) ?_); (· rfl); (· rfl); (· rfl)))
            have hb9 := row_set HB5.out (q23C true (.slice na l.length nc) ty cl).toArray
            have ho9 : Only (fun x => x = w.heap.size) W5 (W5.setRow w.heap.size (q23C true (.slice na l.length nc) ty cl).toArray) := (Only.refl (fun x => x = w.heap.size) W5).setRow (b := w.heap.size) (.inr rfl) _
            refine bodyPost_ret (results_row2 rfl _ _ w.heap.size 88 _ (0, 0) _ rfl hb9 Tryz.underlying88 rfl (infoQ23 _ _ _ _) _ _ rfl rfl) rfl ?_
            rw [HR4.out]
            exact ⟨_, rfl, HO5.out.tr ho9 (fun x hx e => by omega), slS HSL5.out ho9 (fun b i s e he => by
              subst e
              rw [cell_at HB5.out] at he
              exact q23_nostr _ _ _ he)⟩
        · have e6 : ((ty : Int) != 33) = true := by simp; omega
          have HIF := Lib.hid (show ¬ ((ty = 1 ∨ ty = 33) ∧ cl = 1) from fun x => x.1.elim h1 h3)
          clear h1 h3
          have hr := HR.out
          rw [if_neg HIF.out] at hr
          have HR4 := Lib.hid hr
          clear hr
          go_wp2_with (first
            | ((with_reducible refine wpList_load_row (o := ⟨some 87, .load 88 (.tmp 8), _, _, _, none⟩) rfl _ _ rfl Y ?_ 88 _ (0, 0) _ HBQ.out Tryz.underlying88 ?_ (infoQ23 _ _ _ _) ?_); (· rfl); (· rfl))
            | ((with_reducible refine wpList_store_row (o := ⟨none, .store 88 (.tmp 2) (.tmp 87), _, _, _, none⟩) rfl _ _ _ rfl (w.heap.size) ((q23C true (.slice na l.length nc) ty cl).toArray) ?_ ?_ 88 _ HB5.out (infoQ23 _ _ _ _) ?_ (q23_one _ _ _ _ rfl) ?_); (· rfl); (· rfl); (· rfl)))
          have hb9 := row_set HB5.out (q23C true (.slice na l.length nc) ty cl).toArray
          have ho9 : Only (fun x => x = w.heap.size) W5 (W5.setRow w.heap.size (q23C true (.slice na l.length nc) ty cl).toArray) := (Only.refl (fun x => x = w.heap.size) W5).setRow (b := w.heap.size) (.inr rfl) _
          refine bodyPost_ret (results_row2 rfl _ _ w.heap.size 88 _ (0, 0) _ rfl hb9 Tryz.underlying88 rfl (infoQ23 _ _ _ _) _ _ rfl rfl) rfl ?_
          rw [HR4.out]
          exact ⟨_, rfl, HO5.out.tr ho9 (fun x hx e => by omega), slS HSL5.out ho9 (fun b i s e he => by
            subst e
            rw [cell_at HB5.out] at he
            exact q23_nostr _ _ _ he)⟩
end Go.Proofs.YtbdfijgejkimnaaGreatDoor
/-! The reference's bytes of a record. -/
namespace Go.Proofs.YtbdfijgejkimnaaGreatDoor
open Go.Conc Go.RowKit

theorem bytes_app (a b : List UInt8) : (⟨a.toArray⟩ ++ ⟨b.toArray⟩ : ByteArray) = ⟨(a ++ b).toArray⟩ := by apply str_ext; simp [ByteArray.data_append]
theorem twoB_be {n : Nat} (h : n < 65536) : twoB n = ⟨(beL n 2).toArray⟩ := by
  apply str_ext
  rw [beL2 n h]
theorem conv4 (w : World) (B : Nat) (x y z u : Int) (hB : B = w.heap.size) : (convert 61 9 (.slice (some ⟨B, 0, none⟩) 4 4)).run Tryz.prog (w.alloc (.cells #[.int .u8 x, .int .u8 y, .int .u8 z, .int .u8 u] 5)) = .ok (.string (bytesOf [x, y, z, u])) (w.alloc (.cells #[.int .u8 x, .int .u8 y, .int .u8 z, .int .u8 u] 5)) := by
  subst hB
  have h := Sl.fresh w ([x, y, z, u].map (.int .u8)) 5 4 1 rfl (by unfold maxLen; decide)
  exact run_bytes_str (P := Tryz.prog) (src := 61) (dst := 9) (e := 5) (ns := [x, y, z, u]) Tryz.underlying61 Tryz.underlying5 Tryz.underlying9 h
theorem bytes4 (a b c d : Nat) (h : a < 256 ∧ b < 256 ∧ c < 256 ∧ d < 256) : bytesOf [(a : Int), (b : Int), (c : Int), (d : Int)] = ⟨#[UInt8.ofNat a, UInt8.ofNat b, UInt8.ofNat c, UInt8.ofNat d]⟩ := by
  have e (n : Nat) (hn : n < 256) : (UInt8.ofNat n).toNat = n := by rw [UInt8.toNat_ofNat']; omega
  have h2 := bytesOf_nat [UInt8.ofNat a, UInt8.ofNat b, UInt8.ofNat c, UInt8.ofNat d]
  simp only [List.map_cons, List.map_nil, e _ h.1, e _ h.2.1, e _ h.2.2.1, e _ h.2.2.2] at h2
  exact h2
theorem beL4_two (n : Nat) : beL n 4 = beL (n / 65536) 2 ++ beL (n % 65536) 2 := by
  have e (x y : Nat) (h : x % 256 = y % 256) : UInt8.ofNat x = UInt8.ofNat y := by
    apply UInt8.toNat_inj.1
    rw [UInt8.toNat_ofNat', UInt8.toNat_ofNat']
    exact h
  show [UInt8.ofNat (n / 256 ^ 3), UInt8.ofNat (n / 256 ^ 2), UInt8.ofNat (n / 256 ^ 1), UInt8.ofNat (n / 256 ^ 0)] = [UInt8.ofNat (n / 65536 / 256 ^ 1), UInt8.ofNat (n / 65536 / 256 ^ 0), UInt8.ofNat (n % 65536 / 256 ^ 1), UInt8.ofNat (n % 65536 / 256 ^ 0)]
  rw [e (n / 256 ^ 3) (n / 65536 / 256 ^ 1) (by omega), e (n / 256 ^ 2) (n / 65536 / 256 ^ 0) (by omega), e (n / 256 ^ 1) (n % 65536 / 256 ^ 1) (by omega), e (n / 256 ^ 0) (n % 65536 / 256 ^ 0) (by omega)]
set_option maxRecDepth 100000 in
set_option maxHeartbeats 4000000 in
theorem rbytes24_any (w : World) (x : RRv) (ok : RROk x.r) (ht : Sl w 1 x.v x.r.tgt.length (x.r.tgt.map .string)) :
    Calls Tryz.prog 66 #[.agg (rr24C x).toArray] w fun e w' => e = .returned (.tuple #[.string ⟨(rrB x.r).toArray⟩, .int .i64 0]) ∧ Only (fun _ => False) w w' := by
  obtain ⟨r, v⟩ := x
  dsimp only at ok ht ⊢
  obtain ⟨_, va, vc, rfl, _⟩ := id ht
  have hdl := rdata_len ok
  have hml : r.tgt.length ≤ 1000 ∧ ∀ s ∈ r.tgt, s.size ≤ 70 := by
    obtain ⟨h1, h2, h3⟩ := mayGo_all r.tgt 0 ok.tgt
    exact ⟨by omega, fun s hs => by have := (h1 s hs).2; omega⟩
  have htw := fun (W : World) (n : Nat) (h : n < 65536) => rtwo22_any W n h
  obtain ⟨D, hD⟩ : ∃ D, D = rdataB r := ⟨_, rfl⟩
  have hR : (⟨(rrB r).toArray⟩ : ByteArray) = ((((((⟨#[192, 12]⟩ ++ twoB r.typ) ++ ⟨#[0, 1]⟩) ++ twoB (r.ttl / 65536)) ++ twoB (r.ttl % 65536)) ++ twoB D.length) ++ ⟨D.toArray⟩ : ByteArray) := by
    have ht1 := ok.ttl
    have ht2 : r.typ < 65536 := by rcases ok.typ with e | e <;> omega
    rw [twoB_be ht2, twoB_be (by omega : r.ttl / 65536 < 65536), twoB_be (by omega : r.ttl % 65536 < 65536), twoB_be (by rw [hD]; omega : D.length < 65536)]
    rw [show (⟨#[192, 12]⟩ : ByteArray) = ⟨(beL 49164 2).toArray⟩ from rfl, show (⟨#[0, 1]⟩ : ByteArray) = ⟨(beL 1 2).toArray⟩ from rfl]
    simp only [bytes_app]
    unfold rrB
    rw [beL4_two, ← hD]
    simp
  rw [hR]
  rw [← hD] at hdl
  obtain ⟨typ, ttl, ⟨a0, a1, a2, a3⟩, pr, wt, po, tgt⟩ := r
  dsimp only at ht hml ⊢
  unfold rr24C
  dsimp only
  have HOK := Lib.hid ok
  have HD := Lib.hid hD
  have HT := Lib.hid ht
  have HTW := Lib.hid htw
  have HML := Lib.hid hml
  clear ok hD ht htw hml
  clear hR
  have hdl2 : D.length < 65536 := by omega
  go_enter Tryz.func66, Tryz.ntmps66
  obtain ⟨W, hW⟩ : ∃ W, W = w.alloc (.cells #[.int .i64 typ, .int .u32 ttl, .int .u8 a0, .int .u8 a1, .int .u8 a2, .int .u8 a3, .int .u16 pr, .int .u16 wt, .int .u16 po, .slice va tgt.length vc] 48) := ⟨_, rfl⟩
  have hbW : W.heap[w.heap.size]? = some (.cells #[.int .i64 typ, .int .u32 ttl, .int .u8 a0, .int .u8 a1, .int .u8 a2, .int .u8 a3, .int .u16 pr, .int .u16 wt, .int .u16 po, .slice va tgt.length vc] 48 (0, 0)) := by rw [hW]; exact heap_alloc_new w _
  have hoW : Only (fun _ => False) w W := by rw [hW]; exact (Only.refl _ _).alloc _
  have hsW : W.heap.size = w.heap.size + 1 := by rw [hW]; simp
  have x0 : W.cell? ⟨w.heap.size, 0, none⟩ = some (.int .i64 typ) := cell_at hbW 0
  have x1 : W.cell? ⟨w.heap.size, 1, none⟩ = some (.int .u32 ttl) := cell_at hbW 1
  have x2 : W.cell? ⟨w.heap.size, 2, none⟩ = some (.int .u8 a0) := cell_at hbW 2
  have x3 : W.cell? ⟨w.heap.size, 3, none⟩ = some (.int .u8 a1) := cell_at hbW 3
  have x4 : W.cell? ⟨w.heap.size, 4, none⟩ = some (.int .u8 a2) := cell_at hbW 4
  have x5 : W.cell? ⟨w.heap.size, 5, none⟩ = some (.int .u8 a3) := cell_at hbW 5
  have x6 : W.cell? ⟨w.heap.size, 6, none⟩ = some (.int .u16 pr) := cell_at hbW 6
  have x7 : W.cell? ⟨w.heap.size, 7, none⟩ = some (.int .u16 wt) := cell_at hbW 7
  have x8 : W.cell? ⟨w.heap.size, 8, none⟩ = some (.int .u16 po) := cell_at hbW 8
  have x9 : W.cell? ⟨w.heap.size, 9, none⟩ = some (.slice va tgt.length vc) := cell_at hbW 9
  have cv := conv4 W W.heap.size a0 a1 a2 a3 rfl
  have HO := Lib.hid hoW
  have HB := Lib.hid hbW
  have HSW := Lib.hid hsW
  clear hoW hbW hsW
  go_upto_region 1 with (fail)
  rw [← hW]
  clear hW
  go_upto_region 2 with (fail)
  obtain ⟨W2, hW2⟩ : ∃ W2, W2 = W.alloc (.cells #[.int .u8 a0, .int .u8 a1, .int .u8 a2, .int .u8 a3] 5) := ⟨_, rfl⟩
  have hbW2 : W2.heap[W.heap.size]? = some (.cells #[.int .u8 a0, .int .u8 a1, .int .u8 a2, .int .u8 a3] 5 (0, 0)) := by rw [hW2]; exact heap_alloc_new W _
  have hoW2 : Only (fun _ => False) W W2 := by rw [hW2]; exact (Only.refl _ _).alloc _
  have hsW2 : W2.heap.size = W.heap.size + 1 := by rw [hW2]; simp
  rw [← hW2]
  have HB2 := Lib.hid (hoW2.old HB.out id)
  have HO2 := Lib.hid (HO.out.trans hoW2)
  clear x0 x1 x2 x3 x4 x5 x6 x7 x8 x9 hW2 hoW2 hsW2 hbW2 HO HB HSW
  generalize w.heap.size = B at *
  have x0 : W2.cell? ⟨B, 0, none⟩ = some (.int .i64 typ) := cell_at HB2.out 0
  have x1 : W2.cell? ⟨B, 1, none⟩ = some (.int .u32 ttl) := cell_at HB2.out 1
  have x2 : W2.cell? ⟨B, 2, none⟩ = some (.int .u8 a0) := cell_at HB2.out 2
  have x3 : W2.cell? ⟨B, 3, none⟩ = some (.int .u8 a1) := cell_at HB2.out 3
  have x4 : W2.cell? ⟨B, 4, none⟩ = some (.int .u8 a2) := cell_at HB2.out 4
  have x5 : W2.cell? ⟨B, 5, none⟩ = some (.int .u8 a3) := cell_at HB2.out 5
  have x6 : W2.cell? ⟨B, 6, none⟩ = some (.int .u16 pr) := cell_at HB2.out 6
  have x7 : W2.cell? ⟨B, 7, none⟩ = some (.int .u16 wt) := cell_at HB2.out 7
  have x8 : W2.cell? ⟨B, 8, none⟩ = some (.int .u16 po) := cell_at HB2.out 8
  have x9 : W2.cell? ⟨B, 9, none⟩ = some (.slice va tgt.length vc) := cell_at HB2.out 9
  have HTY := Lib.hid (show typ < 65536 by have h := HOK.out.typ; dsimp only at h; omega)
  have HTL := Lib.hid HOK.out.ttl
  obtain ⟨q1, hq1⟩ : ∃ q1, q1 = ttl / 65536 := ⟨_, rfl⟩
  obtain ⟨q2, hq2⟩ : ∃ q2, q2 = ttl % 65536 := ⟨_, rfl⟩
  have hl1 : q1 < 65536 := by have h := HTL.out; dsimp only at h; omega
  have hl2 : q2 < 65536 := by omega
  have hd1 : (ttl : Int) / 65536 = (q1 : Int) := by omega
  have hd2 : (ttl : Int) % 65536 = (q2 : Int) := by omega
  have hd3 : (ttl : Int).tdiv 65536 = (q1 : Int) := by rw [Int.tdiv_eq_ediv_of_nonneg (by omega)]; exact hd1
  have hd4 : (ttl : Int).tmod 65536 = (q2 : Int) := by rw [Int.tmod_eq_emod_of_nonneg (by omega)]; exact hd2
  have hwa : IntKind.u32.wrap (q1 : Int) = q1 := by show (q1 : Int) % 4294967296 = q1; omega
  have hwb : IntKind.u32.wrap (q2 : Int) = q2 := by show (q2 : Int) % 4294967296 = q2; omega
  have hwc : IntKind.i64.wrap (q1 : Int) = q1 := IntWalk.i64_in _ (by omega)
  have hwd : IntKind.i64.wrap (q2 : Int) = q2 := IntWalk.i64_in _ (by omega)
  have HQ1 := Lib.hid hq1
  have HQ2 := Lib.hid hq2
  clear hq1 hq2
  have h4 := bytes4 a0 a1 a2 a3 HOK.out.a
  rw [h4]
  clear h4 cv
  have T1 := Lib.hid (fun W => HTW.out W typ HTY.out)
  have T2 := Lib.hid (fun W => HTW.out W q1 hl1)
  have T3 := Lib.hid (fun W => HTW.out W q2 hl2)
  obtain ⟨DS, hDS⟩ : ∃ DS : ByteArray, DS = ⟨D.toArray⟩ := ⟨_, rfl⟩
  have hds : DS.size = D.length := by rw [hDS]; simp [ByteArray.size]
  have hdz : DS.size ≤ 261 := by omega
  have hdB : ¬ 9223372036854775807 < 12 + DS.size := by omega
  have T4 := Lib.hid (fun W => HTW.out W DS.size (by omega))
  have HDSE := Lib.hid hDS
  have HDSL := Lib.hid hds
  clear hDS hds
  have hD2 := HD.out
  unfold rdataB at hD2
  dsimp only at hD2
  rcases HOK.out.typ with h1 | h33
  · dsimp only at h1
    rw [if_pos h1] at hD2
    have e1 : ((typ : Int) == 33) = false := by simp; omega
    have e2 : ((typ : Int) != 1) = false := by simp; omega
    have HDD := Lib.hid (show (⟨#[UInt8.ofNat a0, UInt8.ofNat a1, UInt8.ofNat a2, UInt8.ofNat a3]⟩ : ByteArray) = DS by rw [HDSE.out, hD2])
    rw [HDD.out]
    clear hD2 h1
    go_upto_region 8 with (fail)
    have HC8 := Lib.hid (show ∀ w', Only (fun _ => False) W2 w' → w'.cell? ⟨B, 0, none⟩ = some (.int .i64 typ) ∧ w'.cell? ⟨B, 1, none⟩ = some (.int .u32 ttl) from fun w' h => ⟨h.cell x0 id, h.cell x1 id⟩)
    have z2 : ∀ p : Nat, (twoB p).size = 2 := fun _ => rfl
    go_region_held3 (fun w' => Only (fun _ => False) W2 w' ∧ w'.cell? ⟨B, 0, none⟩ = some (.int .i64 typ) ∧ w'.cell? ⟨B, 1, none⟩ = some (.int .u32 ttl))
      ((refine heldO HC8.out ?_; (repeat (first | (with_reducible assumption) | (with_reducible exact Only.refl _ _) | (with_reducible refine Only.drew ?_) | (with_reducible refine Only.alloc ?_ _) | (with_reducible refine onlySet ?_ (by first | (with_reducible assumption) | omega) _) | (with_reducible refine Only.trans ?_ (by with_reducible assumption))))))
      (first
        | ((with_reducible refine (T1.out _).mono ?_); rintro e w6 ⟨rfl, ho6⟩)
        | ((with_reducible refine (T2.out _).mono ?_); rintro e w7 ⟨rfl, ho7⟩)
        | ((with_reducible refine (T3.out _).mono ?_); rintro e w8 ⟨rfl, ho8⟩)
        | ((with_reducible refine (T4.out _).mono ?_); rintro e w9 ⟨rfl, ho9⟩))
    all_goals
      go_wp2_with fail
      go_ret2
      rw [← HQ1.out, ← HQ2.out, ← HDSL.out, ← HDSE.out]
      exact ⟨rfl, HO2.out.trans (by (repeat (first | (with_reducible assumption) | (with_reducible exact Only.refl _ _) | (with_reducible refine Only.drew ?_) | (with_reducible refine Only.alloc ?_ _) | (with_reducible refine onlySet ?_ (by first | (with_reducible assumption) | omega) _) | (with_reducible refine Only.trans ?_ (by with_reducible assumption)))))⟩
  · dsimp only at h33
    rw [if_neg (by omega)] at hD2
    have e1 : ((typ : Int) == 33) = true := by simp; omega
    have hmay := fun W ho => rmay_any W (.slice va tgt.length vc) tgt (HT.out.new ho) (fun s hs => by have := HML.out.2 s hs; unfold maxLen; omega)
    rw [HOK.out.tgt] at hmay
    have hbl := fun W ho => bytes_any W (.slice va tgt.length vc) tgt (HT.out.new ho) HML.out.2 (by have := (mayGo_all tgt 0 HOK.out.tgt).2; omega)
    have hpr := HOK.out.pr
    have hwt := HOK.out.wt
    have hpo := HOK.out.po
    dsimp only at hpr hwt hpo
    have P1 := Lib.hid (fun W => HTW.out W pr hpr)
    have P2 := Lib.hid (fun W => HTW.out W wt hwt)
    have P3 := Lib.hid (fun W => HTW.out W po hpo)
    have hbs := (may_size HOK.out.tgt).1
    dsimp only at hbs
    have HDD := Lib.hid (show (twoB pr ++ twoB wt ++ twoB po ++ bytesL tgt ++ ⟨#[0]⟩ : ByteArray) = DS by
      rw [HDSE.out, hD2, twoB_be hpr, twoB_be hwt, twoB_be hpo]
      apply str_ext
      simp [ByteArray.data_append])
    have z2 : ∀ p : Nat, (twoB p).size = 2 := fun _ => rfl
    generalize bytesL tgt = BT at *
    have hdD : ¬ 9223372036854775807 < 6 + BT.size := by omega
    have hdF : ¬ 9223372036854775807 < 6 + BT.size + 1 := by omega
    have HMAY := Lib.hid hmay
    have HBL := Lib.hid hbl
    clear hmay hbl
    have hwe : IntKind.i64.wrap (pr : Int) = pr := IntWalk.i64_in _ (by omega)
    have hwf : IntKind.i64.wrap (wt : Int) = wt := IntWalk.i64_in _ (by omega)
    have hwg : IntKind.i64.wrap (po : Int) = po := IntWalk.i64_in _ (by omega)
    clear hD2 h33
    go_upto_region 5 with ((with_reducible refine (HMAY.out _ HO2.out).mono ?_); rintro e wm ⟨rfl, rfl⟩)
    have HCC := Lib.hid (show ∀ w', Only (fun _ => False) W2 w' → w'.cell? ⟨B, 6, none⟩ = some (.int .u16 pr) ∧ w'.cell? ⟨B, 7, none⟩ = some (.int .u16 wt) ∧ w'.cell? ⟨B, 8, none⟩ = some (.int .u16 po) ∧ w'.cell? ⟨B, 9, none⟩ = some (.slice va tgt.length vc) from fun w' h => ⟨h.cell x6 id, h.cell x7 id, h.cell x8 id, h.cell x9 id⟩)
    go_cut [4] (fun v wx => v = .string DS ∧ Only (fun _ => False) W2 wx)
    case first =>
      go_region_held3 (fun w' => Only (fun _ => False) W2 w' ∧ w'.cell? ⟨B, 6, none⟩ = some (.int .u16 pr) ∧ w'.cell? ⟨B, 7, none⟩ = some (.int .u16 wt) ∧ w'.cell? ⟨B, 8, none⟩ = some (.int .u16 po) ∧ w'.cell? ⟨B, 9, none⟩ = some (.slice va tgt.length vc))
        ((refine heldO HCC.out ?_; (repeat (first | (with_reducible assumption) | (with_reducible exact Only.refl _ _) | (with_reducible refine Only.drew ?_) | (with_reducible refine Only.alloc ?_ _) | (with_reducible refine onlySet ?_ (by first | (with_reducible assumption) | omega) _) | (with_reducible refine Only.trans ?_ (by with_reducible assumption))))))
        (first
          | ((with_reducible refine (P1.out _).mono ?_); rintro e w6 ⟨rfl, ho6⟩)
          | ((with_reducible refine (P2.out _).mono ?_); rintro e w7 ⟨rfl, ho7⟩)
          | ((with_reducible refine (P3.out _).mono ?_); rintro e w8 ⟨rfl, ho8⟩)
          | ((with_reducible refine (HBL.out _ (HO2.out.trans (by (repeat (first | (with_reducible assumption) | (with_reducible exact Only.refl _ _) | (with_reducible refine Only.drew ?_) | (with_reducible refine Only.alloc ?_ _) | (with_reducible refine onlySet ?_ (by first | (with_reducible assumption) | omega) _) | (with_reducible refine Only.trans ?_ (by with_reducible assumption))))))).mono ?_); rintro e w9 ⟨rfl, ho9⟩))
      all_goals
        go_wp2_with fail
        go_meet
        exact ⟨by rw [← HDD.out], by (repeat (first | (with_reducible assumption) | (with_reducible exact Only.refl _ _) | (with_reducible refine Only.drew ?_) | (with_reducible refine Only.alloc ?_ _) | (with_reducible refine onlySet ?_ (by first | (with_reducible assumption) | omega) _) | (with_reducible refine Only.trans ?_ (by with_reducible assumption))))⟩
    case rest =>
    rename World => W5
    obtain ⟨rfl, ho5⟩ := hcut
    have HO5 := Lib.hid (HO2.out.trans ho5)
    have hy0 := ho5.cell x0 id
    have hy1 := ho5.cell x1 id
    clear x0 x1 x2 x3 x4 x5 x6 x7 x8 x9 ho5 HO2
    go_upto_region 8 with (fail)
    have HC8 := Lib.hid (show ∀ w', Only (fun _ => False) W5 w' → w'.cell? ⟨B, 0, none⟩ = some (.int .i64 typ) ∧ w'.cell? ⟨B, 1, none⟩ = some (.int .u32 ttl) from fun w' h => ⟨h.cell hy0 id, h.cell hy1 id⟩)
    have z2 : ∀ p : Nat, (twoB p).size = 2 := fun _ => rfl
    go_region_held3 (fun w' => Only (fun _ => False) W5 w' ∧ w'.cell? ⟨B, 0, none⟩ = some (.int .i64 typ) ∧ w'.cell? ⟨B, 1, none⟩ = some (.int .u32 ttl))
      ((refine heldO HC8.out ?_; (repeat (first | (with_reducible assumption) | (with_reducible exact Only.refl _ _) | (with_reducible refine Only.drew ?_) | (with_reducible refine Only.alloc ?_ _) | (with_reducible refine onlySet ?_ (by first | (with_reducible assumption) | omega) _) | (with_reducible refine Only.trans ?_ (by with_reducible assumption))))))
      (first
        | ((with_reducible refine (T1.out _).mono ?_); rintro e w6 ⟨rfl, ho6⟩)
        | ((with_reducible refine (T2.out _).mono ?_); rintro e w7 ⟨rfl, ho7⟩)
        | ((with_reducible refine (T3.out _).mono ?_); rintro e w8 ⟨rfl, ho8⟩)
        | ((with_reducible refine (T4.out _).mono ?_); rintro e w9 ⟨rfl, ho9⟩))
    all_goals
      go_wp2_with fail
      go_ret2
      rw [← HQ1.out, ← HQ2.out, ← HDSL.out, ← HDSE.out]
      exact ⟨rfl, HO5.out.trans (by (repeat (first | (with_reducible assumption) | (with_reducible exact Only.refl _ _) | (with_reducible refine Only.drew ?_) | (with_reducible refine Only.alloc ?_ _) | (with_reducible refine onlySet ?_ (by first | (with_reducible assumption) | omega) _) | (with_reducible refine Only.trans ?_ (by with_reducible assumption)))))⟩
end Go.Proofs.YtbdfijgejkimnaaGreatDoor
/-! The reference's Build. -/
namespace Go.Proofs.YtbdfijgejkimnaaGreatDoor
open Go.Conc Go.RowKit

def q24C (q : QT) (nv : Value) : List Value := [.int .u16 q.id, .int .i64 q.op, .bool q.des, .bool q.asked, nv, .int .i64 q.typ, .int .i64 q.cls]
set_option maxRecDepth 100000 in
set_option maxHeartbeats 4000000 in
theorem rbuild24_any (w : World) (nv v : Value) (q : QT) (code : Nat) (E : List RRv) (ok : QTOk q) (hc : code ≤ 15)
    (hnv : Sl w 1 nv q.name.length (q.name.map .string)) (hv : Sl w 10 v E.length (E.flatMap rr24C)) (hE : RowsOk w E) (hl : E.length ≤ 1000) (hae : q.asked = true ∨ E = []) :
    Calls Tryz.prog 31 #[.agg (q24C q nv).toArray, .int .i64 code, v] w fun e w' => e = .returned (.tuple #[.string ⟨(repB q code (E.map (·.r))).toArray⟩, .int .i64 (fitN q (E.map (·.r))), .int .i64 0]) ∧ Only (fun _ => False) w w' := by
  obtain ⟨_, na, nc, hnv', _⟩ := id hnv
  subst hnv'
  obtain ⟨sa, cap, rfl, q1, q2, q3⟩ := Sl.cells rr24C_length hv
  unfold maxLen at q2
  have hal := askB_len ok
  have hasz := fun k => bodyB_len ok ((E.map (·.r)).take k)
  have hRB : repB q code (E.map (·.r)) = headB (repH q code (fitN q (E.map (·.r))) (decide (fitN q (E.map (·.r)) < E.length))) ++ (askB q ++ rrsB ((E.map (·.r)).take (fitN q (E.map (·.r))))) := by
    unfold repB bodyB
    rw [List.length_map]
  have c1 : decide ((code : Int) < 0) = false := by simp
  have c2 : decide ((15 : Int) < (code : Int)) = false := by simp; omega
  have c3 : decide ((15 : Int) < (q.op : Int)) = false := by have := ok.op; simp; omega
  unfold q24C
  have HOKQ := Lib.hid ok
  clear ok
  go_enter Tryz.func31, Tryz.ntmps31
  obtain ⟨W, hW⟩ : ∃ W, W = w.alloc (.cells #[.int .u16 q.id, .int .i64 q.op, .bool q.des, .bool q.asked, .slice na q.name.length nc, .int .i64 q.typ, .int .i64 q.cls] 93) := ⟨_, rfl⟩
  have hbW : W.heap[w.heap.size]? = some (.cells #[.int .u16 q.id, .int .i64 q.op, .bool q.des, .bool q.asked, .slice na q.name.length nc, .int .i64 q.typ, .int .i64 q.cls] 93 (0, 0)) := by rw [hW]; exact heap_alloc_new w _
  have hoW : Only (fun _ => False) w W := by rw [hW]; exact (Only.refl _ _).alloc _
  have hsW : W.heap.size = w.heap.size + 1 := by rw [hW]; simp
  have x0 : W.cell? ⟨w.heap.size, 0, none⟩ = some (.int .u16 q.id) := cell_at hbW 0
  have x1 : W.cell? ⟨w.heap.size, 1, none⟩ = some (.int .i64 q.op) := cell_at hbW 1
  have x2 : W.cell? ⟨w.heap.size, 2, none⟩ = some (.bool q.des) := cell_at hbW 2
  have x3 : W.cell? ⟨w.heap.size, 3, none⟩ = some (.bool q.asked) := cell_at hbW 3
  have x4 : W.cell? ⟨w.heap.size, 4, none⟩ = some (.slice na q.name.length nc) := cell_at hbW 4
  have x5 : W.cell? ⟨w.heap.size, 5, none⟩ = some (.int .i64 q.typ) := cell_at hbW 5
  have x6 : W.cell? ⟨w.heap.size, 6, none⟩ = some (.int .i64 q.cls) := cell_at hbW 6
  have HO := Lib.hid hoW
  have HBW := Lib.hid hbW
  have HSW := Lib.hid hsW
  have HAL := Lib.hid hal
  have HASZ := Lib.hid hasz
  have HC := Lib.hid q3
  have HE := Lib.hid hE
  have HV := Lib.hid hv
  have HNV := Lib.hid hnv
  have HRB := Lib.hid hRB
  clear hoW hbW hsW hal hasz q3 hE hv hnv hRB
  go_upto_region 1 with (fail)
  rw [← hW]
  clear hW
  go_upto_region 3 with (fail)
  clear c1 c2 c3
  obtain ⟨ask, hask⟩ : ∃ ask, ask = q.asked := ⟨_, rfl⟩
  rw [← hask] at x3
  have HASK := Lib.hid hask
  have HAS := Lib.hid hae
  clear hask hae
  go_cut [36] (fun v30 wx => v30 = .bool false ∧ W = wx)
  case first =>
    cases ask with
    | true =>
      go_wp2_with fail
      go_meet
      exact ⟨rfl, rfl⟩
    | false =>
      have he : E = [] := HAS.out.resolve_left (by rw [← HASK.out]; simp)
      have hl0 : decide ((0 : Int) < (E.length : Int)) = false := by rw [he]; rfl
      have hl1 : decide (0 < E.length) = false := by rw [he]; rfl
      clear he
      go_wp2_with fail
      go_meet
      exact ⟨rfl, rfl⟩
  case rest =>
  obtain ⟨rfl, rfl⟩ := hcut
  obtain ⟨AB, hAB⟩ : ∃ AB : ByteArray, AB = ⟨(askB q).toArray⟩ := ⟨_, rfl⟩
  have HAB := Lib.hid hAB
  clear hAB
  go_upto_if 38 with (fail)
  go_cut [9, 10] (fun v9 v10 wx => v9 = .string AB ∧ v10 = .int .i64 ask.toNat ∧ Only (fun _ => False) W wx)
  case first =>
    cases ask with
    | false =>
      have HAE := Lib.hid (show (⟨#[]⟩ : ByteArray) = AB by rw [HAB.out, askB, if_neg (by rw [← HASK.out]; simp)])
      go_wp2_with fail
      go_meet
      exact ⟨by rw [HAE.out], rfl, Only.refl _ _⟩
    | true =>
      have hm0 := HOKQ.out.name HASK.out.symm
      have hml := mayGo_all q.name 0 hm0
      have hmay := fun W ho => rmay_any W (.slice na q.name.length nc) q.name (HNV.out.new ho) (fun s hs => by have := (hml.1 s hs).2; unfold maxLen; omega)
      rw [hm0] at hmay
      have hbl := fun W ho => bytes_any W (.slice na q.name.length nc) q.name (HNV.out.new ho) (fun s hs => by have := (hml.1 s hs).2; omega) (by omega)
      have HAE := Lib.hid (show (bytesL q.name ++ ⟨#[0]⟩ ++ twoB q.typ ++ twoB q.cls : ByteArray) = AB by
        rw [HAB.out, askB, if_pos HASK.out.symm, twoB_be HOKQ.out.typ, twoB_be HOKQ.out.cls]
        apply str_ext
        simp [ByteArray.data_append])
      have P1 := Lib.hid (fun W => rtwo22_any W q.typ HOKQ.out.typ)
      have P2 := Lib.hid (fun W => rtwo22_any W q.cls HOKQ.out.cls)
      have hbs := (may_size hm0).1
      generalize bytesL q.name = BT at *
      have z2 : ∀ p : Nat, (twoB p).size = 2 := fun _ => rfl
      have hd1 : ¬ 9223372036854775807 < BT.size + 1 := by omega
      have hd2 : ¬ 9223372036854775807 < BT.size + 1 + 2 := by omega
      have hd3 : ¬ 9223372036854775807 < BT.size + 1 + 2 + 2 := by omega
      have HMAY := Lib.hid hmay
      have HBL := Lib.hid hbl
      clear hmay hbl
      clear hm0 hml
      go_upto_region 10 with ((with_reducible refine (HMAY.out _ HO.out).mono ?_); rintro e wm ⟨rfl, rfl⟩)
      have HCC := Lib.hid (show ∀ w', Only (fun _ => False) W w' → w'.cell? ⟨w.heap.size, 4, none⟩ = some (.slice na q.name.length nc) ∧ w'.cell? ⟨w.heap.size, 5, none⟩ = some (.int .i64 q.typ) ∧ w'.cell? ⟨w.heap.size, 6, none⟩ = some (.int .i64 q.cls) from fun w' h => ⟨h.cell x4 id, h.cell x5 id, h.cell x6 id⟩)
      go_region_held3 (fun w' => Only (fun _ => False) W w' ∧ w'.cell? ⟨w.heap.size, 4, none⟩ = some (.slice na q.name.length nc) ∧ w'.cell? ⟨w.heap.size, 5, none⟩ = some (.int .i64 q.typ) ∧ w'.cell? ⟨w.heap.size, 6, none⟩ = some (.int .i64 q.cls))
        ((refine heldO HCC.out ?_; (repeat (first | (with_reducible assumption) | (with_reducible exact Only.refl _ _) | (with_reducible refine Only.drew ?_) | (with_reducible refine Only.alloc ?_ _) | (with_reducible refine onlySet ?_ (by first | (with_reducible assumption) | omega) _) | (with_reducible refine Only.trans ?_ (by with_reducible assumption))))))
        (first
          | ((with_reducible refine (HBL.out _ (HO.out.trans (by (repeat (first | (with_reducible assumption) | (with_reducible exact Only.refl _ _) | (with_reducible refine Only.drew ?_) | (with_reducible refine Only.alloc ?_ _) | (with_reducible refine onlySet ?_ (by first | (with_reducible assumption) | omega) _) | (with_reducible refine Only.trans ?_ (by with_reducible assumption))))))).mono ?_); rintro e w6 ⟨rfl, ho6⟩)
          | ((with_reducible refine (P1.out _).mono ?_); rintro e w7 ⟨rfl, ho7⟩)
          | ((with_reducible refine (P2.out _).mono ?_); rintro e w8 ⟨rfl, ho8⟩))
      all_goals
        go_wp2_with fail
        go_meet
        exact ⟨by rw [← HAE.out], rfl, by (repeat (first | (with_reducible assumption) | (with_reducible exact Only.refl _ _) | (with_reducible refine Only.drew ?_) | (with_reducible refine Only.alloc ?_ _) | (with_reducible refine onlySet ?_ (by first | (with_reducible assumption) | omega) _) | (with_reducible refine Only.trans ?_ (by with_reducible assumption))))⟩
  case rest =>
  rename World => w4
  obtain ⟨rfl, rfl, ho4⟩ := hcut
  have HB4 := Lib.hid (ho4.old HBW.out id)
  have HO4 := Lib.hid (HO.out.trans ho4)
  have hABz : AB.size = (askB q).length := by rw [HAB.out]; simp [ByteArray.size]
  have hABs : AB.size ≤ 259 := by have := HAL.out; omega
  obtain ⟨L, hL⟩ : ∃ L, L = E.map (·.r) := ⟨_, rfl⟩
  have hLl : L.length = E.length := by rw [hL, List.length_map]
  have hst : AB = ⟨(bodyB q (L.take 0)).toArray⟩ := by rw [HAB.out]; simp [bodyB, fitN, fits, rrsB]
  have hst2 : AB.size = (bodyB q (L.take 0)).length := by rw [hABz]; simp [bodyB, fitN, fits, rrsB]
  have HL := Lib.hid hL
  have HLL := Lib.hid hLl
  have HST := Lib.hid hst
  have HST2 := Lib.hid hst2
  clear hL hLl hst hst2
  clear x0 x1 x2 x3 x4 x5 x6 ho4 hABz
  go_wp2_with fail
  go_loopg [9, 11, 12, 13, 14] E.length (fun g v9 v11 v12 v13 v14 wx => ∃ (k : Nat) (BS : ByteArray), v14 = .int .i64 k ∧ k ≤ E.length ∧ v9 = .string BS ∧ BS = ⟨(bodyB q (L.take k)).toArray⟩ ∧ v11 = .int .i64 (12 + (BS.size : Int)) ∧ v12 = .int .i64 (fitN q (L.take k)) ∧ v13 = .bool (decide (fitN q (L.take k) < k)) ∧ Only (fun _ => False) w4 wx ∧ g = E.length - k)
  case atStart => exact ⟨0, AB, rfl, Nat.zero_le _, rfl, HST.out, by go_num, rfl, rfl, Only.refl _ _, rfl⟩
  case round =>
    obtain ⟨k, BS, rfl, hk, rfl, hBS, rfl, rfl, rfl, ho, hg⟩ := hrel
    have hBz : BS.size = (bodyB q (L.take k)).length := by rw [hBS]; simp [ByteArray.size]
    have hbl := HASZ.out k
    rw [← HL.out] at hbl
    have hbz : BS.size ≤ 500 := by omega
    have Hg := Lib.hid hg
    have HOR := Lib.hid ho
    clear hg ho
    by_cases hlt : k < E.length
    · -- round
      have hlt' : (k : Int) < (E.length : Int) := by omega
      obtain ⟨lb, off, rfl, hcl⟩ := HC.out.at k hlt
      have hlt2 : k < L.length := by have := HLL.out; omega
      have hLk : L[k] = E[k].r := by have := HL.out; subst this; simp
      obtain ⟨hok, hsl⟩ := HE.out _ (List.getElem_mem hlt)
      have hcr : ∀ i u, (rr24C E[k])[i]? = some u → wr.cell? ⟨lb, off + k * 10 + i, none⟩ = some u := fun i u hu => (HO4.out.trans HOR.out).cell (hcl i u hu) id
      have hb1 := @body_cut q L k hlt2
      have hb2 := @body_full q L k hlt2
      have hb3 := @body_more q L k hlt2
      have hmx := rrB_max hok
      rw [hLk] at hb2 hb3
      generalize E[k] = x at *
      have hRBY := fun (W' : World) (h' : Only (fun _ => False) w W') => rbytes24_any W' x hok (hsl.new h')
      obtain ⟨_, tva, tvc, htv, _⟩ := id hsl
      obtain ⟨rx, xv⟩ := x
      dsimp only at htv hmx hb2 hb3 hok
      subst htv
      dsimp only at hRBY
      generalize rrB rx = SB at *
      obtain ⟨typ, ttl, ⟨a0, a1, a2, a3⟩, pr, wt, po, tgt⟩ := rx
      unfold rr24C at hcr hRBY
      dsimp only at hcr hRBY
      have y0 := hcr 0 _ rfl
      have y1 := hcr 1 _ rfl
      have y2 := hcr 2 _ rfl
      have y3 := hcr 3 _ rfl
      have y4 := hcr 4 _ rfl
      have y5 := hcr 5 _ rfl
      have y6 := hcr 6 _ rfl
      have y7 := hcr 7 _ rfl
      have y8 := hcr 8 _ rfl
      have y9 := hcr 9 _ rfl
      simp only [Nat.add_zero] at y0
      generalize bodyB q (L.take k) = BB at *
      have HN := Lib.hid (fitN_le q L k)
      generalize fitN q (L.take k) = n at *
      obtain ⟨SS, hSS⟩ : ∃ SS : ByteArray, SS = ⟨SB.toArray⟩ := ⟨_, rfl⟩
      rw [← hSS] at hRBY
      have hSz : SS.size = SB.length := by rw [hSS]; simp [ByteArray.size]
      have happ : (BS ++ SS : ByteArray) = ⟨(BB ++ SB).toArray⟩ := by rw [hBS, hSS]; apply str_ext; simp [ByteArray.data_append]
      have hS1 : SS.size ≤ 300 := by omega
      have hn1 : n ≤ 100000 := by have := HN.out; omega
      have HB1 := Lib.hid hb1
      have HB2 := Lib.hid hb2
      have HB3 := Lib.hid hb3
      have HRBY := Lib.hid hRBY
      have HBL := Lib.hid hbl
      have HMX := Lib.hid hmx
      have HLK := Lib.hid hLk
      have HBS := Lib.hid hBz
      have HSS := Lib.hid hSz
      have HAPP := Lib.hid happ
      have HBE := Lib.hid hBS
      have HSE := Lib.hid hSS
      clear hb1 hb2 hb3 hRBY hbl hmx hLk hBz hSz happ hBS hSS
      clear hcl hcr
      go_wp2_with fail
      refine (HRBY.out _ (HO4.out.trans HOR.out)).mono ?_
      rintro e w9 ⟨rfl, ho9⟩
      have HO9 := Lib.hid (HOR.out.trans ho9)
      clear ho9 y0 y1 y2 y3 y4 y5 y6 y7 y8 y9
      by_cases hcut : n < k
      · rw [decide_eq_true hcut]
        have HX := Lib.hid (HB1.out hcut)
        have HCU := Lib.hid (show decide (n < k + 1) = true by simp; omega)
        clear hcut
        go_wp2_with fail
        go_roundg (E.length - (k + 1))
        case measure => rw [Hg.out]; omega
        case rel => exact ⟨k + 1, BS, by go_num, by omega, rfl, by rw [HX.out.2, HBE.out], rfl, by rw [HX.out.1], by rw [HX.out.1, HCU.out], HO9.out, rfl⟩
      · rw [decide_eq_false hcut]
        by_cases hbig : 512 < 12 + BB.length + SB.length
        · have HX := Lib.hid (HB2.out hcut hbig)
          have HCU := Lib.hid (show decide (n < k + 1) = true by have := HN.out; simp; omega)
          have c5 : decide ((512 : Int) < 12 + (BS.size : Int) + (SS.size : Int)) = true := by have h1 := HBS.out; have h2 := HSS.out; simp; omega
          clear hcut hbig
          go_wp2_with fail
          go_roundg (E.length - (k + 1))
          case measure => rw [Hg.out]; omega
          case rel => exact ⟨k + 1, BS, by go_num, by omega, rfl, by rw [HX.out.2, HBE.out], rfl, by rw [HX.out.1], by rw [HX.out.1, HCU.out], HO9.out, rfl⟩
        · have HX := Lib.hid (HB3.out hcut hbig)
          have HCU := Lib.hid (show decide (n + 1 < k + 1) = false by simp; omega)
          have c5 : decide ((512 : Int) < 12 + (BS.size : Int) + (SS.size : Int)) = false := by have h1 := HBS.out; have h2 := HSS.out; simp; omega
          have hd1 : ¬ 9223372036854775807 < BS.size + SS.size := by omega
          clear hcut hbig
          go_wp2_with fail
          go_roundg (E.length - (k + 1))
          case measure => rw [Hg.out]; omega
          case rel => exact ⟨k + 1, BS ++ SS, by go_num, by omega, rfl, by rw [HX.out.2, HAPP.out], by rw [ByteArray.size_append]; go_num, by rw [HX.out.1]; go_num, by rw [HX.out.1, HCU.out], HO9.out, rfl⟩
    · -- end
      have hke : k = E.length := by omega
      have hlt' : ¬ (k : Int) < (E.length : Int) := by omega
      have hTK : L.take k = L := List.take_of_length_le (by have := HLL.out; omega)
      rw [hTK] at hBS hBz
      rw [hTK]
      have hnl : fitN q L ≤ k := by have := fitN_le q L k; rwa [hTK] at this
      have hrb := HRB.out
      rw [← HL.out, ← hke] at hrb
      have hbd : askB q ++ rrsB (L.take (fitN q L)) = bodyB q L := rfl
      rw [hbd] at hrb
      have HFE := Lib.hid HL.out
      generalize bodyB q L = BB at *
      obtain ⟨n, hn⟩ : ∃ n, n = fitN q L := ⟨_, rfl⟩
      rw [← hn] at hrb hnl ⊢
      obtain ⟨CB, hCB⟩ : ∃ CB, CB = decide (n < k) := ⟨_, rfl⟩
      rw [← hCB] at hrb ⊢
      have hn6 : n < 65536 := by omega
      have hrk := repH_ok HOKQ.out hc hn6 CB
      obtain ⟨FL, hFL⟩ : ∃ FL, FL = flagN (repH q code n CB) := ⟨_, rfl⟩
      have hFl : FL < 65536 := by rw [hFL]; exact flagN_lt _ hrk.op hrk.zero hrk.code
      have hfg := fun W : World => rflags_any W (repH q code n CB) hrk.op hrk.zero hrk.code
      rw [← hFL] at hfg
      unfold repH at hfg
      dsimp only at hfg
      rw [show ((0 : Nat) : Int) = 0 from rfl] at hfg
      have HRBE := Lib.hid (show (⟨(repB q code (E.map (·.r))).toArray⟩ : ByteArray) = twoB q.id ++ twoB FL ++ twoB q.asked.toNat ++ twoB n ++ ⟨#[0, 0, 0, 0]⟩ ++ BS by
        rw [← HL.out, hrb, hBS, hFL, twoB_be HOKQ.out.id, twoB_be (show flagN (repH q code n CB) < 65536 by rw [← hFL]; exact hFl), twoB_be (show q.asked.toNat < 65536 by have := Bool.toNat_le q.asked; omega), twoB_be hn6]
        apply str_ext
        rw [show (⟨#[0, 0, 0, 0]⟩ : ByteArray) = ⟨(beL 0 2 ++ beL 0 2).toArray⟩ from rfl]
        simp only [bytes_app]
        unfold headB
        simp [repH])
      have hd1 : ¬ 9223372036854775807 < 12 + BS.size := by omega
      have z2 : ∀ p : Nat, (twoB p).size = 2 := fun _ => rfl
      have P1 := Lib.hid (fun W => rtwo22_any W q.id HOKQ.out.id)
      have P2 := Lib.hid (fun W => rtwo22_any W FL hFl)
      have P3 := Lib.hid (fun W => rtwo22_any W ask.toNat (by have := Bool.toNat_le ask; omega))
      have P4 := Lib.hid (fun W => rtwo22_any W n hn6)
      have hb := HOR.out.old HB4.out id
      have x0 : wr.cell? ⟨w.heap.size, 0, none⟩ = some (.int .u16 q.id) := cell_at hb 0
      have x1 : wr.cell? ⟨w.heap.size, 1, none⟩ = some (.int .i64 q.op) := cell_at hb 1
      have x2 : wr.cell? ⟨w.heap.size, 2, none⟩ = some (.bool q.des) := cell_at hb 2
      have hid2 := HOKQ.out.id
      have hwi : IntKind.i64.wrap (q.id : Int) = q.id := IntWalk.i64_in _ (by omega)
      have HFG := Lib.hid hfg
      have HFLE := Lib.hid hFL
      have HNE := Lib.hid hn
      clear hfg hFL hn
      clear hb hBS hBz hbl hrk hTK hnl hrb hbd hCB hlt hid2 hke
      go_upto_region 22 with (fail)
      go_cut [17] (fun v wx => v = .int .i64 FL ∧ wr = wx)
      case first =>
        by_cases h0 : code = 0
        · have e0 : ((code : Int) == 0) = true := by simp; exact h0
          have hfg := HFG.out wr
          rw [decide_eq_true (show code = 0 ∨ code = 3 from .inl h0)] at hfg
          have HFG2 := Lib.hid hfg
          clear hfg
          clear h0
          go_wp2_with ((with_reducible refine HFG2.out.mono ?_); rintro e wf ⟨rfl, rfl⟩)
          go_meet
          exact ⟨rfl, rfl⟩
        · have e0 : ((code : Int) == 0) = false := by simp; exact h0
          by_cases h3 : code = 3
          · have e3 : ((code : Int) == 3) = true := by simp; omega
            have hfg := HFG.out wr
            rw [decide_eq_true (show code = 0 ∨ code = 3 from .inr h3)] at hfg
            have HFG2 := Lib.hid hfg
            clear hfg
            clear h0 h3
            go_wp2_with ((with_reducible refine HFG2.out.mono ?_); rintro e wf ⟨rfl, rfl⟩)
            go_meet
            exact ⟨rfl, rfl⟩
          · have e3 : ((code : Int) == 3) = false := by simp; omega
            have hfg := HFG.out wr
            rw [decide_eq_false (show ¬ (code = 0 ∨ code = 3) from fun e => e.elim h0 h3)] at hfg
            have HFG2 := Lib.hid hfg
            clear hfg
            clear h0 h3
            go_wp2_with ((with_reducible refine HFG2.out.mono ?_); rintro e wf ⟨rfl, rfl⟩)
            go_meet
            exact ⟨rfl, rfl⟩
      case rest =>
      obtain ⟨rfl, rfl⟩ := hcut
      clear x1 x2
      go_wp2_with (first
        | ((with_reducible refine (P1.out _).mono ?_); rintro e w6 ⟨rfl, ho6⟩)
        | ((with_reducible refine (P2.out _).mono ?_); rintro e w7 ⟨rfl, ho7⟩)
        | ((with_reducible refine (P3.out _).mono ?_); rintro e w8 ⟨rfl, ho8⟩)
        | ((with_reducible refine (P4.out _).mono ?_); rintro e w9 ⟨rfl, ho9⟩))
      go_ret3
      rw [HRBE.out, ← HL.out, ← HNE.out, ← HASK.out]
      exact ⟨rfl, HO4.out.trans (HOR.out.trans (by (repeat (first | (with_reducible assumption) | (with_reducible exact Only.refl _ _) | (with_reducible refine Only.drew ?_) | (with_reducible refine Only.alloc ?_ _) | (with_reducible refine onlySet ?_ (by first | (with_reducible assumption) | omega) _) | (with_reducible refine Only.trans ?_ (by with_reducible assumption))))))⟩
end Go.Proofs.YtbdfijgejkimnaaGreatDoor
/-! x & mask, plainly. -/
namespace Go.Proofs.YtbdfijgejkimnaaGreatDoor
open Go.Conc Go.RowKit

theorem and_i64 (a : Int) (m : Nat) (hm : m < 60) : bits .and .i64 a ((2 ^ m - 1 : Nat) : Int) = a % (2 ^ m : Nat) := by
  show IntKind.i64.wrap ((BitVec.ofInt 64 a &&& BitVec.ofInt 64 ((2 ^ m - 1 : Nat) : Int)).toNat : Int) = _
  have hp : 2 ^ m ≤ 2 ^ 60 := Nat.pow_le_pow_right (by omega) (by omega)
  have hp0 : 0 < 2 ^ m := Nat.two_pow_pos m
  rw [BitVec.toNat_and, BitVec.ofInt_natCast, BitVec.toNat_ofNat, Nat.mod_eq_of_lt (show 2 ^ m - 1 < 2 ^ 64 by omega), Nat.and_two_pow_sub_one_eq_mod, BitVec.toNat_ofInt]
  have h1 : ((a % ((2 ^ 64 : Nat) : Int)).toNat % 2 ^ m : Nat) < 2 ^ 60 := Nat.lt_of_lt_of_le (Nat.mod_lt _ hp0) hp
  have h2 : (((a % ((2 ^ 64 : Nat) : Int)).toNat % 2 ^ m : Nat) : Int) = a % (2 ^ m : Nat) := by
    rw [Int.natCast_emod, Int.toNat_of_nonneg (Int.emod_nonneg _ (by omega))]
    exact Int.emod_emod_of_dvd a (Int.natCast_dvd_natCast.2 (Nat.pow_dvd_pow 2 (by omega)))
  rw [← h2, IntKind.wrap_i64]
  omega
theorem and_u8 (a : Nat) (ha : a < 256) (m : Nat) (hm : m < 8) : bits .and .u8 (a : Int) ((2 ^ m - 1 : Nat) : Int) = ((a % 2 ^ m : Nat) : Int) := by
  show IntKind.u8.wrap ((BitVec.ofInt 8 (a : Int) &&& BitVec.ofInt 8 ((2 ^ m - 1 : Nat) : Int)).toNat : Int) = _
  have hp : 2 ^ m ≤ 2 ^ 7 := Nat.pow_le_pow_right (by omega) (by omega)
  have hp0 : 0 < 2 ^ m := Nat.two_pow_pos m
  rw [BitVec.toNat_and, BitVec.ofInt_natCast, BitVec.ofInt_natCast, BitVec.toNat_ofNat, BitVec.toNat_ofNat, Nat.mod_eq_of_lt (show a < 2 ^ 8 by omega), Nat.mod_eq_of_lt (show 2 ^ m - 1 < 2 ^ 8 by omega), Nat.and_two_pow_sub_one_eq_mod]
  have h1 : a % 2 ^ m < 2 ^ 7 := Nat.lt_of_lt_of_le (Nat.mod_lt _ hp0) hp
  rw [show IntKind.u8.wrap ((a % 2 ^ m : Nat) : Int) = ((a % 2 ^ m : Nat) : Int) % 256 from rfl]
  omega
theorem and3_i64 (a : Int) : bits .and .i64 a 3 = a % 4 := and_i64 a 2 (by omega)
theorem and1_u8 (a : Nat) (ha : a < 256) : bits .and .u8 (a : Int) 1 = ((a % 2 : Nat) : Int) := and_u8 a ha 1 (by omega)
theorem and3_u8 (a : Nat) (ha : a < 256) : bits .and .u8 (a : Int) 3 = ((a % 4 : Nat) : Int) := and_u8 a ha 2 (by omega)
end Go.Proofs.YtbdfijgejkimnaaGreatDoor
/-! The reference's Respond. -/
namespace Go.Proofs.YtbdfijgejkimnaaGreatDoor
open Go.Conc Go.RowKit Go.Lib

set_option maxRecDepth 100000 in
theorem rparse_short (w : World) (m : ByteArray) (hm : m.size < 12) :
    Calls Tryz.prog 29 #[.string m] w fun e w' => e = .returned (.tuple #[.agg (q23C false (.slice none 0 0) 0 0).toArray, .int .i64 0, .int .i64 2]) ∧ Only (fun _ => False) w w' := by
  have q0 : decide ((m.size : Int) < 12) = true := by simp; omega
  have q0' : decide (m.size < 12) = true := by simp; omega
  go_enter Tryz.func29, Tryz.ntmps29
  obtain ⟨W, hW⟩ : ∃ W, W = w.alloc (.cells #[.bool false, .slice none 0 0, .int .i64 0, .int .i64 0] 88) := ⟨_, rfl⟩
  have hbW : W.heap[w.heap.size]? = some (.cells #[.bool false, .slice none 0 0, .int .i64 0, .int .i64 0] 88 (0, 0)) := by rw [hW]; exact heap_alloc_new w _
  have hoW : Only (fun _ => False) w W := by rw [hW]; exact (Only.refl _ _).alloc _
  have hsW : W.heap.size = w.heap.size + 1 := by rw [hW]; simp
  have hbq : W.heap[w.heap.size]? = some (.cells (q23C false (.slice none 0 0) 0 0).toArray 88 (0, 0)) := hbW
  have hlt := lt_of_block hbW
  have HO := Lib.hid hoW
  have HB := Lib.hid hbq
  clear hoW hbq
  clear hbW hsW hm
  go_upto_region 1 with (fail)
  rw [← hW]
  clear hW
  go_upto_region 2 with (fail)
  go_wp2_with ((with_reducible refine wpList_store_row (o := ⟨none, .store 88 (.tmp 2) (.tmp 12), _, _, _, none⟩) rfl _ _ _ rfl (w.heap.size) ((q23C false (.slice none 0 0) 0 0).toArray) ?_ ?_ 88 _ HB.out (infoQ23 _ _ _ _) ?_ (q23_one _ _ _ _ rfl) ?_); (· rfl); (· rfl); (· rfl))
  have hb9 := row_set HB.out (q23C false (.slice none 0 0) 0 0).toArray
  refine bodyPost_ret (results_row2 rfl _ _ w.heap.size 88 _ (0, 0) _ rfl hb9 Tryz.underlying88 rfl (infoQ23 _ _ _ _) _ _ rfl rfl) rfl ?_
  exact ⟨rfl, HO.out.setRow (.inl (Nat.le_refl _)) _⟩
set_option maxRecDepth 100000 in
theorem rparse_resp (w : World) (m : ByteArray) (hm : 12 ≤ m.size) (hr : (headD m).resp = true) :
    Calls Tryz.prog 29 #[.string m] w fun e w' => e = .returned (.tuple #[.agg (q23C false (.slice none 0 0) 0 0).toArray, .int .i64 0, .int .i64 8]) ∧ Only (fun _ => False) w w' := by
  obtain ⟨k1, k2⟩ := head_bytes m
  rw [k1] at hr
  have hb : ((m[2]'(by omega)).toNat : Int) = (bA m 2 : Int) := congrArg _ (bA_get m 2 (by omega))
  have h2 := bA_lt m 2
  have q1 : decide ((128 : Int) ≤ (bA m 2 : Int)) = true := by simp at hr ⊢; omega
  have q0 : decide ((m.size : Int) < 12) = false := by simp; omega
  have q0' : decide (m.size < 12) = false := by simp; omega
  have hlt2 : 2 < m.size := by omega
  clear k1 k2 hr
  generalize bA m 2 = y at *
  go_enter Tryz.func29, Tryz.ntmps29
  obtain ⟨W, hW⟩ : ∃ W, W = w.alloc (.cells #[.bool false, .slice none 0 0, .int .i64 0, .int .i64 0] 88) := ⟨_, rfl⟩
  have hbW : W.heap[w.heap.size]? = some (.cells #[.bool false, .slice none 0 0, .int .i64 0, .int .i64 0] 88 (0, 0)) := by rw [hW]; exact heap_alloc_new w _
  have hoW : Only (fun _ => False) w W := by rw [hW]; exact (Only.refl _ _).alloc _
  have hsW : W.heap.size = w.heap.size + 1 := by rw [hW]; simp
  have hbq : W.heap[w.heap.size]? = some (.cells (q23C false (.slice none 0 0) 0 0).toArray 88 (0, 0)) := hbW
  have hlt := lt_of_block hbW
  have HO := Lib.hid hoW
  have HB := Lib.hid hbq
  clear hoW hbq
  clear hbW hsW
  go_upto_region 3 with (fail)
  rw [← hW]
  clear hW
  go_upto_region 4 with (fail)
  go_wp2_with ((with_reducible refine wpList_store_row (o := ⟨none, .store 88 (.tmp 2) (.tmp 16), _, _, _, none⟩) rfl _ _ _ rfl (w.heap.size) ((q23C false (.slice none 0 0) 0 0).toArray) ?_ ?_ 88 _ HB.out (infoQ23 _ _ _ _) ?_ (q23_one _ _ _ _ rfl) ?_); (· rfl); (· rfl); (· rfl))
  have hb9 := row_set HB.out (q23C false (.slice none 0 0) 0 0).toArray
  refine bodyPost_ret (results_row2 rfl _ _ w.heap.size 88 _ (0, 0) _ rfl hb9 Tryz.underlying88 rfl (infoQ23 _ _ _ _) _ _ rfl rfl) rfl ?_
  exact ⟨rfl, HO.out.setRow (.inl (Nat.le_refl _)) _⟩
theorem rparse_any (w : World) (m : ByteArray) (hm : 12 ≤ m.size) (hm2 : m.size ≤ 100000) (hr : (headD m).resp = false) :
    Calls Tryz.prog 29 #[.string m] w fun e w' => QPost23 w w' (qM m) e := by
  by_cases ho : (headD m).op = 0
  · exact rparse_rest w m hm hm2 hr ho
  · refine (rparse_op w m hm hm2 hr ho).mono ?_
    rintro e w' ⟨rfl, h⟩
    have hq : qM m = (⟨(headD m).id, (headD m).op, (headD m).des, false, [], 0, 0⟩, 4) := by unfold qM; rw [if_pos ho]
    rw [hq]
    exact ⟨_, rfl, h, Sl.nil _ _⟩
set_option maxRecDepth 100000 in
set_option maxHeartbeats 2000000 in
theorem rrespond_none (w : World) (most ttl r : Int) (v : Value) (m : ByteArray) (hm : m.size < 12 ∨ (headD m).resp = true) :
    Calls Tryz.prog 11 #[rstV most ttl v r, .string m] w fun e w' => e = .returned (.tuple #[.string ⟨#[]⟩, .bool false]) ∧ Only (fun _ => False) w w' := by
  have hd : ∃ E : Int, E ≠ 0 ∧ ∀ w : World, Calls Tryz.prog 29 #[.string m] w fun e w' => e = .returned (.tuple #[.agg (q23C false (.slice none 0 0) 0 0).toArray, .int .i64 0, .int .i64 E]) ∧ Only (fun _ => False) w w' := by
    by_cases h : m.size < 12
    · exact ⟨2, by decide, fun w => rparse_short w m h⟩
    · exact ⟨8, by decide, fun w => rparse_resp w m (by omega) (hm.resolve_left h)⟩
  obtain ⟨E, hE, hd⟩ := hd
  have e0 : ((E : Int) != 0) = true := by simp; exact hE
  unfold q23C at hd
  unfold rstV
  have HD := Lib.hid hd
  clear hd
  clear hm hE
  go_enter Tryz.func11, Tryz.ntmps11
  obtain ⟨W, hW⟩ : ∃ W, W = w.alloc (.cells #[.int .i64 most, .int .i64 ttl, v, .int .i64 r] 27) := ⟨_, rfl⟩
  have hbW : W.heap[w.heap.size]? = some (.cells #[.int .i64 most, .int .i64 ttl, v, .int .i64 r] 27 (0, 0)) := by rw [hW]; exact heap_alloc_new w _
  have hoW : Only (fun _ => False) w W := by rw [hW]; exact (Only.refl _ _).alloc _
  have hsW : W.heap.size = w.heap.size + 1 := by rw [hW]; simp
  go_upto_region 1 with (fail)
  rw [← hW]
  clear hW
  go_wp2_with fail
  refine (HD.out _).mono ?_
  rintro e w1 ⟨rfl, ho1⟩
  have HO1 := Lib.hid (hoW.trans ho1)
  clear ho1 hoW
  go_wp2_with fail
  go_ret2
  exact ⟨rfl, HO1.out.alloc _⟩
theorem fin_facts {ttl : Int} {L : List RecT} (q : QT) (code : Nat) (hc : code ≤ 15) (hask : code = 0 → q.asked = true) (ht : ttl ≤ 65535) (hl : L.length ≤ 48) (hL : ∀ x ∈ L, x.gone = false → TellOk ttl x) (hn : ∀ x ∈ L, 1 ≤ x.o ∧ x.o ≤ 65535) :
    (∀ r ∈ (finL ttl L (q, code)).1, RROk r) ∧ (finL ttl L (q, code)).1.length ≤ 1000 ∧ (finL ttl L (q, code)).2 ≤ 15 ∧ (q.asked = true ∨ (finL ttl L (q, code)).1 = []) := by
  unfold finL
  dsimp only
  by_cases h : code = 0
  · rw [if_pos h]
    refine ⟨look_ok ht hL hn, ?_, ?_, .inl (hask h)⟩
    · have := look_len ttl L (q.name.map foldS) q.typ
      dsimp only
      omega
    · dsimp only
      split <;> omega
  · rw [if_neg h]
    refine ⟨fun r hr => ?_, Nat.zero_le _, hc, .inr rfl⟩
    cases hr
/-- What is looked up, behind the code's test. -/
def LkC (w wx : World) (v : Value) (M : List RR) : Prop := ∃ a n c E, v = .slice a n c ∧ Only (fun _ => False) w wx ∧ RpRow24 wx w.heap.size v E ∧ E.map (·.r) = M
set_option maxRecDepth 100000 in
set_option maxHeartbeats 4000000 in
theorem rrespond_any (w : World) (most ttl r : Int) (v : Value) (L : List RecT) (m : ByteArray) (hL : RSl w v L) (hl : L.length ≤ 48) (ht : ttl ≤ 65535) (hte : ∀ x ∈ L, x.gone = false → TellOk ttl x) (hgo : ∀ x ∈ L, goodR x = true)
    (hm : 12 ≤ m.size) (hm2 : m.size ≤ 100000) (hr : (headD m).resp = false) :
    Calls Tryz.prog 11 #[rstV most ttl v r, .string m] w fun e w' => e = .returned (.tuple #[.string ⟨(respB ttl L m).toArray⟩, .bool true]) ∧ Only (fun _ => False) w w' := by
  have hd := fun W => rparse_any W m hm hm2 hr
  obtain ⟨ok, hcode⟩ := qM_ok m
  have hask := @qM_asked m
  have hqid : (qM m).1.id = gA m 0 ∧ (qM m).1.op = bA m 2 / 8 % 16 ∧ (qM m).1.des = decide (bA m 2 % 2 = 1) := by
    have e : (headD m).id = gA m 0 ∧ (headD m).op = bA m 2 / 8 % 16 ∧ (headD m).des = decide (bA m 2 % 2 = 1) := by
      refine ⟨rfl, (head_bytes m).2, ?_⟩
      have h3 := bA_lt m 3
      show decide (gA m 2 / 256 % 2 = 1) = _
      have : gA m 2 / 256 % 2 = bA m 2 % 2 := by show (bA m 2 * 256 + bA m 3) / 256 % 2 = _; omega
      rw [this]
    unfold qM
    split
    · exact e
    · split <;> exact e
  have hb : ((m[2]'(by omega)).toNat : Int) = (bA m 2 : Int) := congrArg _ (bA_get m 2 (by omega))
  have hy := bA_lt m 2
  have hand := and1_u8 (bA m 2) hy
  have hgt := fun W => rget_any W m 0 (by omega) (by omega)
  rw [show ((0 : Nat) : Int) = 0 from rfl] at hgt
  unfold respB
  generalize qM m = rq at *
  obtain ⟨q, code⟩ := rq
  dsimp only at ok hcode hask hqid
  obtain ⟨hqi, hqo, hqd⟩ := hqid
  rw [← hqi] at hgt
  obtain ⟨d8, hd8⟩ : ∃ d8, d8 = bA m 2 / 8 := ⟨_, rfl⟩
  have ht1 : (bA m 2 : Int).tdiv 8 = (d8 : Int) := by rw [Int.tdiv_eq_ediv_of_nonneg (by omega)]; omega
  have ht2 : (d8 : Int).tmod 16 = (q.op : Int) := by rw [Int.tmod_eq_emod_of_nonneg (by omega), hqo]; omega
  have hwy : IntKind.i64.wrap (bA m 2 : Int) = bA m 2 := IntWalk.i64_in _ (by omega)
  have hw8 : IntKind.i64.wrap (d8 : Int) = d8 := IntWalk.i64_in _ (by omega)
  have hi2 : (2 : Int) < (m.size : Int) := by omega
  obtain ⟨p2, hp2⟩ : ∃ p2, p2 = bA m 2 % 2 := ⟨_, rfl⟩
  rw [← hp2] at hand hqd
  have e1 : ((p2 : Int) == 1) = q.des := by rw [hqd, Bool.eq_iff_iff]; simp; omega
  generalize bA m 2 = y at *
  unfold QPost23 at hd
  dsimp only at hd
  obtain ⟨RES, hRES⟩ : ∃ RES, RES = finL ttl L (q, code) := ⟨_, rfl⟩
  rw [← hRES]
  unfold finL at hRES
  dsimp only at hRES
  have hiw : IntKind.u16.wrap (q.id : Int) = q.id := by have := ok.id; show (q.id : Int) % 65536 = q.id; omega
  obtain ⟨_, sa, sc, hsv, _⟩ := id hL
  subst hsv
  have hlt2 : 2 < m.size := by omega
  unfold rstV
  have HD := Lib.hid hd
  have HL := Lib.hid hL
  have HRES := Lib.hid hRES
  have HOK := Lib.hid ok
  have HASK := Lib.hid hask
  have HCODE := Lib.hid hcode
  have HGT := Lib.hid hgt
  have HTE := Lib.hid hte
  have HGO := Lib.hid hgo
  clear hd hL hRES ok hask hcode hgt hte hgo
  clear hr hqi hqo hqd hp2 hd8
  go_enter Tryz.func11, Tryz.ntmps11
  obtain ⟨W, hW⟩ : ∃ W, W = w.alloc (.cells #[.int .i64 most, .int .i64 ttl, .slice sa L.length sc, .int .i64 r] 27) := ⟨_, rfl⟩
  have hbW : W.heap[w.heap.size]? = some (.cells #[.int .i64 most, .int .i64 ttl, .slice sa L.length sc, .int .i64 r] 27 (0, 0)) := by rw [hW]; exact heap_alloc_new w _
  have hoW : Only (fun _ => False) w W := by rw [hW]; exact (Only.refl _ _).alloc _
  have hsW : W.heap.size = w.heap.size + 1 := by rw [hW]; simp
  go_upto_region 1 with (fail)
  rw [← hW]
  clear hW
  go_wp2_with fail
  refine (HD.out _).mono ?_
  rintro e w1 ⟨nv, rfl, ho1, hsl⟩
  obtain ⟨_, na, nc, rfl, _⟩ := id hsl
  obtain ⟨W2, hW2⟩ : ∃ W2, W2 = w1.alloc (.cells #[.bool q.asked, .slice na q.name.length nc, .int .i64 q.typ, .int .i64 q.cls] 88) := ⟨_, rfl⟩
  have hbW2 : W2.heap[w1.heap.size]? = some (.cells #[.bool q.asked, .slice na q.name.length nc, .int .i64 q.typ, .int .i64 q.cls] 88 (0, 0)) := by rw [hW2]; exact heap_alloc_new w1 _
  have hoW2 : Only (fun _ => False) w1 W2 := by rw [hW2]; exact (Only.refl _ _).alloc _
  have hsW2 : W2.heap.size = w1.heap.size + 1 := by rw [hW2]; simp
  have HBS := Lib.hid (hoW2.old (ho1.old hbW id) id)
  have HO2 := Lib.hid ((hoW.trans ho1).trans hoW2)
  have HSL := Lib.hid (hsl.new hoW2)
  have HSW := Lib.hid (show w.heap.size < W2.heap.size from lt_of_block HBS.out)
  have HSQ := Lib.hid (show w1.heap.size < W2.heap.size from lt_of_block hbW2)
  unfold q23C
  dsimp only
  have HBQ := Lib.hid hbW2
  clear hbW2
  clear ho1 hsl hoW hoW2 hbW hsW hsW2
  go_upto_region 4 with (fail)
  rw [← hW2]
  clear hW2
  generalize w1.heap.size = Y at *
  generalize w.heap.size = X at *
  have x0 : W2.cell? ⟨Y, 0, none⟩ = some (.bool q.asked) := cell_at HBQ.out 0
  have x1 : W2.cell? ⟨Y, 1, none⟩ = some (.slice na q.name.length nc) := cell_at HBQ.out 1
  have x2 : W2.cell? ⟨Y, 2, none⟩ = some (.int .i64 q.typ) := cell_at HBQ.out 2
  have x3 : W2.cell? ⟨Y, 3, none⟩ = some (.int .i64 q.cls) := cell_at HBQ.out 3
  have s0 : W2.cell? ⟨X, 0, none⟩ = some (.int .i64 most) := cell_at HBS.out 0
  have s1 : W2.cell? ⟨X, 1, none⟩ = some (.int .i64 ttl) := cell_at HBS.out 1
  have s2 : W2.cell? ⟨X, 2, none⟩ = some (.slice sa L.length sc) := cell_at HBS.out 2
  have s3 : W2.cell? ⟨X, 3, none⟩ = some (.int .i64 r) := cell_at HBS.out 3
  go_upto_if 24 with (fail)
  go_cut [7, 9] (fun v7 v9 wx => v7 = .int .i64 RES.2 ∧ LkC W2 wx v9 RES.1)
  case first =>
    by_cases hc0 : code = 0
    · have hres := HRES.out
      rw [if_pos hc0] at hres
      have e0 : ((code : Int) == 0) = true := by simp; omega
      have hml := may_labels (HOK.out.name (HASK.out hc0))
      have hlk := rlookup_any W2 most ttl r _ _ L q.name q.typ (HL.out.new HO2.out) hl ht HTE.out HGO.out HSL.out hml.1 hml.2 HOK.out.typ
      generalize lookM ttl L (q.name.map foldS) q.typ = M at *
      obtain ⟨kn, hkn⟩ : ∃ kn, kn = decide (heldM L (q.name.map foldS) ≠ []) := ⟨_, rfl⟩
      rw [← hkn] at hlk
      have hres2 : RES = (M, if kn = true then 0 else 3) := by
        rw [hres, hkn]
        congr 1
        by_cases hh : heldM L (q.name.map foldS) ≠ []
        · rw [if_pos hh, decide_eq_true hh]; rfl
        · rw [if_neg hh, decide_eq_false hh]; rfl
      unfold rstV at hlk
      have HLK := Lib.hid hlk
      have HR2 := Lib.hid hres2
      have HC0 := Lib.hid hc0
      clear hlk hres2 hc0
      clear hres hkn hml
      go_upto_region 8 with ((with_reducible refine HLK.out.mono ?_); rintro e w3 ⟨v3, E, rfl, ho3, hrow, hmap⟩)
      obtain ⟨_, va, vc, rfl, _⟩ := id (Sl.of_owns hrow.row)
      have HO3 := Lib.hid ho3
      have HROW := Lib.hid hrow
      have HMAP := Lib.hid hmap
      clear ho3 hrow hmap
      cases kn with
      | true =>
        go_wp2_with fail
        go_meet
        rw [HR2.out]
        exact ⟨by rw [HC0.out]; rfl, _, _, _, E, rfl, HO3.out, HROW.out, HMAP.out⟩
      | false =>
        go_wp2_with fail
        go_meet
        rw [HR2.out]
        exact ⟨rfl, _, _, _, E, rfl, HO3.out, HROW.out, HMAP.out⟩
    · have hres := HRES.out
      rw [if_neg hc0] at hres
      have e0 : ((code : Int) == 0) = false := by simp; omega
      have HR2 := Lib.hid hres
      clear hres
      clear hc0
      go_wp2_with fail
      go_meet
      rw [HR2.out]
      exact ⟨rfl, _, _, _, [], rfl, Only.refl _ _, RpRow24.nil _ _, rfl⟩
  case rest =>
  rename World => w3
  obtain ⟨rfl, a3, n3, c3, E, rfl, ho3, hrow, hmap⟩ := hcut
  have hfin := fin_facts (ttl := ttl) (L := L) q code HCODE.out HASK.out ht hl HTE.out (fun x hx => ⟨(good_node (HGO.out x hx)).1, (good_node (HGO.out x hx)).2.1⟩)
  rw [show finL ttl L (q, code) = RES from HRES.out.symm] at hfin
  obtain ⟨hf1, hf2, hf3, hf4⟩ := hfin
  have hn3 : n3 = E.length := by
    obtain ⟨_, a, c, he, _⟩ := Sl.of_owns hrow.row
    injection he
  subst hn3
  have hx3 := ho3.old HBQ.out id
  clear x0 x1 x2 x3 s0 s1 s2 s3
  have x0 : w3.cell? ⟨Y, 0, none⟩ = some (.bool q.asked) := cell_at hx3 0
  have x1 : w3.cell? ⟨Y, 1, none⟩ = some (.slice na q.name.length nc) := cell_at hx3 1
  have x2 : w3.cell? ⟨Y, 2, none⟩ = some (.int .i64 q.typ) := cell_at hx3 2
  have x3 : w3.cell? ⟨Y, 3, none⟩ = some (.int .i64 q.cls) := cell_at hx3 3
  have HO3 := Lib.hid (HO2.out.trans ho3)
  have HSL3 := Lib.hid (HSL.out.new ho3)
  have HY3 := Lib.hid (lt_of_block hx3)
  have HCC := Lib.hid (show ∀ w', Only (fun _ => False) w3 w' → w'.cell? ⟨Y, 0, none⟩ = some (.bool q.asked) ∧ w'.cell? ⟨Y, 1, none⟩ = some (.slice na q.name.length nc) ∧ w'.cell? ⟨Y, 2, none⟩ = some (.int .i64 q.typ) ∧ w'.cell? ⟨Y, 3, none⟩ = some (.int .i64 q.cls) from fun w' h => ⟨h.cell x0 id, h.cell x1 id, h.cell x2 id, h.cell x3 id⟩)
  have HROW := Lib.hid hrow
  have HMAP := Lib.hid hmap
  have HF1 := Lib.hid hf1
  have HF2 := Lib.hid hf2
  have HF3 := Lib.hid hf3
  have HF4 := Lib.hid hf4
  clear hrow hmap hf1 hf2 hf3 hf4
  clear ho3 hx3
  go_upto_region 10 with (fail)
  go_cut [11] (fun v wx => ∃ B, v = .pointer (some ⟨B, 0, none⟩) ∧ wx.heap[B]? = some (.cells (q24C q (.slice na q.name.length nc)).toArray 93 (0, 0)) ∧ Only (fun _ => False) w3 wx)
  case first =>
    go_region_held3 (fun w' => Only (fun _ => False) w3 w' ∧ w'.cell? ⟨Y, 0, none⟩ = some (.bool q.asked) ∧ w'.cell? ⟨Y, 1, none⟩ = some (.slice na q.name.length nc) ∧ w'.cell? ⟨Y, 2, none⟩ = some (.int .i64 q.typ) ∧ w'.cell? ⟨Y, 3, none⟩ = some (.int .i64 q.cls))
      ((go_split_ands; (refine heldO HCC.out ?_); (repeat (first | (with_reducible assumption) | (with_reducible exact Only.refl _ _) | (with_reducible refine Only.drew ?_) | (with_reducible refine Only.alloc ?_ _) | (with_reducible refine onlySet ?_ (by first | (with_reducible assumption) | omega) _) | (with_reducible refine Only.trans ?_ (by with_reducible assumption))))))
      (((with_reducible refine (HGT.out _).mono ?_); rintro e w5 ⟨rfl, ho5⟩; (try (have ha5 : w5.heap[w3.heap.size]? = some (.cells #[.int .u16 0, .int .i64 0, .bool false, .bool false, .slice none 0 0, .int .i64 0, .int .i64 0] 93 (0, 0)) := Only.old ho5 (heap_alloc_new w3 _) id; have q0 := cell_at ha5 0; have q1 := cell_at ha5 1; have q2 := cell_at ha5 2; have q3 := cell_at ha5 3; have q4 := cell_at ha5 4; have q5 := cell_at ha5 5; have q6 := cell_at ha5 6; have qf := free_at ha5; have ql := lt_of_block ha5))))
    all_goals
      go_wp2_with fail
      go_meet
      unfold q24C
      refine ⟨_, rfl, ?_, ?_⟩
      · (apply Eq.trans; (case h₁ => repeat (first | (with_reducible assumption) | (with_reducible exact heap_alloc_new _ _) | (with_reducible apply blk_new; (repeat (first | (with_reducible rfl) | (with_reducible apply sz_set) | (with_reducible apply sz_alloc) | (with_reducible apply sz_drew))); done) | (with_reducible apply blk_same) | (with_reducible apply blk_ne; case hn => (first | assumption | omega)) | (with_reducible apply blk_old) | (with_reducible apply blk_drew))); (case h₂ => rfl))
      · (repeat (first | (with_reducible assumption) | (with_reducible exact Only.refl _ _) | (with_reducible refine Only.drew ?_) | (with_reducible refine Only.alloc ?_ _) | (with_reducible refine onlySet ?_ (by first | (with_reducible assumption) | omega) _) | (with_reducible refine Only.trans ?_ (by with_reducible assumption))))
  case rest =>
  rename World => w6
  obtain ⟨B, rfl, hb6, ho6⟩ := hcut
  have hbd := rbuild24_any w6 (.slice na q.name.length nc) (.slice a3 E.length c3) q RES.2 E HOK.out HF3.out (HSL3.out.new ho6) (Sl.of_owns (HROW.out.new ho6).row) (fun x hx => ⟨HF1.out _ (by rw [← HMAP.out]; exact List.mem_map_of_mem hx), Sl.of_owns ((HROW.out.new ho6).tgt x hx)⟩) (by
    have h1 := congrArg List.length HMAP.out
    rw [List.length_map] at h1
    have h2 := HF2.out
    omega) (HF4.out.imp id (fun e => by
    have h1 := congrArg List.length HMAP.out
    rw [e, List.length_map] at h1
    exact List.length_eq_zero_iff.1 h1))
  rw [HMAP.out] at hbd
  have HO6 := Lib.hid (HO3.out.trans ho6)
  unfold q24C at hb6 hbd
  have z0 : w6.cell? ⟨B, 0, none⟩ = some (.int .u16 q.id) := cell_at hb6 0
  have z1 : w6.cell? ⟨B, 1, none⟩ = some (.int .i64 q.op) := cell_at hb6 1
  have z2 : w6.cell? ⟨B, 2, none⟩ = some (.bool q.des) := cell_at hb6 2
  have z3 : w6.cell? ⟨B, 3, none⟩ = some (.bool q.asked) := cell_at hb6 3
  have z4 : w6.cell? ⟨B, 4, none⟩ = some (.slice na q.name.length nc) := cell_at hb6 4
  have z5 : w6.cell? ⟨B, 5, none⟩ = some (.int .i64 q.typ) := cell_at hb6 5
  have z6 : w6.cell? ⟨B, 6, none⟩ = some (.int .i64 q.cls) := cell_at hb6 6
  have HBD := Lib.hid hbd
  clear hbd
  clear ho6 x0 x1 x2 x3 hb6
  go_wp2_with ((with_reducible refine HBD.out.mono ?_); rintro e w7 ⟨rfl, ho7⟩)
  go_ret2
  exact ⟨rfl, HO6.out.trans ho7⟩
end Go.Proofs.YtbdfijgejkimnaaGreatDoor
/-! AnswerResponds: the walk. -/
namespace Go.Proofs.YtbdfijgejkimnaaGreatDoor
open Go.Conc Go.RowKit Go.Maps

theorem mem_ins_or {x y : RecT} : ∀ {L : List RecT}, y ∈ insS x L → y = x ∨ y ∈ L
  | [], h => by simp [insS] at h; exact .inl h
  | z :: L, h => by
    unfold insS at h
    split at h
    · rcases List.mem_cons.1 h with h | h
      · exact .inl h
      · exact .inr (List.mem_cons_of_mem _ h)
    · split at h
      · rcases List.mem_cons.1 h with h | h
        · exact .inl h
        · exact .inr h
      · rcases List.mem_cons.1 h with h | h
        · exact .inr (by rw [h]; exact List.mem_cons_self)
        · rcases mem_ins_or h with h | h
          · exact .inl h
          · exact .inr (List.mem_cons_of_mem _ h)
theorem made_bd (l : List RecB) : ∀ k, ∀ x ∈ made25 l k, x.ver < 2 ^ 64 := by
  intro k
  unfold made25
  generalize l.take k = t
  have : ∀ (M : List RecT) (A : List RecB), (∀ x ∈ M, x.ver < 2 ^ 64) → ∀ x ∈ (A.map rec25).foldl (putS 48 100) M, x.ver < 2 ^ 64 := by
    intro M A
    induction A generalizing M with
    | nil => intro h; exact h
    | cons a A ih =>
      intro h
      rw [List.map_cons, List.foldl_cons]
      refine ih _ (fun x hx => ?_)
      unfold putS at hx
      split at hx
      · rcases mem_ins_or hx with rfl | hx
        · exact (rec25_bd a).1
        · exact h x hx
      · exact h x hx
  exact this [] t (fun x hx => by cases hx)
theorem tell_of {ttl : Int} {x : RecT} (hg : goodR x = true ∧ x.age < ttl) (hv : x.ver < 2 ^ 64) (h : x.gone = false) : TellOk ttl x := ⟨hg.1, h, hg.2, hv⟩
/-- Both sides' replies to one message. -/
theorem both_respond (L : List RecT) (s b : Nat) (r r' m : Int) (v : Value) (W : World) (hE : EnvW W m) (hS : StoreAt W s b 48 100 r L) (hR : RSl W v L) (hv : ∀ x ∈ L, x.ver < 2 ^ 64) (ms : ByteArray) (hz : ms.size ≤ 400) :
    ∃ (R : ByteArray) (B : Bool), R.size ≤ 512 ∧ (∀ W', Only (fun _ => False) W W' → Calls Tryz.prog 10 #[.pointer (some ⟨s, 0, none⟩), .string ms] W' fun e w' => e = .returned (.tuple #[.string R, .bool B]) ∧ Only (fun _ => False) W' w') ∧
      (∀ W', Only (fun _ => False) W W' → Calls Tryz.prog 11 #[rstV 48 100 v r', .string ms] W' fun e w' => e = .returned (.tuple #[.string R, .bool B]) ∧ Only (fun _ => False) W' w') := by
  by_cases h : ms.size < 12 ∨ (headD ms).resp = true
  · exact ⟨⟨#[]⟩, false, Nat.zero_le _, fun W' _ => respond_none W' _ ms h, fun W' _ => rrespond_none W' 48 100 r' v ms h⟩
  · have h12 : 12 ≤ ms.size := by omega
    have hr : (headD ms).resp = false := by
      cases hh : (headD ms).resp with
      | true => exact absurd (.inr hh) h
      | false => rfl
    have hok := hS.ok
    obtain ⟨ok, hcode⟩ := qM_ok ms
    refine ⟨⟨(respB 100 L ms).toArray⟩, true, ?_, fun W' ho => ?_, fun W' ho => ?_⟩
    · show (respB 100 L ms).length ≤ 512
      exact repB_len ok _ _
    · have hE' := hE.new ho
      exact respond_any W' m 100 (.pointer (some ⟨s, 0, none⟩)) L ms hE' (sees_store (hS.new ho) hE'.max hv) ⟨_, rfl⟩ h12 (by omega) hr
    · exact rrespond_any W' 48 100 r' v L ms (hR.new ho) hok.len (by omega) (fun x hx hg => tell_of (hok.goods x hx) (hv x hx) hg) (fun x hx => (hok.goods x hx).1) h12 (by omega) hr
set_option maxRecDepth 100000 in
set_option maxHeartbeats 4000000 in
theorem responds_any (w : World) (m : Int) (hE : EnvW w m) (v : Value) (l : List RecB) (msg : ByteArray) (hl : Sl w 6 v l.length (l.flatMap recBC)) (hb : ∀ a ∈ l, rowB a) (hz : msg.size ≤ maxLen) :
    Calls Tryz.prog 3 #[v, .string msg] w fun e w' => e = .returned (.bool true) ∧ Only (fun _ => False) w w' := by
  have hsp := speaks25_any w m hE
  have hmade := fun W (ho : Only (fun _ => False) w W) => made25_any W m (hE.new ho).max v l (hl.new ho) hb
  obtain ⟨_, va, vc, rfl, _⟩ := id hl
  obtain ⟨ms, hms⟩ : ∃ ms : ByteArray, ms = msg.extract 0 (min msg.size 400) := ⟨_, rfl⟩
  have hmz : ms.size ≤ 400 := by rw [hms, ByteArray.size_extract]; omega
  unfold maxLen at hz
  have HSP := Lib.hid hsp
  have HMADE := Lib.hid hmade
  have HMS := Lib.hid hms
  have HE := Lib.hid hE
  clear hsp hmade hms hE
  clear hl
  go_enter Tryz.func3, Tryz.ntmps3
  go_wp2_with fail
  refine HSP.out.mono ?_
  rintro e w1 ⟨rfl, ho1⟩
  have HO1 := Lib.hid ho1
  clear ho1
  go_wp2_with fail
  refine (HMADE.out w1 HO1.out).mono ?_
  rintro e w2 ⟨s, b, r, r', v2, rfl, ho2, hs2, hb2, hst2, hr1, hr2, hr3, hr4, hsl2⟩
  obtain ⟨p2, c2, rfl, _⟩ := Sl.cells recC_length hsl2
  unfold rstV
  obtain ⟨W3, hW3⟩ : ∃ W3, W3 = w2.alloc (.cells #[.int .i64 48, .int .i64 100, .slice p2 (made25 l 50).length c2, .int .i64 r'] 27) := ⟨_, rfl⟩
  have hbW3 : W3.heap[w2.heap.size]? = some (.cells #[.int .i64 48, .int .i64 100, .slice p2 (made25 l 50).length c2, .int .i64 r'] 27 (0, 0)) := by rw [hW3]; exact heap_alloc_new w2 _
  have hoW3 : Only (fun _ => False) w2 W3 := by rw [hW3]; exact (Only.refl _ _).alloc _
  have hsW3 : W3.heap.size = w2.heap.size + 1 := by rw [hW3]; simp
  have HO3 := Lib.hid ((HO1.out.trans ho2).trans hoW3)
  obtain ⟨R, B, hRz, hR1, hR2⟩ := both_respond (made25 l 50) s b r r' m _ W3 (HE.out.new HO3.out) (hst2.new hoW3) (hsl2.new hoW3) (made_bd l 50) ms hmz
  unfold rstV at hR2
  have HB3 := Lib.hid hbW3
  have HR1 := Lib.hid hR1
  have HR2 := Lib.hid hR2
  clear hbW3 hR1 hR2
  clear ho2 hs2 hb2 hst2 hr1 hr2 hr3 hr4 hsl2 hoW3 hsW3 HSP HMADE HE
  go_upto_region 4 with (fail)
  rw [← hW3]
  clear hW3
  go_cut [1] (fun v1 wx => v1 = .string ms ∧ W3 = wx)
  case first =>
    go_wp2_with fail
    go_meet
    exact ⟨by rw [HMS.out, show (min (msg.size : Int) 400).toNat = min msg.size 400 by omega], rfl⟩
  case rest =>
  obtain ⟨rfl, rfl⟩ := hcut
  go_wp2_with fail
  refine (HR1.out _ (Only.refl _ _)).mono ?_
  rintro e w5 ⟨rfl, ho5⟩
  have hb5 := ho5.old HB3.out id
  have x0 : w5.cell? ⟨w2.heap.size, 0, none⟩ = some (.int .i64 48) := cell_at hb5 0
  have x1 : w5.cell? ⟨w2.heap.size, 1, none⟩ = some (.int .i64 100) := cell_at hb5 1
  have x2 : w5.cell? ⟨w2.heap.size, 2, none⟩ = some (.slice p2 (made25 l 50).length c2) := cell_at hb5 2
  have x3 : w5.cell? ⟨w2.heap.size, 3, none⟩ = some (.int .i64 r') := cell_at hb5 3
  have HO5 := Lib.hid ho5
  clear ho5
  clear hb5
  have hRi : (R.size : Int) ≤ 512 := by omega
  go_wp2_with fail
  refine (HR2.out _ HO5.out).mono ?_
  rintro e w6 ⟨rfl, ho6⟩
  have HO6 := Lib.hid ((HO3.out.trans HO5.out).trans ho6)
  clear ho6 x0 x1 x2 x3
  go_wp2_with fail
  go_ret
  exact ⟨rfl, HO6.out⟩
end Go.Proofs.YtbdfijgejkimnaaGreatDoor
/-! AnswerResponds is true of every input: the reply of a store of any records to any bytes is, byte by byte, that of the reference, or there is none on both sides. No condition; the package variables that it names are tied to the text. -/
namespace Go.Proofs.YtbdfijgejkimnaaGreatDoor.respondsLaw
open Go.Conc Go.RowKit Go.ChangeShapes Go.WideShapes Go.ChangeAt Go.ChangeMaps

theorem reads : ∀ t ∈ Tryz.f3.params.toList, Tryz.prog.readableRec t = true ∧ t < Tryz.prog.types.size := by
  intro t ht
  have h1 : ([22, 9].all fun u => Tryz.prog.readableRec u && decide (u < Tryz.prog.types.size)) = true := by kernel_rfl
  rw [Tryz.params3] at ht
  have := List.all_eq_true.1 h1 t ht
  simpa using this
set_option maxRecDepth 100000 in
set_option maxHeartbeats 8000000 in
theorem lifted (os : Os) (started : os.Started) (H : Type) (enc : TypeId × Value → H) :
    ReturnsInHanded {} Tryz.checked os 3 .any (fun w args => (Rows.answerRespondsSpec.pre enc Tryz.prog Tryz.f3 Rows.answerRespondsRow.domain false w args ∧ laidMetH Tryz.prog Rows.answerRespondsRow.laid w) ∧ sizedMet enc Tryz.prog Tryz.f3 (OpenSpec.ofChange Rows.answerRespondsSpec) false w args)
      (Rows.answerRespondsSpec.post enc Tryz.prog Tryz.f3 false true false false) := by
  refine returns_laid (C := Tryz.checked) (X := fun w _ => laidMetH Tryz.prog Rows.answerRespondsRow.laid w) (fun _ _ _ hh h => h.of_heap hh) ownD started (by kernel_rfl) Tryz.func3
    (ChangeSpec.witness_shaped (enc := enc) (C := Tryz.checked) (os := os) (X := fun w _ => laidMetH Tryz.prog Rows.answerRespondsRow.laid w) false (World.laidAll Tryz.prog os Rows.answerRespondsRow.laid) #[.slice none 0 0, .string ⟨#[]⟩] 8 (World.laidAll_os _ _ _)
      (World.shaped_of_ZipB (by kernel_rfl) (by kernel_rfl)) (by kernel_rfl) (by kernel_rfl) (by kernel_rfl)
      (by rw [MakeChecks.laidMetH_plain _ _ _ (by kernel_rfl)]; exact laidMet_laidAll _ (by kernel_rfl) (by kernel_rfl))) ?_
  intro W base args ds gs before hval0 hW hlaid hsh
  have hval : ∀ (j : Nat) t v, Tryz.f3.params[j]? = some t → args[j]? = some v → Value.okWide Tryz.prog W .any base t v := hval0
  have hW' := hW
  obtain ⟨m0, hm0⟩ := maxLen_cell W hsh
  obtain ⟨p, q, hA0, hV, rfl, _, _⟩ := hW
  have hA : DataW.TrodAll enc Tryz.prog W 0 (fun _ => true) true Tryz.f3.params.toList args.toList ds p := hA0
  rw [Tryz.params3] at hA hval
  obtain ⟨v0, vs0, d0, ds0, p0, q0, hargs, rfl, rfl, h0, r0⟩ := trodAll_cons hA
  obtain ⟨v1, vs1, d1, ds1, p1, q1, rfl, rfl, rfl, h1, r1⟩ := trodAll_cons r0
  obtain ⟨rfl, rfl, rfl⟩ := trodAll_nil r1
  obtain rfl : args = #[v0, v1] := by cases args; simp_all
  obtain ⟨x0, s0, b0⟩ := sl_recs25 (hval 0 22 v0 rfl rfl) h0
  obtain ⟨x1, rfl, rfl, rfl, b1⟩ := open_string Tryz.underlying9 (hval 1 9 v1 rfl rfl) h1
  obtain ⟨rfl, rfl⟩ := trodVars_none hV
  refine (responds_any W m0 (envW_of W m0 hm0 hlaid) v0 x0 x1 s0 b0 b1).mono fun e W' ⟨he, ho⟩ => ?_
  subst he
  exact ⟨_, rfl, law_post hW' (ho.below (Nat.le_refl _) (fun _ _ => id)) laidOutD reads rfl Tryz.underlying4 rfl rfl rfl rfl⟩

theorem said : Rows.AnswerRespondsSaid :=
  OpenClaim.holds_of_wide 3 Tryz.f3 rfl rfl rfl rfl rfl rfl rfl ⟨rfl, rfl, rfl, rfl, rfl⟩ rfl rfl rfl rfl rfl (by kernel_rfl) Tryz.func3 (by kernel_rfl)
    (of_decide_eq_true (by kernel_rfl)) (by unfold Func.isWrapper; first | (rw [if_pos (by decide +kernel)]; kernel_rfl) | (rw [if_neg (by decide +kernel)]; exact ⟨rfl, rfl⟩))
    (fun os started H enc _ => lifted os started H enc)
theorem looks (f : FuncId) (fn : Func) (hf : Tryz.pinned.checked.prog.funcNamed "bellhop/bellhoplaw25.AnswerResponds" = some f) (hfn : Tryz.pinned.checked.prog.funcs[f]? = some fn) :
    true = Tryz.pinned.checked.prog.looks [] ∧ ∀ (j : Nat) t, fn.params[j]? = some t → Tryz.pinned.checked.prog.wantsStandIn t = false := by
  obtain rfl : f = 3 := Option.some.inj ((show Tryz.prog.funcNamed "bellhop/bellhoplaw25.AnswerResponds" = some 3 by kernel_rfl).symm.trans hf) |>.symm
  obtain rfl : fn = Tryz.f3 := (Option.some.inj (Tryz.func3.symm.trans hfn)).symm
  refine ⟨by kernel_rfl, fun j t ht => ?_⟩
  rw [Tryz.params3] at ht
  have hm : t ∈ [22, 9] := by simpa using Array.mem_of_getElem? ht
  have hall : ([22, 9].all fun u => !Tryz.prog.wantsStandIn u) = true := by kernel_rfl
  exact (show Tryz.prog.wantsStandIn t = false by simpa using List.all_eq_true.1 hall t hm)
theorem card : Rows.AnswerRespondsCardSaid :=
  Claim7.holds_tied_plain_at .later [] _ _ _ _ said (fun _ h => by cases h) (by kernel_rfl) (fun _ h => by cases h) answerResponds_row_tie rfl ⟨rfl, rfl⟩ (by kernel_rfl) rfl looks (by kernel_rfl)
#print axioms card
end Go.Proofs.YtbdfijgejkimnaaGreatDoor.respondsLaw
