/- The walk of bellhoplaw21.NameCodes. -/
import Derived.Test.YtfgkljjiopohgaaDoorName8
import Derived.Test.YtfgkljjiopohgaaDoorName11
import Derived.Test.YtfgkljjiopohgaaDoorName12
import Derived.Test.YtfgkljjiopohgaaDoorName13
namespace Go.Proofs.YtfgkljjiopohgaaDoor
open Go.Conc Go.RowKit

/-- What Encode returns. -/
def Enc (l : List ByteArray) (S : ByteArray) (E : Int) : Prop := (mayGo 0 l = true ∧ S = bytesL l ++ ⟨#[0]⟩ ∧ E = 0) ∨ (mayGo 0 l = false ∧ S = ⟨#[]⟩ ∧ E = 9)
theorem encode_v (w : World) (v : Value) (l : List ByteArray) (hl : Sl w 1 v l.length (l.map .string)) (hsz : ∀ s ∈ l, s.size ≤ maxLen) :
    Calls Tryd.prog 20 #[v] w fun e w' => ∃ S E, e = .returned (.tuple #[.string S, .int .i64 E]) ∧ Only (fun _ => False) w w' ∧ Enc l S E := by
  cases hm : mayGo 0 l with
  | true =>
    refine (encode_good w v l hl hm).mono ?_
    rintro e w' ⟨rfl, ho⟩
    exact ⟨_, _, rfl, ho, .inl ⟨hm, rfl, rfl⟩⟩
  | false =>
    refine (encode_bad w v l hl hsz hm).mono ?_
    rintro e w' ⟨rfl, rfl⟩
    exact ⟨_, _, rfl, Only.refl _ _, .inr ⟨hm, rfl, rfl⟩⟩

set_option maxRecDepth 100000 in
set_option maxHeartbeats 2000000 in
theorem nameCodes_any (w : World) (m0 : Int) (hm : w.cell? ⟨0, 0, none⟩ = some (.int .i64 m0)) (v : Value) (l0 : List ByteArray) (ahead0 behind0 : ByteArray) (hl0 : Sl w 1 v l0.length (l0.map .string)) (hs0 : ∀ s ∈ l0, s.size ≤ maxLen) (ha : ahead0.size ≤ maxLen) (hb : behind0.size ≤ maxLen) :
    Calls Tryd.prog 7 #[v, .string ahead0, .string behind0] w fun e w' => e = .returned (.bool true) ∧ Only (fun _ => False) w w' := by
  have HM := Lib.hid hm
  have HL0 := Lib.hid hl0
  have HS0 := Lib.hid hs0
  clear hm hl0 hs0
  unfold maxLen at ha hb
  go_enter Tryd.func7, Tryd.ntmps7
  go_wp2_with fail
  refine (speaks_any w m0 HM.out).mono ?_
  rintro e w1 ⟨rfl, ho1⟩
  have HL1 := Lib.hid (HL0.out.new ho1)
  have hA1 : (0 : Int) ≤ min (ahead0.size : Int) 60 := by omega
  have hA2 : min (ahead0.size : Int) 60 ≤ (ahead0.size : Int) := by omega
  have hB1 : (0 : Int) ≤ min (behind0.size : Int) 60 := by omega
  have hB2 : min (behind0.size : Int) 60 ≤ (behind0.size : Int) := by omega
  have hAs : (ahead0.extract 0 (min (ahead0.size : Int) 60).toNat).size ≤ 60 := by rw [ByteArray.size_extract]; omega
  have hBs : (behind0.extract 0 (min (behind0.size : Int) 60).toNat).size ≤ 60 := by rw [ByteArray.size_extract]; omega
  generalize hA : ahead0.extract 0 (min (ahead0.size : Int) 60).toNat = A at hAs
  generalize hB : behind0.extract 0 (min (behind0.size : Int) 60).toNat = B at hBs
  go_upto_region 3 with (fail)
  go_cut [0, 1, 2] from 16 to 27 (fun s0 s1 s2 wx => s1 = .string A ∧ s2 = .string B ∧ Only (fun _ => False) w wx ∧ Sl wx 1 s0 (cutL l0 130 70).length ((cutL l0 130 70).map .string))
  case first =>
    go_region_law (first
      | (go_simp
         refine (cut_any _ v l0 130 70 (HL1.out.new (Only.refl _ _).drew) HS0.out (by omega) (by omega)).mono ?_
         rintro e w2 ⟨v2, rfl, ho2, hs2⟩
         have ho12 : Only (fun _ => False) w w2 := ho1.drew.trans ho2))
    all_goals (
      go_wp2_with fail
      go_meet
      exact ⟨rfl, rfl, ho12, hs2⟩)
  case rest =>
  obtain ⟨rfl, rfl, ho2, hs2⟩ := hcut
  obtain ⟨hl1, hl2⟩ := cutL_size l0 130 70
  generalize cutL l0 130 70 = l at *
  have HS := Lib.hid hl2
  clear hl2 HS0 HL0 HL1 HM hA hB hA1 hA2 hB1 hB2 ho1
  go_wp2_with fail
  have hszm : ∀ x ∈ l, x.size ≤ maxLen := fun x hx => by have := HS.out x hx; unfold maxLen; omega
  have HSM := Lib.hid hszm
  clear hszm
  refine (encode_v _ _ l hs2 HSM.out).mono ?_
  rintro e w3 ⟨S, E, rfl, ho3, hEnc⟩
  have HE := Lib.hid hEnc
  have hs3 := hs2.new ho3
  clear hEnc hs2
  go_wp2_with fail
  refine (fold_any _ _ l hs3 (fun x hx => by have := HS.out x hx; omega) (by omega)).mono ?_
  rintro e w4 ⟨v4, rfl, ho4, hf4⟩
  have hs4 := hs3.new ho4
  have ho14 := (ho2.trans ho3).trans ho4
  have HS4 := Lib.hid hs4
  obtain ⟨_, a, cap, rfl, c1, c2, c3⟩ := id hs4
  obtain ⟨_, a5, cap5, rfl, d1, d2, d3⟩ := id hf4
  have C3 := Lib.hid c3
  have D3 := Lib.hid d3
  unfold maxLen at c2 d2
  clear hs3 hs4 hf4 ho2 ho3 ho4 c3 d3
  go_wp2_with fail
  go_loopg [10] l.length (fun g v10 wx => ∃ k : Nat, v10 = .int .i64 k ∧ k ≤ l.length ∧ Only (fun _ => False) w4 wx ∧ g = l.length - k)
  case atStart => exact ⟨0, rfl, Nat.zero_le _, Only.refl _ _, rfl⟩
  case round =>
    obtain ⟨k, rfl, hk, ho, hg⟩ := hrel
    have Hg := Lib.hid hg
    clear hg
    by_cases hlt : k < l.length
    · obtain ⟨b, off, ha, hc⟩ := C3.out.resolve_left (by omega)
      obtain ⟨b5, off5, ha5, hd⟩ := D3.out.resolve_left (by omega)
      subst ha ha5
      have hz := ho.cell (strs_cell hc hlt) id
      have hz5 := ho.cell (strs_cell hd (by rw [List.length_map]; exact hlt)) id
      rw [List.getElem_map] at hz5
      have hsz := HS.out _ (List.getElem_mem hlt)
      generalize l[k] = s at *
      clear hc hd
      go_wp2_with fail
      go_region_law (first
        | (go_simp
           refine (rfold_any _ s (by omega)).mono ?_
           rintro e w6 ⟨rfl, ho6⟩
           have hz6 := ho6.cell hz id
           have hz7 := ho6.cell hz5 id
           have ho7 : Only (fun _ => False) w4 w6 := ho.drew.trans ho6))
      all_goals (
        go_wp2_with fail
        go_roundg (l.length - (k + 1))
        case measure => rw [Hg.out]; omega
        case rel => exact ⟨k + 1, by go_num, by omega, ho7, rfl⟩)
    · clear C3 D3
      have hsx := HS4.out.new ho
      go_wp2_with fail
      refine (rmay_any _ _ l hsx HSM.out).mono ?_
      rintro e w6 ⟨rfl, rfl⟩
      rcases HE.out with ⟨hmay, rfl, rfl⟩ | ⟨hmay, rfl, rfl⟩
      · rw [hmay]
        have HMAY := Lib.hid hmay
        have hW := rdP_written A B l [] A.size hmay
        have hall := mayGo_all l 0 hmay
        have hsS : (bytesL l ++ ⟨#[0]⟩).size = (bytesL l).size + 1 := ByteArray.size_append
        have hM : A ++ (bytesL l ++ ⟨#[0]⟩) ++ B = A ++ (bytesL ([] ++ l) ++ (⟨#[0]⟩ ++ B)) := str_ext (by simp)
        have hW2 : rdP (A ++ (bytesL l ++ ⟨#[0]⟩) ++ B) A.size A.size [] = ⟨l, A.size + (bytesL l).size + 1, 0⟩ := by
          rw [hM]
          exact hW
        have HW2 := Lib.hid hW2
        have hMs : (A ++ (bytesL l ++ ⟨#[0]⟩) ++ B).size ≤ 1000 := by rw [ByteArray.size_append, ByteArray.size_append, hsS]; omega
        have HMs := Lib.hid hMs
        have hb1 := hall.2.1
        have hb2 := hall.2.2
        generalize hS : bytesL l ++ ⟨#[0]⟩ = S at *
        have HSe := Lib.hid hS
        clear hmay hW hall hM hW2 hMs hS HE
        go_wp2_with fail
        refine (read_any _ (A ++ S ++ B) A.size (by have := HMs.out; omega) (by rw [ByteArray.size_append, ByteArray.size_append]; omega)).mono ?_
        rintro e w7 ⟨v7, rfl, ho7, hs7⟩
        rw [HW2.out] at hs7 ⊢
        have hsx7 := hsx.new ho7
        go_wp2_with fail
        refine (bytes_any _ _ l hsx7 HS.out (by omega)).mono ?_
        rintro e w8 ⟨rfl, ho8⟩
        have q3 : (bytesL l).size ≤ 254 := by omega
        have q4 := str_eq HSe.out.symm
        go_wp2_with fail
        refine (same_any _ _ _ l l (hs7.new ho8) (hsx7.new ho8)).mono ?_
        rintro e w9 ⟨rfl, ho9⟩
        have q6 : decide (l = l) = true := by simp
        rw [q6]
        have q5 : (((A.size : Int) + ((bytesL l).size : Int) + 1) == ((A.size : Int) + (((bytesL l).size : Int) + 1))) = true := by simp; omega
        go_wp2_with fail
        go_ret
        exact ⟨ret_bool (by first | rfl | exact q5 | (simp; omega)), (((ho14.trans ho).trans ho7).trans ho8).trans ho9⟩
      · rw [hmay]
        go_wp2_with fail
        go_ret
        exact ⟨rfl, ho14.trans ho⟩
end Go.Proofs.YtfgkljjiopohgaaDoor
