/- Small letters: the program's Fold and the reference's. -/
import Derived.Test.YtfgkljjiopohgaaDoorName7
import Derived.Laws.IdiomStrings
import Derived.Lib.BufferMore
import Derived.Deep.AppendLies
namespace Go.Proofs.YtfgkljjiopohgaaDoor
open Go.Conc Go.RowKit

def foldU (b : UInt8) : UInt8 := if 65 ≤ b.toNat ∧ b.toNat ≤ 90 then UInt8.ofNat (b.toNat + 32) else b
def foldS (s : ByteArray) : ByteArray := ⟨(s.data.toList.map foldU).toArray⟩
theorem foldS_data (s : ByteArray) : (foldS s).data.toList = s.data.toList.map foldU := by simp [foldS]
theorem foldS_size (s : ByteArray) : (foldS s).size = s.size := by
  show (foldS s).data.toList.length = s.data.toList.length
  rw [foldS_data, List.length_map]
theorem drop_byte' (s : ByteArray) (k : Nat) (h : k < s.size) : ∃ b : UInt8, s.data.toList.drop k = b :: s.data.toList.drop (k + 1) ∧ b.toNat = bAt s k ∧ s.data.toList[k]? = some b := by
  have h2 : k < s.data.toList.length := h
  refine ⟨s.data.toList[k], List.drop_eq_getElem_cons h2, ?_, List.getElem?_eq_getElem h2⟩
  unfold bAt
  rw [List.getD_eq_getElem?_getD, List.getElem?_eq_getElem h2]
  rfl

set_option maxRecDepth 100000 in
set_option maxHeartbeats 1000000 in
theorem rfold_any (w : World) (s : ByteArray) (hs : s.size ≤ 1000) :
    Calls Tryd.prog 22 #[.string s] w fun e w' => e = .returned (.string (foldS s)) ∧ Only (fun _ => False) w w' := by
  have hc1 := conv1
  have e1 : ∀ x : Int, (bytesOf [x]).size = 1 := fun _ => rfl
  have hF := Lib.hid (foldS_data s)
  generalize foldS s = F at *
  go_enter Tryd.func22, Tryd.ntmps22
  go_wp2_with fail
  go_loopg [3, 4, 5] s.size (fun g v3 v4 v5 wx => ∃ (k : Nat) (r : ByteArray), v3 = .string r ∧ v4 = .int .i64 k ∧ k ≤ s.size ∧ r.size ≤ k ∧ Only (fun _ => False) w wx ∧ F.data.toList = r.data.toList ++ (s.data.toList.drop k).map foldU ∧ g = s.size - k)
  case atStart => exact ⟨0, ⟨#[]⟩, rfl, rfl, Nat.zero_le _, Nat.zero_le _, Only.refl _ _, by rw [hF.out]; rfl, rfl⟩
  case round =>
    obtain ⟨k, r, rfl, rfl, hk, hr, ho, hR, hg⟩ := hrel
    have Hg := Lib.hid hg
    have HR := Lib.hid hR
    clear hg hR
    by_cases hlt : k < s.size
    · obtain ⟨b, hb1, hb2, _⟩ := drop_byte' s k hlt
      have hn : ((s[k]'hlt).toNat : Int) = (bAt s k : Int) := congrArg _ (bAt_get s k hlt)
      have hnl := bAt_lt s k
      have HB1 := Lib.hid hb1
      have HB2 := Lib.hid hb2
      clear hb1 hb2
      have e1 : ∀ x : Int, (bytesOf [x]).size = 1 := fun _ => rfl
      by_cases h65 : 65 ≤ bAt s k
      · have q1 : decide ((65 : Int) ≤ ((bAt s k : Nat) : Int)) = true := by simp; omega
        by_cases h90 : bAt s k ≤ 90
        · have q2 : decide (((bAt s k : Nat) : Int) ≤ 90) = true := by simp; omega
          go_wp2_with fail
          go_roundg (s.size - (k + 1))
          case measure => rw [Hg.out]; omega
          case rel =>
            refine ⟨k + 1, _, rfl, by go_num, by omega, by rw [ByteArray.size_append, e1]; omega, ho.alloc _, ?_, rfl⟩
            rw [HR.out, HB1.out, ByteArray.data_append, Array.toList_append, List.map_cons, foldU, HB2.out, if_pos ⟨h65, h90⟩]
            have hb : (((bAt s k : Nat) : Int) + 32).toNat = bAt s k + 32 := by omega
            simp [bytesOf, hb]
        · have q2 : decide (((bAt s k : Nat) : Int) ≤ 90) = false := by simp; omega
          go_wp2_with fail
          go_roundg (s.size - (k + 1))
          case measure => rw [Hg.out]; omega
          case rel =>
            refine ⟨k + 1, _, rfl, by go_num, by omega, by rw [ByteArray.size_append, e1]; omega, ho.alloc _, ?_, rfl⟩
            rw [HR.out, HB1.out, ByteArray.data_append, Array.toList_append, List.map_cons, foldU, if_neg (by rw [HB2.out]; omega)]
            simp [bytesOf, ← HB2.out]
      · have q1 : decide ((65 : Int) ≤ ((bAt s k : Nat) : Int)) = false := by simp; omega
        go_wp2_with fail
        go_roundg (s.size - (k + 1))
        case measure => rw [Hg.out]; omega
        case rel =>
          refine ⟨k + 1, _, rfl, by go_num, by omega, by rw [ByteArray.size_append, e1]; omega, ho.alloc _, ?_, rfl⟩
          rw [HR.out, HB1.out, ByteArray.data_append, Array.toList_append, List.map_cons, foldU, if_neg (by rw [HB2.out]; omega)]
          simp [bytesOf, ← HB2.out]
    · have hd : r = F := by
        apply str_ext
        rw [HR.out, List.drop_eq_nil_of_le (by show s.size ≤ k; omega)]
        simp
      have HD := Lib.hid hd
      clear hd
      go_wp2_with fail
      go_ret
      exact ⟨ret_str HD.out, ho⟩
end Go.Proofs.YtfgkljjiopohgaaDoor
