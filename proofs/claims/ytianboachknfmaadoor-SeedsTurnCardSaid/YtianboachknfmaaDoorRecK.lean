/- Keys of records, plainly. -/
import Derived.Test.YtianboachknfmaaDoorRec4
namespace Go.Proofs.YtianboachknfmaaDoor
open Go.Conc Go.RowKit

theorem bA_key (o : Nat) (name : ByteArray) (h : o < 65536) : bA (keyB o name) 0 = o / 256 ∧ bA (keyB o name) 1 = o % 256 := by
  have e : (keyB o name).data.toList = [UInt8.ofNat ((o : Int) / 256).toNat, UInt8.ofNat ((o : Int) % 256).toNat] ++ name.data.toList := by
    unfold keyB
    rw [ByteArray.data_append, Array.toList_append]
    rfl
  unfold bA
  rw [e]
  constructor
  · show (UInt8.ofNat ((o : Int) / 256).toNat).toNat = _
    rw [UInt8.toNat_ofNat']
    omega
  · show (UInt8.ofNat ((o : Int) % 256).toNat).toNat = _
    rw [UInt8.toNat_ofNat']
    omega
theorem key_rest (o : Int) (name : ByteArray) : (keyB o name).extract 2 (keyB o name).size = name := by
  unfold keyB
  exact ByteArray.extract_append_eq_right rfl ByteArray.size_append
theorem split_key {o : Nat} {name : ByteArray} (h1 : nodeB o = true) (h2 : namedP name = true) : splitN (keyB o name) = o ∧ splitS (keyB o name) = name ∧ splitE (keyB o name) = 0 := by
  have h16 : o < 65536 := by unfold nodeB at h1; simp at h1; omega
  obtain ⟨b0, b1⟩ := bA_key o name h16
  have hn : nodeN (keyB o name) = o := by unfold nodeN; rw [b0, b1]; omega
  have hok : splitOk (keyB o name) = true := by
    unfold splitOk
    rw [key_rest, hn, h1, h2, keyB_size]
    simp
  unfold splitN splitS splitE
  rw [hok, hn, key_rest]
  exact ⟨rfl, rfl, rfl⟩
theorem split_origin (s : ByteArray) : (0 < originP s → splitE s = 0 ∧ splitN s = originP s ∧ splitS s = s.extract 2 s.size ∧ 2 ≤ s.size) ∧ (originP s = 0 → splitE s = 4 ∧ splitN s = 0 ∧ splitS s = ⟨#[]⟩) := by
  have b0 := bA_lt s 0
  have b1 := bA_lt s 1
  have hN : nodeN s = 256 * bA s 0 + bA s 1 := rfl
  constructor
  · intro h
    unfold originP at h
    split at h
    · omega
    · next h2 =>
      split at h
      · next h3 =>
        have hok : splitOk s = true := by
          unfold splitOk nodeB
          rw [h3, decide_eq_true (by omega : 2 ≤ s.size)]
          simp
          omega
        refine ⟨by unfold splitE; rw [hok]; rfl, ?_, by unfold splitS; rw [hok]; rfl, by omega⟩
        unfold splitN originP
        rw [hok, if_neg h2, if_pos h3, hN]
        rfl
      · omega
  · intro h
    have hok : splitOk s = false := by
      unfold originP at h
      unfold splitOk nodeB
      split at h
      · next h2 =>
        rw [decide_eq_false (by omega : ¬ 2 ≤ s.size)]
        rfl
      · split at h
        · have : decide ((1 : Int) ≤ (nodeN s : Nat)) = false := decide_eq_false (by omega)
          rw [this]
          simp
        · next h3 =>
          have : namedP (s.extract 2 s.size) = false := by simpa using h3
          rw [this]
          simp
    obtain ⟨a, b, c⟩ := split_bad hok
    exact ⟨c, a, b⟩


end Go.Proofs.YtianboachknfmaaDoor
