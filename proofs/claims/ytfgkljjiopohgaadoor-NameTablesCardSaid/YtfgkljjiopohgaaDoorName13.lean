/- What is read where labels have been written. -/
import Derived.Test.YtfgkljjiopohgaaDoorNameEnds
namespace Go.Proofs.YtfgkljjiopohgaaDoor
open Go.Conc Go.RowKit

theorem mayGo_prefix : ∀ (a b : List ByteArray) (n : Nat), mayGo n (a ++ b) = true → mayGo n a = true := by
  intro a
  induction a with
  | nil =>
    intro b n h
    by_cases hn : n ≤ 254
    · simp [mayGo, hn]
    · rw [List.nil_append, mayGo_full (by omega)] at h; cases h
  | cons s a ih =>
    intro b n h
    by_cases hb : s.size = 0 ∨ 63 < s.size ∨ 254 < n
    · rw [List.cons_append, mayGo_bad hb] at h; cases h
    · rw [List.cons_append, mayGo_step (by omega) (by omega) (by omega)] at h
      rw [mayGo_step (by omega) (by omega) (by omega)]
      exact ih b _ h
theorem bAt_app (A B : ByteArray) (i : Nat) : bAt (A ++ B) (A.size + i) = bAt B i := by
  unfold bAt
  rw [ByteArray.data_append, Array.toList_append, List.getD_eq_getElem?_getD, List.getD_eq_getElem?_getD, List.getElem?_append_right (show A.data.toList.length ≤ A.size + i from Nat.le_add_right _ _)]
  have e : A.size + i - A.data.toList.length = i := Nat.add_sub_cancel_left _ _
  rw [e]
theorem ext_app (A B : ByteArray) (i j : Nat) : (A ++ B).extract (A.size + i) (A.size + j) = B.extract i j := by
  apply ByteArray.ext
  rw [ByteArray.data_extract, ByteArray.data_extract, ByteArray.data_append, Array.extract_append]
  have e1 : A.size + i - A.data.size = i := Nat.add_sub_cancel_left _ _
  have e2 : A.size + j - A.data.size = j := Nat.add_sub_cancel_left _ _
  rw [e1, e2]
  have e3 : A.data.extract (A.size + i) (A.size + j) = #[] := by
    apply Array.eq_empty_of_size_eq_zero
    rw [Array.size_extract]
    show min (A.size + j) A.size - (A.size + i) = 0
    omega
  rw [e3]
  simp
theorem bAt_label (s X : ByteArray) (hs : s.size < 256) : bAt (labelB s ++ X) 0 = s.size := by
  rw [bAt_append _ _ _ (by rw [labelB_size]; omega)]
  unfold labelB
  rw [bAt_append _ _ _ (show 0 < 1 from Nat.zero_lt_one)]
  show (UInt8.ofNat (s.size : Int).toNat).toNat = s.size
  simp
  omega
theorem ext_label (s X : ByteArray) : (labelB s ++ X).extract 1 (1 + s.size) = s := by
  have e : labelB s ++ X = bytesOf [(s.size : Int)] ++ (s ++ X) := str_ext (by simp [labelB])
  rw [e, show (1 : Nat) = (bytesOf [(s.size : Int)]).size + 0 from rfl, show (bytesOf [(s.size : Int)]).size + 0 + s.size = (bytesOf [(s.size : Int)]).size + s.size by omega, ext_app]
  exact ByteArray.extract_append_eq_left rfl
theorem rdP_written (ahead behind : ByteArray) : ∀ (r done : List ByteArray) (bd : Nat), mayGo 0 (done ++ r) = true →
    rdP (ahead ++ (bytesL (done ++ r) ++ (⟨#[0]⟩ ++ behind))) (ahead.size + (bytesL done).size) bd done = ⟨done ++ r, ahead.size + (bytesL (done ++ r)).size + 1, 0⟩ := by
  intro r
  induction r with
  | nil =>
    intro done bd h
    rw [List.append_nil] at h ⊢
    have hb : bAt (ahead ++ (bytesL done ++ (⟨#[0]⟩ ++ behind))) (ahead.size + (bytesL done).size) = 0 := by
      rw [bAt_app, show (bytesL done).size = (bytesL done).size + 0 from rfl, bAt_app, bAt_append _ _ _ (show 0 < 1 from Nat.zero_lt_one)]
      rfl
    rw [rdP_zero h (by simp only [ByteArray.size_append]; show ¬ _ + (_ + (1 + _)) ≤ _; omega) hb]
    rfl
  | cons s r ih =>
    intro done bd h
    have hall := mayGo_all _ 0 h
    have hs := hall.1 s (by simp)
    have e1 : bytesL (done ++ s :: r) = bytesL done ++ (labelB s ++ bytesL r) := by
      rw [← bytesL_cons]
      show (done ++ s :: r).foldl _ _ = _
      rw [List.foldl_append, foldl_label]
      rfl
    have hM : ahead ++ (bytesL (done ++ s :: r) ++ (⟨#[0]⟩ ++ behind)) = ahead ++ (bytesL done ++ (labelB s ++ (bytesL r ++ (⟨#[0]⟩ ++ behind)))) := by
      rw [e1]
      exact str_ext (by simp)
    have hb : bAt (ahead ++ (bytesL (done ++ s :: r) ++ (⟨#[0]⟩ ++ behind))) (ahead.size + (bytesL done).size) = s.size := by
      rw [hM, bAt_app, show (bytesL done).size = (bytesL done).size + 0 from rfl, bAt_app, bAt_label _ _ (by omega)]
    have hsz : (ahead ++ (bytesL (done ++ s :: r) ++ (⟨#[0]⟩ ++ behind))).size = ahead.size + ((bytesL done).size + (1 + s.size + (bytesL r).size) + (1 + behind.size)) := by
      rw [ByteArray.size_append, ByteArray.size_append, e1, ByteArray.size_append, ByteArray.size_append, labelB_size, ByteArray.size_append]
      rfl
    have hx : (ahead ++ (bytesL (done ++ s :: r) ++ (⟨#[0]⟩ ++ behind))).extract (ahead.size + (bytesL done).size + 1) (ahead.size + (bytesL done).size + 1 + s.size) = s := by
      rw [hM, Nat.add_assoc ahead.size, Nat.add_assoc ahead.size, ext_app, Nat.add_assoc (bytesL done).size, ext_app, ext_label]
    have e2 : done ++ s :: r = (done ++ [s]) ++ r := by simp
    have e3 : (bytesL (done ++ [s])).size = (bytesL done).size + (1 + s.size) := by
      have : bytesL (done ++ [s]) = bytesL done ++ labelB s := by
        show (done ++ [s]).foldl _ _ = _
        rw [List.foldl_append]
        rfl
      rw [this, ByteArray.size_append, labelB_size]
    rw [rdP_step (mayGo_prefix _ _ _ h) (by omega) (by omega) (by omega) (by omega), hb, hx]
    have := ih (done ++ [s]) bd (by rw [← e2]; exact h)
    rw [← e2, e3] at this
    rw [show ahead.size + (bytesL done).size + 1 + s.size = ahead.size + ((bytesL done).size + (1 + s.size)) by omega]
    exact this
end Go.Proofs.YtfgkljjiopohgaaDoor
