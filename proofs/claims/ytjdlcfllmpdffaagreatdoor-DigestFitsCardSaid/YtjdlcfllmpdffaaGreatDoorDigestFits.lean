/- DigestFits is true of every input: the Digest of a store with so many records of the longest names, and all that is answered and given of it, can be encoded, in as many messages as are said. No condition; the package variables that it names are tied to the text. -/
import Derived.Test.YtjdlcfllmpdffaaGreatDoorMH
import Derived.Test.YtjdlcfllmpdffaaGreatDoorEA
import Derived.Test.YtjdlcfllmpdffaaGreatDoorMI
import Derived.Test.YtjdlcfllmpdffaaGreatDoorMJ
import Derived.Lib.SmallJoins
import Derived.Test.YtjdlcfllmpdffaaGreatDoorMA
import Derived.ChangeMaps5
import Derived.Test.YtjdlcfllmpdffaaGreatDoorCards
import Derived.Test.YtjdlcfllmpdffaaGreatDoorTie
/-! DigestFits, plainly: a store of so many records with the longest names. -/
namespace Go.Proofs.YtjdlcfllmpdffaaGreatDoor
open Go.Conc Go.RowKit

/-- The letters of the longest name; one is changed. -/
def longB (t : Nat) : ByteArray := ⟨("abcdefghijklmnopqrstuvwxyz0123456789-_abcdefghijklmnopqrstuvwx".toUTF8.data).setIfInBounds t 122⟩
theorem long_named : ∀ t, t < 62 → namedP (longB t) = true := by decide +kernel
theorem long_size (t : Nat) : (longB t).size = 62 := by
  show (Array.setIfInBounds _ _ _).size = 62
  rw [Array.size_setIfInBounds]
  rfl
def recF (t i : Nat) : RecT := ⟨keyB (65535 - i : Nat) (longB t), 18446744073709551615, (65535 - i : Nat), 0, false, dataS⟩
theorem recF_split (t i : Nat) (ht : t < 62) (hi : i < 48) : splitN (recF t i).key = (65535 - i : Nat) ∧ splitS (recF t i).key = longB t ∧ splitE (recF t i).key = 0 :=
  split_key (by unfold nodeB; simp; omega) (long_named t ht)
theorem recF_good (t i : Nat) (ht : t < 62) (hi : i < 48) : goodR (recF t i) = true := by
  obtain ⟨h1, _, h3⟩ := recF_split t i ht hi
  unfold goodR goodP
  rw [h1, h3]
  unfold recF
  simp only [Bool.and_eq_true, decide_eq_true_eq]
  refine ⟨⟨⟨⟨⟨rfl, by simp⟩, by decide⟩, by decide⟩, by decide⟩, rfl⟩
theorem recF_key (t i j : Nat) (ht : t < 62) (hi : i < 48) (hj : j < 48) (h : (recF t i).key = (recF t j).key) : i = j := by
  have h1 := (recF_split t i ht hi).1
  rw [h, (recF_split t j ht hj).1] at h1
  omega
/-- The store behind so many puts. -/
def fitL (t : Nat) : Nat → List RecT
  | 0 => []
  | i + 1 => putS 48 9 (fitL t i) (recF t i)
structure FitP (t n : Nat) : Prop where
  ok : StoreOk 48 9 (fitL t n)
  mem : ∀ x ∈ fitL t n, ∃ j, j < n ∧ x = recF t j
  len : (fitL t n).length = n
theorem fit_put {t n : Nat} (ht : t < 62) (hn : n < 48) (h : FitP t n) : putE 48 9 (fitL t n) (recF t n) = 0 := by
  have hf : findS (fitL t n) (recF t n).key = none := by
    cases hf : findS (fitL t n) (recF t n).key with
    | none => rfl
    | some y =>
      obtain ⟨h1, h2⟩ := findS_some hf
      obtain ⟨j, hj, rfl⟩ := h.mem y h1
      have := recF_key t j n ht (by omega) hn h2
      omega
  unfold putE
  rw [recF_good t n ht hn, if_neg (by decide), if_neg (by show ¬ (9 : Int) ≤ 0; omega), hf]
  exact if_neg (by have := h.len; omega)
theorem fit_all {t : Nat} (ht : t < 62) : ∀ n, n ≤ 48 → FitP t n
  | 0, _ => ⟨StoreOk.empty (by omega) (by omega) (by omega) (by omega), (fun _ h => by cases h), rfl⟩
  | n + 1, hn => by
    have h := fit_all ht n (by omega)
    have e := fit_put ht (by omega) h
    refine ⟨h.ok.put _, fun x hx => ?_, ?_⟩
    · rcases mem_put h.ok hx with hx | rfl
      · obtain ⟨j, hj, rfl⟩ := h.mem x hx
        exact ⟨j, by omega, rfl⟩
      · exact ⟨n, by omega, rfl⟩
    · show (putS 48 9 (fitL t n) (recF t n)).length = n + 1
      unfold putS
      rw [if_pos e, length_ins _ h.ok.rises]
      have hf : (findS (fitL t n) (recF t n).key).isSome = false := by
        cases hf : findS (fitL t n) (recF t n).key with
        | none => rfl
        | some y =>
          obtain ⟨h1, h2⟩ := findS_some hf
          obtain ⟨j, hj, rfl⟩ := h.mem y h1
          have := recF_key t j n ht (by omega) (by omega) h2
          omega
      rw [hf, h.len]
      rfl
theorem give_self {L : List RecT} (h : Rising L) : ∀ (M : List RecT) (seen : List ByteArray), (∀ x ∈ M, x ∈ L) → (M.Pairwise fun x y => x.key ≠ y.key) → (∀ x ∈ M, x.key ∉ seen) → giveA L seen (M.map toId) = M
  | [], _, _, _, _ => rfl
  | x :: M, seen, hs, hp, hn => by
    rw [List.map_cons]
    unfold giveA
    have hx := hn x (by simp)
    rw [if_neg (by simp only [List.any_eq_true, decide_eq_true_eq, not_exists, not_and]; exact fun y hy e => hx (by rw [← show y = x.key from e]; exact hy))]
    rw [show (toId x).1 = x.key from rfl, findS_mem h (hs x (by simp))]
    have hp' := List.pairwise_cons.1 hp
    rw [give_self h M (x.key :: seen) (fun y hy => hs y (by simp [hy])) hp'.2 (fun y hy hm => by
      rcases List.mem_cons.1 hm with e | hm
      · exact hp'.1 y hy e.symm
      · exact hn y (by simp [hy]) hm)]
    rfl
section
variable {t n : Nat}
theorem fit_sent (h : FitP t n) : sentL 9 (fitL t n) = (fitL t n).map sentR := by
  unfold sentL
  rw [List.filter_eq_self]
  intro x hx
  obtain ⟨y, hy, rfl⟩ := List.mem_map.1 hx
  obtain ⟨j, _, rfl⟩ := h.mem y hy
  rfl
theorem fit_give (h : FitP t n) : giveL (fitL t n) ((fitL t n).map toId) = fitL t n := give_self h.ok.rises _ [] (fun _ hx => hx) (rising_keys h.ok.rises) (fun _ _ hm => by cases hm)
theorem fit_newer : newerL (fitL t n) [] = fitL t n := by
  unfold newerL
  rw [List.filter_eq_self]
  intro x _
  rfl
theorem fit_wanted (I : List (ByteArray × Nat)) : wantedL [] I = I := by
  unfold wantedL
  rw [List.filter_eq_self]
  intro x _
  rfl
def fitI (t n : Nat) : List (ByteArray × Nat) := (fitL t n).map toId
/-- All that is told. -/
def fitM (t n : Nat) : List MsgT := answerM 9 [] (fitI t n) ++ answerM 9 (fitL t n) [] ++ packM 9 (sentL 9 (giveL (fitL t n) (fitI t n)))
theorem fit_len (h : FitP t n) : (fitM t n).length = 2 * ((n + 15) / 16) + if 0 < n then 1 else 0 := by
  unfold fitM answerM
  rw [fit_wanted, fit_newer, show newerL ([] : List RecT) (fitI t n) = [] from rfl, show wantedL (fitL t n) [] = [] from rfl, show fitI t n = (fitL t n).map toId from rfl, fit_give h, fit_sent h]
  have h1 : ∀ k (S : List RecT), (packM k S).length = (S.length + 15) / 16 := fun k S => by unfold packM; rw [List.length_map, List.length_range]
  have a1 : (wantM ((fitL t n).map toId)).length = if 0 < n then 1 else 0 := by
    unfold wantM
    rw [List.length_map, h.len]
    by_cases hn : n = 0
    · subst hn; rfl
    · rw [if_neg hn, if_pos (by omega)]; rfl
  simp only [List.length_append, h1, List.length_map, h.len, a1, show (wantM []).length = 0 from rfl, show (sentL 9 []).length = 0 from rfl]
  omega
theorem fit_ids (_ : t < 62) (_ : n ≤ 48) (h : FitP t n) : ∀ p ∈ fitI t n, p.1.size ≤ 64 := fun p hp => by
  obtain ⟨x, hx, rfl⟩ := List.mem_map.1 hp
  exact (good_right (h.ok.goods x hx).1).2.1
theorem may_ids (kind : Int) (hk : 1 ≤ kind ∧ kind ≤ 14) {I : List (ByteArray × Nat)} (hI : I.length ≤ 48) (hks : ∀ p ∈ I, p.1.size ≤ 64) : MayM ⟨kind, 0, 0, false, [], I, []⟩ ∧ (encL ⟨kind, 0, 0, false, [], I, []⟩).length ≤ 4096 := by
  refine ⟨⟨hk, ⟨by simp, by simp⟩, ⟨by simp, by simp⟩, by simp, by show I.length ≤ 64; omega, by simp, (fun _ h => by cases h), hks, (fun _ h => by cases h)⟩, ?_⟩
  have := encL_len ⟨kind, 0, 0, false, [], I, []⟩ rfl 64 10 hks (fun _ h => by cases h)
  simp only [List.length_nil] at this
  omega
theorem may_recs (kind : Int) (hk : 1 ≤ kind ∧ kind ≤ 14) {R : List RecT} (hR : R.length ≤ 16) (hg : ∀ x ∈ R, goodR x = true) : MayM ⟨kind, 0, 0, false, [], [], R⟩ ∧ (encL ⟨kind, 0, 0, false, [], [], R⟩).length ≤ 4096 := by
  refine ⟨⟨hk, ⟨by simp, by simp⟩, ⟨by simp, by simp⟩, by simp, by simp, hR, (fun _ h => by cases h), (fun _ h => by cases h), fun x hx => (good_right (hg x hx)).1⟩, ?_⟩
  have := encL_len ⟨kind, 0, 0, false, [], [], R⟩ rfl 64 10 (fun _ h => by cases h) (fun x hx => (good_right (hg x hx)).2)
  simp only [List.length_nil] at this
  omega
theorem may_pack (kind : Int) (hk : 1 ≤ kind ∧ kind ≤ 14) {S : List RecT} (hg : ∀ x ∈ S, goodR x = true) : ∀ m ∈ packM kind S, MayM m ∧ (encL m).length ≤ 4096 := fun m hm => by
  obtain ⟨i, _, rfl⟩ := List.mem_map.1 hm
  unfold chunkM
  exact may_recs kind hk (by rw [List.length_take]; omega) (fun x hx => hg x (List.mem_of_mem_drop (List.mem_of_mem_take hx)))
theorem sent_good {ttl : Int} (ht : ttl ≤ 65535) {l : List RecT} (h : ∀ x ∈ l, goodR x = true) : ∀ x ∈ sentL ttl l, goodR x = true := fun x hx => by
  obtain ⟨h1, h2⟩ := List.mem_filter.1 hx
  obtain ⟨y, hy, rfl⟩ := List.mem_map.1 h1
  have h2 : (sentR y).age < ttl := by simpa using h2
  exact good_sent (h y hy) (by omega)
theorem may_answer {ttl : Int} (ht : ttl ≤ 65535) {L : List RecT} (hL : ∀ x ∈ L, goodR x = true) {I : List (ByteArray × Nat)} (hI : I.length ≤ 48) (hks : ∀ p ∈ I, p.1.size ≤ 64) : ∀ m ∈ answerM ttl L I, MayM m ∧ (encL m).length ≤ 4096 := fun m hm => by
  unfold answerM at hm
  rcases List.mem_append.1 hm with hm | hm
  · unfold wantM at hm
    split at hm
    · cases hm
    · rw [List.mem_singleton] at hm
      subst hm
      exact may_ids 14 (by decide) (Nat.le_trans (List.length_filter_le _ _) hI) (fun p hp => hks p (List.mem_filter.1 hp).1)
  · exact may_pack 14 (by decide) (sent_good ht (fun x hx => hL x (List.mem_filter.1 hx).1)) m hm
theorem fit_may (ht : t < 62) (hn : n ≤ 48) (h : FitP t n) : ∀ m ∈ fitM t n, MayM m ∧ (encL m).length ≤ 4096 := fun m hm => by
  have hg : ∀ x ∈ fitL t n, goodR x = true := fun x hx => (h.ok.goods x hx).1
  unfold fitM at hm
  rcases List.mem_append.1 hm with hm | hm
  · rcases List.mem_append.1 hm with hm | hm
    · exact may_answer (by omega) (fun _ h => by cases h) (by unfold fitI; rw [List.length_map, h.len]; exact hn) (fit_ids ht hn h) m hm
    · exact may_answer (by omega) hg (by simp) (fun _ h => by cases h) m hm
  · exact may_pack 9 (by decide) (sent_good (by omega) (fun x hx => hg x ((give_mem _ _ []).2 x hx))) m hm
end
end Go.Proofs.YtjdlcfllmpdffaaGreatDoor
/-! The walk of bellhoplaw16.DigestFits. -/
namespace Go.Proofs.YtjdlcfllmpdffaaGreatDoor
open Go.Conc Go.RowKit Go.Maps

def longL : List UInt8 := "abcdefghijklmnopqrstuvwxyz0123456789-_abcdefghijklmnopqrstuvwx".toUTF8.data.toList
theorem long_vals (t : Nat) : (byteVals longL).set t (.int .u8 122) = byteVals (longB t).data.toList := by
  unfold byteVals longB longL
  rw [Array.toList_setIfInBounds, List.map_set]
  rfl
theorem long_byt {w : World} {B : Nat} {cs : Array Value} (h : w.heap[B]? = some (.cells cs 5 (62, 63))) (hc : cs = (byteVals longL).toArray) : Byt w B 62 (byteVals longL) := by
  subst hc
  exact ⟨_, h, by decide +kernel, by decide +kernel, by rw [show (byteVals longL).length = 62 by decide +kernel]; exact List.take_of_length_le (by decide +kernel)⟩
theorem fit_zero (t : Nat) : fitL t 0 = [] := rfl
theorem fit_put_r {t n : Nat} (ht : t < 62) (hn : n < 48) (h : FitP t n) : putR 48 9 (fitL t n) (recF t n) 0 = 0 := by
  unfold putR
  rw [fit_put ht hn h]
  rfl
set_option maxRecDepth 100000 in
set_option maxHeartbeats 8000000 in
theorem fits16_any (w : World) (m : Int) (hm : w.cell? ⟨0, 0, none⟩ = some (.int .i64 m)) (cnt trn : Nat) (hc : cnt < 256) (ht : trn < 256) :
    Calls Tryz.prog 4 #[.int .u8 cnt, .int .u8 trn] w fun e w' => e = .returned (.bool true) ∧ Only (fun _ => False) w w' := by
  obtain ⟨j0, hj0, jz0, jz1, jz2⟩ := info_parts infoMsg
  have hn0 : ((cnt : Int) % 49) = ((cnt % 49 : Nat) : Int) := by omega
  have hq0 : ((trn : Int) % 62) = ((trn % 62 : Nat) : Int) := by omega
  have hcv : ∀ (W : World) (C : Array Value), (convert 57 57 (.slice (some ⟨W.heap.size, 0, none⟩) 62 62)).run Tryz.prog (W.alloc (.cells C 5)) = .ok (.slice (some ⟨W.heap.size, 0, none⟩) 62 62) (W.alloc (.cells C 5 (C.size, C.size + 1))) := fun W C => Go.Joins.run_convert_bytes_const_at W 57 5 C 62 62 W.heap.size rfl Tryz.underlying57 Tryz.underlying5
  have h0 : 0 < w.heap.size := World.block_lt_of_cell? _ _ hm
  go_enter Tryz.func4, Tryz.ntmps4
  go_wp2_with fail
  refine (speaks16_any w m hm).mono ?_
  rintro e w1 ⟨rfl, ho1⟩
  have hm1 := ho1.cell hm id
  have HN1 := Lib.hid (snew_ok w1 48 9 (by decide) (by decide) (by decide) (by decide))
  have HO1 := Lib.hid ho1
  have HM1 := Lib.hid hm1
  clear ho1 hm1
  clear hm
  go_wp2_with fail
  refine HN1.out.mono ?_
  rintro e w2 ⟨rfl, ho2, hs2⟩
  have HN2 := Lib.hid (snew_ok w2 48 9 (by decide) (by decide) (by decide) (by decide))
  have HO2 := Lib.hid ho2
  have HS2 := Lib.hid hs2
  clear ho2 hs2
  clear HN1
  go_wp2_with fail
  refine HN2.out.mono ?_
  rintro e w3 ⟨rfl, ho3, hs3⟩
  have hsA := HS2.out.new ho3
  have hoA := (HO1.out.trans HO2.out).trans ho3
  have hmA := (HO2.out.trans ho3).cell HM1.out id
  have hsz12 : w1.heap.size + 1 ≠ 0 ∧ w1.heap.size ≠ 0 ∧ w1.heap.size + 1 < w2.heap.size ∧ w1.heap.size < w2.heap.size ∧ w.heap.size ≤ w1.heap.size + 1 ∧ w.heap.size ≤ w1.heap.size := by
    have h1 := HO1.out.size
    have h2 := HS2.out.lt
    omega
  have hsz3 := ho3.size
  have HSA := Lib.hid hsA
  have HSB := Lib.hid hs3
  have HOA := Lib.hid hoA
  have HMA := Lib.hid hmA
  have HSZ := Lib.hid hsz12
  clear hsA hs3 hoA hmA hsz12
  generalize w1.heap.size + 1 = s at *
  generalize w1.heap.size = b at *
  have hsz4 : w2.heap.size + 1 < w3.heap.size := HSB.out.lt.1
  have HSZ2 := Lib.hid (show (s < w2.heap.size ∧ b < w2.heap.size) ∧ s < w2.heap.size + 1 ∧ b < w2.heap.size + 1 by have := HSZ.out; omega)
  generalize w2.heap.size + 1 = s2 at *
  generalize w2.heap.size = b2 at *
  clear HN2 ho3 HO2 HS2 HO1 HM1 hsz3
  go_upto_region 9 with (fail)
  rw [hn0]
  generalize hnn : cnt % 49 = n at *
  generalize hqq : trn % 62 = q at *
  have hn48 : n ≤ 48 := by omega
  have hq62 : q < 62 := by omega
  generalize hV : w3.alloc (.cells #[.int .u8 97, .int .u8 98, .int .u8 99, .int .u8 100, .int .u8 101, .int .u8 102, .int .u8 103, .int .u8 104, .int .u8 105, .int .u8 106, .int .u8 107, .int .u8 108, .int .u8 109, .int .u8 110, .int .u8 111, .int .u8 112, .int .u8 113, .int .u8 114, .int .u8 115, .int .u8 116, .int .u8 117, .int .u8 118, .int .u8 119, .int .u8 120, .int .u8 121, .int .u8 122, .int .u8 48, .int .u8 49, .int .u8 50, .int .u8 51, .int .u8 52, .int .u8 53, .int .u8 54, .int .u8 55, .int .u8 56, .int .u8 57, .int .u8 45, .int .u8 95, .int .u8 97, .int .u8 98, .int .u8 99, .int .u8 100, .int .u8 101, .int .u8 102, .int .u8 103, .int .u8 104, .int .u8 105, .int .u8 106, .int .u8 107, .int .u8 108, .int .u8 109, .int .u8 110, .int .u8 111, .int .u8 112, .int .u8 113, .int .u8 114, .int .u8 115, .int .u8 116, .int .u8 117, .int .u8 118, .int .u8 119, .int .u8 120] 5 (62, 63)) = V
  have hoV : Only (fun _ => False) w3 V := by rw [← hV]; exact (Only.refl _ _).alloc _
  have hbV : V.heap[w3.heap.size]? = some (.cells #[.int .u8 97, .int .u8 98, .int .u8 99, .int .u8 100, .int .u8 101, .int .u8 102, .int .u8 103, .int .u8 104, .int .u8 105, .int .u8 106, .int .u8 107, .int .u8 108, .int .u8 109, .int .u8 110, .int .u8 111, .int .u8 112, .int .u8 113, .int .u8 114, .int .u8 115, .int .u8 116, .int .u8 117, .int .u8 118, .int .u8 119, .int .u8 120, .int .u8 121, .int .u8 122, .int .u8 48, .int .u8 49, .int .u8 50, .int .u8 51, .int .u8 52, .int .u8 53, .int .u8 54, .int .u8 55, .int .u8 56, .int .u8 57, .int .u8 45, .int .u8 95, .int .u8 97, .int .u8 98, .int .u8 99, .int .u8 100, .int .u8 101, .int .u8 102, .int .u8 103, .int .u8 104, .int .u8 105, .int .u8 106, .int .u8 107, .int .u8 108, .int .u8 109, .int .u8 110, .int .u8 111, .int .u8 112, .int .u8 113, .int .u8 114, .int .u8 115, .int .u8 116, .int .u8 117, .int .u8 118, .int .u8 119, .int .u8 120] 5 (62, 63)) := by rw [← hV]; exact heap_alloc_new w3 _
  have hbyt := long_byt hbV (by kernel_rfl)
  generalize hB : w3.heap.size = B at *
  have hlq : q < (byteVals longL).length := by rw [show (byteVals longL).length = 62 by decide +kernel]; exact hq62
  obtain ⟨u, hu⟩ : ∃ u, (byteVals longL)[q]? = some u := ⟨_, List.getElem?_eq_getElem hlq⟩
  have hcq := hbyt.cell hu
  have hfq := hbyt.free hlq
  have hst := hbyt.store q (.int .u8 122)
  rw [long_vals] at hst
  have hoW : Only (fun _ => False) w3 (V.setCell ⟨B, q, none⟩ (.int .u8 122)) := hoV.setCell (.inl (by show w3.heap.size ≤ B; omega)) _
  have HBYT := Lib.hid hst
  have HOW := Lib.hid hoW
  have HHV := Lib.hid hV
  have HHB := Lib.hid hB
  clear hst hoW hV hB
  have hqr : (0 : Int) ≤ (q : Int) := by omega
  have hq62' : (q : Int) < 62 := by omega
  clear hbyt hlq hu hoV hbV
  go_upto_block 0 with fail
  rw [hq0]
  clear hcq hfq hq0
  generalize V.setCell ⟨B, q, none⟩ (.int .u8 122) = V1 at *
  have HNQ := Lib.hid hn48
  have HFP := Lib.hid (fun i (hi : i ≤ n) => fit_all hq62 i (by omega))
  have hsB := HSA.out.new HOW.out
  have hsC := HSB.out.new HOW.out
  have hmB := HOW.out.cell HMA.out id
  have hoB := HOA.out.trans HOW.out
  have HBL := Lib.hid (show s < B ∧ b < B ∧ s2 < B ∧ b2 < B by have h1 := HSZ2.out; have h2 := HSB.out.lt; have h3 := HHB.out; omega)
  have HSA1 := Lib.hid hsB
  have HSB1 := Lib.hid hsC
  have HMA1 := Lib.hid hmB
  have HOB := Lib.hid hoB
  clear hsB hsC hmB hoB
  clear HSA HSB HMA HOA
  go_cut [11] (fun _ wx => Only (fun i => i = s ∨ i = b) V1 wx ∧ StoreAt wx s b 48 9 0 (fitL q n))
  case first =>
    go_wp2_with fail
    go_loopg [11] n (fun g v11 wr => ∃ i : Nat, v11 = .int .i64 i ∧ i ≤ n ∧ Only (fun i => i = s ∨ i = b) V1 wr ∧ StoreAt wr s b 48 9 0 (fitL q i) ∧ g = n - i)
    case atStart => exact ⟨0, rfl, Nat.zero_le _, Only.refl _ _, HSA1.out, rfl⟩
    case round =>
      obtain ⟨i, rfl, hi, ho, hst, hg⟩ := hrel
      have Hg := Lib.hid hg
      have HO := Lib.hid ho
      have HST := Lib.hid hst
      clear hg ho hst
      by_cases hlt : i < n
      · have hlt' : (i : Int) < (n : Int) := by omega
        have hF := HFP.out i hi
        have hE := fit_put hq62 (by omega) hF
        have hR0 := fit_put_r hq62 (by omega) hF
        have hcast : ((65535 - i : Nat) : Int) = 65535 - (i : Int) := by omega
        have hRT : recT (recF q i) = .agg #[.string (keyB (65535 - (i : Int)) (longB q)), .int .u64 18446744073709551615, .int .i64 (65535 - (i : Int)), .int .i64 0, .bool false, .string ⟨#[97, 98, 99, 100, 101, 102, 103, 104, 105, 106]⟩] := by
          unfold recT recF
          simp only [hcast]
          rfl
        have HPUT := Lib.hid (fun w' (hs : StoreAt w' s b 48 9 0 (fitL q i)) (hm : w'.cell? ⟨0, 0, none⟩ = some (.int .i64 m)) => sput_any w' s b 48 9 0 (fitL q i) hs (recF q i) m hm (by show (18446744073709551615 : Nat) < 2 ^ 64; omega) (by show (keyB _ _).size ≤ _; rw [keyB_size, long_size]; omega) (by omega) (by omega))
        unfold SPut at HPUT
        rw [hE, hR0, hRT] at HPUT
        have HKEY := Lib.hid (fun w => rkey_any w (65535 - (i : Int)) (longB q) (by omega) (by omega) (by rw [long_size]; omega))
        generalize keyB (65535 - (i : Int)) (longB q) = KB at *
        have hby := HBYT.out.kept HO.out (fun e => by have h1 := HBL.out; have e : B = s ∨ B = b := e; omega)
        have hsl := hby.sl (n := 62) (cap := 62) (by show 62 = (longB q).size; rw [long_size]) (by omega) (by unfold maxLen; omega)
        have hstr := run_bytes_str Tryz.underlying57 Tryz.underlying5 Tryz.underlying9 hsl
        rw [bytesOf_nat, show (⟨(longB q).data.toList.toArray⟩ : ByteArray) = longB q from str_ext (by simp)] at hstr
        have hw : IntKind.i64.wrap (65535 - (i : Int)) = 65535 - (i : Int) := by rw [IntKind.wrap_i64]; omega
        have HW2 := Lib.hid (show fitL q (i + 1) = putS 48 9 (fitL q i) (recF q i) from rfl)
        clear hby hsl hE hR0 hRT hcast hF
        go_wp2_with fail
        refine (HKEY.out _).mono ?_
        rintro e w6 ⟨rfl, ho6⟩
        have hm6 := ho6.cell (HO.out.cell HMA1.out (fun e => by have h1 := HSZ.out; have e : 0 = s ∨ 0 = b := e; omega)) id
        have hs6 := HST.out.new ho6
        have hoC := HO.out.trans (ho6.weaken (fun _ _ => False.elim))
        have HM6 := Lib.hid hm6
        have HS6 := Lib.hid hs6
        have HOC := Lib.hid hoC
        clear hm6 hs6 hoC
        clear ho6 hstr
        go_wp2_with fail
        refine (HPUT.out _ HS6.out HM6.out).mono ?_
        rintro e w7 ⟨rfl, ho7, hs7⟩
        rw [← HW2.out] at hs7
        have hoD := HOC.out.trans ho7
        have HS7 := Lib.hid hs7
        have HOD := Lib.hid hoD
        clear hs7 hoD
        clear ho7
        go_wp2_with fail
        go_roundg (n - (i + 1))
        case measure => rw [Hg.out]; omega
        case rel => exact ⟨i + 1, by go_num, by omega, HOD.out, HS7.out, rfl⟩
      · have hlt' : ¬ (i : Int) < (n : Int) := by omega
        have hs := HST.out
        rw [show i = n by omega] at hs
        have HSF := Lib.hid hs
        clear hs
        go_wp2_with fail
        go_meet
        exact ⟨HO.out, HSF.out⟩
  case rest =>
  obtain ⟨ho, hst⟩ := hcut
  generalize wc = w4 at *
  have hst2 : StoreAt w4 s2 b2 48 9 0 [] := HSB1.out.kept ho (fun e => by have h1 := HSZ2.out; have e : s2 = s ∨ s2 = b := e; omega) (fun e => by have h1 := HSZ2.out; have e : b2 = s ∨ b2 = b := e; omega)
  have hoA : Only (fun _ => False) w w4 := HOB.out.tr ho (fun i hi e => by have h1 := HSZ.out; have e : i = s ∨ i = b := e; omega)
  have hF := HFP.out n (Nat.le_refl _)
  have HASK := Lib.hid (dask_any w4 s b 48 9 0 (fitL q n) hst)
  have hLn := hF.len
  have hIn : (fitI q n).length = n := by unfold fitI; rw [List.length_map, hLn]
  obtain ⟨hMA, hML⟩ := may_ids 13 (by decide) (I := fitI q n) (by rw [hIn]; exact hn48) (fit_ids hq62 hn48 hF)
  have HKI := Lib.hid (fit_ids hq62 hn48 hF)
  have hmsg : askMsg (fitL q n) = ⟨13, 0, 0, false, [], fitI q n, []⟩ := rfl
  have HALL := Lib.hid (show fitM q n = answerM 9 [] (fitI q n) ++ answerM 9 (fitL q n) [] ++ packM 9 (sentL 9 (giveL (fitL q n) (fitI q n))) from rfl)
  have hfl := fit_len hF
  have HMAY := Lib.hid (fit_may hq62 hn48 hF)
  have hAG : AgeOk (fitL q n) := fun x hx => by have := hst.ok.ages x hx; omega
  have HAG := Lib.hid hAG
  clear hAG
  rw [hmsg] at HASK
  generalize fitL q n = L at *
  generalize fitI q n = I at *
  generalize fitM q n = ALL at *
  have HST := Lib.hid hst
  have HST2 := Lib.hid hst2
  have HOA := Lib.hid hoA
  have HMA := Lib.hid hMA
  have HML := Lib.hid hML
  have HLN := Lib.hid hLn
  have HIN := Lib.hid hIn
  have HFL := Lib.hid hfl
  clear hst hst2 hoA hMA hML hLn hIn hfl
  clear ho HSA1 HSB1 HOB HMA1 HBYT HOW hF hmsg HFP
  go_wp2_with fail
  refine HASK.out.mono ?_
  rintro e w5 ⟨v5, rfl, ho5, hq5⟩
  obtain ⟨vn, vi, vr, rfl, m1, m2, m3⟩ := hq5.out
  obtain ⟨na, nc, rfl, _⟩ := Sl.cells intC_length m1
  obtain ⟨ia, ic, rfl, _⟩ := Sl.cells idT_length m2
  obtain ⟨ra, rc, rfl, _⟩ := Sl.cells recC_length m3
  rw [HIN.out] at hq5 m2 ⊢
  simp only [List.length_nil] at hq5 ⊢
  obtain ⟨V5, hV5⟩ : ∃ V5, V5 = w5.alloc (.cells #[.int .i64 13, .int .i64 0, .int .i64 0, .bool false, .slice na 0 nc, .slice ia n ic, .slice ra 0 rc] 36) := ⟨_, rfl⟩
  have hbV5 : V5.heap[w5.heap.size]? = some (.cells #[.int .i64 13, .int .i64 0, .int .i64 0, .bool false, .slice na 0 nc, .slice ia n ic, .slice ra 0 rc] 36 (0, 0)) := by rw [hV5]; exact heap_alloc_new w5 _
  have hoV5 : Only (fun _ => False) w5 V5 := by rw [hV5]; exact (Only.refl _ _).alloc _
  have hsV5 : V5.heap.size = w5.heap.size + 1 := by rw [hV5]; simp
  have hq6 := hq5.new hoV5
  have hst6 := (HST.out.new ho5).new hoV5
  have hst62 := (HST2.out.new ho5).new hoV5
  have hoB := (HOA.out.trans ho5).trans hoV5
  have HENC := Lib.hid (mencode_any V5 _ _ hq6 HMA.out HML.out)
  have hI6 := m2.new hoV5
  have HQ6 := Lib.hid hq6
  have HST6 := Lib.hid hst6
  have HST62 := Lib.hid hst62
  have HOB := Lib.hid hoB
  have HBV := Lib.hid hbV5
  have HI6 := Lib.hid hI6
  clear hq6 hst6 hst62 hoB hbV5 hI6
  clear HASK HST HST2 HOA ho5 hq5 m1 m2 m3 hoV5 hsV5
  go_upto_region 16 with (fail)
  rw [← hV5]
  clear hV5
  generalize w5.heap.size = Q at *
  have x0 : V5.cell? ⟨Q, 0, none⟩ = some (.int .i64 13) := cell_at HBV.out 0
  have x1 : V5.cell? ⟨Q, 1, none⟩ = some (.int .i64 0) := cell_at HBV.out 1
  have x2 : V5.cell? ⟨Q, 2, none⟩ = some (.int .i64 0) := cell_at HBV.out 2
  have x3 : V5.cell? ⟨Q, 3, none⟩ = some (.bool false) := cell_at HBV.out 3
  have x4 : V5.cell? ⟨Q, 4, none⟩ = some (.slice na 0 nc) := cell_at HBV.out 4
  have x5 : V5.cell? ⟨Q, 5, none⟩ = some (.slice ia n ic) := cell_at HBV.out 5
  have x6 : V5.cell? ⟨Q, 6, none⟩ = some (.slice ra 0 rc) := cell_at HBV.out 6
  go_wp2_with fail
  refine HENC.out.mono ?_
  rintro e w6 ⟨rfl, ho6⟩
  have hb6 := ho6.old HBV.out id
  have HA1 := Lib.hid (answer_any w6 s2 b2 48 9 0 [] (HST62.out.new ho6) _ _ (HQ6.out.new ho6) (by show I.length ≤ _; have := HIN.out; omega) (fun p hp => by have h1 := HKI.out p hp; unfold maxLen; omega))
  have hst7 := HST6.out.new ho6
  have hoC := HOB.out.trans ho6
  have hI7 := HI6.out.new ho6
  have HB6 := Lib.hid hb6
  have HST7 := Lib.hid hst7
  have HOC := Lib.hid hoC
  have HI7 := Lib.hid hI7
  clear hb6 hst7 hoC hI7
  clear x0 x1 x2 x3 x4 x5 x6 HENC HQ6 HST6 HST62 HOB HBV HI6 ho6
  have x0 : w6.cell? ⟨Q, 0, none⟩ = some (.int .i64 13) := cell_at HB6.out 0
  have x1 : w6.cell? ⟨Q, 1, none⟩ = some (.int .i64 0) := cell_at HB6.out 1
  have x2 : w6.cell? ⟨Q, 2, none⟩ = some (.int .i64 0) := cell_at HB6.out 2
  have x3 : w6.cell? ⟨Q, 3, none⟩ = some (.bool false) := cell_at HB6.out 3
  have x4 : w6.cell? ⟨Q, 4, none⟩ = some (.slice na 0 nc) := cell_at HB6.out 4
  have x5 : w6.cell? ⟨Q, 5, none⟩ = some (.slice ia n ic) := cell_at HB6.out 5
  have x6 : w6.cell? ⟨Q, 6, none⟩ = some (.slice ra 0 rc) := cell_at HB6.out 6
  go_wp2_with fail
  refine HA1.out.mono ?_
  rintro e w7 ⟨v7, rfl, ho7, hr7⟩
  have hM2 : MsgIs w7 (.agg #[.int .i64 13, .int .i64 0, .int .i64 0, .bool false, .slice none 0 0, .slice none 0 0, .slice none 0 0]) ⟨13, 0, 0, false, [], [], []⟩ := ⟨_, _, _, rfl, Sl.nil _ _, Sl.nil _ _, Sl.nil _ _⟩
  have HA2 := Lib.hid (answer_any w7 s b 48 9 0 L (HST7.out.new ho7) _ _ hM2 (by simp) (fun p hp => by cases hp))
  have HR7 := Lib.hid hr7
  have HO67 := Lib.hid ho7
  clear hr7 ho7
  have hb7 := HO67.out.old HB6.out id
  have hst8 := HST7.out.new HO67.out
  have HB7 := Lib.hid hb7
  clear hb7
  clear x0 x1 x2 x3 x4 x5 x6 HA1 hM2 hst8
  obtain ⟨P1, hP1, hown1, heach1⟩ := HR7.out.out
  obtain ⟨pa, pcap, rfl, _⟩ := Sl.cells cellsM_length (Sl.of_owns hown1)
  have HP1 := Lib.hid hP1
  have HOWN1 := Lib.hid hown1
  have HE1 := Lib.hid heach1
  clear hP1 hown1 heach1
  go_wp2_with fail
  refine HA2.out.mono ?_
  rintro e w8 ⟨v8, rfl, ho8, hr8⟩
  obtain ⟨P2, hP2, hown2, heach2⟩ := hr8.out
  have hsrc2 := Sl.src (P := Tryz.prog) (tx := 30) Tryz.underlying30 (Sl.of_owns hown2) (fun u hu => by
    obtain ⟨p, hp, hu2⟩ := List.mem_flatMap.1 hu
    exact (heach2 p hp).one u hu2)
  obtain ⟨pb, pcb, rfl, _⟩ := Sl.cells cellsM_length (Sl.of_owns hown2)
  have hlens : P1.length + P2.length ≤ 100 := by
    have h1 := HFL.out
    rw [HALL.out, List.length_append, List.length_append, ← HP1.out, ← hP2, List.length_map, List.length_map] at h1
    split at h1 <;> omega
  have HE1' := Lib.hid (fun p hp => (HE1.out p hp).only ho8 (fun _ _ => id))
  have HE2' := Lib.hid (fun p hp => (heach2 p hp).base HO67.out.size)
  have hown1' := owns_only HOWN1.out ho8 (fun _ _ => id)
  have ho68 := HO67.out.trans ho8
  have HP2 := Lib.hid hP2
  have HOWN1B := Lib.hid hown1'
  have HSRC2 := Lib.hid hsrc2
  have HLENS := Lib.hid hlens
  have HO68 := Lib.hid ho68
  clear hP2 hown1' hsrc2 hlens ho68
  clear HA2 HR7 HB7 ho8 hr8 hown2 heach2 HOWN1
  go_wp2_with (at_builtin; refine Wait.mk ?_)
  refine Wait.go (wpList_append_src _ rfl (.tmp 72) (.tmp 75) 30 30 rfl w6.heap.size 36 j0 _ 7 104 Tryz.underlying30 hj0 jz0 jz1 jz2 rfl _ P1.length (P1.flatMap cellsM) rfl ?own5 _ P2.length (P2.flatMap cellsM) rfl ?src5 ?m5 ?b5 ?base5 ?_)
  case own5 => exact HOWN1B.out
  case src5 => exact HSRC2.out
  case m5 => have := HLENS.out; unfold maxLen; omega
  case b5 => have := HLENS.out; omega
  case base5 => exact HO68.out.size
  intro v9 w9 own9 gr9 _
  have ho69 : Only (fun _ => False) w6 w9 := HO68.out.own HOWN1B.out (Nat.le_refl _) gr9
  have hrow9 := msgRow_append HP1.out HP2.out HOWN1B.out HE1'.out HE2'.out own9 gr9
  obtain ⟨P3, hP3, hown3, heach3⟩ := hrow9.out
  have hP3l : P3.length = P1.length + P2.length := by
    have h1 := congrArg List.length hP3
    rw [← HP1.out, ← HP2.out] at h1
    simpa using h1
  obtain ⟨pd, pcd, rfl, _⟩ := Sl.cells cellsM_length (Sl.of_owns hown3)
  have hb9 := ho69.old HB6.out id
  have hst9 := HST7.out.new ho69
  have hI9 := HI7.out.new ho69
  have HGV := Lib.hid (give_any w9 (.pointer (some ⟨s, 0, none⟩)) 9 9 L hst9.ttl hst9.gets HAG.out (.slice ia n ic) I (by have h1 := hI9; rw [HIN.out]; exact h1) (by have := HIN.out; omega) (fun p hp => by have h1 := HKI.out p hp; unfold maxLen; omega))
  have HP3 := Lib.hid hP3
  have HOWN3 := Lib.hid hown3
  have HE3 := Lib.hid heach3
  have HB9 := Lib.hid hb9
  have HO69 := Lib.hid ho69
  have HP3L := Lib.hid hP3l
  clear hP3 hown3 heach3 hb9 ho69 hP3l
  clear own9 gr9 hrow9 hst9 hI9 HOWN1B HE1' HE2' HSRC2
  have x0 : w9.cell? ⟨Q, 0, none⟩ = some (.int .i64 13) := cell_at HB9.out 0
  have x1 : w9.cell? ⟨Q, 1, none⟩ = some (.int .i64 0) := cell_at HB9.out 1
  have x2 : w9.cell? ⟨Q, 2, none⟩ = some (.int .i64 0) := cell_at HB9.out 2
  have x3 : w9.cell? ⟨Q, 3, none⟩ = some (.bool false) := cell_at HB9.out 3
  have x4 : w9.cell? ⟨Q, 4, none⟩ = some (.slice na 0 nc) := cell_at HB9.out 4
  have x5 : w9.cell? ⟨Q, 5, none⟩ = some (.slice ia n ic) := cell_at HB9.out 5
  have x6 : w9.cell? ⟨Q, 6, none⟩ = some (.slice ra 0 rc) := cell_at HB9.out 6
  go_wp2_with fail
  refine HGV.out.mono ?_
  rintro e wa ⟨va, rfl, hoa, hra⟩
  obtain ⟨P4, hP4, hown4, heach4⟩ := hra.out
  have hsrc4 := Sl.src (P := Tryz.prog) (tx := 30) Tryz.underlying30 (Sl.of_owns hown4) (fun u hu => by
    obtain ⟨p, hp, hu2⟩ := List.mem_flatMap.1 hu
    exact (heach4 p hp).one u hu2)
  obtain ⟨pe, pce, rfl, _⟩ := Sl.cells cellsM_length (Sl.of_owns hown4)
  have hlens4 : P1.length + P2.length + P4.length = 2 * ((n + 15) / 16) + if 0 < n then 1 else 0 := by
    have h1 := HFL.out
    rw [HALL.out, List.length_append, List.length_append, ← HP1.out, ← HP2.out, ← hP4, List.length_map, List.length_map, List.length_map] at h1
    exact h1
  have hlens5 : P1.length + P2.length + P4.length ≤ 100 := by
    rw [hlens4]
    split <;> omega
  have HE3' := Lib.hid (fun p hp => (HE3.out p hp).only hoa (fun _ _ => id))
  have HE4' := Lib.hid (fun p hp => (heach4 p hp).base HO69.out.size)
  have hown3' := owns_only HOWN3.out hoa (fun _ _ => id)
  have ho6a := HO69.out.trans hoa
  have HP4 := Lib.hid hP4
  have HOWN3B := Lib.hid hown3'
  have HSRC4 := Lib.hid hsrc4
  have HL4 := Lib.hid hlens4
  have HL5 := Lib.hid hlens5
  have HO6A := Lib.hid ho6a
  clear hP4 hown3' hsrc4 hlens4 hlens5 ho6a
  clear x0 x1 x2 x3 x4 x5 x6 HGV hoa hra hown4 heach4 HOWN3 HE3
  go_wp2_with (at_builtin; refine Wait.mk ?_)
  refine Wait.go (wpList_append_src _ rfl (.tmp 77) (.tmp 81) 30 30 rfl w6.heap.size 36 j0 _ 7 104 Tryz.underlying30 hj0 jz0 jz1 jz2 rfl _ P3.length (P3.flatMap cellsM) rfl ?own6 _ P4.length (P4.flatMap cellsM) rfl ?src6 ?m6 ?b6 ?base6 ?_)
  case own6 => exact HOWN3B.out
  case src6 => exact HSRC4.out
  case m6 => have := HL5.out; have := HP3L.out; unfold maxLen; omega
  case b6 => have := HL5.out; have := HP3L.out; omega
  case base6 => exact HO6A.out.size
  intro vb wb ownb grb _
  have ho6b : Only (fun _ => False) w6 wb := HO6A.out.own HOWN3B.out (Nat.le_refl _) grb
  have hrowb := msgRow_append HP3.out HP4.out HOWN3B.out HE3'.out HE4'.out ownb grb
  rw [← HALL.out] at hrowb
  obtain ⟨PB, hPB, hownB, heachB⟩ := hrowb.out
  have hPBl : PB.length = P1.length + P2.length + P4.length := by
    have h1 := congrArg List.length hPB
    rw [HALL.out, ← HP1.out, ← HP2.out, ← HP4.out] at h1
    simpa [Nat.add_assoc] using h1
  obtain ⟨pf, pcf, rfl, _, hcapB, hcB⟩ := Sl.cells cellsM_length (Sl.of_owns hownB)
  rw [hPBl]
  have hbB := ho6b.old HB6.out id
  have hoF := HOC.out.trans ho6b
  generalize hT : P1.length + P2.length + P4.length = T at *
  unfold maxLen at hcapB
  have HPB := Lib.hid hPB
  have HEB := Lib.hid heachB
  have HCB := Lib.hid hcB
  have HBB := Lib.hid hbB
  have HOF := Lib.hid hoF
  have HTT := Lib.hid hPBl
  clear hPB heachB hcB hbB hoF hPBl
  clear ownb grb hrowb hownB HOWN3B HE3' HE4' HSRC4 ho6b HP1 HP2 HP3 HP4 HALL HO6A HO69 HO68 HB9 HP3L hT
  go_upto_block 2 with fail
  go_cut [16] (fun _ wx => Only (fun _ => False) wb wx)
  case first =>
    go_wp2_with fail
    go_loopg [16] T (fun g v16 wr => ∃ k : Nat, v16 = .int .i64 k ∧ k ≤ T ∧ Only (fun _ => False) wb wr ∧ g = T - k)
    case atStart => exact ⟨0, rfl, Nat.zero_le _, Only.refl _ _, rfl⟩
    case round =>
      obtain ⟨k, rfl, hk, ho, hg⟩ := hrel
      have Hg := Lib.hid hg
      have HO := Lib.hid ho
      clear hg ho
      by_cases hlt : k < T
      · have hltP : k < PB.length := by have := HTT.out; omega
        obtain ⟨lb, off, rfl, hcc⟩ := HCB.out.at k hltP
        have hcr : ∀ i u, (cellsM PB[k])[i]? = some u → wr.cell? ⟨lb, off + k * 7 + i, none⟩ = some u := fun i u hu => HO.out.cell (hcc i u hu) id
        have hme := (HEB.out _ (List.getElem_mem hltP)).is.new HO.out
        obtain ⟨hmy1, hmy2⟩ := HMAY.out PB[k].1 (by rw [← HPB.out]; exact List.mem_map.2 ⟨_, List.getElem_mem hltP, rfl⟩)
        have HEN := Lib.hid (mencode_any wr _ _ hme hmy1 hmy2)
        generalize PB[k] = pk at *
        obtain ⟨mm, un, ui, ur⟩ := pk
        unfold cellsM at HEN hcr
        simp only at HEN hcr
        generalize mm.kind = c0 at *
        generalize mm.node = c1 at *
        generalize mm.walk = c2 at *
        generalize mm.high = c3 at *
        have y0 := hcr 0 _ rfl
        have y1 := hcr 1 _ rfl
        have y2 := hcr 2 _ rfl
        have y3 := hcr 3 _ rfl
        have y4 := hcr 4 _ rfl
        have y5 := hcr 5 _ rfl
        have y6 := hcr 6 _ rfl
        simp only [Nat.add_zero] at y0
        have hlt' : (k : Int) < (T : Int) := by omega
        have hk0 : (0 : Int) ≤ (k : Int) := by omega
        clear hcc hcr hme hmy1 hmy2
        go_wp2_with fail
        refine HEN.out.mono ?_
        rintro e w2' ⟨rfl, ho2⟩
        have hoG := HO.out.trans ho2
        have HOG := Lib.hid hoG
        clear hoG
        clear ho2 HEN y0 y1 y2 y3 y4 y5 y6
        go_wp2_with fail
        go_roundg (T - (k + 1))
        case measure => rw [Hg.out]; omega
        case rel => exact ⟨k + 1, by go_num, by omega, HOG.out, rfl⟩
      · have hlt' : ¬ (k : Int) < (T : Int) := by omega
        go_wp2_with fail
        go_meet
        exact HO.out
  case rest =>
  generalize wc = wz at *
  have hbz := hcut.old HBB.out id
  have hoZ := HOF.out.trans hcut
  have x5 : wz.cell? ⟨Q, 5, none⟩ = some (.slice ia n ic) := cell_at hbz 5
  have hTn : (T : Int) = 2 * (((n : Int) + 15) / 16) + if 0 < n then 1 else 0 := by
    have h1 := HL4.out
    rw [h1]
    split <;> omega
  have HOZ := Lib.hid hoZ
  have HTN := Lib.hid hTn
  clear hoZ hTn
  clear hcut hbz HOF HBB HCB
  have hw1 : IntKind.i64.wrap ((n : Int) + 15) = (n : Int) + 15 := by rw [IntKind.wrap_i64]; omega
  have hw2 : IntKind.i64.wrap (2 * (((n : Int) + 15) / 16)) = 2 * (((n : Int) + 15) / 16) := by rw [IntKind.wrap_i64]; omega
  have hnn0 : (0 : Int) ≤ (n : Int) + 15 := by omega
  have hw3 : IntKind.i64.wrap (((n : Int) + 15) / 16) = ((n : Int) + 15) / 16 := by rw [IntKind.wrap_i64]; omega
  by_cases hn0' : 0 < n
  · have hTn := HTN.out
    rw [if_pos hn0'] at hTn
    have hgt : (n : Int) > 0 := by omega
    have hw4 : IntKind.i64.wrap (2 * (((n : Int) + 15) / 16) + 1) = 2 * (((n : Int) + 15) / 16) + 1 := by rw [IntKind.wrap_i64]; omega
    have hte : ((T : Int) == 2 * (((n : Int) + 15) / 16) + 1) = true := by simpa using hTn
    clear hTn
    go_wp2_with fail
    go_ret
    exact ⟨rfl, HOZ.out⟩
  · have hTn := HTN.out
    rw [if_neg hn0', Int.add_zero] at hTn
    have hgt : ¬ (n : Int) > 0 := by omega
    have hte : ((T : Int) == 2 * (((n : Int) + 15) / 16)) = true := by simpa using hTn
    clear hTn
    go_wp2_with fail
    go_ret
    exact ⟨rfl, HOZ.out⟩
end Go.Proofs.YtjdlcfllmpdffaaGreatDoor
/-! DigestFits is true of every input: the Digest of a store with so many records of the longest names, and all that is answered and given of it, can be encoded, in as many messages as are said. No condition; the package variables that it names are tied to the text. -/
namespace Go.Proofs.YtjdlcfllmpdffaaGreatDoor.fitsLaw
open Go.Conc Go.RowKit Go.ChangeShapes Go.WideShapes Go.ChangeAt Go.ChangeMaps

theorem reads : ∀ t ∈ Tryz.f4.params.toList, Tryz.prog.readableRec t = true ∧ t < Tryz.prog.types.size := by
  intro t ht
  have h1 : ([5, 5].all fun u => Tryz.prog.readableRec u && decide (u < Tryz.prog.types.size)) = true := by kernel_rfl
  rw [Tryz.params4] at ht
  have := List.all_eq_true.1 h1 t ht
  simpa using this
set_option maxRecDepth 100000 in
theorem lifted (os : Os) (started : os.Started) (H : Type) (enc : TypeId × Value → H) :
    ReturnsInHanded {} Tryz.checked os 4 .any (fun w args => (Rows.digestFitsSpec.pre enc Tryz.prog Tryz.f4 Rows.digestFitsRow.domain false w args ∧ laidMetH Tryz.prog Rows.digestFitsRow.laid w) ∧ sizedMet enc Tryz.prog Tryz.f4 (OpenSpec.ofChange Rows.digestFitsSpec) false w args)
      (Rows.digestFitsSpec.post enc Tryz.prog Tryz.f4 false true false false) := by
  refine returns_laid (C := Tryz.checked) (X := fun w _ => laidMetH Tryz.prog Rows.digestFitsRow.laid w) (fun _ _ _ hh h => h.of_heap hh) ownD started (by kernel_rfl) Tryz.func4
    (ChangeSpec.witness_shaped (enc := enc) (C := Tryz.checked) (os := os) (X := fun w _ => laidMetH Tryz.prog Rows.digestFitsRow.laid w) false (World.laidAll Tryz.prog os Rows.digestFitsRow.laid) #[.int .u8 0, .int .u8 0] 8 (World.laidAll_os _ _ _)
      (World.shaped_of_ZipB (by kernel_rfl) (by kernel_rfl)) (by kernel_rfl) (by kernel_rfl) (by kernel_rfl)
      (by rw [MakeChecks.laidMetH_plain _ _ _ (by kernel_rfl)]; exact laidMet_laidAll _ (by kernel_rfl) (by kernel_rfl))) ?_
  intro W base args ds gs before hval0 hW _ hsh
  have hval : ∀ (j : Nat) t v, Tryz.f4.params[j]? = some t → args[j]? = some v → Value.okWide Tryz.prog W .any base t v := hval0
  have hW' := hW
  obtain ⟨m0, hm0⟩ := maxLen_cell W hsh
  obtain ⟨p, q, hA0, hV, rfl, _, _⟩ := hW
  have hA : DataW.TrodAll enc Tryz.prog W 0 (fun _ => true) true Tryz.f4.params.toList args.toList ds p := hA0
  rw [Tryz.params4] at hA hval
  obtain ⟨v0, vs0, d0, ds0, p0, q0, hargs, rfl, rfl, h0, r0⟩ := trodAll_cons hA
  obtain ⟨v1, vs1, d1, ds1, p1, q1, rfl, rfl, rfl, h1, r1⟩ := trodAll_cons r0
  obtain ⟨rfl, rfl, rfl⟩ := trodAll_nil r1
  obtain rfl : args = #[v0, v1] := by cases args; simp_all
  obtain ⟨x0, rfl, rfl, rfl, b0⟩ := open_int Tryz.underlying5 (hval 0 5 v0 rfl rfl) h0
  obtain ⟨n0, rfl, w0⟩ := nat_u8 b0
  obtain ⟨x1, rfl, rfl, rfl, b1⟩ := open_int Tryz.underlying5 (hval 1 5 v1 rfl rfl) h1
  obtain ⟨n1, rfl, w1⟩ := nat_u8 b1
  obtain ⟨rfl, rfl⟩ := trodVars_none hV
  refine (fits16_any W m0 hm0 n0 n1 w0 w1).mono fun e W' ⟨he, ho⟩ => ?_
  subst he
  exact ⟨_, rfl, law_post hW' (ho.below (Nat.le_refl _) (fun _ _ => id)) laidOutD reads rfl Tryz.underlying4 rfl rfl rfl rfl⟩

theorem said : Rows.DigestFitsSaid :=
  OpenClaim.holds_of_wide 4 Tryz.f4 rfl rfl rfl rfl rfl rfl rfl ⟨rfl, rfl, rfl, rfl, rfl⟩ rfl rfl rfl rfl rfl (by kernel_rfl) Tryz.func4 (by kernel_rfl)
    (of_decide_eq_true (by kernel_rfl)) (by unfold Func.isWrapper; first | (rw [if_pos (by decide +kernel)]; kernel_rfl) | (rw [if_neg (by decide +kernel)]; exact ⟨rfl, rfl⟩))
    (fun os started H enc _ => lifted os started H enc)
theorem looks (f : FuncId) (fn : Func) (hf : Tryz.pinned.checked.prog.funcNamed "bellhop/bellhoplaw16.DigestFits" = some f) (hfn : Tryz.pinned.checked.prog.funcs[f]? = some fn) :
    true = Tryz.pinned.checked.prog.looks [] ∧ ∀ (j : Nat) t, fn.params[j]? = some t → Tryz.pinned.checked.prog.wantsStandIn t = false := by
  obtain rfl : f = 4 := Option.some.inj ((show Tryz.prog.funcNamed "bellhop/bellhoplaw16.DigestFits" = some 4 by kernel_rfl).symm.trans hf) |>.symm
  obtain rfl : fn = Tryz.f4 := (Option.some.inj (Tryz.func4.symm.trans hfn)).symm
  refine ⟨by kernel_rfl, fun j t ht => ?_⟩
  rw [Tryz.params4] at ht
  have hm : t ∈ [5, 5] := by simpa using Array.mem_of_getElem? ht
  have hall : ([5, 5].all fun u => !Tryz.prog.wantsStandIn u) = true := by kernel_rfl
  exact (show Tryz.prog.wantsStandIn t = false by simpa using List.all_eq_true.1 hall t hm)
theorem card : Rows.DigestFitsCardSaid :=
  Claim7.holds_tied_plain_at .later [] _ _ _ _ said (fun _ h => by cases h) (by kernel_rfl) (fun _ h => by cases h) digestFits_row_tie rfl ⟨rfl, rfl⟩ (by kernel_rfl) rfl looks (by kernel_rfl)
#print axioms card
end Go.Proofs.YtjdlcfllmpdffaaGreatDoor.fitsLaw
