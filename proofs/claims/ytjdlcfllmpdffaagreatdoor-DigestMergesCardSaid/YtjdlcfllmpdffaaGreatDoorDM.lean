/- DigestMerges, plainly: what the stores hold while the answer's messages come. -/
import Derived.Test.YtjdlcfllmpdffaaGreatDoorMH
import Derived.Test.YtjdlcfllmpdffaaGreatDoorMJ
import Derived.Test.YtjdlcfllmpdffaaGreatDoorMC
import Derived.Test.YtjdlcfllmpdffaaGreatDoorEA
import Derived.Test.YtjdlcfllmpdffaaGreatDoorMI
/-! DigestMerges, plainly: the stores that are made, and what they have behind an answer. -/
namespace Go.Proofs.YtjdlcfllmpdffaaGreatDoor
open Go.Conc Go.RowKit

theorem rec16_split (a : RecA) : splitN (rec16 a).key = ((1 + a.org % 4 : Nat) : Int) ∧ splitS (rec16 a).key = nameB (a.nm % 4) ∧ splitE (rec16 a).key = 0 := by
  have := split_key (o := 1 + a.org % 4) (name := nameB (a.nm % 4)) (by unfold nodeB; simp; omega) (name_named a.nm)
  have e : (rec16 a).key = keyB ((1 + a.org % 4 : Nat) : Int) (nameB (a.nm % 4)) := by
    show keyB (1 + ((a.org % 4 : Nat) : Int)) _ = _
    congr 1
  rw [e]
  exact this
theorem rec16_good2 (a : RecA) : goodR (rec16 a) = true := by
  obtain ⟨h1, _, h3⟩ := rec16_split a
  unfold goodR goodP
  rw [h1, h3]
  unfold rec16
  simp only [Bool.and_eq_true, decide_eq_true_eq]
  refine ⟨⟨⟨⟨⟨rfl, by simp⟩, by omega⟩, by omega⟩, by omega⟩, ?_⟩
  unfold data16
  by_cases h : a.cnt % 4 = 3 <;> simp [h] <;> decide
theorem rec16_key16 (a : RecA) : (rec16 a).key ∈ keys16 := by
  unfold keys16
  rw [List.mem_flatMap]
  refine ⟨1 + a.org % 4, ?_, ?_⟩
  · have : a.org % 4 = 0 ∨ a.org % 4 = 1 ∨ a.org % 4 = 2 ∨ a.org % 4 = 3 := by omega
    rcases this with h | h | h | h <;> rw [h] <;> simp
  · rw [List.mem_map]
    refine ⟨a.nm % 4, ?_, ?_⟩
    · have : a.nm % 4 = 0 ∨ a.nm % 4 = 1 ∨ a.nm % 4 = 2 ∨ a.nm % 4 = 3 := by omega
      rcases this with h | h | h | h <;> rw [h] <;> simp
    · show keyB ((1 + a.org % 4 : Nat) : Int) _ = keyB (1 + ((a.org % 4 : Nat) : Int)) _
      congr 1
theorem rec16_one (a b : RecA) (ha : rowA a) (hb : rowA b) (hk : (rec16 a).key = (rec16 b).key) (hv : (rec16 a).ver = (rec16 b).ver) : cz (rec16 a) = cz (rec16 b) := by
  have h1 := (rec16_split a).1
  rw [hk, (rec16_split b).1] at h1
  obtain ⟨_, _, _, ca, _⟩ := ha
  obtain ⟨_, _, _, cb, _⟩ := hb
  have hv' : (1 + a.life % 2) * 4294967296 + a.cnt = (1 + b.life % 2) * 4294967296 + b.cnt := hv
  have hc : a.cnt = b.cnt := by omega
  have ho : a.org % 4 = b.org % 4 := by omega
  unfold cz
  refine RecT.ext' hk hv ?_ rfl ?_ ?_
  · show 1 + ((a.org % 4 : Nat) : Int) = 1 + ((b.org % 4 : Nat) : Int)
    rw [ho]
  · show decide (a.cnt % 4 = 3) = decide (b.cnt % 4 = 3)
    rw [hc]
  · show data16 (decide (a.cnt % 4 = 3)) = data16 (decide (b.cnt % 4 = 3))
    rw [hc]
structure MdP (L : List RecT) : Prop where
  ok : StoreOk 48 200 L
  all : AllB keys16 119 L
  from' : ∀ x ∈ L, ∃ a, rowA a ∧ x = rec16 a
theorem MdP.age {L : List RecT} (h : MdP L) : ∀ x ∈ L, 0 ≤ x.age := fun x hx => by
  obtain ⟨a, _, rfl⟩ := h.from' x hx
  show (0 : Int) ≤ ((a.age % 120 : Nat) : Int)
  omega
theorem made_p (l : List RecA) (hl : ∀ a ∈ l, rowA a) : MdP (madeL 200 l 30) := by
  have h0 : StoreOk 48 200 [] := StoreOk.empty (by omega) (by omega) (by omega) (by omega)
  have hf : ∀ x ∈ madeL 200 l 30, ∃ a, rowA a ∧ x = rec16 a := fun x hx => by
    rcases take_mem _ h0 hx with h | h
    · cases h
    · obtain ⟨a, ha, rfl⟩ := List.mem_map.1 h
      exact ⟨a, hl a (List.mem_of_mem_take ha), rfl⟩
  refine ⟨takes_ok _ h0, fun x hx => ?_, hf⟩
  obtain ⟨a, _, rfl⟩ := hf x hx
  refine ⟨rec16_good2 a, rec16_key16 a, ?_⟩
  show ((a.age % 120 : Nat) : Int) ≤ 119
  omega
theorem MdP.xch {A B : List RecT} (ha : MdP A) (hb : MdP B) : Xch keys16 119 200 A B := ⟨ha.ok, hb.ok, ha.all, hb.all, ha.age, hb.age, by decide, by decide⟩
theorem MdP.same {A B : List RecT} (ha : MdP A) (hb : MdP B) : (xchA 200 A B).map cz = (xchB 200 A B).map cz := by
  refine (ha.xch hb).same (fun x y hx hy hk hv => ?_)
  obtain ⟨a, pa, rfl⟩ := hx.elim (ha.from' x) (hb.from' x)
  obtain ⟨b, pb, rfl⟩ := hy.elim (ha.from' y) (hb.from' y)
  exact rec16_one a b pa pb hk hv
end Go.Proofs.YtjdlcfllmpdffaaGreatDoor
/-! DigestFits, plainly: a store of so many records with the longest names. -/
namespace Go.Proofs.YtjdlcfllmpdffaaGreatDoor
open Go.Conc Go.RowKit

/-- The letters of the longest name; one is changed. -/
def longB (t : Nat) : ByteArray := ⟨("abcdefghijklmnopqrstuvwxyz0123456789-_abcdefghijklmnopqrstuvwx".toUTF8.data).setIfInBounds t 122⟩
theorem long_named : ∀ t, t < 62 → namedP (longB t) = true := by decide +kernel
theorem long_size (t : Nat) : (longB t).size = 62 := by
  show (Array.setIfInBounds _ _ _).size = 62
  rw [Array.size_setIfInBounds]
  rfl
def recF (t i : Nat) : RecT := ⟨keyB (65535 - i : Nat) (longB t), 18446744073709551615, (65535 - i : Nat), 0, false, dataS⟩
theorem recF_split (t i : Nat) (ht : t < 62) (hi : i < 48) : splitN (recF t i).key = (65535 - i : Nat) ∧ splitS (recF t i).key = longB t ∧ splitE (recF t i).key = 0 :=
  split_key (by unfold nodeB; simp; omega) (long_named t ht)
theorem recF_good (t i : Nat) (ht : t < 62) (hi : i < 48) : goodR (recF t i) = true := by
  obtain ⟨h1, _, h3⟩ := recF_split t i ht hi
  unfold goodR goodP
  rw [h1, h3]
  unfold recF
  simp only [Bool.and_eq_true, decide_eq_true_eq]
  refine ⟨⟨⟨⟨⟨rfl, by simp⟩, by decide⟩, by decide⟩, by decide⟩, rfl⟩
theorem recF_key (t i j : Nat) (ht : t < 62) (hi : i < 48) (hj : j < 48) (h : (recF t i).key = (recF t j).key) : i = j := by
  have h1 := (recF_split t i ht hi).1
  rw [h, (recF_split t j ht hj).1] at h1
  omega
/-- The store behind so many puts. -/
def fitL (t : Nat) : Nat → List RecT
  | 0 => []
  | i + 1 => putS 48 9 (fitL t i) (recF t i)
structure FitP (t n : Nat) : Prop where
  ok : StoreOk 48 9 (fitL t n)
  mem : ∀ x ∈ fitL t n, ∃ j, j < n ∧ x = recF t j
  len : (fitL t n).length = n
theorem fit_put {t n : Nat} (ht : t < 62) (hn : n < 48) (h : FitP t n) : putE 48 9 (fitL t n) (recF t n) = 0 := by
  have hf : findS (fitL t n) (recF t n).key = none := by
    cases hf : findS (fitL t n) (recF t n).key with
    | none => rfl
    | some y =>
      obtain ⟨h1, h2⟩ := findS_some hf
      obtain ⟨j, hj, rfl⟩ := h.mem y h1
      have := recF_key t j n ht (by omega) hn h2
      omega
  unfold putE
  rw [recF_good t n ht hn, if_neg (by decide), if_neg (by show ¬ (9 : Int) ≤ 0; omega), hf]
  exact if_neg (by have := h.len; omega)
theorem fit_all {t : Nat} (ht : t < 62) : ∀ n, n ≤ 48 → FitP t n
  | 0, _ => ⟨StoreOk.empty (by omega) (by omega) (by omega) (by omega), (fun _ h => by cases h), rfl⟩
  | n + 1, hn => by
    have h := fit_all ht n (by omega)
    have e := fit_put ht (by omega) h
    refine ⟨h.ok.put _, fun x hx => ?_, ?_⟩
    · rcases mem_put h.ok hx with hx | rfl
      · obtain ⟨j, hj, rfl⟩ := h.mem x hx
        exact ⟨j, by omega, rfl⟩
      · exact ⟨n, by omega, rfl⟩
    · show (putS 48 9 (fitL t n) (recF t n)).length = n + 1
      unfold putS
      rw [if_pos e, length_ins _ h.ok.rises]
      have hf : (findS (fitL t n) (recF t n).key).isSome = false := by
        cases hf : findS (fitL t n) (recF t n).key with
        | none => rfl
        | some y =>
          obtain ⟨h1, h2⟩ := findS_some hf
          obtain ⟨j, hj, rfl⟩ := h.mem y h1
          have := recF_key t j n ht (by omega) (by omega) h2
          omega
      rw [hf, h.len]
      rfl
theorem give_self {L : List RecT} (h : Rising L) : ∀ (M : List RecT) (seen : List ByteArray), (∀ x ∈ M, x ∈ L) → (M.Pairwise fun x y => x.key ≠ y.key) → (∀ x ∈ M, x.key ∉ seen) → giveA L seen (M.map toId) = M
  | [], _, _, _, _ => rfl
  | x :: M, seen, hs, hp, hn => by
    rw [List.map_cons]
    unfold giveA
    have hx := hn x (by simp)
    rw [if_neg (by simp only [List.any_eq_true, decide_eq_true_eq, not_exists, not_and]; exact fun y hy e => hx (by rw [← show y = x.key from e]; exact hy))]
    rw [show (toId x).1 = x.key from rfl, findS_mem h (hs x (by simp))]
    have hp' := List.pairwise_cons.1 hp
    rw [give_self h M (x.key :: seen) (fun y hy => hs y (by simp [hy])) hp'.2 (fun y hy hm => by
      rcases List.mem_cons.1 hm with e | hm
      · exact hp'.1 y hy e.symm
      · exact hn y (by simp [hy]) hm)]
    rfl
section
variable {t n : Nat}
theorem fit_sent (h : FitP t n) : sentL 9 (fitL t n) = (fitL t n).map sentR := by
  unfold sentL
  rw [List.filter_eq_self]
  intro x hx
  obtain ⟨y, hy, rfl⟩ := List.mem_map.1 hx
  obtain ⟨j, _, rfl⟩ := h.mem y hy
  rfl
theorem fit_give (h : FitP t n) : giveL (fitL t n) ((fitL t n).map toId) = fitL t n := give_self h.ok.rises _ [] (fun _ hx => hx) (rising_keys h.ok.rises) (fun _ _ hm => by cases hm)
theorem fit_newer : newerL (fitL t n) [] = fitL t n := by
  unfold newerL
  rw [List.filter_eq_self]
  intro x _
  rfl
theorem fit_wanted (I : List (ByteArray × Nat)) : wantedL [] I = I := by
  unfold wantedL
  rw [List.filter_eq_self]
  intro x _
  rfl
def fitI (t n : Nat) : List (ByteArray × Nat) := (fitL t n).map toId
/-- All that is told. -/
def fitM (t n : Nat) : List MsgT := answerM 9 [] (fitI t n) ++ answerM 9 (fitL t n) [] ++ packM 9 (sentL 9 (giveL (fitL t n) (fitI t n)))
theorem fit_len (h : FitP t n) : (fitM t n).length = 2 * ((n + 15) / 16) + if 0 < n then 1 else 0 := by
  unfold fitM answerM
  rw [fit_wanted, fit_newer, show newerL ([] : List RecT) (fitI t n) = [] from rfl, show wantedL (fitL t n) [] = [] from rfl, show fitI t n = (fitL t n).map toId from rfl, fit_give h, fit_sent h]
  have h1 : ∀ k (S : List RecT), (packM k S).length = (S.length + 15) / 16 := fun k S => by unfold packM; rw [List.length_map, List.length_range]
  have a1 : (wantM ((fitL t n).map toId)).length = if 0 < n then 1 else 0 := by
    unfold wantM
    rw [List.length_map, h.len]
    by_cases hn : n = 0
    · subst hn; rfl
    · rw [if_neg hn, if_pos (by omega)]; rfl
  simp only [List.length_append, h1, List.length_map, h.len, a1, show (wantM []).length = 0 from rfl, show (sentL 9 []).length = 0 from rfl]
  omega
theorem fit_ids (_ : t < 62) (_ : n ≤ 48) (h : FitP t n) : ∀ p ∈ fitI t n, p.1.size ≤ 64 := fun p hp => by
  obtain ⟨x, hx, rfl⟩ := List.mem_map.1 hp
  exact (good_right (h.ok.goods x hx).1).2.1
theorem may_ids (kind : Int) (hk : 1 ≤ kind ∧ kind ≤ 14) {I : List (ByteArray × Nat)} (hI : I.length ≤ 48) (hks : ∀ p ∈ I, p.1.size ≤ 64) : MayM ⟨kind, 0, 0, false, [], I, []⟩ ∧ (encL ⟨kind, 0, 0, false, [], I, []⟩).length ≤ 4096 := by
  refine ⟨⟨hk, ⟨by simp, by simp⟩, ⟨by simp, by simp⟩, by simp, by show I.length ≤ 64; omega, by simp, (fun _ h => by cases h), hks, (fun _ h => by cases h)⟩, ?_⟩
  have := encL_len ⟨kind, 0, 0, false, [], I, []⟩ rfl 64 10 hks (fun _ h => by cases h)
  simp only [List.length_nil] at this
  omega
theorem may_recs (kind : Int) (hk : 1 ≤ kind ∧ kind ≤ 14) {R : List RecT} (hR : R.length ≤ 16) (hg : ∀ x ∈ R, goodR x = true) : MayM ⟨kind, 0, 0, false, [], [], R⟩ ∧ (encL ⟨kind, 0, 0, false, [], [], R⟩).length ≤ 4096 := by
  refine ⟨⟨hk, ⟨by simp, by simp⟩, ⟨by simp, by simp⟩, by simp, by simp, hR, (fun _ h => by cases h), (fun _ h => by cases h), fun x hx => (good_right (hg x hx)).1⟩, ?_⟩
  have := encL_len ⟨kind, 0, 0, false, [], [], R⟩ rfl 64 10 (fun _ h => by cases h) (fun x hx => (good_right (hg x hx)).2)
  simp only [List.length_nil] at this
  omega
theorem may_pack (kind : Int) (hk : 1 ≤ kind ∧ kind ≤ 14) {S : List RecT} (hg : ∀ x ∈ S, goodR x = true) : ∀ m ∈ packM kind S, MayM m ∧ (encL m).length ≤ 4096 := fun m hm => by
  obtain ⟨i, _, rfl⟩ := List.mem_map.1 hm
  unfold chunkM
  exact may_recs kind hk (by rw [List.length_take]; omega) (fun x hx => hg x (List.mem_of_mem_drop (List.mem_of_mem_take hx)))
theorem sent_good {ttl : Int} (ht : ttl ≤ 65535) {l : List RecT} (h : ∀ x ∈ l, goodR x = true) : ∀ x ∈ sentL ttl l, goodR x = true := fun x hx => by
  obtain ⟨h1, h2⟩ := List.mem_filter.1 hx
  obtain ⟨y, hy, rfl⟩ := List.mem_map.1 h1
  have h2 : (sentR y).age < ttl := by simpa using h2
  exact good_sent (h y hy) (by omega)
theorem may_answer {ttl : Int} (ht : ttl ≤ 65535) {L : List RecT} (hL : ∀ x ∈ L, goodR x = true) {I : List (ByteArray × Nat)} (hI : I.length ≤ 48) (hks : ∀ p ∈ I, p.1.size ≤ 64) : ∀ m ∈ answerM ttl L I, MayM m ∧ (encL m).length ≤ 4096 := fun m hm => by
  unfold answerM at hm
  rcases List.mem_append.1 hm with hm | hm
  · unfold wantM at hm
    split at hm
    · cases hm
    · rw [List.mem_singleton] at hm
      subst hm
      exact may_ids 14 (by decide) (Nat.le_trans (List.length_filter_le _ _) hI) (fun p hp => hks p (List.mem_filter.1 hp).1)
  · exact may_pack 14 (by decide) (sent_good ht (fun x hx => hL x (List.mem_filter.1 hx).1)) m hm
theorem fit_may (ht : t < 62) (hn : n ≤ 48) (h : FitP t n) : ∀ m ∈ fitM t n, MayM m ∧ (encL m).length ≤ 4096 := fun m hm => by
  have hg : ∀ x ∈ fitL t n, goodR x = true := fun x hx => (h.ok.goods x hx).1
  unfold fitM at hm
  rcases List.mem_append.1 hm with hm | hm
  · rcases List.mem_append.1 hm with hm | hm
    · exact may_answer (by omega) (fun _ h => by cases h) (by unfold fitI; rw [List.length_map, h.len]; exact hn) (fit_ids ht hn h) m hm
    · exact may_answer (by omega) hg (by simp) (fun _ h => by cases h) m hm
  · exact may_pack 9 (by decide) (sent_good (by omega) (fun x hx => hg x ((give_mem _ _ []).2 x hx))) m hm
end
end Go.Proofs.YtjdlcfllmpdffaaGreatDoor
/-! DigestMerges, plainly: what the stores hold while the answer's messages come. -/
namespace Go.Proofs.YtjdlcfllmpdffaaGreatDoor
open Go.Conc Go.RowKit

theorem range_flat (k : Int) (S : List RecT) : ∀ n, ((List.range n).map (chunkM k S)).flatMap (·.recs) = S.take (16 * n)
  | 0 => by simp
  | n + 1 => by
    rw [List.range_succ, List.map_append, List.flatMap_append, range_flat k S n, Nat.mul_succ, List.take_add]
    simp [chunkM]
theorem pack_flat (k : Int) (S : List RecT) : (packM k S).flatMap (·.recs) = S := by
  unfold packM
  rw [range_flat]
  exact List.take_of_length_le (by omega)
theorem pack_ids {k : Int} {S : List RecT} {m : MsgT} (h : m ∈ packM k S) : m.ids = [] := by
  obtain ⟨i, _, rfl⟩ := List.mem_map.1 h
  rfl
theorem want_recs {W : List (ByteArray × Nat)} {m : MsgT} (h : m ∈ wantM W) : m.recs = [] := by
  unfold wantM at h
  split at h
  · cases h
  · rw [List.mem_singleton] at h
    subst h
    rfl
theorem ans_recs (ttl : Int) (B : List RecT) (I : List (ByteArray × Nat)) : (answerM ttl B I).flatMap (·.recs) = sentL ttl (newerL B I) := by
  unfold answerM
  rw [List.flatMap_append, pack_flat]
  have : (wantM (wantedL B I)).flatMap (·.recs) = [] := by
    rw [List.flatMap_eq_nil_iff]
    exact fun m hm => want_recs hm
  rw [this, List.nil_append]
theorem give_nil (A : List RecT) : giveL A [] = [] := rfl
theorem ans_ids (ttl : Int) (A B : List RecT) (I : List (ByteArray × Nat)) : (answerM ttl B I).flatMap (fun m => sentL ttl (giveL A m.ids)) = sentL ttl (giveL A (wantedL B I)) := by
  unfold answerM
  rw [List.flatMap_append]
  have h1 : (packM 14 (sentL ttl (newerL B I))).flatMap (fun m => sentL ttl (giveL A m.ids)) = [] := by
    rw [List.flatMap_eq_nil_iff]
    intro m hm
    rw [pack_ids hm]
    rfl
  rw [h1, List.append_nil]
  unfold wantM
  split
  · rename_i h
    rw [List.length_eq_zero_iff.1 h]
    rfl
  · simp
/-- The stores behind so many messages. -/
def mgA (A : List RecT) (ms : List MsgT) (i : Nat) : List RecT := takeS 48 200 A ((ms.take i).flatMap (·.recs))
def mgB (A B : List RecT) (ms : List MsgT) (i : Nat) : List RecT := takeS 48 200 B ((ms.take i).flatMap (fun m => sentL 200 (giveL A m.ids)))
theorem take_app (most ttl : Int) (L l m : List RecT) : takeS most ttl L (l ++ m) = takeS most ttl (takeS most ttl L l) m := List.foldl_append
theorem mgA_zero (A : List RecT) (ms : List MsgT) : mgA A ms 0 = A := rfl
theorem mgB_zero (A B : List RecT) (ms : List MsgT) : mgB A B ms 0 = B := rfl
theorem mgA_step (A : List RecT) (ms : List MsgT) (i : Nat) (hi : i < ms.length) : mgA A ms (i + 1) = takeS 48 200 (mgA A ms i) ms[i].recs := by
  unfold mgA
  rw [List.take_add_one, List.getElem?_eq_getElem hi, List.flatMap_append, take_app]
  simp
theorem mgB_step (A B : List RecT) (ms : List MsgT) (i : Nat) (hi : i < ms.length) : mgB A B ms (i + 1) = takeS 48 200 (mgB A B ms i) (sentL 200 (giveL A ms[i].ids)) := by
  unfold mgB
  rw [List.take_add_one, List.getElem?_eq_getElem hi, List.flatMap_append, take_app]
  simp
section
variable {A B : List RecT}
theorem mg_end (A B : List RecT) : mgA A (answerM 200 B (A.map toId)) (answerM 200 B (A.map toId)).length = xchA 200 A B ∧ mgB A B (answerM 200 B (A.map toId)) (answerM 200 B (A.map toId)).length = xchB 200 A B := by
  unfold mgA mgB xchA xchB
  rw [List.take_length, ans_recs, ans_ids]
  exact ⟨rfl, rfl⟩
/-- What is given for a message's ids: what was there ahead of all. -/
theorem mg_give (ttl : Int) (A B : List RecT) (I : List (ByteArray × Nat)) (i : Nat) (hi : i < (answerM ttl B I).length) : giveL (mgA A (answerM ttl B I) (i + 1)) (answerM ttl B I)[i].ids = giveL A (answerM ttl B I)[i].ids := by
  have key : (answerM ttl B I)[i].ids = [] ∨ mgA A (answerM ttl B I) (i + 1) = A := by
    by_cases hw : (wantedL B I).length = 0
    · refine .inl ?_
      have h1 : answerM ttl B I = packM 14 (sentL ttl (newerL B I)) := by unfold answerM wantM; rw [if_pos hw]; rfl
      exact pack_ids (k := 14) (S := sentL ttl (newerL B I)) (by rw [← h1]; exact List.getElem_mem hi)
    · have h1 : answerM ttl B I = ⟨14, 0, 0, false, [], wantedL B I, []⟩ :: packM 14 (sentL ttl (newerL B I)) := by unfold answerM wantM; rw [if_neg hw]; rfl
      cases i with
      | zero =>
        refine .inr ?_
        unfold mgA
        rw [h1]
        rfl
      | succ j =>
        refine .inl ?_
        refine pack_ids (k := 14) (S := sentL ttl (newerL B I)) ?_
        have h2 : (answerM ttl B I)[j + 1]? = (packM 14 (sentL ttl (newerL B I)))[j]? := by rw [h1]; rfl
        rw [List.getElem?_eq_getElem hi] at h2
        exact List.mem_of_getElem? h2.symm
  rcases key with h | h
  · rw [h]; rfl
  · rw [h]
/-- The records' versions and keys are small. -/
def VK (L : List RecT) : Prop := ∀ x ∈ L, x.ver < 2 ^ 64 ∧ x.key.size ≤ 1000000
theorem VK.sub {L M : List RecT} (h : VK L) (hs : ∀ x ∈ M, x ∈ L) : VK M := fun x hx => h x (hs x hx)
theorem VK.sent {L : List RecT} (h : VK L) (ttl : Int) : VK (sentL ttl L) := fun y hy => by
  obtain ⟨x, hx, rfl⟩ := sent_mem hy
  exact h x hx
theorem rec16_vk (a : RecA) (h : rowA a) : (rec16 a).ver < 2 ^ 64 ∧ (rec16 a).key.size ≤ 1000000 := by
  have := rec16_bd a h
  omega
theorem MdP.vk {L : List RecT} (h : MdP L) : VK L := fun x hx => by
  obtain ⟨a, ha, rfl⟩ := h.from' x hx
  exact rec16_vk a ha
theorem MdP.good {L : List RecT} (h : MdP L) : ∀ x ∈ L, goodR x = true := fun x hx => (h.all x hx).1
theorem VK.flat {k : Int} {S : List RecT} {m : MsgT} (hm : m ∈ packM k S) (h : VK S) : VK m.recs := by
  obtain ⟨i, _, rfl⟩ := List.mem_map.1 hm
  exact h.sub (fun x hx => List.mem_of_mem_drop (List.mem_of_mem_take hx))
theorem ans_vk {B : List RecT} (h : VK B) {ttl : Int} {I : List (ByteArray × Nat)} {m : MsgT} (hm : m ∈ answerM ttl B I) : VK m.recs := by
  unfold answerM at hm
  rcases List.mem_append.1 hm with hm | hm
  · rw [want_recs hm]
    exact fun x hx => by cases hx
  · exact VK.flat hm ((h.sub (fun x hx => (List.mem_filter.1 hx).1)).sent ttl)
theorem ans_recs_len {B : List RecT} {ttl : Int} {I : List (ByteArray × Nat)} {m : MsgT} (hm : m ∈ answerM ttl B I) : m.recs.length ≤ 16 := by
  unfold answerM at hm
  rcases List.mem_append.1 hm with hm | hm
  · rw [want_recs hm]
    exact Nat.zero_le _
  · obtain ⟨i, _, rfl⟩ := List.mem_map.1 hm
    show (List.take 16 _).length ≤ 16
    rw [List.length_take]
    omega
theorem pack_recs_len {k : Int} {S : List RecT} {m : MsgT} (hm : m ∈ packM k S) : m.recs.length ≤ 16 := by
  obtain ⟨i, _, rfl⟩ := List.mem_map.1 hm
  show (List.take 16 _).length ≤ 16
  rw [List.length_take]
  omega
theorem ans_ids_in {B : List RecT} {ttl : Int} {I : List (ByteArray × Nat)} {m : MsgT} (hm : m ∈ answerM ttl B I) : m.ids.length ≤ I.length ∧ ∀ p ∈ m.ids, p ∈ I := by
  unfold answerM at hm
  rcases List.mem_append.1 hm with hm | hm
  · unfold wantM at hm
    split at hm
    · cases hm
    · rw [List.mem_singleton] at hm
      subst hm
      exact ⟨List.length_filter_le _ _, fun p hp => (List.mem_filter.1 hp).1⟩
  · rw [pack_ids hm]
    exact ⟨Nat.zero_le _, fun p hp => by cases hp⟩
theorem pack_len' (k : Int) (S : List RecT) : (packM k S).length ≤ S.length + 1 := by
  unfold packM
  rw [List.length_map, List.length_range]
  omega
theorem ans_len (ttl : Int) (B : List RecT) (I : List (ByteArray × Nat)) : (answerM ttl B I).length ≤ B.length + 2 := by
  unfold answerM
  rw [List.length_append]
  have h1 : (wantM (wantedL B I)).length ≤ 1 := by unfold wantM; split <;> simp
  have h2 := pack_len' 14 (sentL ttl (newerL B I))
  have h3 := sentL_length ttl (newerL B I)
  have h4 : (newerL B I).length ≤ B.length := List.length_filter_le _ _
  omega
theorem give_len (ttl : Int) (L : List RecT) (I : List (ByteArray × Nat)) (hI : I.length ≤ 48) : (packM 14 (sentL ttl (giveL L I))).length ≤ 50 := by
  have h2 := pack_len' 14 (sentL ttl (giveL L I))
  have h3 := sentL_length ttl (giveL L I)
  have h4 : (giveL L I).length ≤ I.length := (give_mem L I []).1
  omega
/-- What the law asks of the end. -/
theorem mg_same (ha : MdP A) (hb : MdP B) {i : Nat} (hi : i < (xchA 200 A B).length) : ∃ h : i < (xchB 200 A B).length, (xchA 200 A B)[i].key = (xchB 200 A B)[i].key ∧ (xchA 200 A B)[i].ver = (xchB 200 A B)[i].ver ∧ (xchA 200 A B)[i].gone = (xchB 200 A B)[i].gone ∧ (xchA 200 A B)[i].data = (xchB 200 A B)[i].data := by
  have hs := MdP.same ha hb
  have hl : (xchB 200 A B).length = (xchA 200 A B).length := by simpa using (congrArg List.length hs).symm
  have hj : i < (xchB 200 A B).length := by omega
  refine ⟨hj, ?_⟩
  have h1 : ((xchA 200 A B).map cz)[i]? = ((xchB 200 A B).map cz)[i]? := by rw [hs]
  rw [List.getElem?_map, List.getElem?_map, List.getElem?_eq_getElem hi, List.getElem?_eq_getElem hj] at h1
  have h2 : cz (xchA 200 A B)[i] = cz (xchB 200 A B)[i] := by simpa using h1
  exact ⟨(show (cz (xchA 200 A B)[i]).key = _ by rw [h2]; rfl), (show (cz (xchA 200 A B)[i]).ver = _ by rw [h2]; rfl), (show (cz (xchA 200 A B)[i]).gone = _ by rw [h2]; rfl), (show (cz (xchA 200 A B)[i]).data = _ by rw [h2]; rfl)⟩
theorem mg_len (ha : MdP A) (hb : MdP B) : (xchA 200 A B).length = (xchB 200 A B).length := by
  have hs := MdP.same ha hb
  simpa using congrArg List.length hs
theorem mg_quiet (ha : MdP A) (hb : MdP B) : answerM 200 (xchA 200 A B) ((xchB 200 A B).map toId) = [] := (ha.xch hb).quiet (MdP.same ha hb)
theorem mg_ver (ha : MdP A) (hb : MdP B) {y : RecT} (hy : y ∈ xchA 200 A B) : y.ver = max (verOf A y.key) (verOf B y.key) := (ha.xch hb).ver hy
theorem mg_all (ha : MdP A) (hb : MdP B) {x : RecT} (hx : x ∈ A ∨ x ∈ B) : (findS (xchA 200 A B) x.key).isSome = true := by
  obtain ⟨y, hy, _⟩ := hasB_out (hx.elim ((ha.xch hb).hasA.1 x) ((ha.xch hb).hasA.2 x))
  rw [hy]
  rfl
/-- The place of a key in the reference's list, and the version there. -/
theorem find_ver {L : List RecT} (h : Rising L) (k : ByteArray) : (findI L k < 0 ∧ verOf L k = 0) ∨ ∃ (j : Nat) (hj : j < L.length), findI L k = (j : Int) ∧ L[j].ver = verOf L k := by
  unfold findI idxV
  cases hf : findS L k with
  | none =>
    refine .inl ?_
    have hn := findS_none hf
    have h1 : L.all (fun x => !decide (x.key = k)) = true := by
      rw [List.all_eq_true]
      intro x hx
      simpa using hn x hx
    rw [h1]
    refine ⟨by simp, ?_⟩
    unfold verOf
    rw [hf]
  | some y =>
    obtain ⟨hy, hk⟩ := findS_some hf
    refine .inr ?_
    have h1 : L.all (fun x => !decide (x.key = k)) = false := by
      rw [List.all_eq_false]
      exact ⟨y, hy, by simpa using hk⟩
    have hlt : L.findIdx (fun x => decide (x.key = k)) < L.length := by
      rw [List.findIdx_lt_length]
      exact ⟨y, hy, by simpa using hk⟩
    have hp : (L[L.findIdx (fun x => decide (x.key = k))]).key = k := by simpa using List.findIdx_getElem (p := fun x : RecT => decide (x.key = k)) (w := hlt)
    refine ⟨_, hlt, by rw [h1]; rfl, ?_⟩
    have h2 := verOf_mem h (List.getElem_mem hlt)
    rw [hp] at h2
    exact h2.symm
end
end Go.Proofs.YtjdlcfllmpdffaaGreatDoor
