/- AnswerFull is true of every two bytes: a service of as many records as a store holds is answered with as many of them as fit, and the reply says whether it was cut. -/
import Derived.Test.YtbdfijgejkimnaaGreatDoorNI
import Derived.Test.YtbdfijgejkimnaaGreatDoorNN
import Derived.Test.YtbdfijgejkimnaaGreatDoorNP
import Derived.Test.YtbdfijgejkimnaaGreatDoorNQ
import Derived.ChangeMaps5
import Derived.Test.YtbdfijgejkimnaaGreatDoorCards
import Derived.Test.YtbdfijgejkimnaaGreatDoorTie
/-! What the Answer laws share: bounds of made (the same as in Lw5, Rf2, Rf5: never imported beside those). -/
namespace Go.Proofs.YtbdfijgejkimnaaGreatDoor
open Go.Conc Go.RowKit Go.Maps

theorem mem_ins_or {x y : RecT} : ∀ {L : List RecT}, y ∈ insS x L → y = x ∨ y ∈ L
  | [], h => by simp [insS] at h; exact .inl h
  | z :: L, h => by
    unfold insS at h
    split at h
    · rcases List.mem_cons.1 h with h | h
      · exact .inl h
      · exact .inr (List.mem_cons_of_mem _ h)
    · split at h
      · rcases List.mem_cons.1 h with h | h
        · exact .inl h
        · exact .inr h
      · rcases List.mem_cons.1 h with h | h
        · exact .inr (by rw [h]; exact List.mem_cons_self)
        · rcases mem_ins_or h with h | h
          · exact .inl h
          · exact .inr (List.mem_cons_of_mem _ h)
theorem made_bd (l : List RecB) : ∀ k, ∀ x ∈ made25 l k, x.ver < 2 ^ 64 := by
  intro k
  unfold made25
  generalize l.take k = t
  have : ∀ (M : List RecT) (A : List RecB), (∀ x ∈ M, x.ver < 2 ^ 64) → ∀ x ∈ (A.map rec25).foldl (putS 48 100) M, x.ver < 2 ^ 64 := by
    intro M A
    induction A generalizing M with
    | nil => intro h; exact h
    | cons a A ih =>
      intro h
      rw [List.map_cons, List.foldl_cons]
      refine ih _ (fun x hx => ?_)
      unfold putS at hx
      split at hx
      · rcases mem_ins_or hx with rfl | hx
        · exact (rec25_bd a).1
        · exact h x hx
      · exact h x hx
  exact this [] t (fun x hx => by cases hx)
theorem tell_of {ttl : Int} {x : RecT} (hg : goodR x = true ∧ x.age < ttl) (hv : x.ver < 2 ^ 64) (h : x.gone = false) : TellOk ttl x := ⟨hg.1, h, hg.2, hv⟩
theorem head_bytes (m : ByteArray) : (headD m).resp = decide (128 ≤ bA m 2) ∧ (headD m).op = bA m 2 / 8 % 16 := by
  have h2 := bA_lt m 2
  have h3 := bA_lt m 3
  constructor
  · show decide (gA m 2 / 32768 % 2 = 1) = _
    rw [Bool.eq_iff_iff, decide_eq_true_iff, decide_eq_true_iff]
    show (bA m 2 * 256 + bA m 3) / 32768 % 2 = 1 ↔ _
    omega
  · show (bA m 2 * 256 + bA m 3) / 2048 % 16 = _
    omega
theorem fin_facts {ttl : Int} {L : List RecT} (q : QT) (code : Nat) (hc : code ≤ 15) (hask : code = 0 → q.asked = true) (ht : ttl ≤ 65535) (hl : L.length ≤ 48) (hL : ∀ x ∈ L, x.gone = false → TellOk ttl x) (hn : ∀ x ∈ L, 1 ≤ x.o ∧ x.o ≤ 65535) :
    (∀ r ∈ (finL ttl L (q, code)).1, RROk r) ∧ (finL ttl L (q, code)).1.length ≤ 1000 ∧ (finL ttl L (q, code)).2 ≤ 15 ∧ (q.asked = true ∨ (finL ttl L (q, code)).1 = []) := by
  unfold finL
  dsimp only
  by_cases h : code = 0
  · rw [if_pos h]
    refine ⟨look_ok ht hL hn, ?_, ?_, .inl (hask h)⟩
    · have := look_len ttl L (q.name.map foldS) q.typ
      dsimp only
      omega
    · dsimp only
      split <;> omega
  · rw [if_neg h]
    refine ⟨fun r hr => ?_, Nat.zero_le _, hc, .inr rfl⟩
    cases hr
end Go.Proofs.YtbdfijgejkimnaaGreatDoor
/-! AnswerFull: the plain facts. -/
namespace Go.Proofs.YtbdfijgejkimnaaGreatDoor
open Go.Conc Go.RowKit Go.Maps

/-- A name of so many letters. -/
def nmW (p : Nat) : ByteArray := ⟨(List.replicate p (119 : UInt8)).toArray⟩
theorem nmW_data (p : Nat) : (nmW p).data.toList = List.replicate p 119 := rfl
theorem nmW_size (p : Nat) : (nmW p).size = p := by simp [nmW, ByteArray.size]
theorem good_rep : ∀ (p : Nat) (b : Bool), good b (List.replicate p 119) = (decide (0 < p) || !b)
  | 0, b => by simp [good]
  | p + 1, b => by
    rw [List.replicate_succ]
    unfold good
    rw [if_neg (by decide), good_rep p false]
    simp
    decide
theorem nmW_named {p : Nat} (h1 : 1 ≤ p) (h2 : p ≤ 62) : namedP (nmW p) = true := by
  unfold namedP
  rw [nmW_size, nmW_data, good_rep]
  simp [h1, h2]
  omega
theorem nmW_fold (p : Nat) : foldS (nmW p) = nmW p := by
  apply str_ext
  rw [foldS_data, nmW_data, List.map_replicate]
  rfl
theorem nmW_ne {p : Nat} (h : 1 ≤ p) : nmW p ≠ ⟨#[]⟩ := by
  intro e
  have := congrArg ByteArray.size e
  rw [nmW_size] at this
  have h2 : (⟨#[]⟩ : ByteArray).size = 0 := rfl
  omega
def rFull (p i : Nat) : RecT := ⟨keyB (10001 + (i : Nat)) (nmW p), 4294967296, 10001 + (i : Nat), 0, false, refD 10 0 0 i i 0 0⟩
def fullL (p n : Nat) : List RecT := (List.range n).map (rFull p)
theorem fullL_len (p n : Nat) : (fullL p n).length = n := by simp [fullL]
theorem fullL_snoc (p n : Nat) : fullL p (n + 1) = fullL p n ++ [rFull p n] := by simp [fullL, List.range_succ]
theorem fullL_get (p n i : Nat) (h : i < (fullL p n).length) : (fullL p n)[i] = rFull p i := by simp [fullL]
theorem keyB_data (i p : Nat) (h : i < 48) : (keyB (10001 + (i : Nat)) (nmW p)).data.toList = 39 :: UInt8.ofNat (17 + i) :: List.replicate p 119 := by
  have e : bytesOf [(10001 + (i : Int)) / 256, (10001 + (i : Int)) % 256] = ⟨#[39, UInt8.ofNat (17 + i)]⟩ := by
    have h1 : (10001 + (i : Int)) / 256 = ((39 : UInt8).toNat : Int) := by show _ = (39 : Int); omega
    have h2 : (10001 + (i : Int)) % 256 = ((UInt8.ofNat (17 + i)).toNat : Int) := by rw [UInt8.toNat_ofNat']; omega
    rw [h1, h2]
    exact bytesOf_nat [39, UInt8.ofNat (17 + i)]
  unfold keyB
  rw [e, ByteArray.data_append, Array.toList_append, nmW_data]
  rfl
theorem key_lt {i k p : Nat} (hk : k < 48) (h : i < k) : ltK (keyB (10001 + (i : Nat)) (nmW p)) (keyB (10001 + (k : Nat)) (nmW p)) := by
  unfold ltK
  rw [keyB_data i p (by omega), keyB_data k p hk]
  have h2 : (UInt8.ofNat (17 + i)) < (UInt8.ofNat (17 + k)) := by
    rw [UInt8.lt_iff_toNat_lt, UInt8.toNat_ofNat', UInt8.toNat_ofNat']
    omega
  exact List.Lex.cons (List.Lex.rel h2)
theorem keyC (i : Nat) : (10001 + (i : Int)) = ((10001 + i : Nat) : Int) := by omega
theorem full_split {p i : Nat} (h1 : 1 ≤ p) (h2 : p ≤ 62) (hi : i < 48) : splitN (rFull p i).key = 10001 + (i : Int) ∧ splitS (rFull p i).key = nmW p ∧ splitE (rFull p i).key = 0 := by
  show splitN (keyB (10001 + (i : Int)) (nmW p)) = _ ∧ splitS (keyB (10001 + (i : Int)) (nmW p)) = _ ∧ splitE (keyB (10001 + (i : Int)) (nmW p)) = 0
  rw [keyC]
  exact split_key (by unfold nodeB; simp; omega) (nmW_named h1 h2)
theorem full_good {p i : Nat} (h1 : 1 ≤ p) (h2 : p ≤ 62) (hi : i < 48) : goodR (rFull p i) = true := by
  obtain ⟨a, b, c⟩ := full_split h1 h2 hi
  unfold goodR goodP
  rw [a, c]
  have hd : (rFull p i).data.size = 10 := rfl
  rw [hd]
  simp [rFull]
theorem full_find {p n : Nat} (hn : n < 48) : findS (fullL p n) (rFull p n).key = none := by
  unfold findS
  rw [List.find?_eq_none]
  intro x hx
  unfold fullL at hx
  obtain ⟨j, hj, rfl⟩ := List.mem_map.1 hx
  have hj2 := List.mem_range.1 hj
  have h := ltK_ne (key_lt (p := p) hn hj2)
  simp only [decide_eq_true_eq]
  exact h
theorem ins_last {x : RecT} : ∀ {L : List RecT}, (∀ y ∈ L, ltK y.key x.key) → insS x L = L ++ [x]
  | [], _ => rfl
  | y :: L, h => by
    have h1 := h y List.mem_cons_self
    unfold insS
    rw [if_neg (fun e => (ltK_ne h1) e.symm), if_neg (fun e => ltK_irrefl _ (ltK_trans h1 e)), ins_last (fun z hz => h z (List.mem_cons_of_mem _ hz))]
    rfl
theorem full_put {p n : Nat} (h1 : 1 ≤ p) (h2 : p ≤ 62) (hn : n < 48) : putE 48 100 (fullL p n) (rFull p n) = 0 ∧ putS 48 100 (fullL p n) (rFull p n) = fullL p (n + 1) := by
  have he : putE 48 100 (fullL p n) (rFull p n) = 0 := by
    unfold putE
    rw [full_good h1 h2 hn, if_neg (by simp), if_neg (by show ¬ (100 : Int) ≤ 0; decide), full_find hn, fullL_len]
    unfold putFE
    dsimp only
    rw [if_neg (by omega)]
  refine ⟨he, ?_⟩
  unfold putS
  rw [if_pos he, fullL_snoc]
  refine ins_last (fun y hy => ?_)
  unfold fullL at hy
  obtain ⟨j, hj, rfl⟩ := List.mem_map.1 hy
  exact key_lt hn (List.mem_range.1 hj)
theorem full_held {p n : Nat} (h1 : 1 ≤ p) (h2 : p ≤ 62) (hn : n ≤ 48) : heldM (fullL p n) ([nmW p, bellS].map foldS) = fullL p n := by
  have e2 : foldS bellS = bellS := by kernel_rfl
  have e : [nmW p, bellS].map foldS = [nmW p, bellS] := by rw [List.map_cons, List.map_cons, List.map_nil, nmW_fold, e2]
  have hnd : noDot (nmW p) = true := by
    unfold noDot
    rw [nmW_data, List.all_eq_true]
    intro c hc
    rw [List.eq_of_mem_replicate hc]
    decide
  have hs : servM [nmW p, bellS] = nmW p := by
    have hj : joinL [nmW p] = nmW p := by apply str_ext; rw [joinL_one]
    unfold servM
    rw [if_pos ⟨Nat.le_refl 2, rfl, by show [nmW p].all noDot = true; simp [hnd], by show namedP (joinL [nmW p]) = true; rw [hj]; exact nmW_named h1 h2⟩]
    exact hj
  rw [e]
  unfold heldM
  rw [if_neg (by show ¬ 0 < nodeM [nmW p, bellS]; exact Nat.lt_irrefl 0), hs, if_neg (nmW_ne h1), List.filter_eq_self]
  intro x hx
  unfold fullL at hx
  obtain ⟨j, hj, rfl⟩ := List.mem_map.1 hx
  have hj2 := List.mem_range.1 hj
  unfold unnamed
  rw [(full_split h1 h2 (by omega : j < 48)).2.1]
  simp [rFull]
theorem full_addr1 (i : Nat) (hi : i < 48) : addrOf (rFull 1 i) = (10, 0, 0, i) ∧ bA (rFull 1 i).data 4 * 256 + bA (rFull 1 i).data 5 = i := by
  have h : ∀ i, i < 48 → addrOf (rFull 1 i) = (10, 0, 0, i) ∧ bA (rFull 1 i).data 4 * 256 + bA (rFull 1 i).data 5 = i := by decide +kernel
  exact h i hi
theorem full_addr (p i : Nat) (hi : i < 48) : addrOf (rFull p i) = (10, 0, 0, i) ∧ bA (rFull p i).data 4 * 256 + bA (rFull p i).data 5 = i := full_addr1 i hi
theorem itoa5 {n : Nat} (h1 : 10000 ≤ n) (h2 : n ≤ 65535) : (itoaB n).size = 5 := by
  have h5 := nDig5 h2
  have hs : (itoaB n).size = (Lib.decDigits n).length := by simp [itoaB, ByteArray.size]
  have hl := numD_lt (Lib.decDigits n) (dec_all n)
  rw [dec_num] at hl
  rw [hs]
  generalize (Lib.decDigits n).length = k at *
  rcases (by omega : k = 0 ∨ k = 1 ∨ k = 2 ∨ k = 3 ∨ k = 4 ∨ k = 5) with rfl | rfl | rfl | rfl | rfl | rfl
  all_goals omega
theorem tgt_size {n : Nat} (h1 : 10000 ≤ n) (h2 : n ≤ 65535) : (bytesL (tgtL n)).size = 16 := by
  unfold bytesL tgtL
  simp only [List.foldl_cons, List.foldl_nil, ByteArray.size_append, labelB_size, itoa5 h1 h2]
  rfl
theorem lenA (p i : Nat) : (rrB (rrA 100 (rFull p i))).length = 16 := by
  rw [rrB_len]
  rfl
theorem lenS {p i : Nat} (hi : i < 48) : (rrB (rrS 100 (rFull p i))).length = 35 := by
  rw [rrB_len]
  have ho : (rFull p i).o.toNat = 10001 + i := by show (10001 + (i : Int)).toNat = _; omega
  have ht : (rrS 100 (rFull p i)).tgt = tgtL (10001 + i) := by unfold rrS; rw [ho]
  have e : (bytesL (tgtL (10001 + i))).data.toList.length = (bytesL (tgtL (10001 + i))).size := rfl
  unfold rdataB
  rw [if_neg (by show ¬ (33 : Nat) = 1; decide), ht]
  simp only [List.length_append, e, tgt_size (show 10000 ≤ 10001 + i by omega) (by omega), beL_length, List.length_cons, List.length_nil]
theorem fits_const {S : Nat} (hS : 0 < S) : ∀ (L : List RR) (n : Nat), (∀ x ∈ L, (rrB x).length = S) → n ≤ 512 → fits n L = min L.length ((512 - n) / S)
  | [], n, _, _ => by simp [fits]
  | x :: L, n, h, hn => by
    have hx := h x List.mem_cons_self
    unfold fits
    rw [hx]
    by_cases hb : 512 < n + S
    · rw [if_pos hb, Nat.div_eq_of_lt (by omega)]
      omega
    · rw [if_neg hb, fits_const hS L (n + S) (fun y hy => h y (List.mem_cons_of_mem _ hy)) (by omega), List.length_cons]
      have e : (512 - n) / S = (512 - (n + S)) / S + 1 := by
        rw [show 512 - n = (512 - (n + S)) + S by omega, Nat.add_div_right _ hS]
      rw [e]
      omega
/-- What a full store's addresses are. -/
theorem full_addrs (p : Nat) : ∀ n, n ≤ 48 → addrsM 100 (fullL p n) = (fullL p n).map (rrA 100)
  | 0, _ => rfl
  | n + 1, hn => by
    have ih := full_addrs p n (by omega)
    have e : addrsM 100 (fullL p (n + 1)) = addA 100 (addrsM 100 (fullL p n)) (rFull p n) := by
      unfold addrsM
      rw [fullL_snoc, List.foldl_append]
      rfl
    rw [e, ih, fullL_snoc, List.map_append]
    unfold addA
    rw [if_neg ?_]
    · rfl
    · intro h
      unfold hasA at h
      rw [List.any_eq_true] at h
      obtain ⟨r, hr, hd⟩ := h
      obtain ⟨y, hy, rfl⟩ := List.mem_map.1 hr
      unfold fullL at hy
      obtain ⟨j, hj, rfl⟩ := List.mem_map.1 hy
      have hj2 := List.mem_range.1 hj
      have h2 := of_decide_eq_true hd
      have h3 : addrOf (rFull p j) = addrOf (rFull p n) := h2
      rw [(full_addr p j (by omega)).1, (full_addr p n (by omega)).1] at h3
      simp at h3
      omega
/-- The records that answer, by the type. -/
def ansF (p n typ : Nat) : List RR := if typ = 1 then (fullL p n).map (rrA 100) else (fullL p n).map (rrS 100)
def sizF (typ : Nat) : Nat := if typ = 1 then 16 else 35
theorem full_look {p n typ : Nat} (h1 : 1 ≤ p) (h2 : p ≤ 62) (hn : n ≤ 48) (ht : typ = 1 ∨ typ = 33) : lookM 100 (fullL p n) ([nmW p, bellS].map foldS) typ = ansF p n typ := by
  have hh := full_held h1 h2 hn
  unfold lookM ansF
  rw [hh]
  rcases ht with rfl | rfl
  · rw [if_pos rfl, if_pos rfl, full_addrs p n hn]
  · have hz : nodeM ([nmW p, bellS].map foldS) = 0 := rfl
    rw [if_neg (show ¬ (33 : Nat) = 1 by decide), if_neg (show ¬ (33 : Nat) = 1 by decide), if_pos ⟨rfl, hz⟩]
theorem ansF_len (p n typ : Nat) : (ansF p n typ).length = n := by
  unfold ansF
  split <;> rw [List.length_map, fullL_len]
theorem ansF_size {p n typ : Nat} (hn : n ≤ 48) (ht : typ = 1 ∨ typ = 33) : ∀ x ∈ ansF p n typ, (rrB x).length = sizF typ := by
  intro x hx
  unfold ansF at hx
  unfold sizF
  rcases ht with rfl | rfl
  · rw [if_pos rfl] at hx ⊢
    obtain ⟨y, hy, rfl⟩ := List.mem_map.1 hx
    unfold fullL at hy
    obtain ⟨j, _, rfl⟩ := List.mem_map.1 hy
    exact lenA p j
  · rw [if_neg (by decide)] at hx ⊢
    obtain ⟨y, hy, rfl⟩ := List.mem_map.1 hx
    unfold fullL at hy
    obtain ⟨j, hj, rfl⟩ := List.mem_map.1 hy
    have hj2 := List.mem_range.1 hj
    exact lenS (by omega)
theorem ansF_get {p n typ i : Nat} (hn : n ≤ 48) (hi : i < (ansF p n typ).length) : (typ = 1 → (ansF p n typ)[i].a = (10, 0, 0, i)) ∧ (typ = 33 → (ansF p n typ)[i].po = i) := by
  have hil : i < n := by rwa [ansF_len] at hi
  constructor
  · intro h
    have e : (ansF p n typ)[i] = rrA 100 (rFull p i) := by unfold ansF fullL; simp [h]
    rw [e]
    exact (full_addr p i (by omega)).1
  · intro h
    have e : (ansF p n typ)[i] = rrS 100 (rFull p i) := by unfold ansF fullL; simp [h]
    rw [e]
    exact (full_addr p i (by omega)).2
theorem full_may {p : Nat} (h1 : 1 ≤ p) (h2 : p ≤ 62) : mayGo 0 [nmW p, bellS] = true := by
  have hs := nmW_size p
  have hb : bellS.size = 4 := rfl
  rw [mayGo_step (by omega) (by omega) (by omega), mayGo_step (by omega) (by omega) (by omega)]
  unfold mayGo
  simp
  omega
theorem full_bytes (p : Nat) : (bytesL [nmW p, bellS]).size = p + 6 := by
  unfold bytesL
  simp only [List.foldl_cons, List.foldl_nil, ByteArray.size_append, labelB_size, nmW_size]
  have hb : bellS.size = 4 := rfl
  have h0 : (⟨#[]⟩ : ByteArray).size = 0 := rfl
  rw [hb]
  omega
theorem full_msg (p typ : Nat) : (⟨(askMsg 5 [nmW p, bellS] typ).toArray⟩ : ByteArray).size = p + 23 := by
  have h := askMsg_len 5 typ [nmW p, bellS]
  rw [full_bytes] at h
  have e : (⟨(askMsg 5 [nmW p, bellS] typ).toArray⟩ : ByteArray).size = (askMsg 5 [nmW p, bellS] typ).length := by simp [ByteArray.size]
  omega
def codF (n : Nat) : Nat := if n = 0 then 3 else 0
theorem full_fin {p n typ : Nat} (h1 : 1 ≤ p) (h2 : p ≤ 62) (hn : n ≤ 48) (ht : typ = 1 ∨ typ = 33) : finL 100 (fullL p n) (askQ 5 [nmW p, bellS] typ, 0) = (ansF p n typ, codF n) := by
  unfold finL
  rw [if_pos rfl]
  show (lookM 100 (fullL p n) ([nmW p, bellS].map foldS) typ, if heldM (fullL p n) ([nmW p, bellS].map foldS) ≠ [] then 0 else 3) = _
  rw [full_look h1 h2 hn ht, full_held h1 h2 hn]
  unfold codF
  by_cases h : n = 0
  · subst h
    rw [if_pos rfl, if_neg (fun e => e rfl)]
  · rw [if_neg h, if_pos]
    intro e
    have h3 := congrArg List.length e
    rw [fullL_len] at h3
    exact h h3
theorem full_resp {p n typ : Nat} (h1 : 1 ≤ p) (h2 : p ≤ 62) (hn : n ≤ 48) (ht : typ = 1 ∨ typ = 33) : respB 100 (fullL p n) ⟨(askMsg 5 [nmW p, bellS] typ).toArray⟩ = repB (askQ 5 [nmW p, bellS] typ) (codF n) (ansF p n typ) := by
  unfold respB
  rw [qM_ask 5 typ _ (by decide) ht (full_may h1 h2)]
  rw [full_fin h1 h2 hn ht]
def fitF (p n typ : Nat) : Nat := min n ((512 - (p + 23)) / sizF typ)
theorem full_fit {p n typ : Nat} (h2 : p ≤ 62) (hn : n ≤ 48) (ht : typ = 1 ∨ typ = 33) : fitN (askQ 5 [nmW p, bellS] typ) (ansF p n typ) = fitF p n typ := by
  have h := congrArg List.length (askMsg_form 5 typ [nmW p, bellS])
  rw [askMsg_len, full_bytes, List.length_append, headB_length, List.append_nil] at h
  unfold fitN fitF
  rw [fits_const (S := sizF typ) (by unfold sizF; split <;> decide) _ _ (ansF_size hn ht) (by omega), ansF_len, show 12 + (askB (askQ 5 [nmW p, bellS] typ)).length = p + 23 by omega]
end Go.Proofs.YtbdfijgejkimnaaGreatDoor
/-! AnswerFull: the walk. -/
namespace Go.Proofs.YtbdfijgejkimnaaGreatDoor
open Go.Conc Go.RowKit Go.Maps

theorem Only.onto {S T : Nat → Prop} {a b c : World} (h : Only S a b) (k : Only T b c) (hs : ∀ i, i < a.heap.size → T i → S i) : Only S a c :=
  ⟨k.os.trans h.os, k.tape.trans h.tape, k.output.trans h.output, Nat.le_trans h.size k.size,
    fun i hi hn => (k.block i (Nat.lt_of_lt_of_le hi h.size) (fun e => hn (hs i hi e))).trans (h.block i hi hn)⟩
def letK (p k : Nat) : List Int := List.replicate k 119 ++ List.replicate (p - k) 0
theorem letK_set {p k : Nat} (h : k < p) : ((letK p k).map (Value.int .u8)).set k (.int .u8 119) = (letK p (k + 1)).map (.int .u8) := by
  unfold letK
  have e : p - k = (p - (k + 1)) + 1 := by omega
  have hl : (List.map (Value.int IntKind.u8) (List.replicate k 119)).length = k := by simp
  rw [e, List.replicate_succ, List.map_append, List.map_cons, List.set_append, if_neg (by omega), hl, Nat.sub_self, List.set_cons_zero, List.replicate_succ' (n := k)]
  simp
theorem letK_full (p : Nat) : bytesOf (letK p p) = nmW p := by
  unfold letK nmW
  rw [Nat.sub_self, List.replicate_zero, List.append_nil]
  have h := bytesOf_nat (List.replicate p (119 : UInt8))
  rw [List.map_replicate] at h
  exact h
theorem infoByte25 : (Tryz.prog.info? 5).map (fun i => (i.zero, i.size, i.bytes)) = some (some (.int .u8 0), 1, 1) := by kernel_rfl
set_option maxRecDepth 100000 in
set_option maxHeartbeats 4000000 in
theorem full25_any (w : World) (m : Int) (hE : EnvW w m) (count letters : Nat) (hcn : count < 256) (hlt : letters < 256) :
    Calls Tryz.prog 6 #[.int .u8 count, .int .u8 letters] w fun e w' => e = .returned (.bool true) ∧ Only (fun _ => False) w w' := by
  obtain ⟨j0, hj0, jz0, jz1, jz2⟩ := info_parts infoByte25
  have hsp := speaks25_any w m hE
  obtain ⟨n, hn⟩ : ∃ n, n = count % 49 := ⟨_, rfl⟩
  obtain ⟨p, hp⟩ : ∃ p, p = 1 + letters % 62 := ⟨_, rfl⟩
  have hn48 : n ≤ 48 := by omega
  have hp1 : 1 ≤ p := by omega
  have hp2 : p ≤ 62 := by omega
  have hw1 : IntKind.i64.wrap (count : Int) = count := IntWalk.i64_in _ (by omega)
  have hw2 : IntKind.i64.wrap (letters : Int) = letters := IntWalk.i64_in _ (by omega)
  have ht1 : (count : Int) % 49 = (n : Int) := by omega
  have ht2 : (count : Int).tmod 49 = (n : Int) := by rw [Int.tmod_eq_emod_of_nonneg (by omega)]; exact ht1
  obtain ⟨l6, hl6⟩ : ∃ l6, l6 = letters % 62 := ⟨_, rfl⟩
  have ht3 : (letters : Int) % 62 = (l6 : Int) := by omega
  have ht4 : (letters : Int).tmod 62 = (l6 : Int) := by rw [Int.tmod_eq_emod_of_nonneg (by omega)]; exact ht3
  have hlp : 1 + (l6 : Int) = (p : Int) := by omega
  have HP1 := Lib.hid hp1
  have HP2 := Lib.hid hp2
  have HSP := Lib.hid hsp
  have HE := Lib.hid hE
  clear hsp hE
  clear hl6 hp hn
  go_enter Tryz.func6, Tryz.ntmps6
  go_wp2_with fail
  refine HSP.out.mono ?_
  rintro e w1 ⟨rfl, ho1⟩
  have hnew := snew_ok w1 48 100 (by omega) (by omega) (by omega) (by omega)
  have HO1 := Lib.hid ho1
  have HNEW := Lib.hid hnew
  clear ho1 hnew
  go_wp2_with fail
  refine HNEW.out.mono ?_
  rintro e w2 ⟨rfl, ho2, hst2⟩
  have HO2 := Lib.hid (HO1.out.trans ho2)
  have HE2 := Lib.hid (HE.out.new HO2.out)
  have HBS := Lib.hid (show w1.heap.size + 1 < w2.heap.size from hst2.lt.1)
  have HBW := Lib.hid (show w.heap.size ≤ w1.heap.size ∧ w.heap.size ≤ w2.heap.size from ⟨HO1.out.size, HO2.out.size⟩)
  have HST := Lib.hid hst2
  clear hst2
  clear ho2 HSP HNEW
  generalize w1.heap.size = b at *
  go_wp2_with (at_make; refine Wait.mk ?_)
  refine Wait.go (wpList_make_full _ rfl (.tmp 36) (.tmp 36) 61 rfl w2.heap.size 5 j0 _ 1 Tryz.underlying61 hj0 jz0 jz1 _ _ _ _ p rfl rfl rfl rfl ?mb ?mm ?mbase ?_)
  case mb => rw [jz2]; omega
  case mm => unfold maxLen; omega
  case mbase => exact Nat.le_refl _
  intro w3 own3 gr3
  rw [Nat.mul_one, show (Value.int IntKind.u8 0).cells = #[.int .u8 0] from rfl, toList_madeCells_one, show List.replicate p (Value.int IntKind.u8 0) = (letK p 0).map (.int .u8) by simp [letK]] at own3
  have ho3 : Only (fun _ => False) w2 w3 := (Only.refl _ _).grown gr3 (fun k e => by cases e)
  have HO3 := Lib.hid (HO2.out.trans ho3)
  have HE3 := Lib.hid (HE2.out.new ho3)
  have HST3 := Lib.hid (HST.out.new ho3)
  have HO23 := Lib.hid ho3
  have HOWN3 := Lib.hid own3
  clear own3
  clear gr3 ho3 ht1 ht2 ht3 ht4 hw1 hw2
  generalize w2.heap.size = B at *
  go_upto_block 0 with fail
  go_cut [9] (fun _ wx => Only (fun x => x = B) w3 wx ∧ wx.ownsRow B 5 1 (.slice (some ⟨B, 0, none⟩) p p) p ((letK p p).map (.int .u8)))
  case first =>
    go_wp2_with fail
    go_loopg [9] p (fun g v9 wr => ∃ k : Nat, v9 = .int .i64 k ∧ k ≤ p ∧ Only (fun x => x = B) w3 wr ∧ wr.ownsRow B 5 1 (.slice (some ⟨B, 0, none⟩) p p) p ((letK p k).map (.int .u8)) ∧ g = p - k)
    case atStart => exact ⟨0, rfl, Nat.zero_le _, Only.refl _ _, HOWN3.out, rfl⟩
    case round =>
      obtain ⟨k, rfl, hk, ho, hown, hg⟩ := hrel
      have Hg := Lib.hid hg
      have HOR := Lib.hid ho
      clear hg ho
      by_cases hlt : k < p
      · have hlti : (k : Int) < (p : Int) := by omega
        have hcell := hown.cellAt k (by omega)
        have hx : ((letK p k).map (Value.int IntKind.u8))[k]? = some (.int .u8 0) := by
          unfold letK
          rw [List.map_append, List.getElem?_append_right (by simp)]
          have e : p - k = (p - (k + 1)) + 1 := by omega
          rw [e, List.replicate_succ]
          simp
        rw [hx] at hcell
        have hfz := hown.frozenAt k
        have hst := (hown.stored k (.int .u8 119)).1
        rw [letK_set hlt] at hst
        have HST9 := Lib.hid hst
        clear hst
        clear hx hown
        go_wp2_with fail
        go_roundg (p - (k + 1))
        case measure => rw [Hg.out]; omega
        case rel => exact ⟨k + 1, by go_num, by omega, HOR.out.setCell (S := fun x => x = B) (p := ⟨B, k, none⟩) (.inr rfl) _, HST9.out, rfl⟩
      · have hke : k = p := by omega
        have hlti : ¬ (k : Int) < (p : Int) := by omega
        rw [hke] at hown
        have HOWN := Lib.hid hown
        clear hown
        clear hke
        go_wp2_with fail
        go_meet
        exact ⟨HOR.out, HOWN.out⟩
  case rest =>
  rename World => w4
  obtain ⟨ho4, hown4⟩ := hcut
  have HST4 := Lib.hid (HST3.out.kept ho4 (by have := HBS.out; omega) (by have := HBS.out; omega))
  have HO4 := Lib.hid (Only.onto (HO2.out.trans HO23.out) ho4 (fun i hi (e : i = B) => by have := HBW.out; omega))
  have HSL4 := Lib.hid (Sl.of_owns hown4)
  have HBV := Lib.hid (show ∀ k, (Value.slice (some ⟨B, 0, none⟩) p p).ownBlock = some k → ¬ (k = b + 1 ∨ k = b) from fun k e => by cases e; have := HBS.out; show ¬ (B = b + 1 ∨ B = b); omega)
  have HOWN4 := Lib.hid hown4
  clear hown4
  clear ho4 HST HST3 HO2 HO3 HO23 HE2 HE3 HO1 HOWN3
  go_upto_block 2 with fail
  go_cut [10] (fun _ wx => Only (fun i => i = b + 1 ∨ i = b) w4 wx ∧ StoreAt wx (b + 1) b 48 100 0 (fullL p n))
  case first =>
    go_wp2_with fail
    go_loopg [10] n (fun g v10 wr => ∃ k : Nat, v10 = .int .i64 k ∧ k ≤ n ∧ Only (fun i => i = b + 1 ∨ i = b) w4 wr ∧ StoreAt wr (b + 1) b 48 100 0 (fullL p k) ∧ g = n - k)
    case atStart => exact ⟨0, rfl, Nat.zero_le _, Only.refl _ _, HST4.out, rfl⟩
    case round =>
      obtain ⟨k, rfl, hk, ho, hst, hg⟩ := hrel
      have Hg := Lib.hid hg
      have HOR := Lib.hid ho
      have HSTR := Lib.hid hst
      clear hg ho hst
      by_cases hlt : k < n
      · have hlti : (k : Int) < (n : Int) := by omega
        have hk48 : k < 48 := by omega
        have hcv := run_bytes_str (P := Tryz.prog) (src := 61) (dst := 9) (e := 5) (ns := letK p p) Tryz.underlying61 Tryz.underlying5 Tryz.underlying9 ((Sl.of_owns (owns_kept HOWN4.out HOR.out HBV.out)).cast (by simp [letK]))
        rw [letK_full] at hcv
        have hwk : IntKind.i64.wrap (10001 + (k : Int)) = 10001 + (k : Int) := IntWalk.i64_in _ (by omega)
        have hu8 : IntKind.u8.wrap (k : Int) = k := by show (k : Int) % 256 = k; omega
        have hu16 : IntKind.u16.wrap (k : Int) = k := by show (k : Int) % 65536 = k; omega
        have hps := full_put (p := p) (n := k) HP1.out HP2.out hk48
        have HKEY := Lib.hid (fun W => rkey_any W (10001 + (k : Int)) (nmW p) (by omega) (by omega) (by rw [nmW_size]; have := HP2.out; omega))
        have HDAT := Lib.hid (fun W => rdata_any W 10 0 0 k k 0 0 (by omega) (by omega) (by omega))
        have HPUT := Lib.hid (fun W hst hm => sput_any W (b + 1) b 48 100 0 (fullL p k) hst (rFull p k) m hm (by show 4294967296 < 2 ^ 64; decide) (by show (keyB _ _).size ≤ _; have h : (keyB (10001 + (k : Int)) (nmW p)).size = 2 + p := (by unfold keyB; rw [ByteArray.size_append, nmW_size]; rfl); rw [h]; have := HP2.out; omega) (by decide) (by decide))
        unfold SPut at HPUT
        rw [hps.1, hps.2] at HPUT
        have hpr : putR 48 100 (fullL p k) (rFull p k) 0 = 0 := by unfold putR; rw [hps.1]; rfl
        rw [hpr] at HPUT
        unfold recT rFull at HPUT
        dsimp only at HPUT
        generalize keyB (10001 + (k : Int)) (nmW p) = KY at *
        generalize refD 10 0 0 (k : Int) k 0 0 = DT at *
        rw [show ((0 : Nat) : Int) = 0 from rfl] at HDAT
        clear hps hpr
        go_wp2_with fail
        refine (HKEY.out _).mono ?_
        rintro e w5 ⟨rfl, ho5⟩
        have HO5 := Lib.hid ho5
        clear ho5 hcv
        go_wp2_with fail
        refine (HDAT.out _).mono ?_
        rintro e w6 ⟨rfl, ho6⟩
        have HO6 := Lib.hid (HO5.out.trans ho6)
        have hP := HPUT.out w6 (HSTR.out.new HO6.out) (by
          refine (HE.out.new ?_).max
          exact (Only.onto HO4.out (HOR.out.trans (HO6.out.weaken (fun _ _ => False.elim))) (fun i hi (e : i = b + 1 ∨ i = b) => by have := HBW.out; omega)))
        have HP := Lib.hid hP
        clear hP
        clear ho6
        go_wp2_with fail
        refine HP.out.mono ?_
        rintro e w7 ⟨rfl, ho7, hst7⟩
        have HO7 := Lib.hid ho7
        have HST7 := Lib.hid hst7
        clear ho7 hst7
        go_wp2_with fail
        go_roundg (n - (k + 1))
        case measure => rw [Hg.out]; omega
        case rel => exact ⟨k + 1, by go_num, by omega, (HOR.out.trans (HO6.out.weaken (fun _ _ => False.elim))).trans HO7.out, HST7.out, rfl⟩
      · have hke : k = n := by omega
        have hlti : ¬ (k : Int) < (n : Int) := by omega
        have hst9 : StoreAt _ (b + 1) b 48 100 0 (fullL p n) := hke ▸ HSTR.out
        have HST9 := Lib.hid hst9
        clear hst9
        clear hke
        go_wp2_with fail
        go_meet
        exact ⟨HOR.out, HST9.out⟩
  case rest =>
  rename World => w5
  obtain ⟨ho5, hst5⟩ := hcut
  have HO5 := Lib.hid (Only.onto HO4.out ho5 (fun i hi (e : i = b + 1 ∨ i = b) => by have := HBW.out; omega))
  have HE5 := Lib.hid (HE.out.new HO5.out)
  have HOWN5 := Lib.hid (owns_kept HOWN4.out ho5 HBV.out)
  have HSE := Lib.hid (sees_store hst5 HE5.out.max (fun x hx => by
    unfold fullL at hx
    obtain ⟨j, _, rfl⟩ := List.mem_map.1 hx
    show 4294967296 < 2 ^ 64
    decide))
  have HLEN := Lib.hid (fullL_len p n)
  have HOKS := Lib.hid hst5.ok
  clear ho5 hst5 HOWN4 HSL4 HST4 HBV HO4
  go_wp2_with fail
  go_loopg [11] 65 (fun g v11 wr => ∃ typ : Nat, v11 = .int .i64 typ ∧ (typ = 1 ∨ typ = 33 ∨ typ = 65) ∧ Only (fun _ => False) w5 wr ∧ g = 66 - typ)
  case atStart => exact ⟨1, rfl, .inl rfl, Only.refl _ _, rfl⟩
  case round =>
    obtain ⟨typ, rfl, ht3, ho, hg⟩ := hrel
    have Hg := Lib.hid hg
    have HOR := Lib.hid ho
    clear hg ho
    by_cases h65 : typ = 65
    · have hlti : ¬ (typ : Int) ≤ 33 := by omega
      have hlti' : ¬ typ ≤ 33 := by omega
      clear h65 ht3
      go_wp2_with fail
      go_ret
      exact ⟨rfl, HO5.out.trans HOR.out⟩
    · have ht : typ = 1 ∨ typ = 33 := by omega
      have hlti : (typ : Int) ≤ 33 := by omega
      have hlti' : typ ≤ 33 := by omega
      have HT := Lib.hid ht
      have hcv := run_bytes_str (P := Tryz.prog) (src := 61) (dst := 9) (e := 5) (ns := letK p p) Tryz.underlying61 Tryz.underlying5 Tryz.underlying9 ((Sl.of_owns (owns_kept HOWN5.out HOR.out (fun _ _ => id))).cast (by simp [letK]))
      rw [letK_full] at hcv
      have hu16 : IntKind.u16.wrap (typ : Int) = typ := by show (typ : Int) % 65536 = typ; omega
      have hmay := full_may HP1.out HP2.out
      obtain ⟨V8, hV8⟩ : ∃ V8, V8 = wr.alloc (.cells #[.string (nmW p), .string ⟨#[98, 101, 108, 108]⟩] 9) := ⟨_, rfl⟩
      have hbV8 : V8.heap[wr.heap.size]? = some (.cells #[.string (nmW p), .string ⟨#[98, 101, 108, 108]⟩] 9 (0, 0)) := by rw [hV8]; exact heap_alloc_new wr _
      have hoV8 : Only (fun _ => False) wr V8 := by rw [hV8]; exact (Only.refl _ _).alloc _
      have hsV8 : V8.heap.size = wr.heap.size + 1 := by rw [hV8]; simp
      have hask := ask_ok V8 (.slice (some ⟨wr.heap.size, 0, none⟩) 2 2) 5 typ [nmW p, bellS] (by rw [hV8]; exact strsNew wr [nmW p, bellS] (by show 2 ≤ 1000; decide)) hmay (by decide) (by omega)
      rw [show ((5 : Nat) : Int) = 5 from rfl] at hask
      have hrs0 := fun W hE hS => respond_any W m 100 (.pointer (some ⟨b + 1, 0, none⟩)) (fullL p n) ⟨(askMsg 5 [nmW p, bellS] typ).toArray⟩ hE hS ⟨_, rfl⟩ (by rw [full_msg]; omega) (by rw [full_msg]; have := HP2.out; omega) (by rw [headD_ask (by decide)]; rfl)
      rw [full_resp HP1.out HP2.out hn48 ht] at hrs0
      have hff := fin_facts (ttl := 100) (L := fullL p n) (askQ 5 [nmW p, bellS] typ) 0 (by decide) (fun _ => rfl) (by decide) HOKS.out.len HSE.out.tell HSE.out.node
      rw [full_fin HP1.out HP2.out hn48 ht] at hff
      obtain ⟨f1, f2, f3, _⟩ := hff
      dsimp only at f1 f2 f3
      have hpar := fun W => repParse_any W (askQ 5 [nmW p, bellS] typ) (askQ_ok (by decide) (by omega) hmay) (fun h => by cases h) (codF n) f3 (ansF p n typ) f1 f2 (.inl rfl)
      rw [full_fit HP2.out hn48 ht, ansF_len] at hpar
      unfold ParseP at hpar
      have hML := full_msg p typ
      have HC := Lib.hid (show codF n = if n = 0 then 3 else 0 from rfl)
      have HF := Lib.hid (show fitF p n typ = min n ((512 - (p + 23)) / sizF typ) from rfl)
      generalize (⟨(askMsg 5 [nmW p, bellS] typ).toArray⟩ : ByteArray) = MS at *
      generalize (⟨(repB (askQ 5 [nmW p, bellS] typ) (codF n) (ansF p n typ)).toArray⟩ : ByteArray) = RS at *
      generalize codF n = C at *
      generalize fitF p n typ = F at *
      have HASK := Lib.hid hask
      have HRS0 := Lib.hid hrs0
      have HPAR := Lib.hid hpar
      have HML := Lib.hid hML
      clear hask hrs0 hpar hML
      clear hbV8 hsV8 f1 f2 f3 hmay
      generalize nmW p = NM at *
      go_wp2_with fail
      rw [← hV8]
      clear hV8
      refine HASK.out.mono ?_
      rintro e w9 ⟨rfl, ho9⟩
      have HO9 := Lib.hid (HOR.out.trans (hoV8.trans ho9))
      have HRS1 := Lib.hid (HRS0.out w9 (HE5.out.new HO9.out) (HSE.out.new HO9.out))
      clear hoV8 ho9 HASK hcv
      go_wp2_with fail
      refine HRS1.out.mono ?_
      rintro e w10 ⟨rfl, ho10⟩
      have HO10 := Lib.hid (HO9.out.trans ho10)
      clear ho10
      go_wp2_with fail
      refine (HPAR.out w10).mono ?_
      rintro e w11 ⟨v11, nv, E, rfl, ho11, hrow11, hmap11, own11⟩
      obtain ⟨_, na, nc, rfl, _⟩ := id (Sl.of_owns own11)
      have hEl : E.length = F := by
        have h := congrArg List.length hmap11
        rw [List.length_map, List.length_take, ansF_len] at h
        have := HF.out
        omega
      obtain ⟨ea, ec, rfl, q1, q2, q3⟩ := Sl.cells rrC_length (Sl.of_owns hrow11.row)
      have HO11 := Lib.hid (HO10.out.trans ho11)
      have hqi := infoQq (hdQ (askQ 5 [NM, bellS] typ) (askQ 5 [NM, bellS] typ).asked.toNat) (askQ 5 [NM, bellS] typ).asked (.slice na (askQ 5 [NM, bellS] typ).name.length nc) (askQ 5 [NM, bellS] typ).typ (askQ 5 [NM, bellS] typ).cls
      have hqo := qC_one (hdQ (askQ 5 [NM, bellS] typ) (askQ 5 [NM, bellS] typ).asked.toNat) (askQ 5 [NM, bellS] typ).asked (.slice na (askQ 5 [NM, bellS] typ).name.length nc) (askQ 5 [NM, bellS] typ).typ (askQ 5 [NM, bellS] typ).cls rfl
      generalize (qC (hdQ (askQ 5 [NM, bellS] typ) (askQ 5 [NM, bellS] typ).asked.toNat) (askQ 5 [NM, bellS] typ).asked (.slice na (askQ 5 [NM, bellS] typ).name.length nc) (askQ 5 [NM, bellS] typ).typ (askQ 5 [NM, bellS] typ).cls).toArray = QA at *
      have HQI := Lib.hid hqi
      have HQO := Lib.hid hqo
      have HEL := Lib.hid hEl
      have HMAP := Lib.hid hmap11
      have HC3 := Lib.hid q3
      clear hqi hqo hEl hmap11 q3
      have hqz : QA.size = 17 := by have h := HQI.out; rw [infoQ] at h; exact (Option.some.inj h).symm
      have HQZ := Lib.hid hqz
      clear hqz hrow11 own11 ho11 q1 q2 HPAR HRS0 HRS1
      go_upto_region 20 with ((with_reducible refine wpList_store_row (o := ⟨none, .store 55 (.tmp 16) (.tmp 91), _, _, _, none⟩) rfl _ _ _ rfl (w11.heap.size) QA ?_ ?_ 55 _ (heap_alloc_new w11 _) HQI.out ?_ HQO.out ?_); (· rfl); (· rfl); (· rw [HQZ.out]; rfl))
      have ho13 : Only (fun _ => False) w11 ((w11.alloc (.cells #[.int .u16 0, .bool false, .int .u8 0, .bool false, .bool false, .bool false, .bool false, .int .u8 0, .int .u8 0, .int .u16 0, .int .u16 0, .int .u16 0, .int .u16 0, .bool false, .slice none 0 0, .int .u16 0, .int .u16 0] 55)).setRow w11.heap.size QA) := ((Only.refl _ _).alloc _).setRow (.inl (Nat.le_refl _)) _
      have HCE := Lib.hid (HC3.out.new ho13 (fun _ _ _ => id))
      generalize (w11.alloc (.cells #[.int .u16 0, .bool false, .int .u8 0, .bool false, .bool false, .bool false, .bool false, .int .u8 0, .int .u8 0, .int .u16 0, .int .u16 0, .int .u16 0, .int .u16 0, .bool false, .slice none 0 0, .int .u16 0, .int .u16 0] 55)).setRow w11.heap.size QA = w13 at *
      have HO13 := Lib.hid (HO11.out.trans ho13)
      clear ho13
      go_cut [112] (fun v wx => v = .bool false ∧ w13 = wx)
      case first =>
        by_cases h0 : n = 0
        · have hC : C = 3 := by rw [HC.out, if_pos h0]
          subst hC
          have e1 : decide ((0 : Int) < (n : Int)) = false := by rw [h0]; rfl
          have e2 : decide (0 < n) = false := by rw [h0]; rfl
          have e3 : (((3 : Nat) : Int) == 0) = false := by decide
          clear h0
          go_wp2_with fail
          go_meet
          exact ⟨rfl, rfl⟩
        · have hC : C = 0 := by rw [HC.out, if_neg h0]
          subst hC
          have e1 : decide ((0 : Int) < (n : Int)) = true := by simp; omega
          have e2 : decide (0 < n) = true := by simp; omega
          have e3 : (((0 : Nat) : Int) == 0) = true := by decide
          clear h0
          go_wp2_with fail
          go_meet
          exact ⟨rfl, rfl⟩
      case rest =>
      obtain ⟨rfl, rfl⟩ := hcut
      clear hlti hlti' HC3
      have ht := HT.out
      go_upto_if 114 with (fail)
      go_cut [21] (fun v wx => v = .int .i64 (sizF typ : Nat) ∧ w13 = wx)
      case first =>
        rcases ht with rfl | rfl
        all_goals
          go_wp2_with fail
          go_meet
          exact ⟨rfl, rfl⟩
      case rest =>
      obtain ⟨rfl, rfl⟩ := hcut
      have hS : 16 ≤ sizF typ := by unfold sizF; split <;> decide
      generalize sizF typ = S at *
      obtain ⟨Z, hZ⟩ : ∃ Z, Z = 512 - (p + 23) := ⟨_, rfl⟩
      obtain ⟨Q, hQ⟩ : ∃ Q, Q = Z / S := ⟨_, rfl⟩
      have hFn : F = min n Q := by rw [HF.out, hQ, hZ]
      have hML := HML.out
      have hp2 := HP2.out
      have hQZ : Q ≤ Z := by rw [hQ]; exact Nat.div_le_self _ _
      have hz : (512 : Int) - (MS.size : Int) = (Z : Int) := by omega
      have hwz : IntKind.i64.wrap (Z : Int) = Z := IntWalk.i64_in _ (by omega)
      have hwq : IntKind.i64.wrap (Q : Int) = Q := IntWalk.i64_in _ (by omega)
      have hd : (Z : Int) / (S : Int) = (Q : Int) := by rw [hQ]; exact (Int.natCast_ediv _ _).symm
      have hd2 : (Z : Int).tdiv (S : Int) = (Q : Int) := by rw [Int.tdiv_eq_ediv_of_nonneg (by omega)]; exact hd
      have hS0 : ¬ (S : Int) = 0 := by omega
      have hmin : min (n : Int) (Q : Int) = (F : Int) := by omega
      have HFN := Lib.hid (show F ≤ n by omega)
      have HFQ := Lib.hid hFn
      have HS16 := Lib.hid hS
      clear hFn hS
      clear hML hp2 hQZ hZ hQ ht
      go_upto_region 25 with (fail)
      go_cut [22] (fun v wx => v = .int .i64 (F : Nat) ∧ w13 = wx)
      case first =>
        go_wp2_with fail
        go_meet
        exact ⟨rfl, rfl⟩
      case rest =>
      obtain ⟨rfl, rfl⟩ := hcut
      clear hz hwz hwq hd hd2 hS0 hmin
      obtain ⟨cutv, hcv⟩ : ∃ cutv, cutv = decide (F < n) := ⟨_, rfl⟩
      rw [← hcv]
      go_upto_region 26 with (fail)
      go_cut [132] (fun v wx => v = .bool false ∧ w13 = wx)
      case first =>
        have e4 : ((E.length : Int) == (F : Int)) = true := by rw [HEL.out]; simp
        have e4' : ((E.length : Int) != (F : Int)) = false := by rw [HEL.out]; simp
        by_cases hb : F < n
        · have h1 : decide (F < n) = true := by simp; omega
          have h2 : decide ((F : Int) < (n : Int)) = true := by simp; omega
          rw [h1] at hcv
          subst hcv
          clear hb
          go_wp2_with fail
          go_meet
          exact ⟨rfl, rfl⟩
        · have h1 : decide (F < n) = false := by simp; omega
          have h2 : decide ((F : Int) < (n : Int)) = false := by simp; omega
          rw [h1] at hcv
          subst hcv
          clear hb
          go_wp2_with fail
          go_meet
          exact ⟨rfl, rfl⟩
      case rest =>
      obtain ⟨rfl, rfl⟩ := hcut
      go_wp2_with fail
      go_loopg [23] F (fun g v23 wr => ∃ i : Nat, v23 = .int .i64 i ∧ i ≤ F ∧ Only (fun _ => False) w13 wr ∧ g = F - i)
      case atStart => exact ⟨0, rfl, Nat.zero_le _, Only.refl _ _, rfl⟩
      case round =>
        rename World => w15
        obtain ⟨i, rfl, hi, ho15, hg2⟩ := hrel
        have Hg2 := Lib.hid hg2
        have HO15 := Lib.hid ho15
        clear hg2 ho15
        by_cases hlt : i < F
        · have hlti : (i : Int) < (F : Int) := by omega
          have hiE : i < E.length := by have := HEL.out; omega
          have hiEi : (i : Int) < (E.length : Int) := by omega
          have hiA : i < (ansF p n typ).length := by rw [ansF_len]; have := HFN.out; omega
          have hget := ansF_get hn48 hiA
          have hr : E[i].r = (ansF p n typ)[i] := by
            have e1 : (E.map (·.r))[i]'(by rw [List.length_map]; exact hiE) = E[i].r := by simp
            have e2 : ((ansF p n typ).take F)[i]'(by rw [List.length_take]; omega) = (ansF p n typ)[i] := by simp
            rw [← e1, ← e2]
            congr 1
            all_goals exact HMAP.out
          obtain ⟨lb, off, rfl, hc⟩ := HCE.out.at i hiE
          have hu8 : IntKind.u8.wrap (i : Int) = i := by show (i : Int) % 256 = i; have := HFN.out; omega
          have hwp : IntKind.i64.wrap (i : Int) = i := IntWalk.i64_in _ (by have := HFN.out; omega)
          have h5 : w13.cell? ⟨lb, off + i * 10 + 5, none⟩ = some (.int .u8 (E[i].r.a.2.2.2 : Nat)) := hc 5 _ rfl
          have h8 : w13.cell? ⟨lb, off + i * 10 + 8, none⟩ = some (.int .u16 (E[i].r.po : Nat)) := hc 8 _ rfl
          rw [hr] at h5 h8
          have e5 : ((i : Int) == (i : Int)) = true := by simp
          have e5' : ((i : Int) != (i : Int)) = false := by simp
          rcases HT.out with h1 | h33
          · rw [hget.1 h1] at h5
            dsimp only at h5
            have y5 := HO15.out.cell h5 id
            have t1 : ((typ : Int) == 1) = true := by simp; omega
            have t2 : ((typ : Int) == 33) = false := by simp; omega
            clear h1
            clear h5 h8 hc hr hget hiA
            go_wp2_with fail
            clear hwp hu8 e5 e5'
            go_roundg (F - (i + 1))
            case measure => rw [Hg2.out]; omega
            case rel => exact ⟨i + 1, by (have := HFN.out; have hw : wrap64 ((i : Int) + 1) = ((i + 1 : Nat) : Int) := by { unfold wrap64; omega }; exact congrArg (Value.int .i64) hw), by omega, HO15.out, rfl⟩
          · rw [hget.2 h33] at h8
            have y8 := HO15.out.cell h8 id
            have t1 : ((typ : Int) == 1) = false := by simp; omega
            have t2 : ((typ : Int) == 33) = true := by simp; omega
            clear h33
            clear h5 h8 hc hr hget hiA
            go_wp2_with fail
            clear hwp hu8 e5 e5'
            go_roundg (F - (i + 1))
            case measure => rw [Hg2.out]; omega
            case rel => exact ⟨i + 1, by (have := HFN.out; have hw : wrap64 ((i : Int) + 1) = ((i + 1 : Nat) : Int) := by { unfold wrap64; omega }; exact congrArg (Value.int .i64) hw), by omega, HO15.out, rfl⟩
        · have hlti : ¬ (i : Int) < (F : Int) := by omega
          clear hlt
          go_wp2_with fail
          go_roundg (66 - (typ + 32))
          case measure => rw [Hg.out]; have := HT.out; omega
          case rel => exact ⟨typ + 32, by go_num, by have := HT.out; omega, HO13.out.trans HO15.out, rfl⟩
end Go.Proofs.YtbdfijgejkimnaaGreatDoor
/-! AnswerFull is true of every two bytes: a service of as many records as a store holds is answered with as many of them as fit, and the reply says whether it was cut. -/
namespace Go.Proofs.YtbdfijgejkimnaaGreatDoor.fullLaw25
open Go.Conc Go.RowKit Go.ChangeShapes Go.WideShapes Go.ChangeAt Go.ChangeMaps

theorem reads : ∀ t ∈ Tryz.f6.params.toList, Tryz.prog.readableRec t = true ∧ t < Tryz.prog.types.size := by
  intro t ht
  have h1 : ([5, 5].all fun u => Tryz.prog.readableRec u && decide (u < Tryz.prog.types.size)) = true := by kernel_rfl
  rw [Tryz.params6] at ht
  have := List.all_eq_true.1 h1 t ht
  simpa using this
set_option maxRecDepth 100000 in
set_option maxHeartbeats 8000000 in
theorem lifted (os : Os) (started : os.Started) (H : Type) (enc : TypeId × Value → H) :
    ReturnsInHanded {} Tryz.checked os 6 .any (fun w args => (Rows.answerFullSpec.pre enc Tryz.prog Tryz.f6 Rows.answerFullRow.domain false w args ∧ laidMetH Tryz.prog Rows.answerFullRow.laid w) ∧ sizedMet enc Tryz.prog Tryz.f6 (OpenSpec.ofChange Rows.answerFullSpec) false w args)
      (Rows.answerFullSpec.post enc Tryz.prog Tryz.f6 false true false false) := by
  refine returns_laid (C := Tryz.checked) (X := fun w _ => laidMetH Tryz.prog Rows.answerFullRow.laid w) (fun _ _ _ hh h => h.of_heap hh) ownD started (by kernel_rfl) Tryz.func6
    (ChangeSpec.witness_shaped (enc := enc) (C := Tryz.checked) (os := os) (X := fun w _ => laidMetH Tryz.prog Rows.answerFullRow.laid w) false (World.laidAll Tryz.prog os Rows.answerFullRow.laid) #[.int .u8 0, .int .u8 0] 8 (World.laidAll_os _ _ _)
      (World.shaped_of_ZipB (by kernel_rfl) (by kernel_rfl)) (by kernel_rfl) (by kernel_rfl) (by kernel_rfl)
      (by rw [MakeChecks.laidMetH_plain _ _ _ (by kernel_rfl)]; exact laidMet_laidAll _ (by kernel_rfl) (by kernel_rfl))) ?_
  intro W base args ds gs before hval0 hW hlaid hsh
  have hval : ∀ (j : Nat) t v, Tryz.f6.params[j]? = some t → args[j]? = some v → Value.okWide Tryz.prog W .any base t v := hval0
  have hW' := hW
  obtain ⟨m0, hm0⟩ := maxLen_cell W hsh
  obtain ⟨p, q, hA0, hV, rfl, _, _⟩ := hW
  have hA : DataW.TrodAll enc Tryz.prog W 0 (fun _ => true) true Tryz.f6.params.toList args.toList ds p := hA0
  rw [Tryz.params6] at hA hval
  obtain ⟨v0, vs0, d0, ds0, p0, q0, hargs, rfl, rfl, h0, r0⟩ := trodAll_cons hA
  obtain ⟨v1, vs1, d1, ds1, p1, q1, rfl, rfl, rfl, h1, r1⟩ := trodAll_cons r0
  obtain ⟨rfl, rfl, rfl⟩ := trodAll_nil r1
  obtain rfl : args = #[v0, v1] := by cases args; simp_all
  obtain ⟨x0, rfl, rfl, rfl, b0⟩ := open_int Tryz.underlying5 (hval 0 5 v0 rfl rfl) h0
  obtain ⟨n0, rfl, w0⟩ := nat_u8 b0
  obtain ⟨x1, rfl, rfl, rfl, b1⟩ := open_int Tryz.underlying5 (hval 1 5 v1 rfl rfl) h1
  obtain ⟨n1, rfl, w1⟩ := nat_u8 b1
  obtain ⟨rfl, rfl⟩ := trodVars_none hV
  refine (full25_any W m0 (envW_of W m0 hm0 hlaid) n0 n1 w0 w1).mono fun e W' ⟨he, ho⟩ => ?_
  subst he
  exact ⟨_, rfl, law_post hW' (ho.below (Nat.le_refl _) (fun _ _ => id)) laidOutD reads rfl Tryz.underlying4 rfl rfl rfl rfl⟩

theorem said : Rows.AnswerFullSaid :=
  OpenClaim.holds_of_wide 6 Tryz.f6 rfl rfl rfl rfl rfl rfl rfl ⟨rfl, rfl, rfl, rfl, rfl⟩ rfl rfl rfl rfl rfl (by kernel_rfl) Tryz.func6 (by kernel_rfl)
    (of_decide_eq_true (by kernel_rfl)) (by unfold Func.isWrapper; first | (rw [if_pos (by decide +kernel)]; kernel_rfl) | (rw [if_neg (by decide +kernel)]; exact ⟨rfl, rfl⟩))
    (fun os started H enc _ => lifted os started H enc)
theorem looks (f : FuncId) (fn : Func) (hf : Tryz.pinned.checked.prog.funcNamed "bellhop/bellhoplaw25.AnswerFull" = some f) (hfn : Tryz.pinned.checked.prog.funcs[f]? = some fn) :
    true = Tryz.pinned.checked.prog.looks [] ∧ ∀ (j : Nat) t, fn.params[j]? = some t → Tryz.pinned.checked.prog.wantsStandIn t = false := by
  obtain rfl : f = 6 := Option.some.inj ((show Tryz.prog.funcNamed "bellhop/bellhoplaw25.AnswerFull" = some 6 by kernel_rfl).symm.trans hf) |>.symm
  obtain rfl : fn = Tryz.f6 := (Option.some.inj (Tryz.func6.symm.trans hfn)).symm
  refine ⟨by kernel_rfl, fun j t ht => ?_⟩
  rw [Tryz.params6] at ht
  have hm : t ∈ [5, 5] := by simpa using Array.mem_of_getElem? ht
  have hall : ([5, 5].all fun u => !Tryz.prog.wantsStandIn u) = true := by kernel_rfl
  exact (show Tryz.prog.wantsStandIn t = false by simpa using List.all_eq_true.1 hall t hm)
theorem card : Rows.AnswerFullCardSaid :=
  Claim7.holds_tied_plain_at .later [] _ _ _ _ said (fun _ h => by cases h) (by kernel_rfl) (fun _ h => by cases h) answerFull_row_tie rfl ⟨rfl, rfl⟩ (by kernel_rfl) rfl looks (by kernel_rfl)
#print axioms card
end Go.Proofs.YtbdfijgejkimnaaGreatDoor.fullLaw25
