/- Records put in any order make the same store, plainly. -/
import Derived.Test.YtianboachknfmaaDoorSto8
import Derived.Test.YtianboachknfmaaDoorRecK
namespace Go.Proofs.YtianboachknfmaaDoor
open Go.Conc Go.RowKit

theorem nodup_le {α : Type} [DecidableEq α] : ∀ (l K : List α), l.Nodup → (∀ x ∈ l, x ∈ K) → l.length ≤ K.length
  | [], _, _, _ => Nat.zero_le _
  | x :: l, K, h, hs => by
    obtain ⟨h1, h2⟩ := List.nodup_cons.1 h
    have hx := hs x (by simp)
    have := nodup_le l (K.erase x) h2 (fun y hy => by
      have hne : y ≠ x := fun e => h1 (e ▸ hy)
      exact (List.mem_erase_of_ne hne).2 (hs y (by simp [hy])))
    rw [List.length_erase_of_mem hx] at this
    have := List.length_pos_of_mem hx
    simp
    omega
/-- What a store holds in which all of P were put: of each key the greatest. -/
structure Mrg (P : RecT → Prop) (L : List RecT) : Prop where
  ok : StoreOk 48 9 L
  sub : ∀ y ∈ L, P y
  top : ∀ x, P x → ∃ y ∈ L, y.key = x.key ∧ x.ver ≤ y.ver
theorem Mrg.empty : Mrg (fun _ => False) [] := ⟨StoreOk.empty (by omega) (by omega) (by omega) (by omega), (fun _ h => by cases h), (fun _ h => False.elim h)⟩
theorem Mrg.congr {P Q : RecT → Prop} {L : List RecT} (h : Mrg P L) (e : ∀ x, P x ↔ Q x) : Mrg Q L := ⟨h.ok, fun y hy => (e y).1 (h.sub y hy), fun x hx => h.top x ((e x).2 hx)⟩
theorem keys_room {L : List RecT} (h : Rising L) {K : List ByteArray} (hk : ∀ y ∈ L, y.key ∈ K) : L.length ≤ K.length := by
  have := nodup_le (L.map (·.key)) K (by
    unfold List.Nodup
    rw [List.pairwise_map]
    exact rising_keys h) (fun x hx => by
    obtain ⟨y, hy, rfl⟩ := List.mem_map.1 hx
    exact hk y hy)
  simpa using this
theorem Mrg.put {P : RecT → Prop} {L : List RecT} (h : Mrg P L) {x : RecT} (hg : goodR x = true) (ha : x.age < 9) (hroom : L.length < 48) : Mrg (fun y => P y ∨ y = x) (putS 48 9 L x) := by
  have hE : putE 48 9 L x = putFE 48 L.length x.ver (findS L x.key) := by
    unfold putE
    rw [hg, if_neg (by decide), if_neg (by omega)]
  cases hf : findS L x.key with
  | none =>
    have e0 : putE 48 9 L x = 0 := by rw [hE, hf]; exact if_neg (by omega)
    have hS : putS 48 9 L x = insS x L := by unfold putS; rw [if_pos e0]
    refine ⟨h.ok.put x, fun y hy => ?_, fun z hz => ?_⟩
    · rw [hS] at hy
      rcases (mem_insS h.ok.rises).1 hy with rfl | ⟨hy, _⟩
      · exact .inr rfl
      · exact .inl (h.sub y hy)
    · rw [hS]
      rcases hz with hz | rfl
      · obtain ⟨y, hy, h1, h2⟩ := h.top z hz
        exact ⟨y, (mem_insS h.ok.rises).2 (.inr ⟨hy, findS_none hf y hy⟩), h1, h2⟩
      · exact ⟨z, (mem_insS h.ok.rises).2 (.inl rfl), rfl, Nat.le_refl _⟩
  | some y0 =>
    obtain ⟨hy0, hk0⟩ := findS_some hf
    by_cases hv : x.ver ≤ y0.ver
    · have e13 : putE 48 9 L x = 13 := by rw [hE, hf]; exact if_pos hv
      have hS : putS 48 9 L x = L := by unfold putS; rw [e13]; rfl
      rw [hS]
      refine ⟨h.ok, fun y hy => .inl (h.sub y hy), fun z hz => ?_⟩
      rcases hz with hz | rfl
      · exact h.top z hz
      · exact ⟨y0, hy0, hk0, hv⟩
    · have e0 : putE 48 9 L x = 0 := by rw [hE, hf]; exact if_neg hv
      have hS : putS 48 9 L x = insS x L := by unfold putS; rw [if_pos e0]
      refine ⟨h.ok.put x, fun y hy => ?_, fun z hz => ?_⟩
      · rw [hS] at hy
        rcases (mem_insS h.ok.rises).1 hy with rfl | ⟨hy, _⟩
        · exact .inr rfl
        · exact .inl (h.sub y hy)
      · rw [hS]
        rcases hz with hz | rfl
        · obtain ⟨y, hy, h1, h2⟩ := h.top z hz
          by_cases hk : y.key = x.key
          · have : y = y0 := by
              have := findS_mem h.ok.rises hy
              rw [hk, hf] at this
              exact (Option.some.inj this).symm
            subst this
            exact ⟨x, (mem_insS h.ok.rises).2 (.inl rfl), by rw [← h1, hk], by omega⟩
          · exact ⟨y, (mem_insS h.ok.rises).2 (.inr ⟨hy, hk⟩), h1, h2⟩
        · exact ⟨z, (mem_insS h.ok.rises).2 (.inl rfl), rfl, Nat.le_refl _⟩
theorem Mrg.unique {P : RecT → Prop} {L M : List RecT} (hL : Mrg P L) (hM : Mrg P M) (hu : ∀ x y, P x → P y → x.key = y.key → x.ver = y.ver → x = y) : L = M := by
  have half : ∀ {A B : List RecT}, Mrg P A → Mrg P B → ∀ x ∈ A, x ∈ B := by
    intro A B hA hB x hx
    obtain ⟨y, hy, h1, h2⟩ := hB.top x (hA.sub x hx)
    obtain ⟨z, hz, h3, h4⟩ := hA.top y (hB.sub y hy)
    have hzx : z = x := by
      have e1 := findS_mem hA.ok.rises hz
      have e2 := findS_mem hA.ok.rises hx
      rw [h3, h1, e2] at e1
      exact (Option.some.inj e1).symm
    subst hzx
    have := hu z y (hA.sub z hz) (hB.sub y hy) h1.symm (by omega)
    rw [this]
    exact hy
  exact rising_ext hL.ok.rises hM.ok.rises (fun x => ⟨half hL hM x, half hM hL x⟩)

/-! the records of StoreMerges -/
def mAct (a : ActT) : ActT := ⟨0, a.org, a.nm, 1 + a.life % 2, a.cnt, 0, decide (a.cnt % 2 = 1), false⟩
def mRec (a : ActT) : RecT := recOf (mAct a)
def keys16 : List ByteArray := [1, 2, 3, 4].flatMap (fun o => [0, 1, 2, 3].map (fun n => keyB (o : Nat) (nameB n)))
theorem orgN_bd (a : ActT) : 1 ≤ orgN a ∧ orgN a ≤ 4 := by
  have h1 := Int.emod_nonneg a.org (show (4 : Int) ≠ 0 by omega)
  have h2 := Int.emod_lt_of_pos a.org (show (0 : Int) < 4 by omega)
  unfold orgN
  omega
theorem name_named (n : Nat) : namedP (nameB (n % 4)) = true := by
  have : n % 4 < 4 := Nat.mod_lt _ (by omega)
  generalize n % 4 = z at *
  rcases (by omega : z = 0 ∨ z = 1 ∨ z = 2 ∨ z = 3) with rfl | rfl | rfl | rfl <;> decide +kernel
theorem org_node (a : ActT) : nodeB (orgN a : Nat) = true := by
  obtain ⟨h1, h2⟩ := orgN_bd a
  unfold nodeB
  rw [decide_eq_true (show (1 : Int) ≤ (orgN a : Nat) by omega), decide_eq_true (show ((orgN a : Nat) : Int) ≤ 65535 by omega)]
  rfl
theorem rec_key (a : ActT) : splitN (recOf a).key = orgN a ∧ splitS (recOf a).key = nameB (a.nm % 4) ∧ splitE (recOf a).key = 0 := split_key (org_node a) (name_named a.nm)
theorem mRec_key16 (a : ActT) : (mRec a).key ∈ keys16 := by
  obtain ⟨h1, h2⟩ := orgN_bd (mAct a)
  have h3 : a.nm % 4 < 4 := Nat.mod_lt _ (by omega)
  show keyB (orgN (mAct a) : Nat) (nameB (a.nm % 4)) ∈ keys16
  generalize orgN (mAct a) = o at *
  generalize a.nm % 4 = z at *
  unfold keys16
  refine List.mem_flatMap.2 ⟨o, ?_, List.mem_map.2 ⟨z, ?_, rfl⟩⟩
  · rcases (by omega : o = 1 ∨ o = 2 ∨ o = 3 ∨ o = 4) with rfl | rfl | rfl | rfl <;> simp
  · rcases (by omega : z = 0 ∨ z = 1 ∨ z = 2 ∨ z = 3) with rfl | rfl | rfl | rfl <;> simp
theorem mRec_good (a : ActT) (hc : a.cnt < 256) : goodR (mRec a) = true := by
  obtain ⟨h1, h2, h3⟩ := rec_key (mAct a)
  have hv : (mRec a).ver = (1 + a.life % 2) % 4 * 2 ^ 32 + a.cnt := rfl
  have hd : (mRec a).data.size = if (mRec a).gone then 0 else 10 := by
    show (dataOf (decide (a.cnt % 2 = 1)) false).size = if decide (a.cnt % 2 = 1) then 0 else 10
    cases decide (a.cnt % 2 = 1) <;> rfl
  unfold goodR goodP
  have h4 : splitE (mRec a).key = 0 := h3
  have h5 : splitN (mRec a).key = (mRec a).o := h1
  rw [h4, h5, hv, decide_eq_true hd, decide_eq_true (show 0 < ((1 + a.life % 2) % 4 * 2 ^ 32 + a.cnt) / 2 ^ 32 by omega), decide_eq_true (show (0 : Int) ≤ (mRec a).age from Int.le_refl _), decide_eq_true (show (mRec a).age ≤ 65535 by show (0 : Int) ≤ 65535; omega)]
  simp
theorem mRec_unique (a b : ActT) (ha : a.cnt < 256) (hb : b.cnt < 256) (hk : (mRec a).key = (mRec b).key) (hv : (mRec a).ver = (mRec b).ver) : mRec a = mRec b := by
  obtain ⟨h1, _, _⟩ := rec_key (mAct a)
  obtain ⟨h2, _, _⟩ := rec_key (mAct b)
  have hk' : (recOf (mAct a)).key = (recOf (mAct b)).key := hk
  have ho : ((orgN (mAct a) : Nat) : Int) = (orgN (mAct b) : Nat) := by rw [← h1, ← h2, hk']
  have hv' : (1 + a.life % 2) % 4 * 2 ^ 32 + a.cnt = (1 + b.life % 2) % 4 * 2 ^ 32 + b.cnt := hv
  have hc : a.cnt = b.cnt := by omega
  refine RecT.ext' hk hv ho rfl ?_ ?_
  · show decide (a.cnt % 2 = 1) = decide (b.cnt % 2 = 1)
    rw [hc]
  · show dataOf (decide (a.cnt % 2 = 1)) false = dataOf (decide (b.cnt % 2 = 1)) false
    rw [hc]
/-- Which record is put in which turn. -/
def turnK (t n i : Nat) (back : Bool) : Nat := if back then n - 1 - (i + t) % n else (i + t) % n
theorem turnK_lt {t n i : Nat} (h : 0 < n) (back : Bool) : turnK t n i back < n := by
  have := Nat.mod_lt (i + t) h
  unfold turnK
  split <;> omega
theorem turnK_all {t n : Nat} (ht : t < n) (back : Bool) (j : Nat) (hj : j < n) : ∃ i, i < n ∧ turnK t n i back = j := by
  have key : ∀ j, j < n → ∃ i, i < n ∧ (i + t) % n = j := fun j hj => by
    refine ⟨(j + n - t) % n, Nat.mod_lt _ (by omega), ?_⟩
    rw [Nat.mod_add_mod, show j + n - t + t = j + n by omega, Nat.add_mod_right, Nat.mod_eq_of_lt hj]
  cases back with
  | false => exact key j hj
  | true =>
    obtain ⟨i, hi, he⟩ := key (n - 1 - j) (by omega)
    refine ⟨i, hi, ?_⟩
    unfold turnK
    rw [if_pos rfl, he]
    omega
end Go.Proofs.YtianboachknfmaaDoor
