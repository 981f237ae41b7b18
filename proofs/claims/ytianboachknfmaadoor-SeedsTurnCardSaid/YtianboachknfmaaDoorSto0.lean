/- A store's records, plainly: lists of records that rise by their keys. -/
import Derived.Test.YtianboachknfmaaDoorMapl
import Derived.Test.YtianboachknfmaaDoorGen
import Derived.Test.YtianboachknfmaaDoorRec6
namespace Go.Proofs.YtianboachknfmaaDoor
open Go.Conc Go.RowKit

structure RecT where
  key : ByteArray
  ver : Nat
  o : Int
  age : Int
  gone : Bool
  data : ByteArray
theorem RecT.ext' {x y : RecT} (h1 : x.key = y.key) (h2 : x.ver = y.ver) (h3 : x.o = y.o) (h4 : x.age = y.age) (h5 : x.gone = y.gone) (h6 : x.data = y.data) : x = y := by
  cases x; cases y; simp_all
/-- The record's six cells. -/
def recC (x : RecT) : List Value := [.string x.key, .int .u64 x.ver, .int .i64 x.o, .int .i64 x.age, .bool x.gone, .string x.data]
def recT (x : RecT) : Value := .agg #[.string x.key, .int .u64 x.ver, .int .i64 x.o, .int .i64 x.age, .bool x.gone, .string x.data]
def zeroR : RecT := ⟨⟨#[]⟩, 0, 0, 0, false, ⟨#[]⟩⟩
theorem recC_length (x : RecT) : (recC x).length = 6 := rfl
theorem recC_one (x : RecT) : ∀ u ∈ recC x, u.oneCell' = true := by
  intro u hu
  simp only [recC, List.mem_cons, List.not_mem_nil, or_false] at hu
  rcases hu with rfl | rfl | rfl | rfl | rfl | rfl <;> rfl
def goodR (x : RecT) : Bool := goodP x.key x.ver x.o x.age x.gone x.data

/-- Keys' order: by their bytes. -/
def ltK (a b : ByteArray) : Prop := a.data.toList < b.data.toList
instance (a b : ByteArray) : Decidable (ltK a b) := by unfold ltK; infer_instance
theorem ltK_irrefl (a : ByteArray) : ¬ ltK a a := List.lt_irrefl _
theorem ltK_trans {a b c : ByteArray} (h : ltK a b) (k : ltK b c) : ltK a c := List.lt_trans h k
theorem ltK_tri {a b : ByteArray} (h : ¬ ltK a b) (k : a ≠ b) : ltK b a := by
  unfold ltK at *
  rcases List.le_iff_lt_or_eq.1 (List.not_lt.1 h) with h | h
  · exact h
  · exact absurd (by cases a; cases b; simp at h ⊢; exact h.symm) k
theorem ltK_ne {a b : ByteArray} (h : ltK a b) : a ≠ b := fun e => by subst e; exact ltK_irrefl _ h
def Rising (L : List RecT) : Prop := L.Pairwise (fun x y => ltK x.key y.key)
def findS (L : List RecT) (k : ByteArray) : Option RecT := L.find? (fun x => decide (x.key = k))
/-- A record is placed, or takes the place of the one of its key. -/
def insS (x : RecT) : List RecT → List RecT
  | [] => [x]
  | y :: L => if x.key = y.key then x :: L else if ltK x.key y.key then x :: y :: L else y :: insS x L
theorem mem_insS {x : RecT} : ∀ {L : List RecT} {y : RecT}, Rising L → (y ∈ insS x L ↔ y = x ∨ (y ∈ L ∧ y.key ≠ x.key))
  | [], y, _ => by simp [insS]
  | z :: L, y, h => by
    obtain ⟨h1, h2⟩ := List.pairwise_cons.1 h
    unfold insS
    split
    · rename_i e
      simp only [List.mem_cons]
      constructor
      · rintro (rfl | hy)
        · exact .inl rfl
        · exact .inr ⟨.inr hy, fun e2 => ltK_irrefl _ (by have := h1 y hy; rw [e2, e] at this; exact this)⟩
      · rintro (rfl | ⟨rfl | hy, hn⟩)
        · exact .inl rfl
        · exact absurd e.symm hn
        · exact .inr hy
    · rename_i e
      split
      · rename_i hlt
        simp only [List.mem_cons]
        constructor
        · rintro (rfl | rfl | hy)
          · exact .inl rfl
          · exact .inr ⟨.inl rfl, fun e2 => e e2.symm⟩
          · exact .inr ⟨.inr hy, fun e2 => ltK_irrefl _ (by have := ltK_trans hlt (h1 y hy); rw [e2] at this; exact this)⟩
        · rintro (rfl | ⟨rfl | hy, hn⟩)
          · exact .inl rfl
          · exact .inr (.inl rfl)
          · exact .inr (.inr hy)
      · simp only [List.mem_cons, mem_insS (L := L) h2]
        constructor
        · rintro (rfl | rfl | ⟨hy, hn⟩)
          · exact .inr ⟨.inl rfl, fun e2 => e e2.symm⟩
          · exact .inl rfl
          · exact .inr ⟨.inr hy, hn⟩
        · rintro (rfl | ⟨rfl | hy, hn⟩)
          · exact .inr (.inl rfl)
          · exact .inl rfl
          · exact .inr (.inr ⟨hy, hn⟩)
theorem rising_ins {x : RecT} : ∀ {L : List RecT}, Rising L → Rising (insS x L)
  | [], _ => by simp [insS, Rising]
  | z :: L, h => by
    obtain ⟨h1, h2⟩ := List.pairwise_cons.1 h
    unfold insS
    split
    · rename_i e
      exact List.pairwise_cons.2 ⟨fun y hy => by rw [e]; exact h1 y hy, h2⟩
    · rename_i e
      split
      · rename_i hlt
        refine List.pairwise_cons.2 ⟨fun y hy => ?_, h⟩
        rcases List.mem_cons.1 hy with rfl | hy
        · exact hlt
        · exact ltK_trans hlt (h1 y hy)
      · rename_i hlt
        refine List.pairwise_cons.2 ⟨fun y hy => ?_, rising_ins h2⟩
        rcases (mem_insS h2).1 hy with rfl | ⟨hy, _⟩
        · exact ltK_tri hlt e
        · exact h1 y hy
theorem rising_keys {L : List RecT} (h : Rising L) : L.Pairwise (fun x y => x.key ≠ y.key) := h.imp (fun h => ltK_ne h)
theorem rising_nodup {L : List RecT} (h : Rising L) : L.Nodup := (rising_keys h).imp (fun {a b} (hn : a.key ≠ b.key) (e : a = b) => hn (by rw [e]))
/-- Lists that rise and have the same members are one. -/
theorem rising_ext {L M : List RecT} (hL : Rising L) (hM : Rising M) (h : ∀ x, x ∈ L ↔ x ∈ M) : L = M := by
  have hp : L.Perm M := (List.perm_ext_iff_of_nodup (rising_nodup hL) (rising_nodup hM)).2 h
  exact hp.eq_of_pairwise (fun a b _ _ h1 h2 => absurd (ltK_trans h1 h2) (ltK_irrefl _)) hL hM
theorem rising_map {L : List RecT} (h : Rising L) (f : RecT → RecT) (hf : ∀ x, (f x).key = x.key) : Rising (L.map f) := by
  unfold Rising
  rw [List.pairwise_map]
  exact h.imp (fun {a b} hab => by rw [hf, hf]; exact hab)
theorem rising_filter {L : List RecT} (h : Rising L) (p : RecT → Bool) : Rising (L.filter p) := List.Pairwise.filter _ h
theorem findS_some {L : List RecT} {k : ByteArray} {y : RecT} (h : findS L k = some y) : y ∈ L ∧ y.key = k := by
  have h1 := List.mem_of_find?_eq_some h
  have h2 := List.find?_some h
  exact ⟨h1, by simpa using h2⟩
theorem findS_none {L : List RecT} {k : ByteArray} (h : findS L k = none) : ∀ y ∈ L, y.key ≠ k := by
  intro y hy e
  unfold findS at h
  rw [List.find?_eq_none] at h
  exact h y hy (by simpa using e)
theorem findS_mem {L : List RecT} (h : Rising L) {y : RecT} (hy : y ∈ L) : findS L y.key = some y := by
  cases hf : findS L y.key with
  | none => exact absurd rfl (findS_none hf y hy)
  | some z =>
    obtain ⟨h1, h2⟩ := findS_some hf
    obtain ⟨i, hi, rfl⟩ := List.getElem_of_mem h1
    obtain ⟨j, hj, rfl⟩ := List.getElem_of_mem hy
    have hk := List.pairwise_iff_getElem.1 (rising_keys h)
    rcases Nat.lt_trichotomy i j with h3 | h3 | h3
    · exact absurd h2 (hk i j hi hj h3)
    · subst h3; rfl
    · exact absurd h2.symm (hk j i hj hi h3)
theorem findS_ins_same {L : List RecT} (h : Rising L) (x : RecT) : findS (insS x L) x.key = some x := findS_mem (rising_ins h) ((mem_insS h).2 (.inl rfl))
theorem findS_ins_other {L : List RecT} (h : Rising L) (x : RecT) {k : ByteArray} (hk : k ≠ x.key) : findS (insS x L) k = findS L k := by
  cases hf : findS L k with
  | none =>
    cases hg : findS (insS x L) k with
    | none => rfl
    | some z =>
      obtain ⟨h1, h2⟩ := findS_some hg
      rcases (mem_insS h).1 h1 with rfl | ⟨h3, _⟩
      · exact absurd h2.symm hk
      · exact absurd h2 (findS_none hf z h3)
  | some y =>
    obtain ⟨h1, h2⟩ := findS_some hf
    have := findS_mem (rising_ins h) ((mem_insS (x := x) h).2 (.inr ⟨h1, by rw [h2]; exact hk⟩))
    rw [h2] at this
    exact this
theorem length_ins : ∀ {L : List RecT} (x : RecT), Rising L → (insS x L).length = if (findS L x.key).isSome then L.length else L.length + 1
  | [], x, _ => by simp [insS, findS]
  | z :: L, x, h => by
    obtain ⟨h1, h2⟩ := List.pairwise_cons.1 h
    unfold insS
    by_cases e : x.key = z.key
    · rw [if_pos e]
      have : (findS (z :: L) x.key).isSome = true := by unfold findS; rw [List.find?_cons_of_pos (by simpa using e.symm)]; rfl
      rw [if_pos this]
      rfl
    · rw [if_neg e]
      have e1 : findS (z :: L) x.key = findS L x.key := by unfold findS; rw [List.find?_cons_of_neg (by simpa using fun h => e h.symm)]
      rw [e1]
      by_cases hlt : ltK x.key z.key
      · rw [if_pos hlt]
        have : findS L x.key = none := by
          cases hf : findS L x.key with
          | none => rfl
          | some y =>
            obtain ⟨g1, g2⟩ := findS_some hf
            exact absurd (ltK_trans hlt (h1 y g1)) (by rw [g2]; exact ltK_irrefl _)
        rw [this]
        rfl
      · rw [if_neg hlt]
        have := length_ins (L := L) x h2
        rw [List.length_cons, this]
        cases (findS L x.key).isSome <;> rfl

/-! the map's entries -/
def prs (L : List RecT) : List (ByteArray × RecT) := L.map (fun x => (x.key, x))
theorem prs_length (L : List RecT) : (prs L).length = L.length := List.length_map ..
theorem look_prs (L : List RecT) (k : ByteArray) : lookL (prs L) k = findS L k := by
  unfold lookL findS prs
  rw [List.find?_map]
  simp only [Function.comp_def]
  cases List.find? (fun x => decide (x.key = k)) L <;> rfl
theorem mem_prs {L : List RecT} {p : ByteArray × RecT} : p ∈ prs L ↔ p.2 ∈ L ∧ p.1 = p.2.key := by
  unfold prs
  rw [List.mem_map]
  constructor
  · rintro ⟨x, hx, rfl⟩; exact ⟨hx, rfl⟩
  · rintro ⟨hx, e⟩; exact ⟨p.2, hx, by rw [← e]⟩
theorem nodup_of_apart {α β : Type} {L : List (α × β)} (h : L.Pairwise (fun p q => p.1 ≠ q.1)) : L.Nodup := h.imp (fun {a b} (hn : a.1 ≠ b.1) (e : a = b) => hn (by rw [e]))
theorem prs_apart {L : List RecT} (h : Rising L) : (prs L).Pairwise (fun p q => p.1 ≠ q.1) := by
  unfold prs
  rw [List.pairwise_map]
  exact rising_keys h
theorem put_prs {L : List RecT} (h : Rising L) (x : RecT) : (putL (prs L) x.key x).Perm (prs (insS x L)) := by
  refine (List.perm_ext_iff_of_nodup (nodup_of_apart (apart_put (prs_apart h) _ _)) (nodup_of_apart (prs_apart (rising_ins h)))).2 (fun p => ?_)
  rw [mem_prs, mem_insS h]
  unfold putL
  rw [List.mem_append, mem_dropL, mem_prs]
  constructor
  · rintro (⟨⟨h1, h2⟩, h3⟩ | h1)
    · exact ⟨.inr ⟨h1, by rw [← h2]; exact h3⟩, h2⟩
    · obtain rfl : p = (x.key, x) := by simpa using h1
      exact ⟨.inl rfl, rfl⟩
  · rintro ⟨h1 | ⟨h1, h2⟩, h3⟩
    · right
      obtain ⟨p1, p2⟩ := p
      simp only at h1 h3
      subst h1 h3
      simp
    · exact .inl ⟨⟨h1, h3⟩, by rw [h3]; exact h2⟩

/-! the store's functions -/
def findV (L : List RecT) (k : ByteArray) : RecT := (findS L k).getD zeroR
def putFE (most : Int) (n v : Nat) : Option RecT → Int
  | some y => if v ≤ y.ver then 13 else 0
  | none => if most ≤ n then 5 else 0
/-- What Put answers, the records and the count of those refused behind it. -/
def putE (most ttl : Int) (L : List RecT) (x : RecT) : Int :=
  if goodR x = false then 4 else if ttl ≤ x.age then 7 else putFE most L.length x.ver (findS L x.key)
def putS (most ttl : Int) (L : List RecT) (x : RecT) : List RecT := if putE most ttl L x = 0 then insS x L else L
def putR (most ttl : Int) (L : List RecT) (x : RecT) (r : Int) : Int := if putE most ttl L x = 5 then r + 1 else r
def older (x : RecT) : RecT := { x with age := x.age + 1 }
def tickS (ttl : Int) (L : List RecT) : List RecT := (L.map older).filter (fun x => decide (x.age < ttl))
/-- What a store holds: rising, good, young enough, not too many. -/
structure StoreOk (most ttl : Int) (L : List RecT) : Prop where
  mostB : 1 ≤ most ∧ most ≤ 48
  ttlB : 1 ≤ ttl ∧ ttl ≤ 65535
  rises : Rising L
  goods : ∀ x ∈ L, goodR x = true ∧ x.age < ttl
  room : (L.length : Int) ≤ most
theorem StoreOk.empty {most ttl : Int} (h1 : 1 ≤ most) (h2 : most ≤ 48) (h3 : 1 ≤ ttl) (h4 : ttl ≤ 65535) : StoreOk most ttl [] :=
  ⟨⟨h1, h2⟩, ⟨h3, h4⟩, List.Pairwise.nil, (fun _ h => by cases h), by simp; omega⟩
theorem putE_zero {most ttl : Int} {L : List RecT} {x : RecT} (h : putE most ttl L x = 0) : goodR x = true ∧ x.age < ttl ∧ ((findS L x.key).isSome = true ∨ (L.length : Int) < most) := by
  unfold putE at h
  split at h
  · cases h
  · rename_i h1
    split at h
    · cases h
    · rename_i h2
      refine ⟨by simpa using h1, by omega, ?_⟩
      cases hf : findS L x.key with
      | none =>
        rw [hf] at h
        unfold putFE at h
        simp only at h
        split at h
        · cases h
        · right; omega
      | some y => exact .inl rfl
theorem StoreOk.put {most ttl : Int} {L : List RecT} (h : StoreOk most ttl L) (x : RecT) : StoreOk most ttl (putS most ttl L x) := by
  unfold putS
  split
  · rename_i e
    obtain ⟨h1, h2, h3⟩ := putE_zero e
    refine ⟨h.mostB, h.ttlB, rising_ins h.rises, fun y hy => ?_, ?_⟩
    · rcases (mem_insS h.rises).1 hy with rfl | ⟨hy, _⟩
      · exact ⟨h1, h2⟩
      · exact h.goods y hy
    · have := length_ins x h.rises
      have := h.room
      rcases h3 with h3 | h3
      · simp_all
      · split at * <;> omega
  · exact h
theorem good_older {x : RecT} (h : goodR x = true) (ha : x.age < 65535) : goodR (older x) = true := by
  unfold goodR goodP at *
  simp only [older]
  simp only [Bool.and_eq_true, decide_eq_true_eq] at *
  obtain ⟨⟨⟨⟨⟨h1, h2⟩, h3⟩, h4⟩, h5⟩, h6⟩ := h
  exact ⟨⟨⟨⟨⟨h1, h2⟩, decide_eq_true h3⟩, decide_eq_true (by omega)⟩, decide_eq_true (by omega)⟩, decide_eq_true h6⟩
end Go.Proofs.YtianboachknfmaaDoor
