/- Answer: an origin's records. -/
import Derived.Test.YtbdfijgejkimnaaGreatDoorNC
import Derived.Test.YtbdfijgejkimnaaGreatDoorND
import Derived.Test.YtbdfijgejkimnaaGreatDoorNA
import Derived.Deep.RegionWith
import Derived.Deep.RegionLaw
import Derived.RegionTactic
import Derived.Test.YtbdfijgejkimnaaGreatDoorIterS
import Derived.Shelf.SlIter.Nil
import Derived.Shelf.SortM.Plain
import Derived.Shelf.SortM.SortNone
import Derived.Sort.KeysCollected
import Derived.Test.YtbdfijgejkimnaaGreatDoorNB
import Derived.Laws.IdiomCopy
/-! A store's records, plainly: lists of records that rise by their keys. -/
namespace Go.Proofs.YtbdfijgejkimnaaGreatDoor
open Go.Conc Go.RowKit

structure RecT where
  key : ByteArray
  ver : Nat
  o : Int
  age : Int
  gone : Bool
  data : ByteArray
theorem RecT.ext' {x y : RecT} (h1 : x.key = y.key) (h2 : x.ver = y.ver) (h3 : x.o = y.o) (h4 : x.age = y.age) (h5 : x.gone = y.gone) (h6 : x.data = y.data) : x = y := by
  cases x; cases y; simp_all
/-- The record's six cells. -/
def recC (x : RecT) : List Value := [.string x.key, .int .u64 x.ver, .int .i64 x.o, .int .i64 x.age, .bool x.gone, .string x.data]
def recT (x : RecT) : Value := .agg #[.string x.key, .int .u64 x.ver, .int .i64 x.o, .int .i64 x.age, .bool x.gone, .string x.data]
def zeroR : RecT := ⟨⟨#[]⟩, 0, 0, 0, false, ⟨#[]⟩⟩
theorem recC_length (x : RecT) : (recC x).length = 6 := rfl
theorem recC_one (x : RecT) : ∀ u ∈ recC x, u.oneCell' = true := by
  intro u hu
  simp only [recC, List.mem_cons, List.not_mem_nil, or_false] at hu
  rcases hu with rfl | rfl | rfl | rfl | rfl | rfl <;> rfl
def goodR (x : RecT) : Bool := goodP x.key x.ver x.o x.age x.gone x.data

/-- Keys' order: by their bytes. -/
def ltK (a b : ByteArray) : Prop := a.data.toList < b.data.toList
instance (a b : ByteArray) : Decidable (ltK a b) := by unfold ltK; infer_instance
theorem ltK_irrefl (a : ByteArray) : ¬ ltK a a := List.lt_irrefl _
theorem ltK_trans {a b c : ByteArray} (h : ltK a b) (k : ltK b c) : ltK a c := List.lt_trans h k
theorem ltK_tri {a b : ByteArray} (h : ¬ ltK a b) (k : a ≠ b) : ltK b a := by
  unfold ltK at *
  rcases List.le_iff_lt_or_eq.1 (List.not_lt.1 h) with h | h
  · exact h
  · exact absurd (by cases a; cases b; simp at h ⊢; exact h.symm) k
theorem ltK_ne {a b : ByteArray} (h : ltK a b) : a ≠ b := fun e => by subst e; exact ltK_irrefl _ h
def Rising (L : List RecT) : Prop := L.Pairwise (fun x y => ltK x.key y.key)
def findS (L : List RecT) (k : ByteArray) : Option RecT := L.find? (fun x => decide (x.key = k))
/-- A record is placed, or takes the place of the one of its key. -/
def insS (x : RecT) : List RecT → List RecT
  | [] => [x]
  | y :: L => if x.key = y.key then x :: L else if ltK x.key y.key then x :: y :: L else y :: insS x L
theorem mem_insS {x : RecT} : ∀ {L : List RecT} {y : RecT}, Rising L → (y ∈ insS x L ↔ y = x ∨ (y ∈ L ∧ y.key ≠ x.key))
  | [], y, _ => by simp [insS]
  | z :: L, y, h => by
    obtain ⟨h1, h2⟩ := List.pairwise_cons.1 h
    unfold insS
    split
    · rename_i e
      simp only [List.mem_cons]
      constructor
      · rintro (rfl | hy)
        · exact .inl rfl
        · exact .inr ⟨.inr hy, fun e2 => ltK_irrefl _ (by have := h1 y hy; rw [e2, e] at this; exact this)⟩
      · rintro (rfl | ⟨rfl | hy, hn⟩)
        · exact .inl rfl
        · exact absurd e.symm hn
        · exact .inr hy
    · rename_i e
      split
      · rename_i hlt
        simp only [List.mem_cons]
        constructor
        · rintro (rfl | rfl | hy)
          · exact .inl rfl
          · exact .inr ⟨.inl rfl, fun e2 => e e2.symm⟩
          · exact .inr ⟨.inr hy, fun e2 => ltK_irrefl _ (by have := ltK_trans hlt (h1 y hy); rw [e2] at this; exact this)⟩
        · rintro (rfl | ⟨rfl | hy, hn⟩)
          · exact .inl rfl
          · exact .inr (.inl rfl)
          · exact .inr (.inr hy)
      · simp only [List.mem_cons, mem_insS (L := L) h2]
        constructor
        · rintro (rfl | rfl | ⟨hy, hn⟩)
          · exact .inr ⟨.inl rfl, fun e2 => e e2.symm⟩
          · exact .inl rfl
          · exact .inr ⟨.inr hy, hn⟩
        · rintro (rfl | ⟨rfl | hy, hn⟩)
          · exact .inr (.inl rfl)
          · exact .inl rfl
          · exact .inr (.inr ⟨hy, hn⟩)
theorem rising_ins {x : RecT} : ∀ {L : List RecT}, Rising L → Rising (insS x L)
  | [], _ => by simp [insS, Rising]
  | z :: L, h => by
    obtain ⟨h1, h2⟩ := List.pairwise_cons.1 h
    unfold insS
    split
    · rename_i e
      exact List.pairwise_cons.2 ⟨fun y hy => by rw [e]; exact h1 y hy, h2⟩
    · rename_i e
      split
      · rename_i hlt
        refine List.pairwise_cons.2 ⟨fun y hy => ?_, h⟩
        rcases List.mem_cons.1 hy with rfl | hy
        · exact hlt
        · exact ltK_trans hlt (h1 y hy)
      · rename_i hlt
        refine List.pairwise_cons.2 ⟨fun y hy => ?_, rising_ins h2⟩
        rcases (mem_insS h2).1 hy with rfl | ⟨hy, _⟩
        · exact ltK_tri hlt e
        · exact h1 y hy
theorem rising_keys {L : List RecT} (h : Rising L) : L.Pairwise (fun x y => x.key ≠ y.key) := h.imp (fun h => ltK_ne h)
theorem rising_nodup {L : List RecT} (h : Rising L) : L.Nodup := (rising_keys h).imp (fun {a b} (hn : a.key ≠ b.key) (e : a = b) => hn (by rw [e]))
/-- Lists that rise and have the same members are one. -/
theorem rising_ext {L M : List RecT} (hL : Rising L) (hM : Rising M) (h : ∀ x, x ∈ L ↔ x ∈ M) : L = M := by
  have hp : L.Perm M := (List.perm_ext_iff_of_nodup (rising_nodup hL) (rising_nodup hM)).2 h
  exact hp.eq_of_pairwise (fun a b _ _ h1 h2 => absurd (ltK_trans h1 h2) (ltK_irrefl _)) hL hM
theorem rising_map {L : List RecT} (h : Rising L) (f : RecT → RecT) (hf : ∀ x, (f x).key = x.key) : Rising (L.map f) := by
  unfold Rising
  rw [List.pairwise_map]
  exact h.imp (fun {a b} hab => by rw [hf, hf]; exact hab)
theorem rising_filter {L : List RecT} (h : Rising L) (p : RecT → Bool) : Rising (L.filter p) := List.Pairwise.filter _ h
theorem findS_some {L : List RecT} {k : ByteArray} {y : RecT} (h : findS L k = some y) : y ∈ L ∧ y.key = k := by
  have h1 := List.mem_of_find?_eq_some h
  have h2 := List.find?_some h
  exact ⟨h1, by simpa using h2⟩
theorem findS_none {L : List RecT} {k : ByteArray} (h : findS L k = none) : ∀ y ∈ L, y.key ≠ k := by
  intro y hy e
  unfold findS at h
  rw [List.find?_eq_none] at h
  exact h y hy (by simpa using e)
theorem findS_mem {L : List RecT} (h : Rising L) {y : RecT} (hy : y ∈ L) : findS L y.key = some y := by
  cases hf : findS L y.key with
  | none => exact absurd rfl (findS_none hf y hy)
  | some z =>
    obtain ⟨h1, h2⟩ := findS_some hf
    obtain ⟨i, hi, rfl⟩ := List.getElem_of_mem h1
    obtain ⟨j, hj, rfl⟩ := List.getElem_of_mem hy
    have hk := List.pairwise_iff_getElem.1 (rising_keys h)
    rcases Nat.lt_trichotomy i j with h3 | h3 | h3
    · exact absurd h2 (hk i j hi hj h3)
    · subst h3; rfl
    · exact absurd h2.symm (hk j i hj hi h3)
theorem findS_ins_same {L : List RecT} (h : Rising L) (x : RecT) : findS (insS x L) x.key = some x := findS_mem (rising_ins h) ((mem_insS h).2 (.inl rfl))
theorem findS_ins_other {L : List RecT} (h : Rising L) (x : RecT) {k : ByteArray} (hk : k ≠ x.key) : findS (insS x L) k = findS L k := by
  cases hf : findS L k with
  | none =>
    cases hg : findS (insS x L) k with
    | none => rfl
    | some z =>
      obtain ⟨h1, h2⟩ := findS_some hg
      rcases (mem_insS h).1 h1 with rfl | ⟨h3, _⟩
      · exact absurd h2.symm hk
      · exact absurd h2 (findS_none hf z h3)
  | some y =>
    obtain ⟨h1, h2⟩ := findS_some hf
    have := findS_mem (rising_ins h) ((mem_insS (x := x) h).2 (.inr ⟨h1, by rw [h2]; exact hk⟩))
    rw [h2] at this
    exact this
theorem length_ins : ∀ {L : List RecT} (x : RecT), Rising L → (insS x L).length = if (findS L x.key).isSome then L.length else L.length + 1
  | [], x, _ => by simp [insS, findS]
  | z :: L, x, h => by
    obtain ⟨h1, h2⟩ := List.pairwise_cons.1 h
    unfold insS
    by_cases e : x.key = z.key
    · rw [if_pos e]
      have : (findS (z :: L) x.key).isSome = true := by unfold findS; rw [List.find?_cons_of_pos (by simpa using e.symm)]; rfl
      rw [if_pos this]
      rfl
    · rw [if_neg e]
      have e1 : findS (z :: L) x.key = findS L x.key := by unfold findS; rw [List.find?_cons_of_neg (by simpa using fun h => e h.symm)]
      rw [e1]
      by_cases hlt : ltK x.key z.key
      · rw [if_pos hlt]
        have : findS L x.key = none := by
          cases hf : findS L x.key with
          | none => rfl
          | some y =>
            obtain ⟨g1, g2⟩ := findS_some hf
            exact absurd (ltK_trans hlt (h1 y g1)) (by rw [g2]; exact ltK_irrefl _)
        rw [this]
        rfl
      · rw [if_neg hlt]
        have := length_ins (L := L) x h2
        rw [List.length_cons, this]
        cases (findS L x.key).isSome <;> rfl

/-! the map's entries -/
def prs (L : List RecT) : List (ByteArray × RecT) := L.map (fun x => (x.key, x))
theorem prs_length (L : List RecT) : (prs L).length = L.length := List.length_map ..
theorem look_prs (L : List RecT) (k : ByteArray) : lookL (prs L) k = findS L k := by
  unfold lookL findS prs
  rw [List.find?_map]
  simp only [Function.comp_def]
  cases List.find? (fun x => decide (x.key = k)) L <;> rfl
theorem mem_prs {L : List RecT} {p : ByteArray × RecT} : p ∈ prs L ↔ p.2 ∈ L ∧ p.1 = p.2.key := by
  unfold prs
  rw [List.mem_map]
  constructor
  · rintro ⟨x, hx, rfl⟩; exact ⟨hx, rfl⟩
  · rintro ⟨hx, e⟩; exact ⟨p.2, hx, by rw [← e]⟩
theorem nodup_of_apart {α β : Type} {L : List (α × β)} (h : L.Pairwise (fun p q => p.1 ≠ q.1)) : L.Nodup := h.imp (fun {a b} (hn : a.1 ≠ b.1) (e : a = b) => hn (by rw [e]))
theorem prs_apart {L : List RecT} (h : Rising L) : (prs L).Pairwise (fun p q => p.1 ≠ q.1) := by
  unfold prs
  rw [List.pairwise_map]
  exact rising_keys h
theorem put_prs {L : List RecT} (h : Rising L) (x : RecT) : (putL (prs L) x.key x).Perm (prs (insS x L)) := by
  refine (List.perm_ext_iff_of_nodup (nodup_of_apart (apart_put (prs_apart h) _ _)) (nodup_of_apart (prs_apart (rising_ins h)))).2 (fun p => ?_)
  rw [mem_prs, mem_insS h]
  unfold putL
  rw [List.mem_append, mem_dropL, mem_prs]
  constructor
  · rintro (⟨⟨h1, h2⟩, h3⟩ | h1)
    · exact ⟨.inr ⟨h1, by rw [← h2]; exact h3⟩, h2⟩
    · obtain rfl : p = (x.key, x) := by simpa using h1
      exact ⟨.inl rfl, rfl⟩
  · rintro ⟨h1 | ⟨h1, h2⟩, h3⟩
    · right
      obtain ⟨p1, p2⟩ := p
      simp only at h1 h3
      subst h1 h3
      simp
    · exact .inl ⟨⟨h1, h3⟩, by rw [h3]; exact h2⟩

/-! the store's functions -/
def findV (L : List RecT) (k : ByteArray) : RecT := (findS L k).getD zeroR
def putFE (most : Int) (n v : Nat) : Option RecT → Int
  | some y => if v ≤ y.ver then 13 else 0
  | none => if most ≤ n then 5 else 0
/-- What Put answers, the records and the count of those refused behind it. -/
def putE (most ttl : Int) (L : List RecT) (x : RecT) : Int :=
  if goodR x = false then 4 else if ttl ≤ x.age then 7 else putFE most L.length x.ver (findS L x.key)
def putS (most ttl : Int) (L : List RecT) (x : RecT) : List RecT := if putE most ttl L x = 0 then insS x L else L
def putR (most ttl : Int) (L : List RecT) (x : RecT) (r : Int) : Int := if putE most ttl L x = 5 then r + 1 else r
def older (x : RecT) : RecT := { x with age := x.age + 1 }
def tickS (ttl : Int) (L : List RecT) : List RecT := (L.map older).filter (fun x => decide (x.age < ttl))
/-- What a store holds: rising, good, young enough, not too many. -/
structure StoreOk (most ttl : Int) (L : List RecT) : Prop where
  mostB : 1 ≤ most ∧ most ≤ 48
  ttlB : 1 ≤ ttl ∧ ttl ≤ 65535
  rises : Rising L
  goods : ∀ x ∈ L, goodR x = true ∧ x.age < ttl
  room : (L.length : Int) ≤ most
theorem StoreOk.empty {most ttl : Int} (h1 : 1 ≤ most) (h2 : most ≤ 48) (h3 : 1 ≤ ttl) (h4 : ttl ≤ 65535) : StoreOk most ttl [] :=
  ⟨⟨h1, h2⟩, ⟨h3, h4⟩, List.Pairwise.nil, (fun _ h => by cases h), by simp; omega⟩
theorem putE_zero {most ttl : Int} {L : List RecT} {x : RecT} (h : putE most ttl L x = 0) : goodR x = true ∧ x.age < ttl ∧ ((findS L x.key).isSome = true ∨ (L.length : Int) < most) := by
  unfold putE at h
  split at h
  · cases h
  · rename_i h1
    split at h
    · cases h
    · rename_i h2
      refine ⟨by simpa using h1, by omega, ?_⟩
      cases hf : findS L x.key with
      | none =>
        rw [hf] at h
        unfold putFE at h
        simp only at h
        split at h
        · cases h
        · right; omega
      | some y => exact .inl rfl
theorem StoreOk.put {most ttl : Int} {L : List RecT} (h : StoreOk most ttl L) (x : RecT) : StoreOk most ttl (putS most ttl L x) := by
  unfold putS
  split
  · rename_i e
    obtain ⟨h1, h2, h3⟩ := putE_zero e
    refine ⟨h.mostB, h.ttlB, rising_ins h.rises, fun y hy => ?_, ?_⟩
    · rcases (mem_insS h.rises).1 hy with rfl | ⟨hy, _⟩
      · exact ⟨h1, h2⟩
      · exact h.goods y hy
    · have := length_ins x h.rises
      have := h.room
      rcases h3 with h3 | h3
      · simp_all
      · split at * <;> omega
  · exact h
theorem good_older {x : RecT} (h : goodR x = true) (ha : x.age < 65535) : goodR (older x) = true := by
  unfold goodR goodP at *
  simp only [older]
  simp only [Bool.and_eq_true, decide_eq_true_eq] at *
  obtain ⟨⟨⟨⟨⟨h1, h2⟩, h3⟩, h4⟩, h5⟩, h6⟩ := h
  exact ⟨⟨⟨⟨⟨h1, h2⟩, decide_eq_true h3⟩, decide_eq_true (by omega)⟩, decide_eq_true (by omega)⟩, decide_eq_true h6⟩
end Go.Proofs.YtbdfijgejkimnaaGreatDoor
/-! A store: New, Len, Refused, TTL, Get. -/
namespace Go.Proofs.YtbdfijgejkimnaaGreatDoor
open Go.Conc Go.RowKit Go.Maps

theorem strInj : ∀ a b : ByteArray, Value.string a = Value.string b → a = b := fun _ _ h => Value.string.inj h
theorem strOk {s : ByteArray} (h : s.size ≤ maxLen) : KeyOk Tryz.prog 9 Value.string s := ⟨_, Go.WideMaps.keyOf_string_mk Tryz.underlying9 h⟩
theorem zeroRec (w : World) : (zeroValue 69).run Tryz.prog w = .ok (recT zeroR) w := by kernel_rfl
abbrev RMap (w : World) (b : Nat) (L : List RecT) : Prop := MapIs Tryz.prog 9 Value.string recT w b (prs L)
/-- A store: its block s, its map's block b, what it holds. -/
structure StoreAt (w : World) (s b : Nat) (most ttl r : Int) (L : List RecT) : Prop where
  blk : w.heap[s]? = some (.cells #[.map (some b), .int .i64 most, .int .i64 ttl, .int .i64 r] 113 (0, 0))
  map : RMap w b L
  ok : StoreOk most ttl L
theorem StoreAt.ne {w : World} {s b : Nat} {most ttl r : Int} {L : List RecT} (h : StoreAt w s b most ttl r L) : s ≠ b := by
  obtain ⟨es, c, hb, _⟩ := h.map.own
  rintro rfl
  have := h.blk
  rw [hb] at this
  cases this
theorem StoreAt.lt {w : World} {s b : Nat} {most ttl r : Int} {L : List RecT} (h : StoreAt w s b most ttl r L) : s < w.heap.size ∧ b < w.heap.size := ⟨lt_of_block h.blk, h.map.lt⟩
theorem StoreAt.kept {w w' : World} {S : Nat → Prop} {s b : Nat} {most ttl r : Int} {L : List RecT} (h : StoreAt w s b most ttl r L) (ho : Only S w w') (h1 : ¬ S s) (h2 : ¬ S b) : StoreAt w' s b most ttl r L :=
  ⟨ho.old h.blk h1, h.map.kept ho h2, h.ok⟩
theorem StoreAt.new {w w' : World} {s b : Nat} {most ttl r : Int} {L : List RecT} (h : StoreAt w s b most ttl r L) (ho : Only (fun _ => False) w w') : StoreAt w' s b most ttl r L := h.kept ho id id
/-- Which sizes may be. -/
def sizesB (most ttl : Int) : Bool := decide (1 ≤ most ∧ most ≤ 48 ∧ 1 ≤ ttl ∧ ttl ≤ 65535)
theorem snew_ok (w : World) (most ttl : Int) (h1 : 1 ≤ most) (h2 : most ≤ 48) (h3 : 1 ≤ ttl) (h4 : ttl ≤ 65535) : Calls Tryz.prog 17 #[.int .i64 most, .int .i64 ttl] w fun e w' =>
    e = .returned (.tuple #[.pointer (some ⟨w.heap.size + 1, 0, none⟩), .int .i64 0]) ∧ Only (fun _ => False) w w' ∧ StoreAt w' (w.heap.size + 1) w.heap.size most ttl 0 [] := by
  have hmm := @run_makeMap Tryz.prog
  go_enter Tryz.func17, Tryz.ntmps17
  go_wp2_with fail
  go_ret2
  refine ⟨rfl, ((Only.refl _ _).alloc _).alloc _, ?_, ?_, StoreOk.empty h1 h2 h3 h4⟩
  · have := heap_alloc_new (w.alloc (.map #[] 0)) (.cells #[.map (some w.heap.size), .int .i64 most, .int .i64 ttl, .int .i64 0] 113 (0, 0))
    simpa using this
  · exact (MapIs.made w).kept ((Only.refl (fun _ => False) _).alloc _) id
theorem snew_no (w : World) (most ttl : Int) (h : ¬ (1 ≤ most ∧ most ≤ 48 ∧ 1 ≤ ttl ∧ ttl ≤ 65535)) : Calls Tryz.prog 17 #[.int .i64 most, .int .i64 ttl] w fun e w' =>
    e = .returned (.tuple #[.pointer none, .int .i64 1]) ∧ w = w' := by
  by_cases h1 : most < 1 <;> by_cases h2 : most > 48 <;> by_cases h3 : ttl < 1 <;> by_cases h4 : ttl > 65535
  all_goals first
    | (exfalso; omega)
    | (go_enter Tryz.func17, Tryz.ntmps17
       go_wp2_with fail
       go_ret2
       exact ⟨rfl, rfl⟩)
theorem slen_any (w : World) (s b : Nat) (most ttl r : Int) (L : List RecT) (h : StoreAt w s b most ttl r L) : Calls Tryz.prog 22 #[.pointer (some ⟨s, 0, none⟩)] w fun e w' => e = .returned (.int .i64 (L.length : Nat)) ∧ w = w' := by
  have c0 : w.cell? ⟨s, 0, none⟩ = some (.map (some b)) := cell_at h.blk 0
  have hl := h.map.len Tryz.underlying111 (k := 9)
  rw [prs_length] at hl
  clear h
  go_enter Tryz.func22, Tryz.ntmps22
  go_wp2_with fail
  go_ret
  exact ⟨rfl, rfl⟩
theorem sttl_any (w : World) (s b : Nat) (most ttl r : Int) (L : List RecT) (h : StoreAt w s b most ttl r L) : Calls Tryz.prog 38 #[.pointer (some ⟨s, 0, none⟩)] w fun e w' => e = .returned (.int .i64 ttl) ∧ w = w' := by
  have c2 : w.cell? ⟨s, 2, none⟩ = some (.int .i64 ttl) := cell_at h.blk 2
  clear h
  go_enter Tryz.func38, Tryz.ntmps38
  go_wp2_with fail
  go_ret
  exact ⟨rfl, rfl⟩
theorem slen_nil (w : World) : Calls Tryz.prog 22 #[.pointer none] w fun e w' => e = .returned (.int .i64 0) ∧ w = w' := by
  go_enter Tryz.func22, Tryz.ntmps22
  go_wp2_with fail
  go_ret
  exact ⟨rfl, rfl⟩
theorem sttl_nil (w : World) : Calls Tryz.prog 38 #[.pointer none] w fun e w' => e = .returned (.int .i64 0) ∧ w = w' := by
  go_enter Tryz.func38, Tryz.ntmps38
  go_wp2_with fail
  go_ret
  exact ⟨rfl, rfl⟩
end Go.Proofs.YtbdfijgejkimnaaGreatDoor
/-! A store: its keys, sorted. -/
namespace Go.Proofs.YtbdfijgejkimnaaGreatDoor
open Go.Conc Go.RowKit Go.Maps Go.Sort Go.Shelf

theorem sortsS (m : Nat) : AnyZ.SortsIn Tryz.prog Tryz.sortedS_ren Fence.wide m :=
  ⟨fun blk off cap ss W hH hblk hsz => callsIn_wide.2 (AnyM.slices_Sort_string Tryz.sortS blk off cap ss W hH hblk hsz),
   fun p cap W => callsIn_wide.2 (AnyM.slices_Sort_string_none Tryz.sortS p cap W)⟩
theorem mkeys_any (mb : Option Nat) (W : World) : Calls Tryz.prog 136 #[.map mb] W fun e w' => e = .returned (.func (.func 151) #[] #[.pointer (some ⟨W.heap.size, 0, none⟩)]) ∧ w' = W.alloc (.cells #[.map mb] 111) :=
  callsIn_wide.1 (AnyZ.keys_in Tryz.keysR Fence.wide 5 trivial rfl mb W)
theorem sorted_any {H : Type} (b nn : Nat) (D0 : DataW H) (R : Value → Option (DataW H × List MemPlace)) (w : World) (hown : w.ownsMap Tryz.prog 9 R b nn D0) (hmax : Maps.size D0 ≤ maxLen) (hbytes : Maps.size D0 * 16 ≤ 140737488355328) :
    Calls Tryz.prog 135 #[.func (.func 151) #[] #[.pointer (some ⟨w.heap.size, 0, none⟩)]] (w.alloc (.cells #[.map (some b)] 111)) fun e w' => ∃ (v : Value) (ss : List (List UInt8)), e = .returned v ∧ ss.Perm (strKeys D0) ∧
      w'.ownsRow (w.alloc (.cells #[.map (some b)] 111)).heap.size 9 1 v ss.length ((ss.mergeSort (fun x y => decide (x ≤ y))).map encStr) ∧ (v = .slice none 0 0 ↔ ss = []) ∧ Below (w.alloc (.cells #[.map (some b)] 111)).heap.size (w.alloc (.cells #[.map (some b)] 111)) w' := by
  have hbl := hown.lt
  have hseq : SeqGives Fence.wide 2 Tryz.prog 151 #[.pointer (some ⟨w.heap.size, 0, none⟩)] encStr (fun ss => ss.Perm (strKeys D0)) (Maps.size D0) (w.alloc (.cells #[.map (some b)] 111)) :=
    AnyZ.keys_gives (ρ := Tryz.keysR_ren) { Tryz.keysR with } Fence.wide _ trivial rfl (by omega) w.heap.size b nn D0 _ (by simp) (by simp) (by
      obtain ⟨es, clock, hb, Ft, hs, hD⟩ := hown
      exact ⟨es, clock, (Below.heap_alloc _ _ b hbl).trans hb, Ft, hs, hD⟩)
  exact callsIn_wide.1 (AnyZ.sorted_in Tryz.sortedS Fence.wide 5 trivial trivial trivial trivial rfl (by omega) (sortsS _) (enters_of Tryz.func150 (by kernel_rfl) rfl) 151 #[.pointer (some ⟨w.heap.size, 0, none⟩)] trivial (enters_of Tryz.func151 (by kernel_rfl) rfl) _ _ hmax hbytes _ hseq)
def keysS (L : List RecT) : List ByteArray := L.map (·.key)
theorem strKeys_prs {L : List RecT} (hs : ∀ x ∈ L, x.key.size ≤ maxLen) : (strKeys (mapD Tryz.prog 9 Value.string recT (prs L))).Perm (L.map (fun x => x.key.data.toList)) := by
  have h1 : (((prs L).map (entL Tryz.prog 9 Value.string recT)).foldr DataW.insert []).Perm ((prs L).map (entL Tryz.prog 9 Value.string recT)) := WideShapes.sorted_perm _
  have h2 := h1.map (fun p => strOf p.1)
  refine h2.trans ?_
  unfold prs
  rw [List.map_map, List.map_map]
  refine List.Perm.of_eq (List.map_congr_left (fun x hx => ?_))
  simp only [Function.comp_apply, entL]
  rw [keyL_of (WideMaps.keyOf_string_mk Tryz.underlying9 (hs x hx))]
  rfl
theorem merge_keys {L : List RecT} (h : Rising L) {ss : List (List UInt8)} (hp : ss.Perm (L.map (fun x => x.key.data.toList))) : ss.mergeSort (fun x y => decide (x ≤ y)) = L.map (fun x => x.key.data.toList) := by
  have h1 : (ss.mergeSort (fun x y => decide (x ≤ y))).Pairwise (fun x y => decide (x ≤ y) = true) := List.pairwise_mergeSort (le := fun x y : List UInt8 => decide (x ≤ y)) (fun a b c hab hbc => decide_eq_true (List.le_trans (of_decide_eq_true hab) (of_decide_eq_true hbc))) (fun a b => by
    rcases List.le_total a b with h | h
    · show (decide (a ≤ b) || decide (b ≤ a)) = true
      rw [decide_eq_true h]; rfl
    · show (decide (a ≤ b) || decide (b ≤ a)) = true
      rw [decide_eq_true h, Bool.or_true]) ss
  have h2 : (L.map (fun x => x.key.data.toList)).Pairwise (fun x y => decide (x ≤ y) = true) := by
    rw [List.pairwise_map]
    exact h.imp (fun {a b} hab => decide_eq_true (List.le_of_lt hab))
  exact ((List.mergeSort_perm ss _).trans hp).eq_of_pairwise (fun a b _ _ hab hba => List.le_antisymm (of_decide_eq_true hab) (of_decide_eq_true hba)) h1 h2
theorem skeys_nil (w : World) : Calls Tryz.prog 110 #[.pointer none] w fun e w' => e = .returned (.slice none 0 0) ∧ w = w' := by
  go_enter Tryz.func110, Tryz.ntmps110
  go_wp2_with fail
  go_ret
  exact ⟨rfl, rfl⟩
theorem skeys_any (w : World) (s b : Nat) (most ttl r : Int) (L : List RecT) (h : StoreAt w s b most ttl r L) (hs : ∀ x ∈ L, x.key.size ≤ maxLen) :
    Calls Tryz.prog 110 #[.pointer (some ⟨s, 0, none⟩)] w fun e w' => ∃ v, e = .returned v ∧ Only (fun _ => False) w w' ∧ w'.ownsRow w.heap.size 9 1 v L.length (L.map (fun x => .string x.key)) := by
  have c0 : w.cell? ⟨s, 0, none⟩ = some (.map (some b)) := cell_at h.blk 0
  have hsz : Maps.size (mapD Tryz.prog 9 Value.string recT (prs L)) ≤ 48 := by
    rw [size_mapD, prs_length]
    have h1 := h.ok.room
    have h2 := h.ok.mostB
    omega
  have hsrt := sorted_any b _ _ _ w h.map.own (by unfold maxLen; omega) (by omega)
  have HH := Lib.hid h
  have HS := Lib.hid hsrt
  have HZ := Lib.hid hs
  clear h hsrt hs
  clear hsz
  go_enter Tryz.func110, Tryz.ntmps110
  go_wp2_with fail
  refine (mkeys_any (some b) w).mono ?_
  rintro e w1 ⟨rfl, rfl⟩
  clear c0
  go_wp2_with fail
  refine HS.out.mono ?_
  rintro e w2 ⟨v, ss, rfl, hp, hrow, hnil, hb⟩
  go_wp2_with fail
  go_ret
  have hp2 := hp.trans (strKeys_prs HZ.out)
  rw [merge_keys HH.out.ok.rises hp2] at hrow
  refine ⟨v, rfl, ((Only.refl _ _).alloc _).trans (Only.of_below hb), ?_⟩
  have h3 := ownsRow_base_a hrow (show w.heap.size ≤ _ by simp)
  have e1 : ss.length = L.length := by rw [hp2.length_eq, List.length_map]
  rw [e1, List.map_map] at h3
  exact h3
end Go.Proofs.YtbdfijgejkimnaaGreatDoor
/-! A store: All, Ids, Tick. -/
namespace Go.Proofs.YtbdfijgejkimnaaGreatDoor
open Go.Conc Go.RowKit Go.Maps

theorem infoRec : (Tryz.prog.info? 69).map (fun i => (i.zero, i.size, i.bytes)) = some (some (recT zeroR), 6, 64) := by kernel_rfl
theorem infoId : (Tryz.prog.info? 66).map (fun i => (i.zero, i.size, i.bytes)) = some (some (.agg #[.string ⟨#[]⟩, .int .u64 0]), 2, 24) := by kernel_rfl
theorem good_keys {x : RecT} (h : goodR x = true) : x.key.size ≤ 64 := by
  unfold goodR goodP at h
  simp only [Bool.and_eq_true, beq_iff_eq] at h
  obtain ⟨⟨⟨⟨⟨h1, _⟩, _⟩, _⟩, _⟩, _⟩ := h
  unfold splitE at h1
  cases hs : splitOk x.key with
  | false => rw [hs] at h1; cases h1
  | true =>
    unfold splitOk at hs
    simp only [Bool.and_eq_true, decide_eq_true_eq] at hs
    have h2 := hs.2.2
    by_cases h3 : (x.key.extract 2 x.key.size).size = 0 ∨ 62 < (x.key.extract 2 x.key.size).size
    · rw [namedP_bad h3] at h2; cases h2
    · rw [ByteArray.size_extract] at h3; omega
theorem StoreOk.keys {most ttl : Int} {L : List RecT} (h : StoreOk most ttl L) : ∀ x ∈ L, x.key.size ≤ maxLen := fun x hx => by
  have := good_keys (h.goods x hx).1
  unfold maxLen
  omega
theorem StoreOk.len {most ttl : Int} {L : List RecT} (h : StoreOk most ttl L) : L.length ≤ 48 := by have h1 := h.room; have h2 := h.mostB; omega
/-- A slice of records of the call's own. -/
abbrev RecRow (w : World) (base : Nat) (v : Value) (L : List RecT) : Prop := w.ownsRow base 69 6 v L.length (L.flatMap recC)
theorem sall_nil (w : World) : Calls Tryz.prog 71 #[.pointer none] w fun e w' => e = .returned (.slice none 0 0) ∧ w = w' := by
  go_enter Tryz.func71, Tryz.ntmps71
  go_wp2_with fail
  refine (skeys_nil w).mono ?_
  rintro e w1 ⟨rfl, rfl⟩
  go_wp2_with fail
  refine wp_loop_rounds 1 ?_
  rw [rounds_succ]
  go_wp2_with fail
  go_ret
  exact ⟨rfl, rfl⟩
set_option maxRecDepth 100000 in
set_option maxHeartbeats 1000000 in
theorem sall_any (w : World) (s b : Nat) (most ttl r : Int) (L : List RecT) (h : StoreAt w s b most ttl r L) :
    Calls Tryz.prog 71 #[.pointer (some ⟨s, 0, none⟩)] w fun e w' => ∃ v, e = .returned v ∧ Only (fun _ => False) w w' ∧ RecRow w' w.heap.size v L := by
  obtain ⟨i0, hi0, iz0, iz1, iz2⟩ := info_parts infoRec
  have hkz := h.ok.keys
  have hLl := h.ok.len
  have HH := Lib.hid h
  have HZ := Lib.hid hkz
  clear h hkz
  go_enter Tryz.func71, Tryz.ntmps71
  go_wp2_with fail
  refine (skeys_any w s b most ttl r L HH.out HZ.out).mono ?_
  rintro e w1 ⟨v, rfl, ho1, hrow⟩
  have hsl : Sl w1 1 v L.length (L.map (fun x => .string x.key)) := Sl.of_owns hrow
  obtain ⟨_, ka, kcap, rfl, k1, k2, k3⟩ := hsl
  have hh1 := HH.out.new ho1
  unfold maxLen at k2
  have H1 := Lib.hid hh1
  have HO1 := Lib.hid ho1
  have HK := Lib.hid k3
  clear hh1 ho1 k3
  clear hrow
  go_wp2_with fail
  go_loopg [3, 9] L.length (fun g v3 v9 wr => ∃ k : Nat, v9 = .int .i64 k ∧ k ≤ L.length ∧ Only (fun _ => False) w1 wr ∧ RecRow wr w1.heap.size v3 (L.take k) ∧ g = L.length - k)
  case atStart => exact ⟨0, rfl, Nat.zero_le _, Only.refl _ _, World.ownsRow_nil w1 _ _ _, rfl⟩
  case round =>
    obtain ⟨k, rfl, hk, ho, hown, hg⟩ := hrel
    have Hg := Lib.hid hg
    have HO := Lib.hid ho
    have HW := Lib.hid hown
    clear hg ho hown
    by_cases hlt : k < L.length
    · obtain ⟨kb, koff, ha, hc⟩ := HK.out.resolve_left (by omega)
      subst ha
      have z0 : wr.cell? ⟨kb, koff + k, none⟩ = some (.string L[k].key) := HO.out.cell (hc k _ (by simp [hlt])) id
      have htk : L.take (k + 1) = L.take k ++ [L[k]] := by rw [List.take_add_one, List.getElem?_eq_getElem hlt]; rfl
      have hhr := H1.out.new HO.out
      have c0 : wr.cell? ⟨s, 0, none⟩ = some (.map (some b)) := cell_at hhr.blk 0
      have hlk := hhr.map.look strKeyed strInj Tryz.underlying111 (z := zeroR) (zeroRec wr) (strOk (HZ.out _ (List.getElem_mem hlt))) false
      rw [look_prs, findS_mem hhr.ok.rises (List.getElem_mem hlt)] at hlk
      have hln : (L.take k).length = k := by simp; omega
      have HTK := Lib.hid htk
      have HLN := Lib.hid hln
      clear htk hln
      clear hc hhr
      generalize L[k] = x at *
      obtain ⟨k1, v1, o1, a1, g1, d1⟩ := x
      have hlk2 : (Instr.lookup 111 (.map (some b)) (.string k1) false).run Tryz.prog wr = .ok (.agg #[.string k1, .int .u64 v1, .int .i64 o1, .int .i64 a1, .bool g1, .string d1]) wr := hlk
      clear hlk
      have hlt' : (k : Int) < (L.length : Int) := by omega
      go_wp2_with (at_builtin; refine Wait.mk ?_)
      refine Wait.go (wpList_append_src _ rfl (.tmp 13) (.tmp 20) 98 98 rfl w1.heap.size 69 i0 _ 6 64 Tryz.underlying98 hi0 iz0 iz1 iz2 rfl _ (L.take k).length ((L.take k).flatMap recC) rfl (HW.out.alloc _) _ 1 (recC ⟨k1, v1, o1, a1, g1, d1⟩) rfl ?src4 ?m4 ?b4 ?base4 ?_)
      case src4 => exact Src.ofSlice _ Tryz.underlying98 _ _ _ _ rfl (news_new _ _ _) (recC_one _)
      case m4 => have := HLN.out; unfold maxLen; omega
      case b4 => have := HLN.out; omega
      case base4 => have := HO.out.size; simp; omega
      intro v4 w5 own4 gr4 hv4
      have ho5 : Only (fun _ => False) w1 w5 := (HO.out.alloc _).own (HW.out.alloc _) (Nat.le_refl _) gr4
      have HO5 := Lib.hid ho5
      have HW5 := Lib.hid own4
      clear ho5 own4
      clear hlk2 z0 c0 gr4 hv4
      go_wp2_with fail
      go_roundg (L.length - (k + 1))
      case measure => rw [Hg.out]; omega
      case rel =>
        refine ⟨k + 1, by go_num, by omega, HO5.out, ?_, rfl⟩
        unfold RecRow
        rw [HTK.out, List.length_append, List.flatMap_append]
        have e1 : [RecT.mk k1 v1 o1 a1 g1 d1].flatMap recC = recC ⟨k1, v1, o1, a1, g1, d1⟩ := by simp
        rw [e1]
        exact HW5.out
    · have hke : k = L.length := by omega
      have hlt' : ¬ (k : Int) < (L.length : Int) := by omega
      have hW := HW.out
      rw [hke, List.take_length] at hW
      have HW2 := Lib.hid hW
      clear hW
      clear hke
      go_wp2_with fail
      go_ret
      exact ⟨_, rfl, HO1.out.trans HO.out, ownsRow_base_a HW2.out HO1.out.size⟩
end Go.Proofs.YtbdfijgejkimnaaGreatDoor
/-! Rows that are written in place: several cells at once. -/
namespace Go.Proofs.YtbdfijgejkimnaaGreatDoor
open Go.Conc Go.RowKit

theorem setCells_block {g : Nat} {e : TypeId} {f : Nat × Nat} : ∀ (us : List Value) (o : Nat) (w : World) (cur : Array Value), w.heap[g]? = some (.cells cur e f) → o + us.length ≤ cur.size →
    (w.setCells g o us).heap[g]? = some (.cells (cur.toList.take o ++ us ++ cur.toList.drop (o + us.length)).toArray e f)
  | [], o, w, cur, h, ho => by
    rw [World.setCells]
    simpa using h
  | u :: us, o, w, cur, h, ho => by
    rw [World.setCells, setCells_block us (o + 1) _ _ (set_at h o u) (by simp at ho ⊢; omega)]
    have hlt : o < cur.toList.length := by simp at ho ⊢; omega
    have e1 : (cur.setIfInBounds o u).toList = cur.toList.take o ++ u :: cur.toList.drop (o + 1) := by
      rw [Array.toList_setIfInBounds, List.set_eq_take_append_cons_drop, if_pos hlt]
    have e2 : (cur.toList.take o).length = o := by rw [List.length_take]; omega
    rw [e1]
    congr 2
    have e3 : o + 1 - o = 1 := by omega
    have e4 : o + 1 + us.length - o = us.length + 1 := by omega
    have e6 : List.drop (o + 1 + us.length) (cur.toList.take o) = [] := List.drop_of_length_le (by rw [e2]; omega)
    have e7 : List.take (o + 1) (cur.toList.take o) = cur.toList.take o := List.take_of_length_le (by rw [e2]; omega)
    rw [List.take_append, e2, List.drop_append, e2, e3, e4, e6, e7]
    simp only [List.take_succ_cons, List.take_zero, List.drop_succ_cons, List.nil_append, List.drop_drop, List.append_assoc, List.cons_append, List.length_cons]
    have e5 : o + 1 + us.length = o + (us.length + 1) := by omega
    rw [e5]
theorem setCells_only (g : Nat) : ∀ (us : List Value) (o : Nat) (w : World), Only (fun i => i = g) w (w.setCells g o us)
  | [], _, w => Only.refl _ w
  | u :: us, o, w => by
    rw [World.setCells]
    exact ((Only.refl (fun i => i = g) w).setCell (p := ⟨g, o, none⟩) (.inr rfl) u).trans (setCells_only g us (o + 1) _)
/-- A block that is written anew, whole. -/
theorem lit_set {w : World} {b : Nat} {cs : Array Value} {t : TypeId} (h : w.heap[b]? = some (.cells cs t (0, 0))) (us : List Value) (hl : us.length = cs.size) :
    (w.setCells b 0 us).heap[b]? = some (.cells us.toArray t (0, 0)) ∧ Only (fun i => i = b) w (w.setCells b 0 us) := by
  refine ⟨?_, setCells_only b us 0 w⟩
  rw [setCells_block us 0 w cs h (by omega)]
  have e : cs.toList.drop (0 + us.length) = [] := List.drop_of_length_le (by simp; omega)
  rw [e, List.take_zero, List.nil_append, List.append_nil]
section
variable {w : World} {base g n cap size : Nat} {e : TypeId} {xs : List Value}
theorem row_block (h : w.ownsRow base e size (.slice (some ⟨g, 0, none⟩) n cap) n xs) : ∃ cur, w.heap[g]? = some (.cells cur e (0, 0)) ∧ base ≤ g ∧ n ≤ cap ∧ cap ≤ maxLen ∧ cur.size = cap * size ∧ cur.toList.take (n * size) = xs ∧ xs.length = n * size := by
  obtain ⟨h1, h2⟩ := h
  rcases h2 with ⟨h2, _⟩ | ⟨g', cap', cur, hv, hb, hg, hnc, hcm, hcs, ht⟩
  · cases h2
  · cases hv
    exact ⟨cur, hg, hb, hnc, hcm, hcs, ht, h1⟩
theorem row_over (h : w.ownsRow base e size (.slice (some ⟨g, 0, none⟩) n cap) n xs) (o : Nat) (us : List Value) (ho : o + us.length ≤ n * size) :
    (w.setCells g o us).ownsRow base e size (.slice (some ⟨g, 0, none⟩) n cap) n (xs.take o ++ us ++ xs.drop (o + us.length)) := by
  obtain ⟨cur, hg, hb, hnc, hcm, hcs, ht, hl⟩ := row_block h
  have hn : n * size ≤ cap * size := Nat.mul_le_mul_right _ hnc
  refine ⟨by simp; omega, .inr ⟨g, cap, _, rfl, hb, setCells_block us o w cur hg (by omega), hnc, hcm, by simp; omega, ?_⟩⟩
  subst ht
  have hcl : cur.toList.length = cap * size := by simpa using hcs
  generalize cur.toList = c at *
  generalize n * size = N at *
  generalize cap * size = C at *
  have e1 : (c.take o).length = o := by rw [List.length_take]; omega
  have e2 : (c.take o ++ us ++ c.drop (o + us.length)).take N = c.take o ++ us ++ (c.drop (o + us.length)).take (N - (o + us.length)) := by
    rw [List.take_append, List.take_of_length_le (by rw [List.length_append, e1]; omega), List.length_append, e1]
  show (c.take o ++ us ++ c.drop (o + us.length)).take N = _
  rw [e2, List.take_take, Nat.min_eq_left (by omega), List.drop_take]
theorem row_cut (h : w.ownsRow base e size (.slice (some ⟨g, 0, none⟩) n cap) n xs) {m : Nat} (hm : m ≤ n) : w.ownsRow base e size (.slice (some ⟨g, 0, none⟩) m cap) m (xs.take (m * size)) := by
  obtain ⟨cur, hg, hb, hnc, hcm, hcs, ht, hl⟩ := row_block h
  have hn : m * size ≤ n * size := Nat.mul_le_mul_right _ hm
  refine ⟨by simp; omega, .inr ⟨g, cap, cur, rfl, hb, hg, by omega, hcm, hcs, ?_⟩⟩
  subst ht
  rw [List.take_take, Nat.min_eq_left hn]
end
section
variable {α : Type} {size : Nat} {enc : α → List Value}
theorem fl_set (hs : ∀ a, (enc a).length = size) (l : List α) (k : Nat) (hk : k < l.length) (x : α) : (l.flatMap enc).take (k * size) ++ enc x ++ (l.flatMap enc).drop (k * size + (enc x).length) = (l.set k x).flatMap enc := by
  rw [fl_take hs, hs, show k * size + size = (k + 1) * size by rw [Nat.succ_mul], fl_drop hs, List.set_eq_take_append_cons_drop, if_pos hk, List.flatMap_append, List.flatMap_cons, List.append_assoc]
end
end Go.Proofs.YtbdfijgejkimnaaGreatDoor
/-! slices.DeleteFunc and slices.IndexFunc at slices of records. -/
namespace Go.Proofs.YtbdfijgejkimnaaGreatDoor
open Go.Conc Go.RowKit Go.Maps

/-- A function value that asks p of each record of L, wherever only one block may have changed. -/
def RecPred (k : Nat) (caps : Array Value) (p : RecT → Bool) (L : List RecT) (ob : Option Nat) (w : World) : Prop :=
  ∀ x ∈ L, ∀ W, Only (fun i => ob = some i) w W → Calls Tryz.prog k (#[recT x] ++ caps) W fun e w' => e = .returned (.bool (p x)) ∧ Only (fun _ => False) W w'
theorem RecPred.at {k : Nat} {caps : Array Value} {p : RecT → Bool} {L : List RecT} {ob : Option Nat} {w w1 : World} (h : RecPred k caps p L ob w) (ho : Only (fun i => ob = some i) w w1) : RecPred k caps p L ob w1 :=
  fun x hx W hW => h x hx W (ho.trans hW)
def idxV (p : RecT → Bool) (L : List RecT) : Int := if L.all (fun x => !p x) then -1 else (L.findIdx p : Nat)
set_option maxRecDepth 100000 in
theorem ridx_any (w : World) (base : Nat) (v : Value) (L : List RecT) (k : Nat) (caps : Array Value) (p : RecT → Bool) (hrow : RecRow w base v L) (he : ∀ args w, (callFunc k args).run Tryz.prog w = .ok (.enter k args) w) (hp : RecPred k caps p L v.ownBlock w) :
    Calls Tryz.prog 109 #[v, .func (.func k) #[] caps] w fun e w' => e = .returned (.int .i64 (idxV p L)) ∧ Only (fun _ => False) w w' := by
  obtain ⟨a, cap, rfl, h1, h2, h3⟩ := Sl.cells recC_length (Sl.of_owns hrow)
  unfold maxLen at h2
  have HC := Lib.hid h3
  have HP := Lib.hid hp
  have HR := Lib.hid hrow
  clear h3 hp hrow
  go_enter Tryz.func109, Tryz.ntmps109
  go_wp2_with fail
  go_loopg [8] L.length (fun g v8 wr => ∃ j : Nat, v8 = .int .i64 j ∧ j ≤ L.length ∧ Only (fun _ => False) w wr ∧ (∀ i (hi : i < L.length), i < j → p L[i] = false) ∧ g = L.length - j)
  case atStart => exact ⟨0, rfl, Nat.zero_le _, Only.refl _ _, fun _ _ h => absurd h (Nat.not_lt_zero _), rfl⟩
  case round =>
    obtain ⟨j, rfl, hj, ho, hall, hg⟩ := hrel
    have Hg := Lib.hid hg
    have HO := Lib.hid ho
    have HA := Lib.hid hall
    clear hg ho hall
    by_cases hlt : j < L.length
    · obtain ⟨b, off, ha, hc⟩ := HC.out.at j hlt
      subst ha
      have hcall := HP.out L[j] (List.getElem_mem hlt) wr (HO.out.weaken (fun _ _ => False.elim))
      have hpj : ∃ q, p L[j] = q := ⟨_, rfl⟩
      obtain ⟨q, hq⟩ := hpj
      have HQ := Lib.hid hq
      rw [hq] at hcall
      clear hq
      have hcr : ∀ i u, (recC L[j])[i]? = some u → wr.cell? ⟨b, off + j * 6 + i, none⟩ = some u := fun i u hu => HO.out.cell (hc i u hu) id
      unfold recT at hcall
      unfold recC at hcr
      have y0 := hcr 0 _ rfl
      have y1 := hcr 1 _ rfl
      have y2 := hcr 2 _ rfl
      have y3 := hcr 3 _ rfl
      have y4 := hcr 4 _ rfl
      have y5 := hcr 5 _ rfl
      clear hc hcr
      simp only [Nat.add_zero] at y0
      generalize L[j].key = k1 at *
      generalize L[j].ver = v1 at *
      generalize L[j].o = o1 at *
      generalize L[j].age = a1 at *
      generalize L[j].gone = g1 at *
      generalize L[j].data = d1 at *
      have HCALL := Lib.hid hcall
      clear hcall
      have hlt' : (j : Int) < (L.length : Int) := by omega
      go_wp2_with fail
      refine HCALL.out.mono ?_
      rintro e w2 ⟨rfl, ho2⟩
      have ho3 := HO.out.trans ho2
      have HO3 := Lib.hid ho3
      clear ho3
      clear ho2 y0 y1 y2 y3 y4 y5
      cases q
      · go_wp2_with fail
        go_roundg (L.length - (j + 1))
        case measure => rw [Hg.out]; omega
        case rel =>
          refine ⟨j + 1, by go_num, by omega, HO3.out, fun i hi hij => ?_, rfl⟩
          rcases (by omega : i < j ∨ i = j) with h | rfl
          · exact HA.out i hi h
          · exact HQ.out
      · go_wp2_with fail
        go_ret
        refine ⟨?_, HO3.out⟩
        have hi : L.findIdx p = j := (List.findIdx_eq hlt).2 ⟨HQ.out, fun i hi => HA.out i (by omega) hi⟩
        have hn : L.all (fun x => !p x) = false := by
          rw [List.all_eq_false]
          exact ⟨L[j], List.getElem_mem hlt, by simp [HQ.out]⟩
        unfold idxV
        rw [hn, hi]
        rfl
    · have hlt' : ¬ (j : Int) < (L.length : Int) := by omega
      go_wp2_with fail
      go_ret
      refine ⟨?_, HO.out⟩
      have hn : L.all (fun x => !p x) = true := by
        rw [List.all_eq_true]
        intro x hx
        obtain ⟨i, hi, rfl⟩ := List.getElem_of_mem hx
        simp [HA.out i hi (by omega)]
      unfold idxV
      rw [hn]
      rfl
theorem filter_take_succ (p : RecT → Bool) (L : List RecT) (j : Nat) (hj : j < L.length) : (L.take (j + 1)).filter (fun x => !p x) = (L.take j).filter (fun x => !p x) ++ if p L[j] then [] else [L[j]] := by
  rw [List.take_add_one, List.getElem?_eq_getElem hj, List.filter_append]
  congr 1
  cases h : p L[j] <;> simp [h]
/-- A row while it is cut down: i kept, from j on as it was. -/
structure Kept (p : RecT → Bool) (L D : List RecT) (i j : Nat) : Prop where
  len : D.length = L.length
  lt : i < j
  jl : j ≤ L.length
  low : D.take i = (L.take j).filter (fun x => !p x)
  high : D.drop j = L.drop j
theorem Kept.start {p : RecT → Bool} {L : List RecT} (h : L.all (fun x => !p x) = false) : L.findIdx p < L.length ∧ Kept p L L (L.findIdx p) (L.findIdx p + 1) := by
  have hlt : L.findIdx p < L.length := by
    rw [List.findIdx_lt_length]
    rw [List.all_eq_false] at h
    obtain ⟨x, hx, hp⟩ := h
    exact ⟨x, hx, by simpa using hp⟩
  refine ⟨hlt, rfl, by omega, by omega, ?_, rfl⟩
  have hpt : p L[L.findIdx p] = true := List.findIdx_getElem (w := hlt)
  rw [filter_take_succ p L _ hlt, hpt, if_pos rfl, List.append_nil]
  symm
  rw [List.filter_eq_self]
  intro x hx
  obtain ⟨i, hi, rfl⟩ := List.getElem_of_mem hx
  rw [List.length_take] at hi
  have := List.not_of_lt_findIdx (p := p) (xs := L) (i := i) (by omega)
  rw [List.getElem_take]
  simpa using this
theorem Kept.at {p : RecT → Bool} {L D : List RecT} {i j : Nat} (h : Kept p L D i j) (hj : j < L.length) : ∃ hd : j < D.length, D[j] = L[j] := by
  have hd : j < D.length := by rw [h.len]; exact hj
  refine ⟨hd, ?_⟩
  have h1 : (D.drop j)[0]? = (L.drop j)[0]? := by rw [h.high]
  simpa [hd, hj] using h1
theorem Kept.skip {p : RecT → Bool} {L D : List RecT} {i j : Nat} (h : Kept p L D i j) (hj : j < L.length) (hp : p L[j] = true) : Kept p L D i (j + 1) := by
  refine ⟨h.len, by have := h.lt; omega, by omega, ?_, ?_⟩
  · rw [filter_take_succ p L j hj, hp, if_pos rfl, List.append_nil]; exact h.low
  · have := congrArg (List.drop 1) h.high
    simpa [List.drop_drop] using this
theorem Kept.put {p : RecT → Bool} {L D : List RecT} {i j : Nat} (h : Kept p L D i j) (hj : j < L.length) (hp : p L[j] = false) : Kept p L (D.set i L[j]) (i + 1) (j + 1) := by
  have hi : i < D.length := by have h1 := h.lt; have h2 := h.len; omega
  refine ⟨by rw [List.length_set]; exact h.len, by have := h.lt; omega, by omega, ?_, ?_⟩
  · rw [filter_take_succ p L j hj, hp, if_neg (by decide), ← h.low, List.take_add_one, List.take_set_of_le (Nat.le_refl _), List.getElem?_set_self hi]
    rfl
  · have := congrArg (List.drop 1) h.high
    rw [List.drop_set_of_lt (by have := h.lt; omega)]
    simpa [List.drop_drop] using this
theorem Kept.done {p : RecT → Bool} {L D : List RecT} {i : Nat} (h : Kept p L D i L.length) : D.take i = L.filter (fun x => !p x) := by
  have := h.low
  rwa [List.take_length] at this
theorem run_clear_recs (w : World) (b o n c : Nat) (hn : 0 < n) (hc : ∀ j, j < n * 6 → (w.cell? ⟨b, o + j, none⟩).isSome = true) (hf : ∀ j, j < n * 6 → w.frozen? ⟨b, o + j, none⟩ = false) :
    ∃ us : List Value, us.length = n * 6 ∧ ∀ ty, (Builtin.clear_ #[98] ty #[.slice (some ⟨b, o, none⟩) n c]).run Tryz.prog w = .ok (.tuple #[]) (w.setCells b o us) := by
  have hz : (recT zeroR).cells.size = 6 := rfl
  have hl : (Builtin.zeroCells (recT zeroR).cells n).toList.length = n * 6 := by
    simp [Builtin.zeroCells, hz]
  have h1 : ∀ u ∈ (Builtin.zeroCells (recT zeroR).cells n).toList, u.oneCell' = true := by
    intro u hu
    simp only [Builtin.zeroCells] at hu
    obtain ⟨i, _, rfl⟩ := Array.mem_map.1 (Array.mem_toList_iff.1 hu)
    rw [hz]
    rcases (by omega : i % 6 = 0 ∨ i % 6 = 1 ∨ i % 6 = 2 ∨ i % 6 = 3 ∨ i % 6 = 4 ∨ i % 6 = 5) with h | h | h | h | h | h <;> rw [h] <;> rfl
  refine ⟨(Builtin.zeroCells (recT zeroR).cells n).toList, hl, fun ty => ?_⟩
  have hst := run_storeCells_cells (P := Tryz.prog) b o (Builtin.zeroCells (recT zeroR).cells n).toList 0 w (by rw [hl]; simpa using hc) (by rw [hl]; simpa using hf) h1
  simp only [Nat.add_zero] at hst
  obtain ⟨m, rfl⟩ : ∃ m, n = m + 1 := ⟨n - 1, by omega⟩
  simp [Builtin.clear_, run_underlying Tryz.underlying98]
  exact congrArg (fun r : Result Unit => r.andThen fun _ w' => Result.ok (Value.tuple #[]) w') hst
set_option maxRecDepth 100000 in
set_option maxHeartbeats 1000000 in
theorem rdel_any (w : World) (base : Nat) (v : Value) (L : List RecT) (k : Nat) (caps : Array Value) (p : RecT → Bool) (hrow : RecRow w base v L) (hL : L.length ≤ 1000000) (he : ∀ args w, (callFunc k args).run Tryz.prog w = .ok (.enter k args) w) (hp : RecPred k caps p L v.ownBlock w) :
    Calls Tryz.prog 70 #[v, .func (.func k) #[] caps] w fun e w' => ∃ v', e = .returned v' ∧ Only (fun i => v.ownBlock = some i) w w' ∧ RecRow w' base v' (L.filter (fun x => !p x)) := by
  have hix := ridx_any w base v L k caps p hrow he hp
  have HIX := Lib.hid hix
  have HP := Lib.hid hp
  have HR := Lib.hid hrow
  clear hix hp hrow
  by_cases hall : L.all (fun x => !p x) = true
  · have hidx : idxV p L = -1 := by unfold idxV; rw [if_pos hall]
    have hfl : L.filter (fun x => !p x) = L := by
      rw [List.filter_eq_self]
      rw [List.all_eq_true] at hall
      exact hall
    rw [hidx] at HIX
    rw [hfl]
    clear hidx hfl hall
    go_enter Tryz.func70, Tryz.ntmps70
    go_wp2_with fail
    refine HIX.out.mono ?_
    rintro e w1 ⟨rfl, ho1⟩
    go_wp2_with fail
    go_ret
    exact ⟨v, rfl, ho1.weaken (fun _ _ => False.elim), owns_only HR.out ho1 (fun _ _ => id)⟩
  · have hall2 : L.all (fun x => !p x) = false := by simpa using hall
    obtain ⟨hlt, hK0⟩ := Kept.start hall2
    have hidx : idxV p L = (L.findIdx p : Nat) := by unfold idxV; rw [if_neg hall]
    rw [hidx] at HIX
    have hn1 : (((L.findIdx p : Nat) : Int) == -1) = false := beq_eq_false_iff_ne.2 (by omega)
    have HK0 := Lib.hid hK0
    clear hidx hall hall2 hK0
    generalize L.findIdx p = i0 at *
    obtain ⟨g, cap, rfl⟩ : ∃ g cap, v = .slice (some ⟨g, 0, none⟩) L.length cap := by
      rcases HR.out.2 with ⟨_, h2⟩ | ⟨g, cap, cur, h2, _⟩
      · omega
      · exact ⟨g, cap, h2⟩
    have hcap : L.length ≤ cap ∧ cap ≤ 9223372036854775807 := by
      obtain ⟨cur, _, _, h1, h2, _⟩ := row_block HR.out
      unfold maxLen at h2
      exact ⟨h1, h2⟩
    obtain ⟨hcap1, hcap2⟩ := hcap
    go_enter Tryz.func70, Tryz.ntmps70
    go_wp2_with fail
    refine HIX.out.mono ?_
    rintro e w1 ⟨rfl, ho1⟩
    have hr1 := owns_only HR.out ho1 (fun _ _ => id)
    have HO1 := Lib.hid ho1
    have HR1 := Lib.hid hr1
    clear ho1 hr1
    clear HIX
    go_wp2_with fail
    go_loopg [5, 6] (L.length - (i0 + 1)) (fun gg v5 v6 wr => ∃ (i j : Nat) (D : List RecT), v5 = .int .i64 i ∧ v6 = .int .i64 j ∧ Kept p L D i j ∧ Only (fun b => some g = some b) w wr ∧ RecRow wr base (.slice (some ⟨g, 0, none⟩) D.length cap) D ∧ gg = L.length - j)
    case atStart => exact ⟨i0, i0 + 1, L, rfl, by go_num, HK0.out, HO1.out.weaken (fun _ _ => False.elim), HR1.out, rfl⟩
    case round =>
      obtain ⟨i, j, D, rfl, rfl, hK, ho, hrw, hg⟩ := hrel
      have hij := hK.lt
      have hjl := hK.jl
      have hDl := hK.len
      have Hg := Lib.hid hg
      have HO := Lib.hid ho
      have HRW := Lib.hid hrw
      have HK := Lib.hid hK
      clear hg ho hrw hK
      by_cases hlt2 : j < L.length
      · obtain ⟨hjd, hDj⟩ := HK.out.at hlt2
        obtain ⟨a', cap', hv', _, _, hC⟩ := Sl.cells recC_length (Sl.of_owns HRW.out)
        obtain ⟨b, off, ha, hc⟩ := hC.once (by omega)
        have hav : a' = some ⟨g, 0, none⟩ := by cases hv'; rfl
        rw [hav] at ha
        cases ha
        have hcj := hc j hjd
        rw [hDj] at hcj
        have hid : i < D.length := by omega
        have HCI := Lib.hid (hc i hid)
        have hx : ∃ x, L[j] = x := ⟨_, rfl⟩
        obtain ⟨x, hx⟩ := hx
        have hmem : x ∈ L := hx ▸ List.getElem_mem hlt2
        have hpx : ∃ q, p x = q := ⟨_, rfl⟩
        obtain ⟨q, hq⟩ := hpx
        rw [hx] at hcj
        obtain ⟨k1, v1, o1, a1, g1, d1⟩ := x
        have y0 : wr.cell? ⟨g, j * 6, none⟩ = some (.string k1) := by have := hcj 0 _ rfl; simpa using this
        have y1 : wr.cell? ⟨g, j * 6 + 1, none⟩ = some (.int .u64 v1) := by have := hcj 1 _ rfl; simpa using this
        have y2 : wr.cell? ⟨g, j * 6 + 2, none⟩ = some (.int .i64 o1) := by have := hcj 2 _ rfl; simpa using this
        have y3 : wr.cell? ⟨g, j * 6 + 3, none⟩ = some (.int .i64 a1) := by have := hcj 3 _ rfl; simpa using this
        have y4 : wr.cell? ⟨g, j * 6 + 4, none⟩ = some (.bool g1) := by have := hcj 4 _ rfl; simpa using this
        have y5 : wr.cell? ⟨g, j * 6 + 5, none⟩ = some (.string d1) := by have := hcj 5 _ rfl; simpa using this
        have hlz : (j : Int) < (L.length : Int) := by omega
        obtain ⟨W, hW⟩ : ∃ W, W = wr.alloc (.cells #[.string k1, .int .u64 v1, .int .i64 o1, .int .i64 a1, .bool g1, .string d1] 69) := ⟨_, rfl⟩
        have hbW : W.heap[wr.heap.size]? = some (.cells #[.string k1, .int .u64 v1, .int .i64 o1, .int .i64 a1, .bool g1, .string d1] 69 (0, 0)) := by rw [hW]; exact heap_alloc_new wr _
        have hoW : Only (fun _ => False) wr W := by rw [hW]; exact (Only.refl _ _).alloc _
        have hsW : W.heap.size = wr.heap.size + 1 := by rw [hW]; simp
        have hcall := HP.out _ hmem W (HO.out.trans (hoW.weaken (fun _ _ => False.elim)))
        rw [hq] at hcall
        have HQ := Lib.hid hq
        have HX := Lib.hid hx
        have HCALL := Lib.hid hcall
        have HBW := Lib.hid hbW
        have HOW := Lib.hid hoW
        have HSW := Lib.hid hsW
        have HDJ := Lib.hid hDj
        have HM := Lib.hid hmem
        clear hq hx hcall hbW hoW hsW hDj hmem
        clear hc hcj hC hv' hav
        go_upto_region 8 with (fail)
        rw [← hW]
        clear hW y0 y1 y2 y3 y4 y5
        have x0 : W.cell? ⟨wr.heap.size, 0, none⟩ = some (.string k1) := cell_at HBW.out 0
        have x1 : W.cell? ⟨wr.heap.size, 1, none⟩ = some (.int .u64 v1) := cell_at HBW.out 1
        have x2 : W.cell? ⟨wr.heap.size, 2, none⟩ = some (.int .i64 o1) := cell_at HBW.out 2
        have x3 : W.cell? ⟨wr.heap.size, 3, none⟩ = some (.int .i64 a1) := cell_at HBW.out 3
        have x4 : W.cell? ⟨wr.heap.size, 4, none⟩ = some (.bool g1) := cell_at HBW.out 4
        have x5 : W.cell? ⟨wr.heap.size, 5, none⟩ = some (.string d1) := cell_at HBW.out 5
        go_wp2_with fail
        refine HCALL.out.mono ?_
        rintro e w2 ⟨rfl, ho2⟩
        have hb2 := ho2.old HBW.out id
        have ho12 := HOW.out.trans ho2
        have hr2 := owns_only HRW.out ho12 (fun _ _ => id)
        have HB2 := Lib.hid hb2
        have HO12 := Lib.hid ho12
        have HR2 := Lib.hid hr2
        clear hb2 ho12 hr2
        clear ho2 x0 x1 x2 x3 x4 x5
        cases q
        · have x0 : w2.cell? ⟨wr.heap.size, 0, none⟩ = some (.string k1) := cell_at HB2.out 0
          have x1 : w2.cell? ⟨wr.heap.size, 1, none⟩ = some (.int .u64 v1) := cell_at HB2.out 1
          have x2 : w2.cell? ⟨wr.heap.size, 2, none⟩ = some (.int .i64 o1) := cell_at HB2.out 2
          have x3 : w2.cell? ⟨wr.heap.size, 3, none⟩ = some (.int .i64 a1) := cell_at HB2.out 3
          have x4 : w2.cell? ⟨wr.heap.size, 4, none⟩ = some (.bool g1) := cell_at HB2.out 4
          have x5 : w2.cell? ⟨wr.heap.size, 5, none⟩ = some (.string d1) := cell_at HB2.out 5
          obtain ⟨k2, v2, o2, a2, g2, d2, hDi⟩ : ∃ k2 v2 o2 a2 g2 d2, D[i] = ⟨k2, v2, o2, a2, g2, d2⟩ := ⟨_, _, _, _, _, _, rfl⟩
          have hci : ∀ c u, (recC D[i])[c]? = some u → w2.cell? ⟨g, 0 + i * 6 + c, none⟩ = some u := fun c u hu => HO12.out.cell (HCI.out c u hu) id
          rw [hDi] at hci
          have z0 : w2.cell? ⟨g, i * 6, none⟩ = some (.string k2) := by have := hci 0 _ rfl; simpa using this
          have z1 : w2.cell? ⟨g, i * 6 + 1, none⟩ = some (.int .u64 v2) := by have := hci 1 _ rfl; simpa using this
          have z2 : w2.cell? ⟨g, i * 6 + 2, none⟩ = some (.int .i64 o2) := by have := hci 2 _ rfl; simpa using this
          have z3 : w2.cell? ⟨g, i * 6 + 3, none⟩ = some (.int .i64 a2) := by have := hci 3 _ rfl; simpa using this
          have z4 : w2.cell? ⟨g, i * 6 + 4, none⟩ = some (.bool g2) := by have := hci 4 _ rfl; simpa using this
          have z5 : w2.cell? ⟨g, i * 6 + 5, none⟩ = some (.string d2) := by have := hci 5 _ rfl; simpa using this
          obtain ⟨cur, hgb, _⟩ := row_block HR2.out
          have zf : ∀ o, w2.frozen? ⟨g, o, none⟩ = false := free_at hgb
          have hiz : (i : Int) < (L.length : Int) := by omega
          clear hci hDi hgb
          go_wp2_with fail
          go_roundg (L.length - (j + 1))
          case measure => rw [Hg.out]; omega
          case rel =>
            have hr3 := row_over HR2.out (i * 6) (recC ⟨k1, v1, o1, a1, g1, d1⟩) (by rw [recC_length]; omega)
            rw [fl_set recC_length D i hid] at hr3
            have hlD : (D.set i ⟨k1, v1, o1, a1, g1, d1⟩).length = D.length := List.length_set ..
            refine ⟨i + 1, j + 1, D.set i ⟨k1, v1, o1, a1, g1, d1⟩, by go_num, by go_num, ?_, ?_, ?_, rfl⟩
            · have := HK.out.put hlt2 (by rw [HX.out]; exact HQ.out)
              rw [HX.out] at this
              exact this
            · have h7 := setCells_only g (recC ⟨k1, v1, o1, a1, g1, d1⟩) (i * 6) w2
              exact (HO.out.trans (HO12.out.weaken (fun _ _ => False.elim))).trans (h7.weaken (fun b _ e => by rw [e]))
            · unfold RecRow
              rw [hlD]
              exact hr3
        · go_wp2_with fail
          go_roundg (L.length - (j + 1))
          case measure => rw [Hg.out]; omega
          case rel =>
            refine ⟨i, j + 1, D, rfl, by go_num, HK.out.skip hlt2 (by rw [HX.out]; exact HQ.out), HO.out.trans (HO12.out.weaken (fun _ _ => False.elim)), HR2.out, rfl⟩
      · obtain rfl : j = L.length := by omega
        obtain ⟨cur, hgb, hb1, hb2, hb3, hcs, _⟩ := row_block HRW.out
        have hiz : (i : Int) ≤ (L.length : Int) := by omega
        have hic : (i : Int) ≤ (cap : Int) := by omega
        have hin : ¬ cap = i := by omega
        have hlz : ¬ ((L.length : Nat) : Int) < (L.length : Int) := by omega
        have hsz : i * 6 + (L.length - i) * 6 ≤ cap * 6 := by omega
        obtain ⟨us, hus, hcl⟩ := run_clear_recs wr g (i * 6) (L.length - i) (cap - i) (by omega) (fun o ho => by rw [cell_at hgb]; rw [Array.getElem?_eq_getElem (by omega)]; rfl) (fun o _ => free_at hgb _)
        have hr4 := row_over HRW.out (i * 6) us (by rw [hus]; omega)
        have hr5 := row_cut hr4 (show i ≤ D.length by omega)
        have HUS := Lib.hid hus
        have HR5 := Lib.hid hr5
        clear hus hr5
        clear hgb hb1 hb2 hb3 hcs hsz hr4
        go_wp2_with fail
        go_ret
        refine ⟨_, rfl, ?_, ?_⟩
        · exact HO.out.trans ((setCells_only g us (i * 6) wr).weaken (fun b _ e => by rw [e]))
        · have hfl := HK.out.done
          have hli : (D.take i).length = i := by rw [List.length_take]; omega
          have h7 := HR5.out
          have e1 : ((D.flatMap recC).take (i * 6)).length = i * 6 := by rw [fl_take recC_length, fl_length recC_length, hli]
          rw [List.append_assoc, List.take_append, e1, Nat.sub_self, List.take_zero, List.append_nil, List.take_take, Nat.min_self, fl_take recC_length, hfl] at h7
          rw [hfl] at hli
          unfold RecRow
          rw [hli]
          exact h7
end Go.Proofs.YtbdfijgejkimnaaGreatDoor
/-! Keys of records, plainly. -/
namespace Go.Proofs.YtbdfijgejkimnaaGreatDoor
open Go.Conc Go.RowKit

theorem bA_key (o : Nat) (name : ByteArray) (h : o < 65536) : bA (keyB o name) 0 = o / 256 ∧ bA (keyB o name) 1 = o % 256 := by
  have e : (keyB o name).data.toList = [UInt8.ofNat ((o : Int) / 256).toNat, UInt8.ofNat ((o : Int) % 256).toNat] ++ name.data.toList := by
    unfold keyB
    rw [ByteArray.data_append, Array.toList_append]
    rfl
  unfold bA
  rw [e]
  constructor
  · show (UInt8.ofNat ((o : Int) / 256).toNat).toNat = _
    rw [UInt8.toNat_ofNat']
    omega
  · show (UInt8.ofNat ((o : Int) % 256).toNat).toNat = _
    rw [UInt8.toNat_ofNat']
    omega
theorem key_rest (o : Int) (name : ByteArray) : (keyB o name).extract 2 (keyB o name).size = name := by
  unfold keyB
  exact ByteArray.extract_append_eq_right rfl ByteArray.size_append
theorem split_key {o : Nat} {name : ByteArray} (h1 : nodeB o = true) (h2 : namedP name = true) : splitN (keyB o name) = o ∧ splitS (keyB o name) = name ∧ splitE (keyB o name) = 0 := by
  have h16 : o < 65536 := by unfold nodeB at h1; simp at h1; omega
  obtain ⟨b0, b1⟩ := bA_key o name h16
  have hn : nodeN (keyB o name) = o := by unfold nodeN; rw [b0, b1]; omega
  have hok : splitOk (keyB o name) = true := by
    unfold splitOk
    rw [key_rest, hn, h1, h2, keyB_size]
    simp
  unfold splitN splitS splitE
  rw [hok, hn, key_rest]
  exact ⟨rfl, rfl, rfl⟩
theorem split_origin (s : ByteArray) : (0 < originP s → splitE s = 0 ∧ splitN s = originP s ∧ splitS s = s.extract 2 s.size ∧ 2 ≤ s.size) ∧ (originP s = 0 → splitE s = 4 ∧ splitN s = 0 ∧ splitS s = ⟨#[]⟩) := by
  have b0 := bA_lt s 0
  have b1 := bA_lt s 1
  have hN : nodeN s = 256 * bA s 0 + bA s 1 := rfl
  constructor
  · intro h
    unfold originP at h
    split at h
    · omega
    · next h2 =>
      split at h
      · next h3 =>
        have hok : splitOk s = true := by
          unfold splitOk nodeB
          rw [h3, decide_eq_true (by omega : 2 ≤ s.size)]
          simp
          omega
        refine ⟨by unfold splitE; rw [hok]; rfl, ?_, by unfold splitS; rw [hok]; rfl, by omega⟩
        unfold splitN originP
        rw [hok, if_neg h2, if_pos h3, hN]
        rfl
      · omega
  · intro h
    have hok : splitOk s = false := by
      unfold originP at h
      unfold splitOk nodeB
      split at h
      · next h2 =>
        rw [decide_eq_false (by omega : ¬ 2 ≤ s.size)]
        rfl
      · split at h
        · have : decide ((1 : Int) ≤ (nodeN s : Nat)) = false := decide_eq_false (by omega)
          rw [this]
          simp
        · next h3 =>
          have : namedP (s.extract 2 s.size) = false := by simpa using h3
          rw [this]
          simp
    obtain ⟨a, b, c⟩ := split_bad hok
    exact ⟨c, a, b⟩


end Go.Proofs.YtbdfijgejkimnaaGreatDoor
/-! A store: Named, Ids. -/
namespace Go.Proofs.YtbdfijgejkimnaaGreatDoor
open Go.Conc Go.RowKit Go.Maps

/-- Not of a name, or gone. -/
def unnamed (name : ByteArray) (x : RecT) : Bool := !decide (splitS x.key = name) || x.gone
set_option maxRecDepth 100000 in
theorem named1_any (w : World) (B : Nat) (name : ByteArray) (x : RecT) (m : Int) (hm : w.cell? ⟨0, 0, none⟩ = some (.int .i64 m)) (hB : w.cell? ⟨B, 0, none⟩ = some (.string name)) (hk : x.key.size ≤ 1000000) :
    Calls Tryz.prog 76 #[recT x, .pointer (some ⟨B, 0, none⟩)] w fun e w' => e = .returned (.bool (unnamed name x)) ∧ Only (fun _ => False) w w' := by
  have HU := Lib.hid (show unnamed name x = (!decide (splitS x.key = name) || x.gone) from rfl)
  unfold recT
  generalize hu : unnamed name x = U at *
  obtain ⟨k1, v1, o1, a1, g1, d1⟩ := x
  simp only at hk HU ⊢
  obtain ⟨W, hW⟩ : ∃ W, W = w.alloc (.cells #[.string k1, .int .u64 v1, .int .i64 o1, .int .i64 a1, .bool g1, .string d1] 69) := ⟨_, rfl⟩
  have hbW : W.heap[w.heap.size]? = some (.cells #[.string k1, .int .u64 v1, .int .i64 o1, .int .i64 a1, .bool g1, .string d1] 69 (0, 0)) := by rw [hW]; exact heap_alloc_new w _
  have hoW : Only (fun _ => False) w W := by rw [hW]; exact (Only.refl _ _).alloc _
  have hsW : W.heap.size = w.heap.size + 1 := by rw [hW]; simp
  have hsp := split_any W k1 m (hoW.cell hm id) hk
  have hBW := hoW.cell hB id
  have HSP := Lib.hid hsp
  have HBB := Lib.hid hBW
  have HBW := Lib.hid hbW
  have HOW := Lib.hid hoW
  have HSW := Lib.hid hsW
  have HUU := Lib.hid hu
  clear hsp hBW hbW hoW hsW hu
  clear hm hB hk
  go_enter Tryz.func76, Tryz.ntmps76
  go_upto_region 1 with (fail)
  rw [← hW]
  clear hW
  have x0 : W.cell? ⟨w.heap.size, 0, none⟩ = some (.string k1) := cell_at HBW.out 0
  go_wp2_with fail
  refine HSP.out.mono ?_
  rintro e w1 ⟨rfl, ho1⟩
  have x4 : w1.cell? ⟨w.heap.size, 4, none⟩ = some (.bool g1) := cell_at (ho1.old HBW.out id) 4
  have xb := ho1.cell HBB.out id
  have ho2 := HOW.out.trans ho1
  have HO2 := Lib.hid ho2
  clear ho2
  clear x0 ho1
  generalize splitS k1 = nm at *
  by_cases h : nm = name
  · have hs := str_eq h
    have hU : U = g1 := by rw [HU.out, h]; simp
    have HE := Lib.hid h
    have HUE := Lib.hid hU
    clear h hU
    go_wp2_with fail
    go_ret
    exact ⟨ret_bool HUE.out.symm, HO2.out⟩
  · have hs := str_ne h
    have hU : U = true := by rw [HU.out, decide_eq_false h]; rfl
    have HE := Lib.hid h
    have HUE := Lib.hid hU
    clear h hU
    go_wp2_with fail
    go_ret
    exact ⟨ret_bool HUE.out.symm, HO2.out⟩
set_option maxRecDepth 100000 in
theorem snamed_any (w : World) (s b : Nat) (most ttl r : Int) (L : List RecT) (h : StoreAt w s b most ttl r L) (name : ByteArray) (m : Int) (hm : w.cell? ⟨0, 0, none⟩ = some (.int .i64 m)) :
    Calls Tryz.prog 36 #[.pointer (some ⟨s, 0, none⟩), .string name] w fun e w' => ∃ v, e = .returned v ∧ Only (fun _ => False) w w' ∧ RecRow w' w.heap.size v (L.filter (fun x => !unnamed name x)) := by
  obtain ⟨W, hW⟩ : ∃ W, W = w.alloc (.cells #[.string name] 9) := ⟨_, rfl⟩
  have hbW : W.heap[w.heap.size]? = some (.cells #[.string name] 9 (0, 0)) := by rw [hW]; exact heap_alloc_new w _
  have hoW : Only (fun _ => False) w W := by rw [hW]; exact (Only.refl _ _).alloc _
  have hsW : W.heap.size = w.heap.size + 1 := by rw [hW]; simp
  have hhW := h.new hoW
  have hmW := hoW.cell hm id
  have hL := h.ok.len
  have hgk : ∀ x ∈ L, x.key.size ≤ 1000000 := fun x hx => by have := good_keys (h.ok.goods x hx).1; omega
  have hmf : ∀ (fn : Fn) (first cap : Array Value) (w : World), (Instr.makeFunc fn first cap).run Tryz.prog w = .ok (.func fn first cap) w := fun _ _ _ _ => rfl
  have hxW : W.cell? ⟨w.heap.size, 0, none⟩ = some (.string name) := cell_at hbW 0
  have HH := Lib.hid hhW
  have HM := Lib.hid hmW
  have HX := Lib.hid hxW
  have HOW := Lib.hid hoW
  have HSW := Lib.hid hsW
  have HGK := Lib.hid hgk
  clear hhW hmW hxW hoW hsW hgk
  clear h hm hbW
  go_enter Tryz.func36, Tryz.ntmps36
  go_upto_region 1 with (fail)
  rw [← hW]
  clear hW
  go_wp2_with fail
  refine (sall_any W s b most ttl r L HH.out).mono ?_
  rintro e w1 ⟨v, rfl, ho1, hrow⟩
  have hp : RecPred 76 #[.pointer (some ⟨w.heap.size, 0, none⟩)] (unnamed name) L v.ownBlock w1 := by
    intro x hx W1 hW1
    have hne : ∀ k, k < W.heap.size → ¬ v.ownBlock = some k := fun k hk e => by have := (hrow.lt k e).1; omega
    have hs := HSW.out
    have hm1 := HM.out
    exact named1_any W1 w.heap.size name x m (hW1.cell (ho1.cell hm1 id) (hne _ (World.block_lt_of_cell? _ _ hm1))) (hW1.cell (ho1.cell HX.out id) (hne _ (by show w.heap.size < W.heap.size; omega))) (HGK.out x hx)
  have HD := Lib.hid (rdel_any w1 W.heap.size v L 76 #[.pointer (some ⟨w.heap.size, 0, none⟩)] (unnamed name) hrow (by omega) (enters_of Tryz.func76 (by kernel_rfl) rfl) hp)
  have hlt : ∀ k, v.ownBlock = some k → W.heap.size ≤ k := fun k e => (hrow.lt k e).1
  have HLT := Lib.hid hlt
  have HO1 := Lib.hid ho1
  clear hlt ho1
  clear hrow hp
  go_wp2_with fail
  refine HD.out.mono ?_
  rintro e w2 ⟨v2, rfl, ho2, hrow2⟩
  have HO2 := Lib.hid ho2
  have HR2 := Lib.hid hrow2
  clear ho2 hrow2
  go_wp2_with fail
  go_ret
  refine ⟨v2, rfl, (HOW.out.trans HO1.out).tr HO2.out (fun i hi e => ?_), ownsRow_base_a HR2.out (by have := HSW.out; omega)⟩
  have h1 := HLT.out i e
  have h2 := HSW.out
  omega
/-- The two cells of a record's id. -/
def idC (x : RecT) : List Value := [.string x.key, .int .u64 x.ver]
theorem idC_length (x : RecT) : (idC x).length = 2 := rfl
theorem idC_one (x : RecT) : ∀ u ∈ idC x, u.oneCell' = true := by
  intro u hu
  simp only [idC, List.mem_cons, List.not_mem_nil, or_false] at hu
  rcases hu with rfl | rfl <;> rfl
abbrev IdRow (w : World) (base : Nat) (v : Value) (L : List RecT) : Prop := w.ownsRow base 66 2 v L.length (L.flatMap idC)
theorem snamed_nil (w : World) (name : ByteArray) : Calls Tryz.prog 36 #[.pointer none, .string name] w fun e w' => ∃ v, e = .returned v ∧ Only (fun _ => False) w w' ∧ RecRow w' w.heap.size v [] := by
  have hmf : ∀ (fn : Fn) (first cap : Array Value) (w : World), (Instr.makeFunc fn first cap).run Tryz.prog w = .ok (.func fn first cap) w := fun _ _ _ _ => rfl
  obtain ⟨W, hW⟩ : ∃ W, W = w.alloc (.cells #[.string name] 9) := ⟨_, rfl⟩
  have hbW : W.heap[w.heap.size]? = some (.cells #[.string name] 9 (0, 0)) := by rw [hW]; exact heap_alloc_new w _
  have hoW : Only (fun _ => False) w W := by rw [hW]; exact (Only.refl _ _).alloc _
  have hsW : W.heap.size = w.heap.size + 1 := by rw [hW]; simp
  have HOW := Lib.hid hoW
  clear hoW
  clear hbW hsW
  go_enter Tryz.func36, Tryz.ntmps36
  go_upto_region 1 with (fail)
  rw [← hW]
  clear hW
  go_wp2_with fail
  refine (sall_nil W).mono ?_
  rintro e w1 ⟨rfl, rfl⟩
  have HD := Lib.hid (rdel_any W W.heap.size (.slice none 0 0) [] 76 #[.pointer (some ⟨w.heap.size, 0, none⟩)] (unnamed name) (World.ownsRow_nil _ _ _ _) (by simp) (enters_of Tryz.func76 (by kernel_rfl) rfl) (fun x hx => by cases hx))
  go_wp2_with fail
  refine HD.out.mono ?_
  rintro e w2 ⟨v2, rfl, ho2, hrow2⟩
  have HO2 := Lib.hid ho2
  have HR2 := Lib.hid hrow2
  clear ho2 hrow2
  go_wp2_with fail
  go_ret
  exact ⟨v2, rfl, HOW.out.trans (HO2.out.weaken (fun i _ e => by cases e)), ownsRow_base_a HR2.out HOW.out.size⟩
end Go.Proofs.YtbdfijgejkimnaaGreatDoor
/-! Answer: an origin's records. -/
namespace Go.Proofs.YtbdfijgejkimnaaGreatDoor
open Go.Conc Go.RowKit Go.Maps

/-- Not of an origin, or gone. -/
def offO (n : Int) (x : RecT) : Bool := !decide (x.o = n) || x.gone
set_option maxRecDepth 100000 in
theorem origin1_any (w : World) (B : Nat) (n : Int) (x : RecT) (hB : w.cell? ⟨B, 0, none⟩ = some (.int .i64 n)) :
    Calls Tryz.prog 72 #[recT x, .pointer (some ⟨B, 0, none⟩)] w fun e w' => e = .returned (.bool (offO n x)) ∧ Only (fun _ => False) w w' := by
  have HU := Lib.hid (show offO n x = (!decide (x.o = n) || x.gone) from rfl)
  unfold recT
  generalize hu : offO n x = U at *
  obtain ⟨k1, v1, o1, a1, g1, d1⟩ := x
  simp only at HU ⊢
  obtain ⟨W, hW⟩ : ∃ W, W = w.alloc (.cells #[.string k1, .int .u64 v1, .int .i64 o1, .int .i64 a1, .bool g1, .string d1] 69) := ⟨_, rfl⟩
  have hbW : W.heap[w.heap.size]? = some (.cells #[.string k1, .int .u64 v1, .int .i64 o1, .int .i64 a1, .bool g1, .string d1] 69 (0, 0)) := by rw [hW]; exact heap_alloc_new w _
  have hoW : Only (fun _ => False) w W := by rw [hW]; exact (Only.refl _ _).alloc _
  have hsW : W.heap.size = w.heap.size + 1 := by rw [hW]; simp
  have hBW := hoW.cell hB id
  have x2 : W.cell? ⟨w.heap.size, 2, none⟩ = some (.int .i64 o1) := cell_at hbW 2
  have x4 : W.cell? ⟨w.heap.size, 4, none⟩ = some (.bool g1) := cell_at hbW 4
  have HOW := Lib.hid hoW
  have HUU := Lib.hid hu
  clear hoW hu
  clear hB hbW hsW
  go_enter Tryz.func72, Tryz.ntmps72
  go_upto_region 1 with (fail)
  rw [← hW]
  clear hW
  by_cases h : o1 = n
  · have hU : U = g1 := by rw [HU.out, h]; simp
    have HUE := Lib.hid hU
    clear hU
    subst h
    go_wp2_with fail
    go_ret
    exact ⟨ret_bool HUE.out.symm, HOW.out⟩
  · have hU : U = true := by rw [HU.out, decide_eq_false h]; rfl
    have HUE := Lib.hid hU
    clear hU
    go_wp2_with fail
    go_ret
    exact ⟨ret_bool HUE.out.symm, HOW.out⟩
set_option maxRecDepth 100000 in
theorem origin_any (w : World) (s b : Nat) (most ttl r : Int) (L : List RecT) (h : StoreAt w s b most ttl r L) (n : Int) :
    Calls Tryz.prog 34 #[.pointer (some ⟨s, 0, none⟩), .int .i64 n] w fun e w' => ∃ v, e = .returned v ∧ Only (fun _ => False) w w' ∧ RecRow w' w.heap.size v (L.filter (fun x => !offO n x)) := by
  obtain ⟨W, hW⟩ : ∃ W, W = w.alloc (.cells #[.int .i64 n] 3) := ⟨_, rfl⟩
  have hbW : W.heap[w.heap.size]? = some (.cells #[.int .i64 n] 3 (0, 0)) := by rw [hW]; exact heap_alloc_new w _
  have hoW : Only (fun _ => False) w W := by rw [hW]; exact (Only.refl _ _).alloc _
  have hsW : W.heap.size = w.heap.size + 1 := by rw [hW]; simp
  have hhW := h.new hoW
  have hL := h.ok.len
  have hmf : ∀ (fn : Fn) (first cap : Array Value) (w : World), (Instr.makeFunc fn first cap).run Tryz.prog w = .ok (.func fn first cap) w := fun _ _ _ _ => rfl
  have hxW : W.cell? ⟨w.heap.size, 0, none⟩ = some (.int .i64 n) := cell_at hbW 0
  have HH := Lib.hid hhW
  have HX := Lib.hid hxW
  have HOW := Lib.hid hoW
  have HSW := Lib.hid hsW
  clear hhW hxW hoW hsW
  clear h hbW
  go_enter Tryz.func34, Tryz.ntmps34
  go_upto_region 1 with (fail)
  rw [← hW]
  clear hW
  go_wp2_with fail
  refine (sall_any W s b most ttl r L HH.out).mono ?_
  rintro e w1 ⟨v, rfl, ho1, hrow⟩
  have hp : RecPred 72 #[.pointer (some ⟨w.heap.size, 0, none⟩)] (offO n) L v.ownBlock w1 := by
    intro x hx W1 hW1
    have hne : ∀ k, k < W.heap.size → ¬ v.ownBlock = some k := fun k hk e => by have := (hrow.lt k e).1; omega
    have hs := HSW.out
    exact origin1_any W1 w.heap.size n x (hW1.cell (ho1.cell HX.out id) (hne _ (by show w.heap.size < W.heap.size; omega)))
  have HD := Lib.hid (rdel_any w1 W.heap.size v L 72 #[.pointer (some ⟨w.heap.size, 0, none⟩)] (offO n) hrow (by omega) (enters_of Tryz.func72 (by kernel_rfl) rfl) hp)
  have hlt : ∀ k, v.ownBlock = some k → W.heap.size ≤ k := fun k e => (hrow.lt k e).1
  have HLT := Lib.hid hlt
  have HO1 := Lib.hid ho1
  clear hlt ho1
  clear hrow hp
  go_wp2_with fail
  refine HD.out.mono ?_
  rintro e w2 ⟨v2, rfl, ho2, hrow2⟩
  have HO2 := Lib.hid ho2
  have HR2 := Lib.hid hrow2
  clear ho2 hrow2
  go_wp2_with fail
  go_ret
  refine ⟨v2, rfl, (HOW.out.trans HO1.out).tr HO2.out (fun i hi e => ?_), ownsRow_base_a HR2.out (by have := HSW.out; omega)⟩
  have h1 := HLT.out i e
  have h2 := HSW.out
  omega
theorem origin_nil (w : World) (n : Int) : Calls Tryz.prog 34 #[.pointer none, .int .i64 n] w fun e w' => ∃ v, e = .returned v ∧ Only (fun _ => False) w w' ∧ RecRow w' w.heap.size v [] := by
  have hmf : ∀ (fn : Fn) (first cap : Array Value) (w : World), (Instr.makeFunc fn first cap).run Tryz.prog w = .ok (.func fn first cap) w := fun _ _ _ _ => rfl
  obtain ⟨W, hW⟩ : ∃ W, W = w.alloc (.cells #[.int .i64 n] 3) := ⟨_, rfl⟩
  have hbW : W.heap[w.heap.size]? = some (.cells #[.int .i64 n] 3 (0, 0)) := by rw [hW]; exact heap_alloc_new w _
  have hoW : Only (fun _ => False) w W := by rw [hW]; exact (Only.refl _ _).alloc _
  have hsW : W.heap.size = w.heap.size + 1 := by rw [hW]; simp
  have HOW := Lib.hid hoW
  clear hoW
  clear hbW hsW
  go_enter Tryz.func34, Tryz.ntmps34
  go_upto_region 1 with (fail)
  rw [← hW]
  clear hW
  go_wp2_with fail
  refine (sall_nil W).mono ?_
  rintro e w1 ⟨rfl, rfl⟩
  have HD := Lib.hid (rdel_any W W.heap.size (.slice none 0 0) [] 72 #[.pointer (some ⟨w.heap.size, 0, none⟩)] (offO n) (World.ownsRow_nil _ _ _ _) (by simp) (enters_of Tryz.func72 (by kernel_rfl) rfl) (fun x hx => by cases hx))
  go_wp2_with fail
  refine HD.out.mono ?_
  rintro e w2 ⟨v2, rfl, ho2, hrow2⟩
  have HO2 := Lib.hid ho2
  have HR2 := Lib.hid hrow2
  clear ho2 hrow2
  go_wp2_with fail
  go_ret
  exact ⟨v2, rfl, HOW.out.trans (HO2.out.weaken (fun i _ e => by cases e)), ownsRow_base_a HR2.out HOW.out.size⟩
end Go.Proofs.YtbdfijgejkimnaaGreatDoor
