/- A store: All, Ids, Tick. -/
import Derived.Test.YtjdlcfllmpdffaaDoorMA
import Derived.Test.YtjdlcfllmpdffaaDoorMC
import Derived.Deep.RegionWith
import Derived.Deep.RegionLaw
import Derived.RegionTactic
import Derived.StillTailTactics
import Derived.Outline
import Derived.Test.YtjdlcfllmpdffaaDoorIterS
import Derived.Shelf.SlIter.Nil
import Derived.Shelf.SortM.Plain
import Derived.Shelf.SortM.SortNone
import Derived.Sort.KeysCollected
/-! A store's records, plainly: lists of records that rise by their keys. -/
namespace Go.Proofs.YtjdlcfllmpdffaaDoor
open Go.Conc Go.RowKit

structure RecT where
  key : ByteArray
  ver : Nat
  o : Int
  age : Int
  gone : Bool
  data : ByteArray
theorem RecT.ext' {x y : RecT} (h1 : x.key = y.key) (h2 : x.ver = y.ver) (h3 : x.o = y.o) (h4 : x.age = y.age) (h5 : x.gone = y.gone) (h6 : x.data = y.data) : x = y := by
  cases x; cases y; simp_all
/-- The record's six cells. -/
def recC (x : RecT) : List Value := [.string x.key, .int .u64 x.ver, .int .i64 x.o, .int .i64 x.age, .bool x.gone, .string x.data]
def recT (x : RecT) : Value := .agg #[.string x.key, .int .u64 x.ver, .int .i64 x.o, .int .i64 x.age, .bool x.gone, .string x.data]
def zeroR : RecT := ⟨⟨#[]⟩, 0, 0, 0, false, ⟨#[]⟩⟩
theorem recC_length (x : RecT) : (recC x).length = 6 := rfl
theorem recC_one (x : RecT) : ∀ u ∈ recC x, u.oneCell' = true := by
  intro u hu
  simp only [recC, List.mem_cons, List.not_mem_nil, or_false] at hu
  rcases hu with rfl | rfl | rfl | rfl | rfl | rfl <;> rfl
def goodR (x : RecT) : Bool := goodP x.key x.ver x.o x.age x.gone x.data

/-- Keys' order: by their bytes. -/
def ltK (a b : ByteArray) : Prop := a.data.toList < b.data.toList
instance (a b : ByteArray) : Decidable (ltK a b) := by unfold ltK; infer_instance
theorem ltK_irrefl (a : ByteArray) : ¬ ltK a a := List.lt_irrefl _
theorem ltK_trans {a b c : ByteArray} (h : ltK a b) (k : ltK b c) : ltK a c := List.lt_trans h k
theorem ltK_tri {a b : ByteArray} (h : ¬ ltK a b) (k : a ≠ b) : ltK b a := by
  unfold ltK at *
  rcases List.le_iff_lt_or_eq.1 (List.not_lt.1 h) with h | h
  · exact h
  · exact absurd (by cases a; cases b; simp at h ⊢; exact h.symm) k
theorem ltK_ne {a b : ByteArray} (h : ltK a b) : a ≠ b := fun e => by subst e; exact ltK_irrefl _ h
def Rising (L : List RecT) : Prop := L.Pairwise (fun x y => ltK x.key y.key)
def findS (L : List RecT) (k : ByteArray) : Option RecT := L.find? (fun x => decide (x.key = k))
/-- A record is placed, or takes the place of the one of its key. -/
def insS (x : RecT) : List RecT → List RecT
  | [] => [x]
  | y :: L => if x.key = y.key then x :: L else if ltK x.key y.key then x :: y :: L else y :: insS x L
theorem mem_insS {x : RecT} : ∀ {L : List RecT} {y : RecT}, Rising L → (y ∈ insS x L ↔ y = x ∨ (y ∈ L ∧ y.key ≠ x.key))
  | [], y, _ => by simp [insS]
  | z :: L, y, h => by
    obtain ⟨h1, h2⟩ := List.pairwise_cons.1 h
    unfold insS
    split
    · rename_i e
      simp only [List.mem_cons]
      constructor
      · rintro (rfl | hy)
        · exact .inl rfl
        · exact .inr ⟨.inr hy, fun e2 => ltK_irrefl _ (by have := h1 y hy; rw [e2, e] at this; exact this)⟩
      · rintro (rfl | ⟨rfl | hy, hn⟩)
        · exact .inl rfl
        · exact absurd e.symm hn
        · exact .inr hy
    · rename_i e
      split
      · rename_i hlt
        simp only [List.mem_cons]
        constructor
        · rintro (rfl | rfl | hy)
          · exact .inl rfl
          · exact .inr ⟨.inl rfl, fun e2 => e e2.symm⟩
          · exact .inr ⟨.inr hy, fun e2 => ltK_irrefl _ (by have := ltK_trans hlt (h1 y hy); rw [e2] at this; exact this)⟩
        · rintro (rfl | ⟨rfl | hy, hn⟩)
          · exact .inl rfl
          · exact .inr (.inl rfl)
          · exact .inr (.inr hy)
      · simp only [List.mem_cons, mem_insS (L := L) h2]
        constructor
        · rintro (rfl | rfl | ⟨hy, hn⟩)
          · exact .inr ⟨.inl rfl, fun e2 => e e2.symm⟩
          · exact .inl rfl
          · exact .inr ⟨.inr hy, hn⟩
        · rintro (rfl | ⟨rfl | hy, hn⟩)
          · exact .inr (.inl rfl)
          · exact .inl rfl
          · exact .inr (.inr ⟨hy, hn⟩)
theorem rising_ins {x : RecT} : ∀ {L : List RecT}, Rising L → Rising (insS x L)
  | [], _ => by simp [insS, Rising]
  | z :: L, h => by
    obtain ⟨h1, h2⟩ := List.pairwise_cons.1 h
    unfold insS
    split
    · rename_i e
      exact List.pairwise_cons.2 ⟨fun y hy => by rw [e]; exact h1 y hy, h2⟩
    · rename_i e
      split
      · rename_i hlt
        refine List.pairwise_cons.2 ⟨fun y hy => ?_, h⟩
        rcases List.mem_cons.1 hy with rfl | hy
        · exact hlt
        · exact ltK_trans hlt (h1 y hy)
      · rename_i hlt
        refine List.pairwise_cons.2 ⟨fun y hy => ?_, rising_ins h2⟩
        rcases (mem_insS h2).1 hy with rfl | ⟨hy, _⟩
        · exact ltK_tri hlt e
        · exact h1 y hy
theorem rising_keys {L : List RecT} (h : Rising L) : L.Pairwise (fun x y => x.key ≠ y.key) := h.imp (fun h => ltK_ne h)
theorem rising_nodup {L : List RecT} (h : Rising L) : L.Nodup := (rising_keys h).imp (fun {a b} (hn : a.key ≠ b.key) (e : a = b) => hn (by rw [e]))
/-- Lists that rise and have the same members are one. -/
theorem rising_ext {L M : List RecT} (hL : Rising L) (hM : Rising M) (h : ∀ x, x ∈ L ↔ x ∈ M) : L = M := by
  have hp : L.Perm M := (List.perm_ext_iff_of_nodup (rising_nodup hL) (rising_nodup hM)).2 h
  exact hp.eq_of_pairwise (fun a b _ _ h1 h2 => absurd (ltK_trans h1 h2) (ltK_irrefl _)) hL hM
theorem rising_map {L : List RecT} (h : Rising L) (f : RecT → RecT) (hf : ∀ x, (f x).key = x.key) : Rising (L.map f) := by
  unfold Rising
  rw [List.pairwise_map]
  exact h.imp (fun {a b} hab => by rw [hf, hf]; exact hab)
theorem rising_filter {L : List RecT} (h : Rising L) (p : RecT → Bool) : Rising (L.filter p) := List.Pairwise.filter _ h
theorem findS_some {L : List RecT} {k : ByteArray} {y : RecT} (h : findS L k = some y) : y ∈ L ∧ y.key = k := by
  have h1 := List.mem_of_find?_eq_some h
  have h2 := List.find?_some h
  exact ⟨h1, by simpa using h2⟩
theorem findS_none {L : List RecT} {k : ByteArray} (h : findS L k = none) : ∀ y ∈ L, y.key ≠ k := by
  intro y hy e
  unfold findS at h
  rw [List.find?_eq_none] at h
  exact h y hy (by simpa using e)
theorem findS_mem {L : List RecT} (h : Rising L) {y : RecT} (hy : y ∈ L) : findS L y.key = some y := by
  cases hf : findS L y.key with
  | none => exact absurd rfl (findS_none hf y hy)
  | some z =>
    obtain ⟨h1, h2⟩ := findS_some hf
    obtain ⟨i, hi, rfl⟩ := List.getElem_of_mem h1
    obtain ⟨j, hj, rfl⟩ := List.getElem_of_mem hy
    have hk := List.pairwise_iff_getElem.1 (rising_keys h)
    rcases Nat.lt_trichotomy i j with h3 | h3 | h3
    · exact absurd h2 (hk i j hi hj h3)
    · subst h3; rfl
    · exact absurd h2.symm (hk j i hj hi h3)
theorem findS_ins_same {L : List RecT} (h : Rising L) (x : RecT) : findS (insS x L) x.key = some x := findS_mem (rising_ins h) ((mem_insS h).2 (.inl rfl))
theorem findS_ins_other {L : List RecT} (h : Rising L) (x : RecT) {k : ByteArray} (hk : k ≠ x.key) : findS (insS x L) k = findS L k := by
  cases hf : findS L k with
  | none =>
    cases hg : findS (insS x L) k with
    | none => rfl
    | some z =>
      obtain ⟨h1, h2⟩ := findS_some hg
      rcases (mem_insS h).1 h1 with rfl | ⟨h3, _⟩
      · exact absurd h2.symm hk
      · exact absurd h2 (findS_none hf z h3)
  | some y =>
    obtain ⟨h1, h2⟩ := findS_some hf
    have := findS_mem (rising_ins h) ((mem_insS (x := x) h).2 (.inr ⟨h1, by rw [h2]; exact hk⟩))
    rw [h2] at this
    exact this
theorem length_ins : ∀ {L : List RecT} (x : RecT), Rising L → (insS x L).length = if (findS L x.key).isSome then L.length else L.length + 1
  | [], x, _ => by simp [insS, findS]
  | z :: L, x, h => by
    obtain ⟨h1, h2⟩ := List.pairwise_cons.1 h
    unfold insS
    by_cases e : x.key = z.key
    · rw [if_pos e]
      have : (findS (z :: L) x.key).isSome = true := by unfold findS; rw [List.find?_cons_of_pos (by simpa using e.symm)]; rfl
      rw [if_pos this]
      rfl
    · rw [if_neg e]
      have e1 : findS (z :: L) x.key = findS L x.key := by unfold findS; rw [List.find?_cons_of_neg (by simpa using fun h => e h.symm)]
      rw [e1]
      by_cases hlt : ltK x.key z.key
      · rw [if_pos hlt]
        have : findS L x.key = none := by
          cases hf : findS L x.key with
          | none => rfl
          | some y =>
            obtain ⟨g1, g2⟩ := findS_some hf
            exact absurd (ltK_trans hlt (h1 y g1)) (by rw [g2]; exact ltK_irrefl _)
        rw [this]
        rfl
      · rw [if_neg hlt]
        have := length_ins (L := L) x h2
        rw [List.length_cons, this]
        cases (findS L x.key).isSome <;> rfl

/-! the map's entries -/
def prs (L : List RecT) : List (ByteArray × RecT) := L.map (fun x => (x.key, x))
theorem prs_length (L : List RecT) : (prs L).length = L.length := List.length_map ..
theorem look_prs (L : List RecT) (k : ByteArray) : lookL (prs L) k = findS L k := by
  unfold lookL findS prs
  rw [List.find?_map]
  simp only [Function.comp_def]
  cases List.find? (fun x => decide (x.key = k)) L <;> rfl
theorem mem_prs {L : List RecT} {p : ByteArray × RecT} : p ∈ prs L ↔ p.2 ∈ L ∧ p.1 = p.2.key := by
  unfold prs
  rw [List.mem_map]
  constructor
  · rintro ⟨x, hx, rfl⟩; exact ⟨hx, rfl⟩
  · rintro ⟨hx, e⟩; exact ⟨p.2, hx, by rw [← e]⟩
theorem nodup_of_apart {α β : Type} {L : List (α × β)} (h : L.Pairwise (fun p q => p.1 ≠ q.1)) : L.Nodup := h.imp (fun {a b} (hn : a.1 ≠ b.1) (e : a = b) => hn (by rw [e]))
theorem prs_apart {L : List RecT} (h : Rising L) : (prs L).Pairwise (fun p q => p.1 ≠ q.1) := by
  unfold prs
  rw [List.pairwise_map]
  exact rising_keys h
theorem put_prs {L : List RecT} (h : Rising L) (x : RecT) : (putL (prs L) x.key x).Perm (prs (insS x L)) := by
  refine (List.perm_ext_iff_of_nodup (nodup_of_apart (apart_put (prs_apart h) _ _)) (nodup_of_apart (prs_apart (rising_ins h)))).2 (fun p => ?_)
  rw [mem_prs, mem_insS h]
  unfold putL
  rw [List.mem_append, mem_dropL, mem_prs]
  constructor
  · rintro (⟨⟨h1, h2⟩, h3⟩ | h1)
    · exact ⟨.inr ⟨h1, by rw [← h2]; exact h3⟩, h2⟩
    · obtain rfl : p = (x.key, x) := by simpa using h1
      exact ⟨.inl rfl, rfl⟩
  · rintro ⟨h1 | ⟨h1, h2⟩, h3⟩
    · right
      obtain ⟨p1, p2⟩ := p
      simp only at h1 h3
      subst h1 h3
      simp
    · exact .inl ⟨⟨h1, h3⟩, by rw [h3]; exact h2⟩

/-! the store's functions -/
def findV (L : List RecT) (k : ByteArray) : RecT := (findS L k).getD zeroR
def putFE (most : Int) (n v : Nat) : Option RecT → Int
  | some y => if v ≤ y.ver then 13 else 0
  | none => if most ≤ n then 5 else 0
/-- What Put answers, the records and the count of those refused behind it. -/
def putE (most ttl : Int) (L : List RecT) (x : RecT) : Int :=
  if goodR x = false then 4 else if ttl ≤ x.age then 7 else putFE most L.length x.ver (findS L x.key)
def putS (most ttl : Int) (L : List RecT) (x : RecT) : List RecT := if putE most ttl L x = 0 then insS x L else L
def putR (most ttl : Int) (L : List RecT) (x : RecT) (r : Int) : Int := if putE most ttl L x = 5 then r + 1 else r
def older (x : RecT) : RecT := { x with age := x.age + 1 }
def tickS (ttl : Int) (L : List RecT) : List RecT := (L.map older).filter (fun x => decide (x.age < ttl))
/-- What a store holds: rising, good, young enough, not too many. -/
structure StoreOk (most ttl : Int) (L : List RecT) : Prop where
  mostB : 1 ≤ most ∧ most ≤ 48
  ttlB : 1 ≤ ttl ∧ ttl ≤ 65535
  rises : Rising L
  goods : ∀ x ∈ L, goodR x = true ∧ x.age < ttl
  room : (L.length : Int) ≤ most
theorem StoreOk.empty {most ttl : Int} (h1 : 1 ≤ most) (h2 : most ≤ 48) (h3 : 1 ≤ ttl) (h4 : ttl ≤ 65535) : StoreOk most ttl [] :=
  ⟨⟨h1, h2⟩, ⟨h3, h4⟩, List.Pairwise.nil, (fun _ h => by cases h), by simp; omega⟩
theorem putE_zero {most ttl : Int} {L : List RecT} {x : RecT} (h : putE most ttl L x = 0) : goodR x = true ∧ x.age < ttl ∧ ((findS L x.key).isSome = true ∨ (L.length : Int) < most) := by
  unfold putE at h
  split at h
  · cases h
  · rename_i h1
    split at h
    · cases h
    · rename_i h2
      refine ⟨by simpa using h1, by omega, ?_⟩
      cases hf : findS L x.key with
      | none =>
        rw [hf] at h
        unfold putFE at h
        simp only at h
        split at h
        · cases h
        · right; omega
      | some y => exact .inl rfl
theorem StoreOk.put {most ttl : Int} {L : List RecT} (h : StoreOk most ttl L) (x : RecT) : StoreOk most ttl (putS most ttl L x) := by
  unfold putS
  split
  · rename_i e
    obtain ⟨h1, h2, h3⟩ := putE_zero e
    refine ⟨h.mostB, h.ttlB, rising_ins h.rises, fun y hy => ?_, ?_⟩
    · rcases (mem_insS h.rises).1 hy with rfl | ⟨hy, _⟩
      · exact ⟨h1, h2⟩
      · exact h.goods y hy
    · have := length_ins x h.rises
      have := h.room
      rcases h3 with h3 | h3
      · simp_all
      · split at * <;> omega
  · exact h
theorem good_older {x : RecT} (h : goodR x = true) (ha : x.age < 65535) : goodR (older x) = true := by
  unfold goodR goodP at *
  simp only [older]
  simp only [Bool.and_eq_true, decide_eq_true_eq] at *
  obtain ⟨⟨⟨⟨⟨h1, h2⟩, h3⟩, h4⟩, h5⟩, h6⟩ := h
  exact ⟨⟨⟨⟨⟨h1, h2⟩, decide_eq_true h3⟩, decide_eq_true (by omega)⟩, decide_eq_true (by omega)⟩, decide_eq_true h6⟩
end Go.Proofs.YtjdlcfllmpdffaaDoor
/-! A store: New, Len, Refused, TTL, Get. -/
namespace Go.Proofs.YtjdlcfllmpdffaaDoor
open Go.Conc Go.RowKit Go.Maps

theorem strKeyed : Keyed Tryd.prog 9 := string_keyed Tryd.underlying9
theorem strInj : ∀ a b : ByteArray, Value.string a = Value.string b → a = b := fun _ _ h => Value.string.inj h
theorem strOk {s : ByteArray} (h : s.size ≤ maxLen) : KeyOk Tryd.prog 9 Value.string s := ⟨_, Go.WideMaps.keyOf_string_mk Tryd.underlying9 h⟩
theorem zeroRec (w : World) : (zeroValue 33).run Tryd.prog w = .ok (recT zeroR) w := by kernel_rfl
abbrev RMap (w : World) (b : Nat) (L : List RecT) : Prop := MapIs Tryd.prog 9 Value.string recT w b (prs L)
/-- A store: its block s, its map's block b, what it holds. -/
structure StoreAt (w : World) (s b : Nat) (most ttl r : Int) (L : List RecT) : Prop where
  blk : w.heap[s]? = some (.cells #[.map (some b), .int .i64 most, .int .i64 ttl, .int .i64 r] 140 (0, 0))
  map : RMap w b L
  ok : StoreOk most ttl L
theorem StoreAt.ne {w : World} {s b : Nat} {most ttl r : Int} {L : List RecT} (h : StoreAt w s b most ttl r L) : s ≠ b := by
  obtain ⟨es, c, hb, _⟩ := h.map.own
  rintro rfl
  have := h.blk
  rw [hb] at this
  cases this
theorem StoreAt.lt {w : World} {s b : Nat} {most ttl r : Int} {L : List RecT} (h : StoreAt w s b most ttl r L) : s < w.heap.size ∧ b < w.heap.size := ⟨lt_of_block h.blk, h.map.lt⟩
theorem StoreAt.kept {w w' : World} {S : Nat → Prop} {s b : Nat} {most ttl r : Int} {L : List RecT} (h : StoreAt w s b most ttl r L) (ho : Only S w w') (h1 : ¬ S s) (h2 : ¬ S b) : StoreAt w' s b most ttl r L :=
  ⟨ho.old h.blk h1, h.map.kept ho h2, h.ok⟩
theorem StoreAt.new {w w' : World} {s b : Nat} {most ttl r : Int} {L : List RecT} (h : StoreAt w s b most ttl r L) (ho : Only (fun _ => False) w w') : StoreAt w' s b most ttl r L := h.kept ho id id
/-- Which sizes may be. -/
def sizesB (most ttl : Int) : Bool := decide (1 ≤ most ∧ most ≤ 48 ∧ 1 ≤ ttl ∧ ttl ≤ 65535)
theorem snew_ok (w : World) (most ttl : Int) (h1 : 1 ≤ most) (h2 : most ≤ 48) (h3 : 1 ≤ ttl) (h4 : ttl ≤ 65535) : Calls Tryd.prog 12 #[.int .i64 most, .int .i64 ttl] w fun e w' =>
    e = .returned (.tuple #[.pointer (some ⟨w.heap.size + 1, 0, none⟩), .int .i64 0]) ∧ Only (fun _ => False) w w' ∧ StoreAt w' (w.heap.size + 1) w.heap.size most ttl 0 [] := by
  have hmm := @run_makeMap Tryd.prog
  go_enter Tryd.func12, Tryd.ntmps12
  go_wp2_with fail
  go_ret2
  refine ⟨rfl, ((Only.refl _ _).alloc _).alloc _, ?_, ?_, StoreOk.empty h1 h2 h3 h4⟩
  · have := heap_alloc_new (w.alloc (.map #[] 0)) (.cells #[.map (some w.heap.size), .int .i64 most, .int .i64 ttl, .int .i64 0] 140 (0, 0))
    simpa using this
  · exact (MapIs.made w).kept ((Only.refl (fun _ => False) _).alloc _) id
theorem snew_no (w : World) (most ttl : Int) (h : ¬ (1 ≤ most ∧ most ≤ 48 ∧ 1 ≤ ttl ∧ ttl ≤ 65535)) : Calls Tryd.prog 12 #[.int .i64 most, .int .i64 ttl] w fun e w' =>
    e = .returned (.tuple #[.pointer none, .int .i64 1]) ∧ w = w' := by
  by_cases h1 : most < 1 <;> by_cases h2 : most > 48 <;> by_cases h3 : ttl < 1 <;> by_cases h4 : ttl > 65535
  all_goals first
    | (exfalso; omega)
    | (go_enter Tryd.func12, Tryd.ntmps12
       go_wp2_with fail
       go_ret2
       exact ⟨rfl, rfl⟩)
theorem slen_any (w : World) (s b : Nat) (most ttl r : Int) (L : List RecT) (h : StoreAt w s b most ttl r L) : Calls Tryd.prog 34 #[.pointer (some ⟨s, 0, none⟩)] w fun e w' => e = .returned (.int .i64 (L.length : Nat)) ∧ w = w' := by
  have c0 : w.cell? ⟨s, 0, none⟩ = some (.map (some b)) := cell_at h.blk 0
  have hl := h.map.len Tryd.underlying138 (k := 9)
  rw [prs_length] at hl
  clear h
  go_enter Tryd.func34, Tryd.ntmps34
  go_wp2_with fail
  go_ret
  exact ⟨rfl, rfl⟩
theorem sref_any (w : World) (s b : Nat) (most ttl r : Int) (L : List RecT) (h : StoreAt w s b most ttl r L) : Calls Tryd.prog 35 #[.pointer (some ⟨s, 0, none⟩)] w fun e w' => e = .returned (.int .i64 r) ∧ w = w' := by
  have c3 : w.cell? ⟨s, 3, none⟩ = some (.int .i64 r) := cell_at h.blk 3
  clear h
  go_enter Tryd.func35, Tryd.ntmps35
  go_wp2_with fail
  go_ret
  exact ⟨rfl, rfl⟩
theorem sttl_any (w : World) (s b : Nat) (most ttl r : Int) (L : List RecT) (h : StoreAt w s b most ttl r L) : Calls Tryd.prog 24 #[.pointer (some ⟨s, 0, none⟩)] w fun e w' => e = .returned (.int .i64 ttl) ∧ w = w' := by
  have c2 : w.cell? ⟨s, 2, none⟩ = some (.int .i64 ttl) := cell_at h.blk 2
  clear h
  go_enter Tryd.func24, Tryd.ntmps24
  go_wp2_with fail
  go_ret
  exact ⟨rfl, rfl⟩
theorem slen_nil (w : World) : Calls Tryd.prog 34 #[.pointer none] w fun e w' => e = .returned (.int .i64 0) ∧ w = w' := by
  go_enter Tryd.func34, Tryd.ntmps34
  go_wp2_with fail
  go_ret
  exact ⟨rfl, rfl⟩
theorem sref_nil (w : World) : Calls Tryd.prog 35 #[.pointer none] w fun e w' => e = .returned (.int .i64 0) ∧ w = w' := by
  go_enter Tryd.func35, Tryd.ntmps35
  go_wp2_with fail
  go_ret
  exact ⟨rfl, rfl⟩
theorem sttl_nil (w : World) : Calls Tryd.prog 24 #[.pointer none] w fun e w' => e = .returned (.int .i64 0) ∧ w = w' := by
  go_enter Tryd.func24, Tryd.ntmps24
  go_wp2_with fail
  go_ret
  exact ⟨rfl, rfl⟩
theorem sget_nil (w : World) (k : ByteArray) : Calls Tryd.prog 16 #[.pointer none, .string k] w fun e w' => e = .returned (.tuple #[recT zeroR, .bool false]) ∧ Only (fun _ => False) w w' := by
  go_enter Tryd.func16, Tryd.ntmps16
  go_wp2_with fail
  refine bodyPost_ret (v := .tuple #[recT zeroR, .bool false]) (by simp [results, Tryd.results16, go_sem, recT, zeroR]) rfl ⟨rfl, ?_⟩
  exact (Only.refl _ _).alloc _
set_option maxRecDepth 100000 in
theorem sget_any (w : World) (s b : Nat) (most ttl r : Int) (L : List RecT) (h : StoreAt w s b most ttl r L) (k : ByteArray) (hk : k.size ≤ maxLen) :
    Calls Tryd.prog 16 #[.pointer (some ⟨s, 0, none⟩), .string k] w fun e w' => e = .returned (.tuple #[recT (findV L k), .bool (findS L k).isSome]) ∧ Only (fun _ => False) w w' := by
  have hl0 := fun w1 (ho : Only (fun _ => False) w w1) => (h.map.kept ho id).look strKeyed strInj Tryd.underlying138 (z := zeroR) (zeroRec w1) (strOk hk) true
  simp only [look_prs] at hl0
  unfold findV
  have c0 : w.cell? ⟨s, 0, none⟩ = some (.map (some b)) := cell_at h.blk 0
  generalize (findS L k).getD zeroR = y at *
  generalize (findS L k).isSome = ok at *
  obtain ⟨k1, v1, o1, a1, g1, d1⟩ := y
  have hlk : ∀ w1, Only (fun _ => False) w w1 → (Instr.lookup 138 (.map (some b)) (.string k) true).run Tryd.prog w1 = .ok (.tuple #[.agg #[.string k1, .int .u64 v1, .int .i64 o1, .int .i64 a1, .bool g1, .string d1], .bool ok]) w1 := fun w1 ho => hl0 w1 ho
  have HLK := Lib.hid hlk
  clear hl0 hlk h
  obtain ⟨W, hW⟩ : ∃ W, W = w.alloc (.cells #[.string ⟨#[]⟩, .int .u64 0, .int .i64 0, .int .i64 0, .bool false, .string ⟨#[]⟩] 33) := ⟨_, rfl⟩
  have hbW : W.heap[w.heap.size]? = some (.cells #[.string ⟨#[]⟩, .int .u64 0, .int .i64 0, .int .i64 0, .bool false, .string ⟨#[]⟩] 33 (0, 0)) := by rw [hW]; exact heap_alloc_new w _
  have hoW : Only (fun _ => False) w W := by rw [hW]; exact (Only.refl _ _).alloc _
  have hsW : W.heap.size = w.heap.size + 1 := by rw [hW]; simp
  have hlk1 := HLK.out W hoW
  have c1 := hoW.cell c0 id
  have HO := Lib.hid hoW
  have HZ := Lib.hid hbW
  have HS := Lib.hid hsW
  clear hoW hbW hsW
  clear c0
  go_enter Tryd.func16, Tryd.ntmps16
  go_upto_region 1 with (fail)
  rw [← hW]
  clear hW
  obtain ⟨W2, hW2⟩ : ∃ W2, W2 = W.alloc (.cells #[.string k1, .int .u64 v1, .int .i64 o1, .int .i64 a1, .bool g1, .string d1] 33) := ⟨_, rfl⟩
  have hbW2 : W2.heap[W.heap.size]? = some (.cells #[.string k1, .int .u64 v1, .int .i64 o1, .int .i64 a1, .bool g1, .string d1] 33 (0, 0)) := by rw [hW2]; exact heap_alloc_new W _
  have hoW2 : Only (fun _ => False) W W2 := by rw [hW2]; exact (Only.refl _ _).alloc _
  have hsW2 : W2.heap.size = W.heap.size + 1 := by rw [hW2]; simp
  have hz2 := hoW2.old HZ.out id
  have x0 : W2.cell? ⟨W.heap.size, 0, none⟩ = some (.string k1) := cell_at hbW2 0
  have x1 : W2.cell? ⟨W.heap.size, 1, none⟩ = some (.int .u64 v1) := cell_at hbW2 1
  have x2 : W2.cell? ⟨W.heap.size, 2, none⟩ = some (.int .i64 o1) := cell_at hbW2 2
  have x3 : W2.cell? ⟨W.heap.size, 3, none⟩ = some (.int .i64 a1) := cell_at hbW2 3
  have x4 : W2.cell? ⟨W.heap.size, 4, none⟩ = some (.bool g1) := cell_at hbW2 4
  have x5 : W2.cell? ⟨W.heap.size, 5, none⟩ = some (.string d1) := cell_at hbW2 5
  have z0 : W2.cell? ⟨w.heap.size, 0, none⟩ = some (.string ⟨#[]⟩) := cell_at hz2 0
  have z1 : W2.cell? ⟨w.heap.size, 1, none⟩ = some (.int .u64 0) := cell_at hz2 1
  have z2 : W2.cell? ⟨w.heap.size, 2, none⟩ = some (.int .i64 0) := cell_at hz2 2
  have z3 : W2.cell? ⟨w.heap.size, 3, none⟩ = some (.int .i64 0) := cell_at hz2 3
  have z4 : W2.cell? ⟨w.heap.size, 4, none⟩ = some (.bool false) := cell_at hz2 4
  have z5 : W2.cell? ⟨w.heap.size, 5, none⟩ = some (.string ⟨#[]⟩) := cell_at hz2 5
  have zf : ∀ i, W2.frozen? ⟨w.heap.size, i, none⟩ = false := free_at hz2
  have HO2 := Lib.hid hoW2
  have HZ2 := Lib.hid hz2
  have HB2 := Lib.hid hbW2
  have HS2 := Lib.hid hsW2
  clear hoW2 hz2 hbW2 hsW2
  go_upto_region 4 with (fail)
  rw [← hW2]
  clear hW2
  go_wp2_with fail
  obtain ⟨s1, s2⟩ := six_set HZ2.out (.string k1) (.int .u64 v1) (.int .i64 o1) (.int .i64 a1) (.bool g1) (.string d1)
  generalize ((((((W2.setCell ⟨w.heap.size, 0, none⟩ (.string k1)).setCell ⟨w.heap.size, 1, none⟩ (.int .u64 v1)).setCell ⟨w.heap.size, 2, none⟩ (.int .i64 o1)).setCell ⟨w.heap.size, 3, none⟩ (.int .i64 a1)).setCell ⟨w.heap.size, 4, none⟩ (.bool g1)).setCell ⟨w.heap.size, 5, none⟩ (.string d1)) = wz at *
  have q0 : wz.cell? ⟨w.heap.size, 0, none⟩ = some (.string k1) := cell_at s1 0
  have q1 : wz.cell? ⟨w.heap.size, 1, none⟩ = some (.int .u64 v1) := cell_at s1 1
  have q2 : wz.cell? ⟨w.heap.size, 2, none⟩ = some (.int .i64 o1) := cell_at s1 2
  have q3 : wz.cell? ⟨w.heap.size, 3, none⟩ = some (.int .i64 a1) := cell_at s1 3
  have q4 : wz.cell? ⟨w.heap.size, 4, none⟩ = some (.bool g1) := cell_at s1 4
  have q5 : wz.cell? ⟨w.heap.size, 5, none⟩ = some (.string d1) := cell_at s1 5
  refine bodyPost_ret (v := .tuple #[.agg #[.string k1, .int .u64 v1, .int .i64 o1, .int .i64 a1, .bool g1, .string d1], .bool ok]) (by simp [results, Tryd.results16, go_sem, q0, q1, q2, q3, q4, q5]) rfl ?_
  exact ⟨rfl, (HO.out.trans HO2.out).tr s2 (fun i hi e => by omega)⟩
end Go.Proofs.YtjdlcfllmpdffaaDoor
/-! A store: Put. -/
namespace Go.Proofs.YtjdlcfllmpdffaaDoor
open Go.Conc Go.RowKit Go.Maps

def SPut (w w' : World) (s b : Nat) (most ttl r : Int) (L : List RecT) (x : RecT) : Prop :=
  Only (fun i => i = s ∨ i = b) w w' ∧ StoreAt w' s b most ttl (putR most ttl L x r) (putS most ttl L x)
theorem sput_kept {w w' : World} {s b : Nat} {most ttl r : Int} {L : List RecT} {x : RecT} (h : StoreAt w s b most ttl r L) (ho : Only (fun _ => False) w w') (h0 : putE most ttl L x ≠ 0) (h5 : putE most ttl L x ≠ 5) : SPut w w' s b most ttl r L x := by
  refine ⟨ho.weaken (fun _ _ => False.elim), ?_⟩
  unfold putR putS
  rw [if_neg h0, if_neg h5]
  exact h.new ho
theorem sput_nil (w : World) (x : RecT) : Calls Tryd.prog 14 #[.pointer none, recT x] w fun e w' => e = .returned (.int .i64 1) ∧ Only (fun _ => False) w w' := by
  obtain ⟨k1, v1, o1, a1, g1, d1⟩ := x
  unfold recT
  go_enter Tryd.func14, Tryd.ntmps14
  go_wp2_with fail
  go_ret
  exact ⟨rfl, (Only.refl _ _).alloc _⟩
set_option maxRecDepth 100000 in
set_option maxHeartbeats 2000000 in
theorem sput_any (w : World) (s b : Nat) (most ttl r : Int) (L : List RecT) (h : StoreAt w s b most ttl r L) (x : RecT) (m : Int) (hm : w.cell? ⟨0, 0, none⟩ = some (.int .i64 m)) (hv : x.ver < 2 ^ 64) (hk : x.key.size ≤ 1000000) (hr0 : 0 ≤ r) (hr : r < 1000000) :
    Calls Tryd.prog 14 #[.pointer (some ⟨s, 0, none⟩), recT x] w fun e w' => e = .returned (.int .i64 (putE most ttl L x)) ∧ SPut w w' s b most ttl r L x := by
  have HE := Lib.hid (show putE most ttl L x = if goodR x = false then 4 else if ttl ≤ x.age then 7 else putFE most L.length x.ver (findS L x.key) from rfl)
  have HK := Lib.hid (fun (h : putE most ttl L x ≠ 0 ∧ putE most ttl L x ≠ 5) w' ho => sput_kept (w := w) (w' := w') (s := s) (b := b) (r := r) (x := x) ‹_› ho h.1 h.2)
  have hpS : putE most ttl L x = 0 → putR most ttl L x r = r ∧ putS most ttl L x = insS x L := fun e => by unfold putR putS; rw [e]; exact ⟨rfl, rfl⟩
  have hpR : putE most ttl L x = 5 → putR most ttl L x r = r + 1 ∧ putS most ttl L x = L := fun e => by unfold putR putS; rw [e]; exact ⟨rfl, rfl⟩
  have HPS := Lib.hid hpS
  have HPR := Lib.hid hpR
  have HF := Lib.hid (fun y => findS_some (L := L) (k := x.key) (y := y))
  have HP := Lib.hid (put_prs h.ok.rises x)
  have HOK := Lib.hid (h.ok.put x)
  have HG := Lib.hid (good_any (m := m) (key := x.key) (ver := x.ver) (o := x.o) (age := x.age) (gone := x.gone) (data := x.data) (hv := hv) (hk := hk))
  have HLN := Lib.hid (show (prs L).length < maxLen by rw [prs_length]; have h1 := h.ok.room; have h2 := h.ok.mostB; unfold maxLen; omega)
  have hg0 : goodR x = goodP x.key x.ver x.o x.age x.gone x.data := rfl
  have HG0 := Lib.hid hg0
  have hlt := h.lt
  have hkm : x.key.size ≤ maxLen := by unfold maxLen; omega
  have HKO := Lib.hid (strOk hkm)
  have hne := h.ne
  have hxe : RecT.mk x.key x.ver x.o x.age x.gone x.data = x := by cases x; rfl
  have HXE := Lib.hid hxe
  unfold recT
  clear hpS hpR hg0 hkm hk hv hxe
  generalize hE : putE most ttl L x = E at *
  generalize goodR x = gd at *
  generalize hfs : findS L x.key = fo at *
  obtain ⟨k1, v1, o1, a1, g1, d1⟩ := x
  simp only at *
  rw [← HG0.out] at HG
  have HH := Lib.hid h
  have HM := Lib.hid hm
  have HEE := Lib.hid hE
  have HFS := Lib.hid hfs
  clear hE hfs
  clear h hm HG0
  obtain ⟨W, hW⟩ : ∃ W, W = w.alloc (.cells #[.string k1, .int .u64 v1, .int .i64 o1, .int .i64 a1, .bool g1, .string d1] 33) := ⟨_, rfl⟩
  have hbW : W.heap[w.heap.size]? = some (.cells #[.string k1, .int .u64 v1, .int .i64 o1, .int .i64 a1, .bool g1, .string d1] 33 (0, 0)) := by rw [hW]; exact heap_alloc_new w _
  have hoW : Only (fun _ => False) w W := by rw [hW]; exact (Only.refl _ _).alloc _
  have hsW : W.heap.size = w.heap.size + 1 := by rw [hW]; simp
  have HG1 := Lib.hid (HG.out W (hoW.cell HM.out id))
  have HBW := Lib.hid hbW
  have HOW := Lib.hid hoW
  have HSW := Lib.hid hsW
  clear hbW hoW hsW
  go_enter Tryd.func14, Tryd.ntmps14
  go_upto_region 1 with (fail)
  rw [← hW]
  clear hW
  have x0 : W.cell? ⟨w.heap.size, 0, none⟩ = some (.string k1) := cell_at HBW.out 0
  have x1 : W.cell? ⟨w.heap.size, 1, none⟩ = some (.int .u64 v1) := cell_at HBW.out 1
  have x2 : W.cell? ⟨w.heap.size, 2, none⟩ = some (.int .i64 o1) := cell_at HBW.out 2
  have x3 : W.cell? ⟨w.heap.size, 3, none⟩ = some (.int .i64 a1) := cell_at HBW.out 3
  have x4 : W.cell? ⟨w.heap.size, 4, none⟩ = some (.bool g1) := cell_at HBW.out 4
  have x5 : W.cell? ⟨w.heap.size, 5, none⟩ = some (.string d1) := cell_at HBW.out 5
  go_wp2_with fail
  refine HG1.out.mono ?_
  rintro e w1 ⟨rfl, ho1⟩
  clear x0 x1 x2 x3 x4 x5
  have hh1 := (HH.out.new HOW.out).new ho1
  have hb1 := ho1.old HBW.out id
  have hoo := HOW.out.trans ho1
  have HO1 := Lib.hid ho1
  have HH1 := Lib.hid hh1
  have HB1 := Lib.hid hb1
  have HOO := Lib.hid hoo
  clear ho1 hh1 hb1 hoo
  cases gd
  · go_wp2_with fail
    go_ret
    have e4 : E = 4 := by rw [HE.out]; rfl
    exact ⟨ret_int e4.symm, HK.out (by omega) _ HOO.out⟩
  · have x3 : w1.cell? ⟨w.heap.size, 3, none⟩ = some (.int .i64 a1) := cell_at HB1.out 3
    have c2 : w1.cell? ⟨s, 2, none⟩ = some (.int .i64 ttl) := cell_at HH1.out.blk 2
    by_cases ha : ttl ≤ a1
    · go_upto_region 5 with (fail)
      go_quiet (fail)
      go_wp2_with fail
      go_ret
      have e7 : E = 7 := by rw [HE.out, if_neg (by decide), if_pos ha]
      exact ⟨ret_int e7.symm, HK.out (by omega) _ (HOO.out.drewN _)⟩
    · have e0 : E = putFE most L.length v1 fo := by rw [HE.out, if_neg (by decide), if_neg ha]
      have E0 := Lib.hid e0
      clear e0
      clear HE
      go_upto_region 5 with (fail)
      go_quiet (fail)
      obtain ⟨w2, hw2⟩ : ∃ w2, w2 = w1.drewN nq := ⟨_, rfl⟩
      have ho2 : Only (fun _ => False) w1 w2 := by rw [hw2]; exact (Only.refl _ _).drewN _
      rw [← hw2]
      clear hw2 x3 c2
      go_upto_region 7 with (fail)
      have hh3 := HH1.out.new ho2
      have hb3 := ho2.old HB1.out id
      have x0 : w2.cell? ⟨w.heap.size, 0, none⟩ = some (.string k1) := cell_at hb3 0
      have c0 : w2.cell? ⟨s, 0, none⟩ = some (.map (some b)) := cell_at hh3.blk 0
      have hsz : w.heap.size < w2.heap.size ∧ s < w2.heap.size := ⟨lt_of_block hb3, lt_of_block hh3.blk⟩
      obtain ⟨hsz1, hsz2⟩ := hsz
      have hlkA := (hh3.map.kept ((Only.refl (fun _ => False) w2).drew) id).look strKeyed strInj Tryd.underlying138 (z := zeroR) (zeroRec w2.drew) HKO.out true
      have hlkB := (hh3.map.kept (((Only.refl (fun _ => False) w2).alloc (.cells #[.string ⟨#[]⟩, .int .u64 0, .int .i64 0, .int .i64 0, .bool false, .string ⟨#[]⟩] 33)).drew) id).look strKeyed strInj Tryd.underlying138 (z := zeroR) (zeroRec _) HKO.out true
      rw [look_prs, HFS.out] at hlkA hlkB
      have hO3 := HOO.out.trans ho2
      have HH3 := Lib.hid hh3
      have HB3 := Lib.hid hb3
      have HO3 := Lib.hid hO3
      clear hh3 hb3 hO3
      clear ho2 HH1 HB1 HO1 HOO
      cases fo with
      | none =>
        have hlk2 : (Instr.lookup 138 (.map (some b)) (.string k1) true).run Tryd.prog w2.drew = .ok (.tuple #[.agg #[.string ⟨#[]⟩, .int .u64 0, .int .i64 0, .int .i64 0, .bool false, .string ⟨#[]⟩], .bool false]) w2.drew := hlkA
        have hlk3 : (Instr.lookup 138 (.map (some b)) (.string k1) true).run Tryd.prog (w2.alloc (.cells #[.string ⟨#[]⟩, .int .u64 0, .int .i64 0, .int .i64 0, .bool false, .string ⟨#[]⟩] 33)).drew = .ok (.tuple #[.agg #[.string ⟨#[]⟩, .int .u64 0, .int .i64 0, .int .i64 0, .bool false, .string ⟨#[]⟩], .bool false]) (w2.alloc (.cells #[.string ⟨#[]⟩, .int .u64 0, .int .i64 0, .int .i64 0, .bool false, .string ⟨#[]⟩] 33)).drew := hlkB
        clear hlkA hlkB
        go_cut [5, 6] (fun v5 v6 wx => v5 = .pointer (some ⟨w2.heap.size, 0, none⟩) ∧ v6 = .bool false ∧ wx = (w2.alloc (.cells #[.string ⟨#[]⟩, .int .u64 0, .int .i64 0, .int .i64 0, .bool false, .string ⟨#[]⟩] 33)).drew)
        case first =>
          go_region
          all_goals
            go_wp2_with fail
            go_meet
            exact ⟨rfl, rfl, rfl⟩
        case rest =>
        obtain ⟨rfl, rfl, hwx⟩ := hcut
        have ho4 : Only (fun _ => False) w2 wc := by rw [hwx]; exact ((Only.refl _ _).alloc _).drew
        have hq4 : wc.heap[w2.heap.size]? = some (.cells #[.string ⟨#[]⟩, .int .u64 0, .int .i64 0, .int .i64 0, .bool false, .string ⟨#[]⟩] 33 (0, 0)) := by rw [hwx]; exact heap_alloc_new w2 _
        clear hwx hlk2 hlk3 x0 c0
        generalize w2.heap.size = B2 at *
        have hh4 := HH3.out.new ho4
        have hb4 := ho4.old HB3.out id
        have hO4 := HO3.out.trans ho4
        have HH4 := Lib.hid hh4
        have HB4 := Lib.hid hb4
        have HO4 := Lib.hid hO4
        clear hh4 hb4 hO4
        clear HH3 HB3 HO3 ho4
        clear hq4
        have hlen : ∀ n ty, (Builtin.len_ #[138] ty #[.map (some b)]).run Tryd.prog (wc.drewN n) = .ok (.int .i64 (L.length : Nat)) (wc.drewN n) := fun n ty => by
          have := (HH4.out.map.kept ((Only.refl (fun _ => False) wc).drewN n) id).len Tryd.underlying138 ty
          rw [prs_length] at this
          exact this
        have c0 : wc.cell? ⟨s, 0, none⟩ = some (.map (some b)) := cell_at HH4.out.blk 0
        have c1 : wc.cell? ⟨s, 1, none⟩ = some (.int .i64 most) := cell_at HH4.out.blk 1
        by_cases hfull : most ≤ (L.length : Int)
        · have e5 : E = 5 := by rw [E0.out]; exact if_pos hfull
          go_upto_region 10 with (fail)
          go_quiet (fail)
          obtain ⟨w5, hw5⟩ : ∃ w5, w5 = wc.drewN nq := ⟨_, rfl⟩
          have ho5 : Only (fun _ => False) wc w5 := by rw [hw5]; exact (Only.refl _ _).drewN _
          rw [← hw5]
          clear hw5
          have hh5 := HH4.out.new ho5
          have hb5 := ho5.old HB4.out id
          have hO5 := HO4.out.trans ho5
          have HH5 := Lib.hid hh5
          have HB5 := Lib.hid hb5
          have HO5 := Lib.hid hO5
          clear hh5 hb5 hO5
          clear HH4 HB4 HO4 ho5
          have c3 : w5.cell? ⟨s, 3, none⟩ = some (.int .i64 r) := cell_at HH5.out.blk 3
          have cf : ∀ i, w5.frozen? ⟨s, i, none⟩ = false := free_at HH5.out.blk
          clear hlen c0 c1
          go_wp2_with fail
          go_ret
          refine ⟨by first | exact ret_int e5.symm | rfl, ?_, ?_⟩
          · exact (HO5.out.weaken (fun _ _ => False.elim)).setCell (S := fun i => i = s ∨ i = b) (p := ⟨s, 3, none⟩) (.inr (.inl rfl)) _
          · obtain ⟨p1, p2⟩ := HPR.out e5
            rw [p1, p2]
            have ho6 : Only (fun i => i = s) w5 (w5.setCell ⟨s, 3, none⟩ (.int .i64 (r + 1))) := (Only.refl _ _).setCell (S := fun i => i = s) (p := ⟨s, 3, none⟩) (.inr rfl) _
            exact ⟨set_at HH5.out.blk 3 _, HH5.out.map.kept ho6 (fun e => hne e.symm), HH5.out.ok⟩
        · have e5 : E = 0 := by rw [E0.out]; exact if_neg hfull
          go_upto_region 10 with (fail)
          go_quiet (fail)
          obtain ⟨w5, hw5⟩ : ∃ w5, w5 = wc.drewN nq := ⟨_, rfl⟩
          have ho5 : Only (fun _ => False) wc w5 := by rw [hw5]; exact (Only.refl _ _).drewN _
          rw [← hw5]
          clear hw5
          have hh5 := HH4.out.new ho5
          have hb5 := ho5.old HB4.out id
          have hO5 := HO4.out.trans ho5
          have HH5 := Lib.hid hh5
          have HB5 := Lib.hid hb5
          have HO5 := Lib.hid hO5
          clear hh5 hb5 hO5
          clear HH4 HB4 HO4 ho5
          clear hlen c0 c1
          go_upto_region 13 with (fail)
          have c0 : w5.cell? ⟨s, 0, none⟩ = some (.map (some b)) := cell_at HH5.out.blk 0
          have x0 : w5.cell? ⟨w.heap.size, 0, none⟩ = some (.string k1) := cell_at HB5.out 0
          have x1 : w5.cell? ⟨w.heap.size, 1, none⟩ = some (.int .u64 v1) := cell_at HB5.out 1
          have x2 : w5.cell? ⟨w.heap.size, 2, none⟩ = some (.int .i64 o1) := cell_at HB5.out 2
          have x3 : w5.cell? ⟨w.heap.size, 3, none⟩ = some (.int .i64 a1) := cell_at HB5.out 3
          have x4 : w5.cell? ⟨w.heap.size, 4, none⟩ = some (.bool g1) := cell_at HB5.out 4
          have x5 : w5.cell? ⟨w.heap.size, 5, none⟩ = some (.string d1) := cell_at HB5.out 5
          obtain ⟨w6, hst0, hm6, ho6⟩ := (HH5.out.map.kept ((Only.refl (fun _ => False) w5).drew) id).store strKeyed strInj Tryd.underlying138 HLN.out HKO.out ⟨k1, v1, o1, a1, g1, d1⟩
          have hst : (Instr.mapUpdate 138 (.map (some b)) (.string k1) (.agg #[.string k1, .int .u64 v1, .int .i64 o1, .int .i64 a1, .bool g1, .string d1])).run Tryd.prog w5.drew = .ok () w6 := hst0
          have HM6 := Lib.hid hm6
          have HO6 := Lib.hid ho6
          clear hm6 ho6
          clear hst0
          go_region
          go_wp2_with fail
          go_ret
          refine ⟨by first | exact ret_int e5.symm | rfl, ?_, ?_⟩
          · exact (HO5.out.drew.weaken (fun _ _ => False.elim)).trans (HO6.out.weaken (fun _ _ e => .inr e))
          · obtain ⟨p1, p2⟩ := HPS.out e5
            rw [p1, p2]
            have hok := HOK.out
            rw [p2] at hok
            exact ⟨HO6.out.old (w := w5.drew) HH5.out.blk hne, HM6.out.perm strKeyed strInj HP.out, hok⟩
      | some y =>
        obtain ⟨k2, v2, o2, a2, g2, d2⟩ := y
        have hlk2 : (Instr.lookup 138 (.map (some b)) (.string k1) true).run Tryd.prog w2.drew = .ok (.tuple #[.agg #[.string k2, .int .u64 v2, .int .i64 o2, .int .i64 a2, .bool g2, .string d2], .bool true]) w2.drew := hlkA
        have hlk3 : (Instr.lookup 138 (.map (some b)) (.string k1) true).run Tryd.prog (w2.alloc (.cells #[.string ⟨#[]⟩, .int .u64 0, .int .i64 0, .int .i64 0, .bool false, .string ⟨#[]⟩] 33)).drew = .ok (.tuple #[.agg #[.string k2, .int .u64 v2, .int .i64 o2, .int .i64 a2, .bool g2, .string d2], .bool true]) (w2.alloc (.cells #[.string ⟨#[]⟩, .int .u64 0, .int .i64 0, .int .i64 0, .bool false, .string ⟨#[]⟩] 33)).drew := hlkB
        clear hlkA hlkB
        go_cut [5, 6] (fun v5 v6 wx => v5 = .pointer (some ⟨w2.heap.size, 0, none⟩) ∧ v6 = .bool true ∧ wx = (w2.alloc (.cells #[.string k2, .int .u64 v2, .int .i64 o2, .int .i64 a2, .bool g2, .string d2] 33)).drew)
        case first =>
          go_region
          all_goals
            go_wp2_with fail
            go_meet
            exact ⟨rfl, rfl, rfl⟩
        case rest =>
        obtain ⟨rfl, rfl, hwx⟩ := hcut
        have ho4 : Only (fun _ => False) w2 wc := by rw [hwx]; exact ((Only.refl _ _).alloc _).drew
        have hq4 : wc.heap[w2.heap.size]? = some (.cells #[.string k2, .int .u64 v2, .int .i64 o2, .int .i64 a2, .bool g2, .string d2] 33 (0, 0)) := by rw [hwx]; exact heap_alloc_new w2 _
        clear hwx hlk2 hlk3 x0 c0
        generalize w2.heap.size = B2 at *
        have hh4 := HH3.out.new ho4
        have hb4 := ho4.old HB3.out id
        have hO4 := HO3.out.trans ho4
        have HH4 := Lib.hid hh4
        have HB4 := Lib.hid hb4
        have HO4 := Lib.hid hO4
        clear hh4 hb4 hO4
        clear HH3 HB3 HO3 ho4
        have y0 : wc.cell? ⟨B2, 0, none⟩ = some (.string k2) := cell_at hq4 0
        have y1 : wc.cell? ⟨B2, 1, none⟩ = some (.int .u64 v2) := cell_at hq4 1
        have y2 : wc.cell? ⟨B2, 2, none⟩ = some (.int .i64 o2) := cell_at hq4 2
        have y3 : wc.cell? ⟨B2, 3, none⟩ = some (.int .i64 a2) := cell_at hq4 3
        have y4 : wc.cell? ⟨B2, 4, none⟩ = some (.bool g2) := cell_at hq4 4
        have y5 : wc.cell? ⟨B2, 5, none⟩ = some (.string d2) := cell_at hq4 5
        have x1 : wc.cell? ⟨w.heap.size, 1, none⟩ = some (.int .u64 v1) := cell_at HB4.out 1
        clear hq4
        by_cases hv2 : v1 ≤ v2
        · have e5 : E = 13 := by rw [E0.out]; exact if_pos hv2
          have hd : decide ((v1 : Int) ≤ (v2 : Int)) = true := decide_eq_true (by omega)
          go_wp2_with fail
          go_ret
          exact ⟨by first | exact ret_int e5.symm | rfl, HK.out (by omega) _ HO4.out⟩
        · have e5 : E = 0 := by rw [E0.out]; exact if_neg hv2
          have hv3 : v2 < v1 := by omega
          go_upto_region 10 with (fail)
          clear y0 y1 y2 y3 y4 y5 x1
          go_quiet (fail)
          obtain ⟨w5, hw5⟩ : ∃ w5, w5 = wc.drewN nq := ⟨_, rfl⟩
          have ho5 : Only (fun _ => False) wc w5 := by rw [hw5]; exact (Only.refl _ _).drewN _
          rw [← hw5]
          clear hw5
          have hh5 := HH4.out.new ho5
          have hb5 := ho5.old HB4.out id
          have hO5 := HO4.out.trans ho5
          have HH5 := Lib.hid hh5
          have HB5 := Lib.hid hb5
          have HO5 := Lib.hid hO5
          clear hh5 hb5 hO5
          clear HH4 HB4 HO4 ho5
          go_upto_region 13 with (fail)
          have c0 : w5.cell? ⟨s, 0, none⟩ = some (.map (some b)) := cell_at HH5.out.blk 0
          have x0 : w5.cell? ⟨w.heap.size, 0, none⟩ = some (.string k1) := cell_at HB5.out 0
          have x1 : w5.cell? ⟨w.heap.size, 1, none⟩ = some (.int .u64 v1) := cell_at HB5.out 1
          have x2 : w5.cell? ⟨w.heap.size, 2, none⟩ = some (.int .i64 o1) := cell_at HB5.out 2
          have x3 : w5.cell? ⟨w.heap.size, 3, none⟩ = some (.int .i64 a1) := cell_at HB5.out 3
          have x4 : w5.cell? ⟨w.heap.size, 4, none⟩ = some (.bool g1) := cell_at HB5.out 4
          have x5 : w5.cell? ⟨w.heap.size, 5, none⟩ = some (.string d1) := cell_at HB5.out 5
          obtain ⟨w6, hst0, hm6, ho6⟩ := (HH5.out.map.kept ((Only.refl (fun _ => False) w5).drew) id).store strKeyed strInj Tryd.underlying138 HLN.out HKO.out ⟨k1, v1, o1, a1, g1, d1⟩
          have hst : (Instr.mapUpdate 138 (.map (some b)) (.string k1) (.agg #[.string k1, .int .u64 v1, .int .i64 o1, .int .i64 a1, .bool g1, .string d1])).run Tryd.prog w5.drew = .ok () w6 := hst0
          have HM6 := Lib.hid hm6
          have HO6 := Lib.hid ho6
          clear hm6 ho6
          clear hst0
          go_region
          go_wp2_with fail
          go_ret
          refine ⟨by first | exact ret_int e5.symm | rfl, ?_, ?_⟩
          · exact (HO5.out.drew.weaken (fun _ _ => False.elim)).trans (HO6.out.weaken (fun _ _ e => .inr e))
          · obtain ⟨p1, p2⟩ := HPS.out e5
            rw [p1, p2]
            have hok := HOK.out
            rw [p2] at hok
            exact ⟨HO6.out.old (w := w5.drew) HH5.out.blk hne, HM6.out.perm strKeyed strInj HP.out, hok⟩
end Go.Proofs.YtjdlcfllmpdffaaDoor
/-! A store: its keys, sorted. -/
namespace Go.Proofs.YtjdlcfllmpdffaaDoor
open Go.Conc Go.RowKit Go.Maps Go.Sort Go.Shelf

theorem sortsS (m : Nat) : AnyZ.SortsIn Tryd.prog Tryd.sortedS_ren Fence.wide m :=
  ⟨fun blk off cap ss W hH hblk hsz => callsIn_wide.2 (AnyM.slices_Sort_string Tryd.sortS blk off cap ss W hH hblk hsz),
   fun p cap W => callsIn_wide.2 (AnyM.slices_Sort_string_none Tryd.sortS p cap W)⟩
theorem mkeys_any (mb : Option Nat) (W : World) : Calls Tryd.prog 91 #[.map mb] W fun e w' => e = .returned (.func (.func 111) #[] #[.pointer (some ⟨W.heap.size, 0, none⟩)]) ∧ w' = W.alloc (.cells #[.map mb] 138) :=
  callsIn_wide.1 (AnyZ.keys_in Tryd.keysR Fence.wide 5 trivial rfl mb W)
theorem sorted_any {H : Type} (b nn : Nat) (D0 : DataW H) (R : Value → Option (DataW H × List MemPlace)) (w : World) (hown : w.ownsMap Tryd.prog 9 R b nn D0) (hmax : Maps.size D0 ≤ maxLen) (hbytes : Maps.size D0 * 16 ≤ 140737488355328) :
    Calls Tryd.prog 85 #[.func (.func 111) #[] #[.pointer (some ⟨w.heap.size, 0, none⟩)]] (w.alloc (.cells #[.map (some b)] 138)) fun e w' => ∃ (v : Value) (ss : List (List UInt8)), e = .returned v ∧ ss.Perm (strKeys D0) ∧
      w'.ownsRow (w.alloc (.cells #[.map (some b)] 138)).heap.size 9 1 v ss.length ((ss.mergeSort (fun x y => decide (x ≤ y))).map encStr) ∧ (v = .slice none 0 0 ↔ ss = []) ∧ Below (w.alloc (.cells #[.map (some b)] 138)).heap.size (w.alloc (.cells #[.map (some b)] 138)) w' := by
  have hbl := hown.lt
  have hseq : SeqGives Fence.wide 2 Tryd.prog 111 #[.pointer (some ⟨w.heap.size, 0, none⟩)] encStr (fun ss => ss.Perm (strKeys D0)) (Maps.size D0) (w.alloc (.cells #[.map (some b)] 138)) :=
    AnyZ.keys_gives (ρ := Tryd.keysR_ren) { Tryd.keysR with } Fence.wide _ trivial rfl (by omega) w.heap.size b nn D0 _ (by simp) (by simp) (by
      obtain ⟨es, clock, hb, Ft, hs, hD⟩ := hown
      exact ⟨es, clock, (Below.heap_alloc _ _ b hbl).trans hb, Ft, hs, hD⟩)
  exact callsIn_wide.1 (AnyZ.sorted_in Tryd.sortedS Fence.wide 5 trivial trivial trivial trivial rfl (by omega) (sortsS _) (enters_of Tryd.func106 (by kernel_rfl) rfl) 111 #[.pointer (some ⟨w.heap.size, 0, none⟩)] trivial (enters_of Tryd.func111 (by kernel_rfl) rfl) _ _ hmax hbytes _ hseq)
def keysS (L : List RecT) : List ByteArray := L.map (·.key)
theorem strKeys_prs {L : List RecT} (hs : ∀ x ∈ L, x.key.size ≤ maxLen) : (strKeys (mapD Tryd.prog 9 Value.string recT (prs L))).Perm (L.map (fun x => x.key.data.toList)) := by
  have h1 : (((prs L).map (entL Tryd.prog 9 Value.string recT)).foldr DataW.insert []).Perm ((prs L).map (entL Tryd.prog 9 Value.string recT)) := WideShapes.sorted_perm _
  have h2 := h1.map (fun p => strOf p.1)
  refine h2.trans ?_
  unfold prs
  rw [List.map_map, List.map_map]
  refine List.Perm.of_eq (List.map_congr_left (fun x hx => ?_))
  simp only [Function.comp_apply, entL]
  rw [keyL_of (WideMaps.keyOf_string_mk Tryd.underlying9 (hs x hx))]
  rfl
theorem merge_keys {L : List RecT} (h : Rising L) {ss : List (List UInt8)} (hp : ss.Perm (L.map (fun x => x.key.data.toList))) : ss.mergeSort (fun x y => decide (x ≤ y)) = L.map (fun x => x.key.data.toList) := by
  have h1 : (ss.mergeSort (fun x y => decide (x ≤ y))).Pairwise (fun x y => decide (x ≤ y) = true) := List.pairwise_mergeSort (le := fun x y : List UInt8 => decide (x ≤ y)) (fun a b c hab hbc => decide_eq_true (List.le_trans (of_decide_eq_true hab) (of_decide_eq_true hbc))) (fun a b => by
    rcases List.le_total a b with h | h
    · show (decide (a ≤ b) || decide (b ≤ a)) = true
      rw [decide_eq_true h]; rfl
    · show (decide (a ≤ b) || decide (b ≤ a)) = true
      rw [decide_eq_true h, Bool.or_true]) ss
  have h2 : (L.map (fun x => x.key.data.toList)).Pairwise (fun x y => decide (x ≤ y) = true) := by
    rw [List.pairwise_map]
    exact h.imp (fun {a b} hab => decide_eq_true (List.le_of_lt hab))
  exact ((List.mergeSort_perm ss _).trans hp).eq_of_pairwise (fun a b _ _ hab hba => List.le_antisymm (of_decide_eq_true hab) (of_decide_eq_true hba)) h1 h2
theorem skeys_nil (w : World) : Calls Tryd.prog 63 #[.pointer none] w fun e w' => e = .returned (.slice none 0 0) ∧ w = w' := by
  go_enter Tryd.func63, Tryd.ntmps63
  go_wp2_with fail
  go_ret
  exact ⟨rfl, rfl⟩
theorem skeys_any (w : World) (s b : Nat) (most ttl r : Int) (L : List RecT) (h : StoreAt w s b most ttl r L) (hs : ∀ x ∈ L, x.key.size ≤ maxLen) :
    Calls Tryd.prog 63 #[.pointer (some ⟨s, 0, none⟩)] w fun e w' => ∃ v, e = .returned v ∧ Only (fun _ => False) w w' ∧ w'.ownsRow w.heap.size 9 1 v L.length (L.map (fun x => .string x.key)) := by
  have c0 : w.cell? ⟨s, 0, none⟩ = some (.map (some b)) := cell_at h.blk 0
  have hsz : Maps.size (mapD Tryd.prog 9 Value.string recT (prs L)) ≤ 48 := by
    rw [size_mapD, prs_length]
    have h1 := h.ok.room
    have h2 := h.ok.mostB
    omega
  have hsrt := sorted_any b _ _ _ w h.map.own (by unfold maxLen; omega) (by omega)
  have HH := Lib.hid h
  have HS := Lib.hid hsrt
  have HZ := Lib.hid hs
  clear h hsrt hs
  clear hsz
  go_enter Tryd.func63, Tryd.ntmps63
  go_wp2_with fail
  refine (mkeys_any (some b) w).mono ?_
  rintro e w1 ⟨rfl, rfl⟩
  clear c0
  go_wp2_with fail
  refine HS.out.mono ?_
  rintro e w2 ⟨v, ss, rfl, hp, hrow, hnil, hb⟩
  go_wp2_with fail
  go_ret
  have hp2 := hp.trans (strKeys_prs HZ.out)
  rw [merge_keys HH.out.ok.rises hp2] at hrow
  refine ⟨v, rfl, ((Only.refl _ _).alloc _).trans (Only.of_below hb), ?_⟩
  have h3 := ownsRow_base_a hrow (show w.heap.size ≤ _ by simp)
  have e1 : ss.length = L.length := by rw [hp2.length_eq, List.length_map]
  rw [e1, List.map_map] at h3
  exact h3
end Go.Proofs.YtjdlcfllmpdffaaDoor
/-! A store: All, Ids, Tick. -/
namespace Go.Proofs.YtjdlcfllmpdffaaDoor
open Go.Conc Go.RowKit Go.Maps

theorem infoRec : (Tryd.prog.info? 33).map (fun i => (i.zero, i.size, i.bytes)) = some (some (recT zeroR), 6, 64) := by kernel_rfl
theorem infoId : (Tryd.prog.info? 31).map (fun i => (i.zero, i.size, i.bytes)) = some (some (.agg #[.string ⟨#[]⟩, .int .u64 0]), 2, 24) := by kernel_rfl
theorem good_keys {x : RecT} (h : goodR x = true) : x.key.size ≤ 64 := by
  unfold goodR goodP at h
  simp only [Bool.and_eq_true, beq_iff_eq] at h
  obtain ⟨⟨⟨⟨⟨h1, _⟩, _⟩, _⟩, _⟩, _⟩ := h
  unfold splitE at h1
  cases hs : splitOk x.key with
  | false => rw [hs] at h1; cases h1
  | true =>
    unfold splitOk at hs
    simp only [Bool.and_eq_true, decide_eq_true_eq] at hs
    have h2 := hs.2.2
    by_cases h3 : (x.key.extract 2 x.key.size).size = 0 ∨ 62 < (x.key.extract 2 x.key.size).size
    · rw [namedP_bad h3] at h2; cases h2
    · rw [ByteArray.size_extract] at h3; omega
theorem StoreOk.keys {most ttl : Int} {L : List RecT} (h : StoreOk most ttl L) : ∀ x ∈ L, x.key.size ≤ maxLen := fun x hx => by
  have := good_keys (h.goods x hx).1
  unfold maxLen
  omega
theorem StoreOk.len {most ttl : Int} {L : List RecT} (h : StoreOk most ttl L) : L.length ≤ 48 := by have h1 := h.room; have h2 := h.mostB; omega
/-- A slice of records of the call's own. -/
abbrev RecRow (w : World) (base : Nat) (v : Value) (L : List RecT) : Prop := w.ownsRow base 33 6 v L.length (L.flatMap recC)
theorem sall_nil (w : World) : Calls Tryd.prog 15 #[.pointer none] w fun e w' => e = .returned (.slice none 0 0) ∧ w = w' := by
  go_enter Tryd.func15, Tryd.ntmps15
  go_wp2_with fail
  refine (skeys_nil w).mono ?_
  rintro e w1 ⟨rfl, rfl⟩
  go_wp2_with fail
  refine wp_loop_rounds 1 ?_
  rw [rounds_succ]
  go_wp2_with fail
  go_ret
  exact ⟨rfl, rfl⟩
set_option maxRecDepth 100000 in
set_option maxHeartbeats 1000000 in
theorem sall_any (w : World) (s b : Nat) (most ttl r : Int) (L : List RecT) (h : StoreAt w s b most ttl r L) :
    Calls Tryd.prog 15 #[.pointer (some ⟨s, 0, none⟩)] w fun e w' => ∃ v, e = .returned v ∧ Only (fun _ => False) w w' ∧ RecRow w' w.heap.size v L := by
  obtain ⟨i0, hi0, iz0, iz1, iz2⟩ := info_parts infoRec
  have hkz := h.ok.keys
  have hLl := h.ok.len
  have HH := Lib.hid h
  have HZ := Lib.hid hkz
  clear h hkz
  go_enter Tryd.func15, Tryd.ntmps15
  go_wp2_with fail
  refine (skeys_any w s b most ttl r L HH.out HZ.out).mono ?_
  rintro e w1 ⟨v, rfl, ho1, hrow⟩
  have hsl : Sl w1 1 v L.length (L.map (fun x => .string x.key)) := Sl.of_owns hrow
  obtain ⟨_, ka, kcap, rfl, k1, k2, k3⟩ := hsl
  have hh1 := HH.out.new ho1
  unfold maxLen at k2
  have H1 := Lib.hid hh1
  have HO1 := Lib.hid ho1
  have HK := Lib.hid k3
  clear hh1 ho1 k3
  clear hrow
  go_wp2_with fail
  go_loopg [3, 9] L.length (fun g v3 v9 wr => ∃ k : Nat, v9 = .int .i64 k ∧ k ≤ L.length ∧ Only (fun _ => False) w1 wr ∧ RecRow wr w1.heap.size v3 (L.take k) ∧ g = L.length - k)
  case atStart => exact ⟨0, rfl, Nat.zero_le _, Only.refl _ _, World.ownsRow_nil w1 _ _ _, rfl⟩
  case round =>
    obtain ⟨k, rfl, hk, ho, hown, hg⟩ := hrel
    have Hg := Lib.hid hg
    have HO := Lib.hid ho
    have HW := Lib.hid hown
    clear hg ho hown
    by_cases hlt : k < L.length
    · obtain ⟨kb, koff, ha, hc⟩ := HK.out.resolve_left (by omega)
      subst ha
      have z0 : wr.cell? ⟨kb, koff + k, none⟩ = some (.string L[k].key) := HO.out.cell (hc k _ (by simp [hlt])) id
      have htk : L.take (k + 1) = L.take k ++ [L[k]] := by rw [List.take_add_one, List.getElem?_eq_getElem hlt]; rfl
      have hhr := H1.out.new HO.out
      have c0 : wr.cell? ⟨s, 0, none⟩ = some (.map (some b)) := cell_at hhr.blk 0
      have hlk := hhr.map.look strKeyed strInj Tryd.underlying138 (z := zeroR) (zeroRec wr) (strOk (HZ.out _ (List.getElem_mem hlt))) false
      rw [look_prs, findS_mem hhr.ok.rises (List.getElem_mem hlt)] at hlk
      have hln : (L.take k).length = k := by simp; omega
      have HTK := Lib.hid htk
      have HLN := Lib.hid hln
      clear htk hln
      clear hc hhr
      generalize L[k] = x at *
      obtain ⟨k1, v1, o1, a1, g1, d1⟩ := x
      have hlk2 : (Instr.lookup 138 (.map (some b)) (.string k1) false).run Tryd.prog wr = .ok (.agg #[.string k1, .int .u64 v1, .int .i64 o1, .int .i64 a1, .bool g1, .string d1]) wr := hlk
      clear hlk
      have hlt' : (k : Int) < (L.length : Int) := by omega
      go_wp2_with (at_builtin; refine Wait.mk ?_)
      refine Wait.go (wpList_append_src _ rfl (.tmp 13) (.tmp 20) 28 28 rfl w1.heap.size 33 i0 _ 6 64 Tryd.underlying28 hi0 iz0 iz1 iz2 rfl _ (L.take k).length ((L.take k).flatMap recC) rfl (HW.out.alloc _) _ 1 (recC ⟨k1, v1, o1, a1, g1, d1⟩) rfl ?src4 ?m4 ?b4 ?base4 ?_)
      case src4 => exact Src.ofSlice _ Tryd.underlying28 _ _ _ _ rfl (news_new _ _ _) (recC_one _)
      case m4 => have := HLN.out; unfold maxLen; omega
      case b4 => have := HLN.out; omega
      case base4 => have := HO.out.size; simp; omega
      intro v4 w5 own4 gr4 hv4
      have ho5 : Only (fun _ => False) w1 w5 := (HO.out.alloc _).own (HW.out.alloc _) (Nat.le_refl _) gr4
      have HO5 := Lib.hid ho5
      have HW5 := Lib.hid own4
      clear ho5 own4
      clear hlk2 z0 c0 gr4 hv4
      go_wp2_with fail
      go_roundg (L.length - (k + 1))
      case measure => rw [Hg.out]; omega
      case rel =>
        refine ⟨k + 1, by go_num, by omega, HO5.out, ?_, rfl⟩
        unfold RecRow
        rw [HTK.out, List.length_append, List.flatMap_append]
        have e1 : [RecT.mk k1 v1 o1 a1 g1 d1].flatMap recC = recC ⟨k1, v1, o1, a1, g1, d1⟩ := by simp
        rw [e1]
        exact HW5.out
    · have hke : k = L.length := by omega
      have hlt' : ¬ (k : Int) < (L.length : Int) := by omega
      have hW := HW.out
      rw [hke, List.take_length] at hW
      have HW2 := Lib.hid hW
      clear hW
      clear hke
      go_wp2_with fail
      go_ret
      exact ⟨_, rfl, HO1.out.trans HO.out, ownsRow_base_a HW2.out HO1.out.size⟩
end Go.Proofs.YtjdlcfllmpdffaaDoor
