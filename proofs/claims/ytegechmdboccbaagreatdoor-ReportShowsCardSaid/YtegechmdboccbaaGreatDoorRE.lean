/- Rows that are written in place: several cells at once. -/
import Derived.Test.YtegechmdboccbaaGreatDoorRD
import Derived.Deep.RegionWith
import Derived.Deep.RegionLaw
import Derived.RegionTactic
import Derived.Test.YtegechmdboccbaaGreatDoorIterS
import Derived.Shelf.SlIter.Nil
import Derived.Shelf.SortM.Plain
import Derived.Shelf.SortM.SortNone
import Derived.Sort.KeysCollected
import Derived.Test.YtegechmdboccbaaGreatDoorRA
import Derived.Laws.IdiomCopy
/-! record: Life, begin, Good. -/
namespace Go.Proofs.YtegechmdboccbaaGreatDoor
open Go.Conc Go.RowKit

theorem ret_int2 {k1 k2 : IntKind} {a b c d : Int} (h : a = b) (g : c = d) : Ending.returned (.tuple #[.int k1 a, .int k2 c]) = .returned (.tuple #[.int k1 b, .int k2 d]) := by rw [h, g]
theorem six_set {w : World} {b : Nat} {t : TypeId} {a0 a1 a2 a3 a4 a5 : Value} (h : w.heap[b]? = some (.cells #[a0, a1, a2, a3, a4, a5] t (0, 0))) (u0 u1 u2 u3 u4 u5 : Value) :
    ((((((w.setCell ⟨b, 0, none⟩ u0).setCell ⟨b, 1, none⟩ u1).setCell ⟨b, 2, none⟩ u2).setCell ⟨b, 3, none⟩ u3).setCell ⟨b, 4, none⟩ u4).setCell ⟨b, 5, none⟩ u5).heap[b]? = some (.cells #[u0, u1, u2, u3, u4, u5] t (0, 0)) ∧
      Only (fun x => x = b) w ((((((w.setCell ⟨b, 0, none⟩ u0).setCell ⟨b, 1, none⟩ u1).setCell ⟨b, 2, none⟩ u2).setCell ⟨b, 3, none⟩ u3).setCell ⟨b, 4, none⟩ u4).setCell ⟨b, 5, none⟩ u5) :=
  ⟨set_at (set_at (set_at (set_at (set_at (set_at h 0 u0) 1 u1) 2 u2) 3 u3) 4 u4) 5 u5,
    (((((((Only.refl (fun x => x = b) w).setCell (p := ⟨b, 0, none⟩) (.inr rfl) u0).setCell (p := ⟨b, 1, none⟩) (.inr rfl) u1).setCell (p := ⟨b, 2, none⟩) (.inr rfl) u2).setCell (p := ⟨b, 3, none⟩) (.inr rfl) u3).setCell (p := ⟨b, 4, none⟩) (.inr rfl) u4).setCell (p := ⟨b, 5, none⟩) (.inr rfl) u5)⟩
def beginE (o : Int) (name : ByteArray) (ver : Nat) : Int := if keyE o name ≠ 0 then keyE o name else if ver / 2 ^ 32 = 0 then 11 else 0
def recV (key : ByteArray) (ver : Nat) (o age : Int) (gone : Bool) (data : ByteArray) : Value := .agg #[.string key, .int .u64 ver, .int .i64 o, .int .i64 age, .bool gone, .string data]
def rec0 : Value := .agg #[.string ⟨#[]⟩, .int .u64 0, .int .i64 0, .int .i64 0, .bool false, .string ⟨#[]⟩]
def beginV (o : Int) (name : ByteArray) (ver : Nat) : Value := if beginE o name ver = 0 then recV (keyS o name) ver o 0 false ⟨#[]⟩ else rec0
end Go.Proofs.YtegechmdboccbaaGreatDoor
/-! record: Good. -/
namespace Go.Proofs.YtegechmdboccbaaGreatDoor
open Go.Conc Go.RowKit

def goodP (key : ByteArray) (ver : Nat) (o age : Int) (gone : Bool) (data : ByteArray) : Bool :=
  (splitE key == 0) && (splitN key == o) && decide (0 < ver / 2 ^ 32) && decide (0 ≤ age) && decide (age ≤ 65535) && decide (data.size = if gone then 0 else 10)
end Go.Proofs.YtegechmdboccbaaGreatDoor
/-! A store's records, plainly: lists of records that rise by their keys. -/
namespace Go.Proofs.YtegechmdboccbaaGreatDoor
open Go.Conc Go.RowKit

structure RecT where
  key : ByteArray
  ver : Nat
  o : Int
  age : Int
  gone : Bool
  data : ByteArray
theorem RecT.ext' {x y : RecT} (h1 : x.key = y.key) (h2 : x.ver = y.ver) (h3 : x.o = y.o) (h4 : x.age = y.age) (h5 : x.gone = y.gone) (h6 : x.data = y.data) : x = y := by
  cases x; cases y; simp_all
/-- The record's six cells. -/
def recC (x : RecT) : List Value := [.string x.key, .int .u64 x.ver, .int .i64 x.o, .int .i64 x.age, .bool x.gone, .string x.data]
def recT (x : RecT) : Value := .agg #[.string x.key, .int .u64 x.ver, .int .i64 x.o, .int .i64 x.age, .bool x.gone, .string x.data]
def zeroR : RecT := ⟨⟨#[]⟩, 0, 0, 0, false, ⟨#[]⟩⟩
theorem recC_length (x : RecT) : (recC x).length = 6 := rfl
theorem recC_one (x : RecT) : ∀ u ∈ recC x, u.oneCell' = true := by
  intro u hu
  simp only [recC, List.mem_cons, List.not_mem_nil, or_false] at hu
  rcases hu with rfl | rfl | rfl | rfl | rfl | rfl <;> rfl
def goodR (x : RecT) : Bool := goodP x.key x.ver x.o x.age x.gone x.data

/-- Keys' order: by their bytes. -/
def ltK (a b : ByteArray) : Prop := a.data.toList < b.data.toList
instance (a b : ByteArray) : Decidable (ltK a b) := by unfold ltK; infer_instance
theorem ltK_irrefl (a : ByteArray) : ¬ ltK a a := List.lt_irrefl _
theorem ltK_trans {a b c : ByteArray} (h : ltK a b) (k : ltK b c) : ltK a c := List.lt_trans h k
theorem ltK_tri {a b : ByteArray} (h : ¬ ltK a b) (k : a ≠ b) : ltK b a := by
  unfold ltK at *
  rcases List.le_iff_lt_or_eq.1 (List.not_lt.1 h) with h | h
  · exact h
  · exact absurd (by cases a; cases b; simp at h ⊢; exact h.symm) k
theorem ltK_ne {a b : ByteArray} (h : ltK a b) : a ≠ b := fun e => by subst e; exact ltK_irrefl _ h
def Rising (L : List RecT) : Prop := L.Pairwise (fun x y => ltK x.key y.key)
def findS (L : List RecT) (k : ByteArray) : Option RecT := L.find? (fun x => decide (x.key = k))
/-- A record is placed, or takes the place of the one of its key. -/
def insS (x : RecT) : List RecT → List RecT
  | [] => [x]
  | y :: L => if x.key = y.key then x :: L else if ltK x.key y.key then x :: y :: L else y :: insS x L
theorem mem_insS {x : RecT} : ∀ {L : List RecT} {y : RecT}, Rising L → (y ∈ insS x L ↔ y = x ∨ (y ∈ L ∧ y.key ≠ x.key))
  | [], y, _ => by simp [insS]
  | z :: L, y, h => by
    obtain ⟨h1, h2⟩ := List.pairwise_cons.1 h
    unfold insS
    split
    · rename_i e
      simp only [List.mem_cons]
      constructor
      · rintro (rfl | hy)
        · exact .inl rfl
        · exact .inr ⟨.inr hy, fun e2 => ltK_irrefl _ (by have := h1 y hy; rw [e2, e] at this; exact this)⟩
      · rintro (rfl | ⟨rfl | hy, hn⟩)
        · exact .inl rfl
        · exact absurd e.symm hn
        · exact .inr hy
    · rename_i e
      split
      · rename_i hlt
        simp only [List.mem_cons]
        constructor
        · rintro (rfl | rfl | hy)
          · exact .inl rfl
          · exact .inr ⟨.inl rfl, fun e2 => e e2.symm⟩
          · exact .inr ⟨.inr hy, fun e2 => ltK_irrefl _ (by have := ltK_trans hlt (h1 y hy); rw [e2] at this; exact this)⟩
        · rintro (rfl | ⟨rfl | hy, hn⟩)
          · exact .inl rfl
          · exact .inr (.inl rfl)
          · exact .inr (.inr hy)
      · simp only [List.mem_cons, mem_insS (L := L) h2]
        constructor
        · rintro (rfl | rfl | ⟨hy, hn⟩)
          · exact .inr ⟨.inl rfl, fun e2 => e e2.symm⟩
          · exact .inl rfl
          · exact .inr ⟨.inr hy, hn⟩
        · rintro (rfl | ⟨rfl | hy, hn⟩)
          · exact .inr (.inl rfl)
          · exact .inl rfl
          · exact .inr (.inr ⟨hy, hn⟩)
theorem rising_ins {x : RecT} : ∀ {L : List RecT}, Rising L → Rising (insS x L)
  | [], _ => by simp [insS, Rising]
  | z :: L, h => by
    obtain ⟨h1, h2⟩ := List.pairwise_cons.1 h
    unfold insS
    split
    · rename_i e
      exact List.pairwise_cons.2 ⟨fun y hy => by rw [e]; exact h1 y hy, h2⟩
    · rename_i e
      split
      · rename_i hlt
        refine List.pairwise_cons.2 ⟨fun y hy => ?_, h⟩
        rcases List.mem_cons.1 hy with rfl | hy
        · exact hlt
        · exact ltK_trans hlt (h1 y hy)
      · rename_i hlt
        refine List.pairwise_cons.2 ⟨fun y hy => ?_, rising_ins h2⟩
        rcases (mem_insS h2).1 hy with rfl | ⟨hy, _⟩
        · exact ltK_tri hlt e
        · exact h1 y hy
theorem rising_keys {L : List RecT} (h : Rising L) : L.Pairwise (fun x y => x.key ≠ y.key) := h.imp (fun h => ltK_ne h)
theorem rising_nodup {L : List RecT} (h : Rising L) : L.Nodup := (rising_keys h).imp (fun {a b} (hn : a.key ≠ b.key) (e : a = b) => hn (by rw [e]))
/-- Lists that rise and have the same members are one. -/
theorem rising_ext {L M : List RecT} (hL : Rising L) (hM : Rising M) (h : ∀ x, x ∈ L ↔ x ∈ M) : L = M := by
  have hp : L.Perm M := (List.perm_ext_iff_of_nodup (rising_nodup hL) (rising_nodup hM)).2 h
  exact hp.eq_of_pairwise (fun a b _ _ h1 h2 => absurd (ltK_trans h1 h2) (ltK_irrefl _)) hL hM
theorem rising_map {L : List RecT} (h : Rising L) (f : RecT → RecT) (hf : ∀ x, (f x).key = x.key) : Rising (L.map f) := by
  unfold Rising
  rw [List.pairwise_map]
  exact h.imp (fun {a b} hab => by rw [hf, hf]; exact hab)
theorem rising_filter {L : List RecT} (h : Rising L) (p : RecT → Bool) : Rising (L.filter p) := List.Pairwise.filter _ h
theorem findS_some {L : List RecT} {k : ByteArray} {y : RecT} (h : findS L k = some y) : y ∈ L ∧ y.key = k := by
  have h1 := List.mem_of_find?_eq_some h
  have h2 := List.find?_some h
  exact ⟨h1, by simpa using h2⟩
theorem findS_none {L : List RecT} {k : ByteArray} (h : findS L k = none) : ∀ y ∈ L, y.key ≠ k := by
  intro y hy e
  unfold findS at h
  rw [List.find?_eq_none] at h
  exact h y hy (by simpa using e)
theorem findS_mem {L : List RecT} (h : Rising L) {y : RecT} (hy : y ∈ L) : findS L y.key = some y := by
  cases hf : findS L y.key with
  | none => exact absurd rfl (findS_none hf y hy)
  | some z =>
    obtain ⟨h1, h2⟩ := findS_some hf
    obtain ⟨i, hi, rfl⟩ := List.getElem_of_mem h1
    obtain ⟨j, hj, rfl⟩ := List.getElem_of_mem hy
    have hk := List.pairwise_iff_getElem.1 (rising_keys h)
    rcases Nat.lt_trichotomy i j with h3 | h3 | h3
    · exact absurd h2 (hk i j hi hj h3)
    · subst h3; rfl
    · exact absurd h2.symm (hk j i hj hi h3)
theorem findS_ins_same {L : List RecT} (h : Rising L) (x : RecT) : findS (insS x L) x.key = some x := findS_mem (rising_ins h) ((mem_insS h).2 (.inl rfl))
theorem findS_ins_other {L : List RecT} (h : Rising L) (x : RecT) {k : ByteArray} (hk : k ≠ x.key) : findS (insS x L) k = findS L k := by
  cases hf : findS L k with
  | none =>
    cases hg : findS (insS x L) k with
    | none => rfl
    | some z =>
      obtain ⟨h1, h2⟩ := findS_some hg
      rcases (mem_insS h).1 h1 with rfl | ⟨h3, _⟩
      · exact absurd h2.symm hk
      · exact absurd h2 (findS_none hf z h3)
  | some y =>
    obtain ⟨h1, h2⟩ := findS_some hf
    have := findS_mem (rising_ins h) ((mem_insS (x := x) h).2 (.inr ⟨h1, by rw [h2]; exact hk⟩))
    rw [h2] at this
    exact this
theorem length_ins : ∀ {L : List RecT} (x : RecT), Rising L → (insS x L).length = if (findS L x.key).isSome then L.length else L.length + 1
  | [], x, _ => by simp [insS, findS]
  | z :: L, x, h => by
    obtain ⟨h1, h2⟩ := List.pairwise_cons.1 h
    unfold insS
    by_cases e : x.key = z.key
    · rw [if_pos e]
      have : (findS (z :: L) x.key).isSome = true := by unfold findS; rw [List.find?_cons_of_pos (by simpa using e.symm)]; rfl
      rw [if_pos this]
      rfl
    · rw [if_neg e]
      have e1 : findS (z :: L) x.key = findS L x.key := by unfold findS; rw [List.find?_cons_of_neg (by simpa using fun h => e h.symm)]
      rw [e1]
      by_cases hlt : ltK x.key z.key
      · rw [if_pos hlt]
        have : findS L x.key = none := by
          cases hf : findS L x.key with
          | none => rfl
          | some y =>
            obtain ⟨g1, g2⟩ := findS_some hf
            exact absurd (ltK_trans hlt (h1 y g1)) (by rw [g2]; exact ltK_irrefl _)
        rw [this]
        rfl
      · rw [if_neg hlt]
        have := length_ins (L := L) x h2
        rw [List.length_cons, this]
        cases (findS L x.key).isSome <;> rfl

/-! the map's entries -/
def prs (L : List RecT) : List (ByteArray × RecT) := L.map (fun x => (x.key, x))
theorem prs_length (L : List RecT) : (prs L).length = L.length := List.length_map ..
theorem look_prs (L : List RecT) (k : ByteArray) : lookL (prs L) k = findS L k := by
  unfold lookL findS prs
  rw [List.find?_map]
  simp only [Function.comp_def]
  cases List.find? (fun x => decide (x.key = k)) L <;> rfl
theorem mem_prs {L : List RecT} {p : ByteArray × RecT} : p ∈ prs L ↔ p.2 ∈ L ∧ p.1 = p.2.key := by
  unfold prs
  rw [List.mem_map]
  constructor
  · rintro ⟨x, hx, rfl⟩; exact ⟨hx, rfl⟩
  · rintro ⟨hx, e⟩; exact ⟨p.2, hx, by rw [← e]⟩
theorem nodup_of_apart {α β : Type} {L : List (α × β)} (h : L.Pairwise (fun p q => p.1 ≠ q.1)) : L.Nodup := h.imp (fun {a b} (hn : a.1 ≠ b.1) (e : a = b) => hn (by rw [e]))
theorem prs_apart {L : List RecT} (h : Rising L) : (prs L).Pairwise (fun p q => p.1 ≠ q.1) := by
  unfold prs
  rw [List.pairwise_map]
  exact rising_keys h
theorem put_prs {L : List RecT} (h : Rising L) (x : RecT) : (putL (prs L) x.key x).Perm (prs (insS x L)) := by
  refine (List.perm_ext_iff_of_nodup (nodup_of_apart (apart_put (prs_apart h) _ _)) (nodup_of_apart (prs_apart (rising_ins h)))).2 (fun p => ?_)
  rw [mem_prs, mem_insS h]
  unfold putL
  rw [List.mem_append, mem_dropL, mem_prs]
  constructor
  · rintro (⟨⟨h1, h2⟩, h3⟩ | h1)
    · exact ⟨.inr ⟨h1, by rw [← h2]; exact h3⟩, h2⟩
    · obtain rfl : p = (x.key, x) := by simpa using h1
      exact ⟨.inl rfl, rfl⟩
  · rintro ⟨h1 | ⟨h1, h2⟩, h3⟩
    · right
      obtain ⟨p1, p2⟩ := p
      simp only at h1 h3
      subst h1 h3
      simp
    · exact .inl ⟨⟨h1, h3⟩, by rw [h3]; exact h2⟩

/-! the store's functions -/
def findV (L : List RecT) (k : ByteArray) : RecT := (findS L k).getD zeroR
def putFE (most : Int) (n v : Nat) : Option RecT → Int
  | some y => if v ≤ y.ver then 13 else 0
  | none => if most ≤ n then 5 else 0
def older (x : RecT) : RecT := { x with age := x.age + 1 }
def tickS (ttl : Int) (L : List RecT) : List RecT := (L.map older).filter (fun x => decide (x.age < ttl))
/-- What a store holds: rising, good, young enough, not too many. -/
structure StoreOk (most ttl : Int) (L : List RecT) : Prop where
  mostB : 1 ≤ most ∧ most ≤ 48
  ttlB : 1 ≤ ttl ∧ ttl ≤ 65535
  rises : Rising L
  goods : ∀ x ∈ L, goodR x = true ∧ x.age < ttl
  room : (L.length : Int) ≤ most
theorem StoreOk.empty {most ttl : Int} (h1 : 1 ≤ most) (h2 : most ≤ 48) (h3 : 1 ≤ ttl) (h4 : ttl ≤ 65535) : StoreOk most ttl [] :=
  ⟨⟨h1, h2⟩, ⟨h3, h4⟩, List.Pairwise.nil, (fun _ h => by cases h), by simp; omega⟩
theorem good_older {x : RecT} (h : goodR x = true) (ha : x.age < 65535) : goodR (older x) = true := by
  unfold goodR goodP at *
  simp only [older]
  simp only [Bool.and_eq_true, decide_eq_true_eq] at *
  obtain ⟨⟨⟨⟨⟨h1, h2⟩, h3⟩, h4⟩, h5⟩, h6⟩ := h
  exact ⟨⟨⟨⟨⟨h1, h2⟩, decide_eq_true h3⟩, decide_eq_true (by omega)⟩, decide_eq_true (by omega)⟩, decide_eq_true h6⟩
end Go.Proofs.YtegechmdboccbaaGreatDoor
/-! A store: New, Len, Refused, TTL, Get. -/
namespace Go.Proofs.YtegechmdboccbaaGreatDoor
open Go.Conc Go.RowKit Go.Maps

theorem strKeyed : Keyed Tryz.prog 9 := string_keyed Tryz.underlying9
theorem strInj : ∀ a b : ByteArray, Value.string a = Value.string b → a = b := fun _ _ h => Value.string.inj h
theorem strOk {s : ByteArray} (h : s.size ≤ maxLen) : KeyOk Tryz.prog 9 Value.string s := ⟨_, Go.WideMaps.keyOf_string_mk Tryz.underlying9 h⟩
theorem zeroRec (w : World) : (zeroValue 85).run Tryz.prog w = .ok (recT zeroR) w := by kernel_rfl
abbrev RMap (w : World) (b : Nat) (L : List RecT) : Prop := MapIs Tryz.prog 9 Value.string recT w b (prs L)
/-- A store: its block s, its map's block b, what it holds. -/
structure StoreAt (w : World) (s b : Nat) (most ttl r : Int) (L : List RecT) : Prop where
  blk : w.heap[s]? = some (.cells #[.map (some b), .int .i64 most, .int .i64 ttl, .int .i64 r] 127 (0, 0))
  map : RMap w b L
  ok : StoreOk most ttl L
theorem StoreAt.ne {w : World} {s b : Nat} {most ttl r : Int} {L : List RecT} (h : StoreAt w s b most ttl r L) : s ≠ b := by
  obtain ⟨es, c, hb, _⟩ := h.map.own
  rintro rfl
  have := h.blk
  rw [hb] at this
  cases this
theorem StoreAt.lt {w : World} {s b : Nat} {most ttl r : Int} {L : List RecT} (h : StoreAt w s b most ttl r L) : s < w.heap.size ∧ b < w.heap.size := ⟨lt_of_block h.blk, h.map.lt⟩
theorem StoreAt.kept {w w' : World} {S : Nat → Prop} {s b : Nat} {most ttl r : Int} {L : List RecT} (h : StoreAt w s b most ttl r L) (ho : Only S w w') (h1 : ¬ S s) (h2 : ¬ S b) : StoreAt w' s b most ttl r L :=
  ⟨ho.old h.blk h1, h.map.kept ho h2, h.ok⟩
theorem StoreAt.new {w w' : World} {s b : Nat} {most ttl r : Int} {L : List RecT} (h : StoreAt w s b most ttl r L) (ho : Only (fun _ => False) w w') : StoreAt w' s b most ttl r L := h.kept ho id id
/-- Which sizes may be. -/
def sizesB (most ttl : Int) : Bool := decide (1 ≤ most ∧ most ≤ 48 ∧ 1 ≤ ttl ∧ ttl ≤ 65535)
theorem snew_ok (w : World) (most ttl : Int) (h1 : 1 ≤ most) (h2 : most ≤ 48) (h3 : 1 ≤ ttl) (h4 : ttl ≤ 65535) : Calls Tryz.prog 71 #[.int .i64 most, .int .i64 ttl] w fun e w' =>
    e = .returned (.tuple #[.pointer (some ⟨w.heap.size + 1, 0, none⟩), .int .i64 0]) ∧ Only (fun _ => False) w w' ∧ StoreAt w' (w.heap.size + 1) w.heap.size most ttl 0 [] := by
  have hmm := @run_makeMap Tryz.prog
  go_enter Tryz.func71, Tryz.ntmps71
  go_wp2_with fail
  go_ret2
  refine ⟨rfl, ((Only.refl _ _).alloc _).alloc _, ?_, ?_, StoreOk.empty h1 h2 h3 h4⟩
  · have := heap_alloc_new (w.alloc (.map #[] 0)) (.cells #[.map (some w.heap.size), .int .i64 most, .int .i64 ttl, .int .i64 0] 127 (0, 0))
    simpa using this
  · exact (MapIs.made w).kept ((Only.refl (fun _ => False) _).alloc _) id
theorem snew_no (w : World) (most ttl : Int) (h : ¬ (1 ≤ most ∧ most ≤ 48 ∧ 1 ≤ ttl ∧ ttl ≤ 65535)) : Calls Tryz.prog 71 #[.int .i64 most, .int .i64 ttl] w fun e w' =>
    e = .returned (.tuple #[.pointer none, .int .i64 1]) ∧ w = w' := by
  by_cases h1 : most < 1 <;> by_cases h2 : most > 48 <;> by_cases h3 : ttl < 1 <;> by_cases h4 : ttl > 65535
  all_goals first
    | (exfalso; omega)
    | (go_enter Tryz.func71, Tryz.ntmps71
       go_wp2_with fail
       go_ret2
       exact ⟨rfl, rfl⟩)
theorem sref_any (w : World) (s b : Nat) (most ttl r : Int) (L : List RecT) (h : StoreAt w s b most ttl r L) : Calls Tryz.prog 39 #[.pointer (some ⟨s, 0, none⟩)] w fun e w' => e = .returned (.int .i64 r) ∧ w = w' := by
  have c3 : w.cell? ⟨s, 3, none⟩ = some (.int .i64 r) := cell_at h.blk 3
  clear h
  go_enter Tryz.func39, Tryz.ntmps39
  go_wp2_with fail
  go_ret
  exact ⟨rfl, rfl⟩
theorem sref_nil (w : World) : Calls Tryz.prog 39 #[.pointer none] w fun e w' => e = .returned (.int .i64 0) ∧ w = w' := by
  go_enter Tryz.func39, Tryz.ntmps39
  go_wp2_with fail
  go_ret
  exact ⟨rfl, rfl⟩
end Go.Proofs.YtegechmdboccbaaGreatDoor
/-! A store: its keys, sorted. -/
namespace Go.Proofs.YtegechmdboccbaaGreatDoor
open Go.Conc Go.RowKit Go.Maps Go.Sort Go.Shelf

theorem sortsS (m : Nat) : AnyZ.SortsIn Tryz.prog Tryz.sortedS_ren Fence.wide m :=
  ⟨fun blk off cap ss W hH hblk hsz => callsIn_wide.2 (AnyM.slices_Sort_string Tryz.sortS blk off cap ss W hH hblk hsz),
   fun p cap W => callsIn_wide.2 (AnyM.slices_Sort_string_none Tryz.sortS p cap W)⟩
theorem mkeys_any (mb : Option Nat) (W : World) : Calls Tryz.prog 103 #[.map mb] W fun e w' => e = .returned (.func (.func 122) #[] #[.pointer (some ⟨W.heap.size, 0, none⟩)]) ∧ w' = W.alloc (.cells #[.map mb] 125) :=
  callsIn_wide.1 (AnyZ.keys_in Tryz.keysR Fence.wide 5 trivial rfl mb W)
theorem sorted_any {H : Type} (b nn : Nat) (D0 : DataW H) (R : Value → Option (DataW H × List MemPlace)) (w : World) (hown : w.ownsMap Tryz.prog 9 R b nn D0) (hmax : Maps.size D0 ≤ maxLen) (hbytes : Maps.size D0 * 16 ≤ 140737488355328) :
    Calls Tryz.prog 102 #[.func (.func 122) #[] #[.pointer (some ⟨w.heap.size, 0, none⟩)]] (w.alloc (.cells #[.map (some b)] 125)) fun e w' => ∃ (v : Value) (ss : List (List UInt8)), e = .returned v ∧ ss.Perm (strKeys D0) ∧
      w'.ownsRow (w.alloc (.cells #[.map (some b)] 125)).heap.size 9 1 v ss.length ((ss.mergeSort (fun x y => decide (x ≤ y))).map encStr) ∧ (v = .slice none 0 0 ↔ ss = []) ∧ Below (w.alloc (.cells #[.map (some b)] 125)).heap.size (w.alloc (.cells #[.map (some b)] 125)) w' := by
  have hbl := hown.lt
  have hseq : SeqGives Fence.wide 2 Tryz.prog 122 #[.pointer (some ⟨w.heap.size, 0, none⟩)] encStr (fun ss => ss.Perm (strKeys D0)) (Maps.size D0) (w.alloc (.cells #[.map (some b)] 125)) :=
    AnyZ.keys_gives (ρ := Tryz.keysR_ren) { Tryz.keysR with } Fence.wide _ trivial rfl (by omega) w.heap.size b nn D0 _ (by simp) (by simp) (by
      obtain ⟨es, clock, hb, Ft, hs, hD⟩ := hown
      exact ⟨es, clock, (Below.heap_alloc _ _ b hbl).trans hb, Ft, hs, hD⟩)
  exact callsIn_wide.1 (AnyZ.sorted_in Tryz.sortedS Fence.wide 5 trivial trivial trivial trivial rfl (by omega) (sortsS _) (enters_of Tryz.func121 (by kernel_rfl) rfl) 122 #[.pointer (some ⟨w.heap.size, 0, none⟩)] trivial (enters_of Tryz.func122 (by kernel_rfl) rfl) _ _ hmax hbytes _ hseq)
def keysS (L : List RecT) : List ByteArray := L.map (·.key)
theorem strKeys_prs {L : List RecT} (hs : ∀ x ∈ L, x.key.size ≤ maxLen) : (strKeys (mapD Tryz.prog 9 Value.string recT (prs L))).Perm (L.map (fun x => x.key.data.toList)) := by
  have h1 : (((prs L).map (entL Tryz.prog 9 Value.string recT)).foldr DataW.insert []).Perm ((prs L).map (entL Tryz.prog 9 Value.string recT)) := WideShapes.sorted_perm _
  have h2 := h1.map (fun p => strOf p.1)
  refine h2.trans ?_
  unfold prs
  rw [List.map_map, List.map_map]
  refine List.Perm.of_eq (List.map_congr_left (fun x hx => ?_))
  simp only [Function.comp_apply, entL]
  rw [keyL_of (WideMaps.keyOf_string_mk Tryz.underlying9 (hs x hx))]
  rfl
theorem merge_keys {L : List RecT} (h : Rising L) {ss : List (List UInt8)} (hp : ss.Perm (L.map (fun x => x.key.data.toList))) : ss.mergeSort (fun x y => decide (x ≤ y)) = L.map (fun x => x.key.data.toList) := by
  have h1 : (ss.mergeSort (fun x y => decide (x ≤ y))).Pairwise (fun x y => decide (x ≤ y) = true) := List.pairwise_mergeSort (le := fun x y : List UInt8 => decide (x ≤ y)) (fun a b c hab hbc => decide_eq_true (List.le_trans (of_decide_eq_true hab) (of_decide_eq_true hbc))) (fun a b => by
    rcases List.le_total a b with h | h
    · show (decide (a ≤ b) || decide (b ≤ a)) = true
      rw [decide_eq_true h]; rfl
    · show (decide (a ≤ b) || decide (b ≤ a)) = true
      rw [decide_eq_true h, Bool.or_true]) ss
  have h2 : (L.map (fun x => x.key.data.toList)).Pairwise (fun x y => decide (x ≤ y) = true) := by
    rw [List.pairwise_map]
    exact h.imp (fun {a b} hab => decide_eq_true (List.le_of_lt hab))
  exact ((List.mergeSort_perm ss _).trans hp).eq_of_pairwise (fun a b _ _ hab hba => List.le_antisymm (of_decide_eq_true hab) (of_decide_eq_true hba)) h1 h2
theorem skeys_nil (w : World) : Calls Tryz.prog 81 #[.pointer none] w fun e w' => e = .returned (.slice none 0 0) ∧ w = w' := by
  go_enter Tryz.func81, Tryz.ntmps81
  go_wp2_with fail
  go_ret
  exact ⟨rfl, rfl⟩
theorem skeys_any (w : World) (s b : Nat) (most ttl r : Int) (L : List RecT) (h : StoreAt w s b most ttl r L) (hs : ∀ x ∈ L, x.key.size ≤ maxLen) :
    Calls Tryz.prog 81 #[.pointer (some ⟨s, 0, none⟩)] w fun e w' => ∃ v, e = .returned v ∧ Only (fun _ => False) w w' ∧ w'.ownsRow w.heap.size 9 1 v L.length (L.map (fun x => .string x.key)) := by
  have c0 : w.cell? ⟨s, 0, none⟩ = some (.map (some b)) := cell_at h.blk 0
  have hsz : Maps.size (mapD Tryz.prog 9 Value.string recT (prs L)) ≤ 48 := by
    rw [size_mapD, prs_length]
    have h1 := h.ok.room
    have h2 := h.ok.mostB
    omega
  have hsrt := sorted_any b _ _ _ w h.map.own (by unfold maxLen; omega) (by omega)
  have HH := Lib.hid h
  have HS := Lib.hid hsrt
  have HZ := Lib.hid hs
  clear h hsrt hs
  clear hsz
  go_enter Tryz.func81, Tryz.ntmps81
  go_wp2_with fail
  refine (mkeys_any (some b) w).mono ?_
  rintro e w1 ⟨rfl, rfl⟩
  clear c0
  go_wp2_with fail
  refine HS.out.mono ?_
  rintro e w2 ⟨v, ss, rfl, hp, hrow, hnil, hb⟩
  go_wp2_with fail
  go_ret
  have hp2 := hp.trans (strKeys_prs HZ.out)
  rw [merge_keys HH.out.ok.rises hp2] at hrow
  refine ⟨v, rfl, ((Only.refl _ _).alloc _).trans (Only.of_below hb), ?_⟩
  have h3 := ownsRow_base_a hrow (show w.heap.size ≤ _ by simp)
  have e1 : ss.length = L.length := by rw [hp2.length_eq, List.length_map]
  rw [e1, List.map_map] at h3
  exact h3
end Go.Proofs.YtegechmdboccbaaGreatDoor
/-! A store: All, Ids, Tick. -/
namespace Go.Proofs.YtegechmdboccbaaGreatDoor
open Go.Conc Go.RowKit Go.Maps

theorem infoRec : (Tryz.prog.info? 85).map (fun i => (i.zero, i.size, i.bytes)) = some (some (recT zeroR), 6, 64) := by kernel_rfl
theorem infoId : (Tryz.prog.info? 83).map (fun i => (i.zero, i.size, i.bytes)) = some (some (.agg #[.string ⟨#[]⟩, .int .u64 0]), 2, 24) := by kernel_rfl
theorem good_keys {x : RecT} (h : goodR x = true) : x.key.size ≤ 64 := by
  unfold goodR goodP at h
  simp only [Bool.and_eq_true, beq_iff_eq] at h
  obtain ⟨⟨⟨⟨⟨h1, _⟩, _⟩, _⟩, _⟩, _⟩ := h
  unfold splitE at h1
  cases hs : splitOk x.key with
  | false => rw [hs] at h1; cases h1
  | true =>
    unfold splitOk at hs
    simp only [Bool.and_eq_true, decide_eq_true_eq] at hs
    have h2 := hs.2.2
    by_cases h3 : (x.key.extract 2 x.key.size).size = 0 ∨ 62 < (x.key.extract 2 x.key.size).size
    · rw [namedP_bad h3] at h2; cases h2
    · rw [ByteArray.size_extract] at h3; omega
theorem StoreOk.keys {most ttl : Int} {L : List RecT} (h : StoreOk most ttl L) : ∀ x ∈ L, x.key.size ≤ maxLen := fun x hx => by
  have := good_keys (h.goods x hx).1
  unfold maxLen
  omega
theorem StoreOk.len {most ttl : Int} {L : List RecT} (h : StoreOk most ttl L) : L.length ≤ 48 := by have h1 := h.room; have h2 := h.mostB; omega
/-- A slice of records of the call's own. -/
abbrev RecRow (w : World) (base : Nat) (v : Value) (L : List RecT) : Prop := w.ownsRow base 85 6 v L.length (L.flatMap recC)
theorem sall_nil (w : World) : Calls Tryz.prog 51 #[.pointer none] w fun e w' => e = .returned (.slice none 0 0) ∧ w = w' := by
  go_enter Tryz.func51, Tryz.ntmps51
  go_wp2_with fail
  refine (skeys_nil w).mono ?_
  rintro e w1 ⟨rfl, rfl⟩
  go_wp2_with fail
  refine wp_loop_rounds 1 ?_
  rw [rounds_succ]
  go_wp2_with fail
  go_ret
  exact ⟨rfl, rfl⟩
set_option maxRecDepth 100000 in
set_option maxHeartbeats 1000000 in
theorem sall_any (w : World) (s b : Nat) (most ttl r : Int) (L : List RecT) (h : StoreAt w s b most ttl r L) :
    Calls Tryz.prog 51 #[.pointer (some ⟨s, 0, none⟩)] w fun e w' => ∃ v, e = .returned v ∧ Only (fun _ => False) w w' ∧ RecRow w' w.heap.size v L := by
  obtain ⟨i0, hi0, iz0, iz1, iz2⟩ := info_parts infoRec
  have hkz := h.ok.keys
  have hLl := h.ok.len
  have HH := Lib.hid h
  have HZ := Lib.hid hkz
  clear h hkz
  go_enter Tryz.func51, Tryz.ntmps51
  go_wp2_with fail
  refine (skeys_any w s b most ttl r L HH.out HZ.out).mono ?_
  rintro e w1 ⟨v, rfl, ho1, hrow⟩
  have hsl : Sl w1 1 v L.length (L.map (fun x => .string x.key)) := Sl.of_owns hrow
  obtain ⟨_, ka, kcap, rfl, k1, k2, k3⟩ := hsl
  have hh1 := HH.out.new ho1
  unfold maxLen at k2
  have H1 := Lib.hid hh1
  have HO1 := Lib.hid ho1
  have HK := Lib.hid k3
  clear hh1 ho1 k3
  clear hrow
  go_wp2_with fail
  go_loopg [3, 9] L.length (fun g v3 v9 wr => ∃ k : Nat, v9 = .int .i64 k ∧ k ≤ L.length ∧ Only (fun _ => False) w1 wr ∧ RecRow wr w1.heap.size v3 (L.take k) ∧ g = L.length - k)
  case atStart => exact ⟨0, rfl, Nat.zero_le _, Only.refl _ _, World.ownsRow_nil w1 _ _ _, rfl⟩
  case round =>
    obtain ⟨k, rfl, hk, ho, hown, hg⟩ := hrel
    have Hg := Lib.hid hg
    have HO := Lib.hid ho
    have HW := Lib.hid hown
    clear hg ho hown
    by_cases hlt : k < L.length
    · obtain ⟨kb, koff, ha, hc⟩ := HK.out.resolve_left (by omega)
      subst ha
      have z0 : wr.cell? ⟨kb, koff + k, none⟩ = some (.string L[k].key) := HO.out.cell (hc k _ (by simp [hlt])) id
      have htk : L.take (k + 1) = L.take k ++ [L[k]] := by rw [List.take_add_one, List.getElem?_eq_getElem hlt]; rfl
      have hhr := H1.out.new HO.out
      have c0 : wr.cell? ⟨s, 0, none⟩ = some (.map (some b)) := cell_at hhr.blk 0
      have hlk := hhr.map.look strKeyed strInj Tryz.underlying125 (z := zeroR) (zeroRec wr) (strOk (HZ.out _ (List.getElem_mem hlt))) false
      rw [look_prs, findS_mem hhr.ok.rises (List.getElem_mem hlt)] at hlk
      have hln : (L.take k).length = k := by simp; omega
      have HTK := Lib.hid htk
      have HLN := Lib.hid hln
      clear htk hln
      clear hc hhr
      generalize L[k] = x at *
      obtain ⟨k1, v1, o1, a1, g1, d1⟩ := x
      have hlk2 : (Instr.lookup 125 (.map (some b)) (.string k1) false).run Tryz.prog wr = .ok (.agg #[.string k1, .int .u64 v1, .int .i64 o1, .int .i64 a1, .bool g1, .string d1]) wr := hlk
      clear hlk
      have hlt' : (k : Int) < (L.length : Int) := by omega
      go_wp2_with (at_builtin; refine Wait.mk ?_)
      refine Wait.go (wpList_append_src _ rfl (.tmp 13) (.tmp 20) 79 79 rfl w1.heap.size 85 i0 _ 6 64 Tryz.underlying79 hi0 iz0 iz1 iz2 rfl _ (L.take k).length ((L.take k).flatMap recC) rfl (HW.out.alloc _) _ 1 (recC ⟨k1, v1, o1, a1, g1, d1⟩) rfl ?src4 ?m4 ?b4 ?base4 ?_)
      case src4 => exact Src.ofSlice _ Tryz.underlying79 _ _ _ _ rfl (news_new _ _ _) (recC_one _)
      case m4 => have := HLN.out; unfold maxLen; omega
      case b4 => have := HLN.out; omega
      case base4 => have := HO.out.size; simp; omega
      intro v4 w5 own4 gr4 hv4
      have ho5 : Only (fun _ => False) w1 w5 := (HO.out.alloc _).own (HW.out.alloc _) (Nat.le_refl _) gr4
      have HO5 := Lib.hid ho5
      have HW5 := Lib.hid own4
      clear ho5 own4
      clear hlk2 z0 c0 gr4 hv4
      go_wp2_with fail
      go_roundg (L.length - (k + 1))
      case measure => rw [Hg.out]; omega
      case rel =>
        refine ⟨k + 1, by go_num, by omega, HO5.out, ?_, rfl⟩
        unfold RecRow
        rw [HTK.out, List.length_append, List.flatMap_append]
        have e1 : [RecT.mk k1 v1 o1 a1 g1 d1].flatMap recC = recC ⟨k1, v1, o1, a1, g1, d1⟩ := by simp
        rw [e1]
        exact HW5.out
    · have hke : k = L.length := by omega
      have hlt' : ¬ (k : Int) < (L.length : Int) := by omega
      have hW := HW.out
      rw [hke, List.take_length] at hW
      have HW2 := Lib.hid hW
      clear hW
      clear hke
      go_wp2_with fail
      go_ret
      exact ⟨_, rfl, HO1.out.trans HO.out, ownsRow_base_a HW2.out HO1.out.size⟩
end Go.Proofs.YtegechmdboccbaaGreatDoor
/-! A store: Tick. -/
namespace Go.Proofs.YtegechmdboccbaaGreatDoor
open Go.Conc Go.RowKit Go.Maps

theorem rising_mid {A0 A C : List RecT} (h : Rising (A0 ++ C)) (hA : Rising A) (hk : ∀ a ∈ A, ∃ a0 ∈ A0, a.key = a0.key) : Rising (A ++ C) := by
  obtain ⟨h1, h2, h3⟩ := List.pairwise_append.1 h
  refine List.pairwise_append.2 ⟨hA, h2, fun a ha c hc => ?_⟩
  obtain ⟨a0, h4, e⟩ := hk a ha
  rw [e]
  exact h3 a0 h4 c hc
theorem mem_tick {ttl : Int} {L : List RecT} {y : RecT} : y ∈ tickS ttl L ↔ ∃ x ∈ L, y = older x ∧ x.age + 1 < ttl := by
  unfold tickS
  rw [List.mem_filter, List.mem_map]
  constructor
  · rintro ⟨⟨x, hx, rfl⟩, h⟩
    exact ⟨x, hx, rfl, of_decide_eq_true h⟩
  · rintro ⟨x, hx, rfl, h⟩
    exact ⟨⟨x, hx, rfl⟩, decide_eq_true h⟩
theorem rising_tick {ttl : Int} {L : List RecT} (h : Rising L) : Rising (tickS ttl L) := rising_filter (rising_map h older (fun _ => rfl)) _
theorem tick_append (ttl : Int) (A B : List RecT) : tickS ttl (A ++ B) = tickS ttl A ++ tickS ttl B := by
  unfold tickS
  rw [List.map_append, List.filter_append]
theorem tick_one (ttl : Int) (x : RecT) : tickS ttl [x] = if x.age + 1 < ttl then [older x] else [] := by
  unfold tickS
  by_cases h : x.age + 1 < ttl
  · rw [if_pos h]; simp [older, h]
  · rw [if_neg h]; simp [older]; omega
theorem length_tick_le (ttl : Int) (L : List RecT) : (tickS ttl L).length ≤ L.length := by
  unfold tickS
  exact Nat.le_trans (List.length_filter_le _ _) (by simp)
theorem StoreOk.tick {most ttl : Int} {L : List RecT} (h : StoreOk most ttl L) : StoreOk most ttl (tickS ttl L) := by
  refine ⟨h.mostB, h.ttlB, rising_tick h.rises, fun y hy => ?_, ?_⟩
  · obtain ⟨x, hx, rfl, ha⟩ := mem_tick.1 hy
    exact ⟨good_older (h.goods x hx).1 (by have := h.ttlB; omega), by simpa [older] using ha⟩
  · have h1 := length_tick_le ttl L
    have h2 := h.room
    omega
theorem ins_mid {A B : List RecT} {x y : RecT} (h : Rising (A ++ x :: B)) (hk : y.key = x.key) : insS y (A ++ x :: B) = A ++ y :: B := by
  have hr : Rising (A ++ y :: B) := by
    obtain ⟨h1, h2, h3⟩ := List.pairwise_append.1 h
    obtain ⟨h4, h5⟩ := List.pairwise_cons.1 h2
    refine List.pairwise_append.2 ⟨h1, List.pairwise_cons.2 ⟨fun b hb => by rw [hk]; exact h4 b hb, h5⟩, fun a ha c hc => ?_⟩
    rcases List.mem_cons.1 hc with rfl | hc
    · rw [hk]; exact h3 a ha x (by simp)
    · exact h3 a ha c (by simp [hc])
  refine rising_ext (rising_ins h) hr (fun z => ?_)
  rw [mem_insS h]
  obtain ⟨h1, h2, h3⟩ := List.pairwise_append.1 h
  obtain ⟨h4, h5⟩ := List.pairwise_cons.1 h2
  simp only [List.mem_append, List.mem_cons]
  constructor
  · rintro (rfl | ⟨h6 | rfl | h6, hn⟩)
    · exact .inr (.inl rfl)
    · exact .inl h6
    · exact absurd hk.symm hn
    · exact .inr (.inr h6)
  · rintro (h6 | rfl | h6)
    · exact .inr ⟨.inl h6, by rw [hk]; exact ltK_ne (h3 z h6 x (by simp))⟩
    · exact .inl rfl
    · exact .inr ⟨.inr (.inr h6), by rw [hk]; exact (ltK_ne (h4 z h6)).symm⟩
theorem drop_mid {A B : List RecT} {x : RecT} (h : Rising (A ++ x :: B)) : dropL (prs (A ++ x :: B)) x.key = prs (A ++ B) := by
  obtain ⟨h1, h2, h3⟩ := List.pairwise_append.1 h
  obtain ⟨h4, h5⟩ := List.pairwise_cons.1 h2
  have hA : (prs A).filter (fun p => !decide (p.1 = x.key)) = prs A := List.filter_eq_self.2 (fun p hp => by
    obtain ⟨h6, h7⟩ := mem_prs.1 hp
    have := ltK_ne (h3 p.2 h6 x (by simp))
    simpa [h7] using this)
  have hB : (prs B).filter (fun p => !decide (p.1 = x.key)) = prs B := List.filter_eq_self.2 (fun p hp => by
    obtain ⟨h6, h7⟩ := mem_prs.1 hp
    have := (ltK_ne (h4 p.2 h6)).symm
    simpa [h7] using this)
  unfold dropL
  have e : prs (A ++ x :: B) = prs A ++ (x.key, x) :: prs B := by simp [prs]
  rw [e, List.filter_append, List.filter_cons_of_neg (by simp), hA, hB]
  simp [prs]
theorem find_mid {A B : List RecT} {x : RecT} (h : Rising (A ++ x :: B)) : findS (A ++ x :: B) x.key = some x := findS_mem h (by simp)
end Go.Proofs.YtegechmdboccbaaGreatDoor
/-! Rows that are written in place: several cells at once. -/
namespace Go.Proofs.YtegechmdboccbaaGreatDoor
open Go.Conc Go.RowKit

theorem setCells_block {g : Nat} {e : TypeId} {f : Nat × Nat} : ∀ (us : List Value) (o : Nat) (w : World) (cur : Array Value), w.heap[g]? = some (.cells cur e f) → o + us.length ≤ cur.size →
    (w.setCells g o us).heap[g]? = some (.cells (cur.toList.take o ++ us ++ cur.toList.drop (o + us.length)).toArray e f)
  | [], o, w, cur, h, ho => by
    rw [World.setCells]
    simpa using h
  | u :: us, o, w, cur, h, ho => by
    rw [World.setCells, setCells_block us (o + 1) _ _ (set_at h o u) (by simp at ho ⊢; omega)]
    have hlt : o < cur.toList.length := by simp at ho ⊢; omega
    have e1 : (cur.setIfInBounds o u).toList = cur.toList.take o ++ u :: cur.toList.drop (o + 1) := by
      rw [Array.toList_setIfInBounds, List.set_eq_take_append_cons_drop, if_pos hlt]
    have e2 : (cur.toList.take o).length = o := by rw [List.length_take]; omega
    rw [e1]
    congr 2
    have e3 : o + 1 - o = 1 := by omega
    have e4 : o + 1 + us.length - o = us.length + 1 := by omega
    have e6 : List.drop (o + 1 + us.length) (cur.toList.take o) = [] := List.drop_of_length_le (by rw [e2]; omega)
    have e7 : List.take (o + 1) (cur.toList.take o) = cur.toList.take o := List.take_of_length_le (by rw [e2]; omega)
    rw [List.take_append, e2, List.drop_append, e2, e3, e4, e6, e7]
    simp only [List.take_succ_cons, List.take_zero, List.drop_succ_cons, List.nil_append, List.drop_drop, List.append_assoc, List.cons_append, List.length_cons]
    have e5 : o + 1 + us.length = o + (us.length + 1) := by omega
    rw [e5]
theorem setCells_only (g : Nat) : ∀ (us : List Value) (o : Nat) (w : World), Only (fun i => i = g) w (w.setCells g o us)
  | [], _, w => Only.refl _ w
  | u :: us, o, w => by
    rw [World.setCells]
    exact ((Only.refl (fun i => i = g) w).setCell (p := ⟨g, o, none⟩) (.inr rfl) u).trans (setCells_only g us (o + 1) _)
/-- A block that is written anew, whole. -/
theorem lit_set {w : World} {b : Nat} {cs : Array Value} {t : TypeId} (h : w.heap[b]? = some (.cells cs t (0, 0))) (us : List Value) (hl : us.length = cs.size) :
    (w.setCells b 0 us).heap[b]? = some (.cells us.toArray t (0, 0)) ∧ Only (fun i => i = b) w (w.setCells b 0 us) := by
  refine ⟨?_, setCells_only b us 0 w⟩
  rw [setCells_block us 0 w cs h (by omega)]
  have e : cs.toList.drop (0 + us.length) = [] := List.drop_of_length_le (by simp; omega)
  rw [e, List.take_zero, List.nil_append, List.append_nil]
section
variable {w : World} {base g n cap size : Nat} {e : TypeId} {xs : List Value}
theorem row_block (h : w.ownsRow base e size (.slice (some ⟨g, 0, none⟩) n cap) n xs) : ∃ cur, w.heap[g]? = some (.cells cur e (0, 0)) ∧ base ≤ g ∧ n ≤ cap ∧ cap ≤ maxLen ∧ cur.size = cap * size ∧ cur.toList.take (n * size) = xs ∧ xs.length = n * size := by
  obtain ⟨h1, h2⟩ := h
  rcases h2 with ⟨h2, _⟩ | ⟨g', cap', cur, hv, hb, hg, hnc, hcm, hcs, ht⟩
  · cases h2
  · cases hv
    exact ⟨cur, hg, hb, hnc, hcm, hcs, ht, h1⟩
theorem row_over (h : w.ownsRow base e size (.slice (some ⟨g, 0, none⟩) n cap) n xs) (o : Nat) (us : List Value) (ho : o + us.length ≤ n * size) :
    (w.setCells g o us).ownsRow base e size (.slice (some ⟨g, 0, none⟩) n cap) n (xs.take o ++ us ++ xs.drop (o + us.length)) := by
  obtain ⟨cur, hg, hb, hnc, hcm, hcs, ht, hl⟩ := row_block h
  have hn : n * size ≤ cap * size := Nat.mul_le_mul_right _ hnc
  refine ⟨by simp; omega, .inr ⟨g, cap, _, rfl, hb, setCells_block us o w cur hg (by omega), hnc, hcm, by simp; omega, ?_⟩⟩
  subst ht
  have hcl : cur.toList.length = cap * size := by simpa using hcs
  generalize cur.toList = c at *
  generalize n * size = N at *
  generalize cap * size = C at *
  have e1 : (c.take o).length = o := by rw [List.length_take]; omega
  have e2 : (c.take o ++ us ++ c.drop (o + us.length)).take N = c.take o ++ us ++ (c.drop (o + us.length)).take (N - (o + us.length)) := by
    rw [List.take_append, List.take_of_length_le (by rw [List.length_append, e1]; omega), List.length_append, e1]
  show (c.take o ++ us ++ c.drop (o + us.length)).take N = _
  rw [e2, List.take_take, Nat.min_eq_left (by omega), List.drop_take]
theorem row_cut (h : w.ownsRow base e size (.slice (some ⟨g, 0, none⟩) n cap) n xs) {m : Nat} (hm : m ≤ n) : w.ownsRow base e size (.slice (some ⟨g, 0, none⟩) m cap) m (xs.take (m * size)) := by
  obtain ⟨cur, hg, hb, hnc, hcm, hcs, ht, hl⟩ := row_block h
  have hn : m * size ≤ n * size := Nat.mul_le_mul_right _ hm
  refine ⟨by simp; omega, .inr ⟨g, cap, cur, rfl, hb, hg, by omega, hcm, hcs, ?_⟩⟩
  subst ht
  rw [List.take_take, Nat.min_eq_left hn]
end
section
variable {α : Type} {size : Nat} {enc : α → List Value}
theorem fl_set (hs : ∀ a, (enc a).length = size) (l : List α) (k : Nat) (hk : k < l.length) (x : α) : (l.flatMap enc).take (k * size) ++ enc x ++ (l.flatMap enc).drop (k * size + (enc x).length) = (l.set k x).flatMap enc := by
  rw [fl_take hs, hs, show k * size + size = (k + 1) * size by rw [Nat.succ_mul], fl_drop hs, List.set_eq_take_append_cons_drop, if_pos hk, List.flatMap_append, List.flatMap_cons, List.append_assoc]
end
end Go.Proofs.YtegechmdboccbaaGreatDoor
