/- bellhopref20: Asked; seeds.New. -/
import Derived.Test.YtegechmdboccbaaGreatDoorRE
import Derived.Test.YtegechmdboccbaaGreatDoorRD
import Derived.Test.YtegechmdboccbaaGreatDoorRA
import Derived.Deep.CutBlock
import Derived.StillTailTactics
import Derived.Outline
import Derived.Laws.StructEq
import Derived.Deep.RegionHeld3
/-! slices.DeleteFunc and slices.IndexFunc at slices of records. -/
namespace Go.Proofs.YtegechmdboccbaaGreatDoor
open Go.Conc Go.RowKit Go.Maps

/-- A function value that asks p of each record of L, wherever only one block may have changed. -/
def RecPred (k : Nat) (caps : Array Value) (p : RecT → Bool) (L : List RecT) (ob : Option Nat) (w : World) : Prop :=
  ∀ x ∈ L, ∀ W, Only (fun i => ob = some i) w W → Calls Tryz.prog k (#[recT x] ++ caps) W fun e w' => e = .returned (.bool (p x)) ∧ Only (fun _ => False) W w'
theorem RecPred.at {k : Nat} {caps : Array Value} {p : RecT → Bool} {L : List RecT} {ob : Option Nat} {w w1 : World} (h : RecPred k caps p L ob w) (ho : Only (fun i => ob = some i) w w1) : RecPred k caps p L ob w1 :=
  fun x hx W hW => h x hx W (ho.trans hW)
def idxV (p : RecT → Bool) (L : List RecT) : Int := if L.all (fun x => !p x) then -1 else (L.findIdx p : Nat)
theorem filter_take_succ (p : RecT → Bool) (L : List RecT) (j : Nat) (hj : j < L.length) : (L.take (j + 1)).filter (fun x => !p x) = (L.take j).filter (fun x => !p x) ++ if p L[j] then [] else [L[j]] := by
  rw [List.take_add_one, List.getElem?_eq_getElem hj, List.filter_append]
  congr 1
  cases h : p L[j] <;> simp [h]
/-- A row while it is cut down: i kept, from j on as it was. -/
structure Kept (p : RecT → Bool) (L D : List RecT) (i j : Nat) : Prop where
  len : D.length = L.length
  lt : i < j
  jl : j ≤ L.length
  low : D.take i = (L.take j).filter (fun x => !p x)
  high : D.drop j = L.drop j
theorem Kept.start {p : RecT → Bool} {L : List RecT} (h : L.all (fun x => !p x) = false) : L.findIdx p < L.length ∧ Kept p L L (L.findIdx p) (L.findIdx p + 1) := by
  have hlt : L.findIdx p < L.length := by
    rw [List.findIdx_lt_length]
    rw [List.all_eq_false] at h
    obtain ⟨x, hx, hp⟩ := h
    exact ⟨x, hx, by simpa using hp⟩
  refine ⟨hlt, rfl, by omega, by omega, ?_, rfl⟩
  have hpt : p L[L.findIdx p] = true := List.findIdx_getElem (w := hlt)
  rw [filter_take_succ p L _ hlt, hpt, if_pos rfl, List.append_nil]
  symm
  rw [List.filter_eq_self]
  intro x hx
  obtain ⟨i, hi, rfl⟩ := List.getElem_of_mem hx
  rw [List.length_take] at hi
  have := List.not_of_lt_findIdx (p := p) (xs := L) (i := i) (by omega)
  rw [List.getElem_take]
  simpa using this
theorem Kept.at {p : RecT → Bool} {L D : List RecT} {i j : Nat} (h : Kept p L D i j) (hj : j < L.length) : ∃ hd : j < D.length, D[j] = L[j] := by
  have hd : j < D.length := by rw [h.len]; exact hj
  refine ⟨hd, ?_⟩
  have h1 : (D.drop j)[0]? = (L.drop j)[0]? := by rw [h.high]
  simpa [hd, hj] using h1
theorem Kept.skip {p : RecT → Bool} {L D : List RecT} {i j : Nat} (h : Kept p L D i j) (hj : j < L.length) (hp : p L[j] = true) : Kept p L D i (j + 1) := by
  refine ⟨h.len, by have := h.lt; omega, by omega, ?_, ?_⟩
  · rw [filter_take_succ p L j hj, hp, if_pos rfl, List.append_nil]; exact h.low
  · have := congrArg (List.drop 1) h.high
    simpa [List.drop_drop] using this
theorem Kept.put {p : RecT → Bool} {L D : List RecT} {i j : Nat} (h : Kept p L D i j) (hj : j < L.length) (hp : p L[j] = false) : Kept p L (D.set i L[j]) (i + 1) (j + 1) := by
  have hi : i < D.length := by have h1 := h.lt; have h2 := h.len; omega
  refine ⟨by rw [List.length_set]; exact h.len, by have := h.lt; omega, by omega, ?_, ?_⟩
  · rw [filter_take_succ p L j hj, hp, if_neg (by decide), ← h.low, List.take_add_one, List.take_set_of_le (Nat.le_refl _), List.getElem?_set_self hi]
    rfl
  · have := congrArg (List.drop 1) h.high
    rw [List.drop_set_of_lt (by have := h.lt; omega)]
    simpa [List.drop_drop] using this
theorem Kept.done {p : RecT → Bool} {L D : List RecT} {i : Nat} (h : Kept p L D i L.length) : D.take i = L.filter (fun x => !p x) := by
  have := h.low
  rwa [List.take_length] at this
theorem run_clear_recs (w : World) (b o n c : Nat) (hn : 0 < n) (hc : ∀ j, j < n * 6 → (w.cell? ⟨b, o + j, none⟩).isSome = true) (hf : ∀ j, j < n * 6 → w.frozen? ⟨b, o + j, none⟩ = false) :
    ∃ us : List Value, us.length = n * 6 ∧ ∀ ty, (Builtin.clear_ #[79] ty #[.slice (some ⟨b, o, none⟩) n c]).run Tryz.prog w = .ok (.tuple #[]) (w.setCells b o us) := by
  have hz : (recT zeroR).cells.size = 6 := rfl
  have hl : (Builtin.zeroCells (recT zeroR).cells n).toList.length = n * 6 := by
    simp [Builtin.zeroCells, hz]
  have h1 : ∀ u ∈ (Builtin.zeroCells (recT zeroR).cells n).toList, u.oneCell' = true := by
    intro u hu
    simp only [Builtin.zeroCells] at hu
    obtain ⟨i, _, rfl⟩ := Array.mem_map.1 (Array.mem_toList_iff.1 hu)
    rw [hz]
    rcases (by omega : i % 6 = 0 ∨ i % 6 = 1 ∨ i % 6 = 2 ∨ i % 6 = 3 ∨ i % 6 = 4 ∨ i % 6 = 5) with h | h | h | h | h | h <;> rw [h] <;> rfl
  refine ⟨(Builtin.zeroCells (recT zeroR).cells n).toList, hl, fun ty => ?_⟩
  have hst := run_storeCells_cells (P := Tryz.prog) b o (Builtin.zeroCells (recT zeroR).cells n).toList 0 w (by rw [hl]; simpa using hc) (by rw [hl]; simpa using hf) h1
  simp only [Nat.add_zero] at hst
  obtain ⟨m, rfl⟩ : ∃ m, n = m + 1 := ⟨n - 1, by omega⟩
  simp [Builtin.clear_, run_underlying Tryz.underlying79]
  exact congrArg (fun r : Result Unit => r.andThen fun _ w' => Result.ok (Value.tuple #[]) w') hst
end Go.Proofs.YtegechmdboccbaaGreatDoor
/-! Keys of records, plainly. -/
namespace Go.Proofs.YtegechmdboccbaaGreatDoor
open Go.Conc Go.RowKit

theorem bA_key (o : Nat) (name : ByteArray) (h : o < 65536) : bA (keyB o name) 0 = o / 256 ∧ bA (keyB o name) 1 = o % 256 := by
  have e : (keyB o name).data.toList = [UInt8.ofNat ((o : Int) / 256).toNat, UInt8.ofNat ((o : Int) % 256).toNat] ++ name.data.toList := by
    unfold keyB
    rw [ByteArray.data_append, Array.toList_append]
    rfl
  unfold bA
  rw [e]
  constructor
  · show (UInt8.ofNat ((o : Int) / 256).toNat).toNat = _
    rw [UInt8.toNat_ofNat']
    omega
  · show (UInt8.ofNat ((o : Int) % 256).toNat).toNat = _
    rw [UInt8.toNat_ofNat']
    omega
theorem key_rest (o : Int) (name : ByteArray) : (keyB o name).extract 2 (keyB o name).size = name := by
  unfold keyB
  exact ByteArray.extract_append_eq_right rfl ByteArray.size_append
theorem split_key {o : Nat} {name : ByteArray} (h1 : nodeB o = true) (h2 : namedP name = true) : splitN (keyB o name) = o ∧ splitS (keyB o name) = name ∧ splitE (keyB o name) = 0 := by
  have h16 : o < 65536 := by unfold nodeB at h1; simp at h1; omega
  obtain ⟨b0, b1⟩ := bA_key o name h16
  have hn : nodeN (keyB o name) = o := by unfold nodeN; rw [b0, b1]; omega
  have hok : splitOk (keyB o name) = true := by
    unfold splitOk
    rw [key_rest, hn, h1, h2, keyB_size]
    simp
  unfold splitN splitS splitE
  rw [hok, hn, key_rest]
  exact ⟨rfl, rfl, rfl⟩
theorem split_origin (s : ByteArray) : (0 < originP s → splitE s = 0 ∧ splitN s = originP s ∧ splitS s = s.extract 2 s.size ∧ 2 ≤ s.size) ∧ (originP s = 0 → splitE s = 4 ∧ splitN s = 0 ∧ splitS s = ⟨#[]⟩) := by
  have b0 := bA_lt s 0
  have b1 := bA_lt s 1
  have hN : nodeN s = 256 * bA s 0 + bA s 1 := rfl
  constructor
  · intro h
    unfold originP at h
    split at h
    · omega
    · next h2 =>
      split at h
      · next h3 =>
        have hok : splitOk s = true := by
          unfold splitOk nodeB
          rw [h3, decide_eq_true (by omega : 2 ≤ s.size)]
          simp
          omega
        refine ⟨by unfold splitE; rw [hok]; rfl, ?_, by unfold splitS; rw [hok]; rfl, by omega⟩
        unfold splitN originP
        rw [hok, if_neg h2, if_pos h3, hN]
        rfl
      · omega
  · intro h
    have hok : splitOk s = false := by
      unfold originP at h
      unfold splitOk nodeB
      split at h
      · next h2 =>
        rw [decide_eq_false (by omega : ¬ 2 ≤ s.size)]
        rfl
      · split at h
        · have : decide ((1 : Int) ≤ (nodeN s : Nat)) = false := decide_eq_false (by omega)
          rw [this]
          simp
        · next h3 =>
          have : namedP (s.extract 2 s.size) = false := by simpa using h3
          rw [this]
          simp
    obtain ⟨a, b, c⟩ := split_bad hok
    exact ⟨c, a, b⟩


end Go.Proofs.YtegechmdboccbaaGreatDoor
/-! A store: Named, Ids. -/
namespace Go.Proofs.YtegechmdboccbaaGreatDoor
open Go.Conc Go.RowKit Go.Maps

/-- Not of a name, or gone. -/
def unnamed (name : ByteArray) (x : RecT) : Bool := !decide (splitS x.key = name) || x.gone
/-- The two cells of a record's id. -/
def idC (x : RecT) : List Value := [.string x.key, .int .u64 x.ver]
theorem idC_length (x : RecT) : (idC x).length = 2 := rfl
theorem idC_one (x : RecT) : ∀ u ∈ idC x, u.oneCell' = true := by
  intro u hu
  simp only [idC, List.mem_cons, List.not_mem_nil, or_false] at hu
  rcases hu with rfl | rfl <;> rfl
abbrev IdRow (w : World) (base : Nat) (v : Value) (L : List RecT) : Prop := w.ownsRow base 83 2 v L.length (L.flatMap idC)
end Go.Proofs.YtegechmdboccbaaGreatDoor
/-! bellhopref15: Find, Tick, Named. -/
namespace Go.Proofs.YtegechmdboccbaaGreatDoor
open Go.Conc Go.RowKit Go.Maps
def rstV (most ttl : Int) (v : Value) (r : Int) : Value := .agg #[.int .i64 most, .int .i64 ttl, v, .int .i64 r]
/-- A slice of the reference's records. -/
abbrev RSl (w : World) (v : Value) (L : List RecT) : Prop := Sl w 6 v L.length (L.flatMap recC)
def findI (L : List RecT) (key : ByteArray) : Int := idxV (fun x => decide (x.key = key)) L
theorem filter_snoc (p : RecT → Bool) (L : List RecT) (k : Nat) (hk : k < L.length) : (L.take (k + 1)).filter p = (L.take k).filter p ++ if p L[k] then [L[k]] else [] := by
  rw [List.take_add_one, List.getElem?_eq_getElem hk, List.filter_append]
  congr 1
  cases h : p L[k] <;> simp [h]
end Go.Proofs.YtegechmdboccbaaGreatDoor
/-! The reference's Good and Data. -/
namespace Go.Proofs.YtegechmdboccbaaGreatDoor
open Go.Conc Go.RowKit

theorem good_form (key : ByteArray) (ver : Nat) (o age : Int) (gone : Bool) (data : ByteArray) : goodP key ver o age gone data = decide ((originP key : Int) = o ∧ o ≠ 0 ∧ 4294967296 ≤ ver ∧ 0 ≤ age ∧ age ≤ 65535 ∧ data.size = if gone then 0 else 10) := by
  have hso := split_origin key
  unfold goodP
  generalize (if gone then 0 else 10) = z
  by_cases hp : 0 < originP key
  · obtain ⟨r1, r2, _⟩ := hso.1 hp
    rw [r1, r2, Bool.eq_iff_iff]
    simp
    omega
  · obtain ⟨r1, r2, _⟩ := hso.2 (by omega)
    rw [r1, Bool.eq_iff_iff]
    simp
    omega
end Go.Proofs.YtegechmdboccbaaGreatDoor
/-! bellhopref15: Put. -/
namespace Go.Proofs.YtegechmdboccbaaGreatDoor
open Go.Conc Go.RowKit Go.Maps

theorem less_ltK (a b : ByteArray) : Op.bytesLess a.toList b.toList = decide (ltK a b) := by
  rw [Proofs.bytesLess_eq, ByteArray.toList_eq, ByteArray.toList_eq]
  rfl
theorem insS_cons (x z : RecT) (A : List RecT) : insS x (z :: A) = if x.key = z.key then x :: A else if ltK x.key z.key then x :: z :: A else z :: insS x A := rfl
theorem ins_app {x : RecT} : ∀ {A B : List RecT}, (∀ z ∈ A, x.key ≠ z.key ∧ ¬ ltK x.key z.key) → insS x (A ++ B) = A ++ insS x B
  | [], _, _ => rfl
  | z :: A, B, h => by
    obtain ⟨h1, h2⟩ := h z (by simp)
    rw [List.cons_append, insS_cons, if_neg h1, if_neg h2, ins_app (fun y hy => h y (by simp [hy])), List.cons_append]
theorem ins_in {x : RecT} : ∀ {A B : List RecT}, (∃ z ∈ A, ltK x.key z.key) → (∀ z ∈ A, x.key ≠ z.key) → insS x (A ++ B) = insS x A ++ B
  | [], _, ⟨_, h, _⟩, _ => by cases h
  | z :: A, B, ⟨y, hy, hl⟩, hn => by
    rw [List.cons_append, insS_cons, insS_cons, if_neg (hn z (by simp)), if_neg (hn z (by simp))]
    by_cases hlt : ltK x.key z.key
    · rw [if_pos hlt, if_pos hlt]; rfl
    · rw [if_neg hlt, if_neg hlt, ins_in ⟨y, (List.mem_cons.1 hy).resolve_left (fun e => hlt (e ▸ hl)), hl⟩ (fun z hz => hn z (by simp [hz])), List.cons_append]
/-- What Put's loop has behind so many records. -/
def PutLoop (x : RecT) (A : List RecT) (p : Bool) (out : List RecT) : Prop :=
  match p with
  | false => out = A ∧ ∀ z ∈ A, ¬ ltK x.key z.key
  | true => out = insS x A ∧ ∃ z ∈ A, ltK x.key z.key
theorem PutLoop.no {x y : RecT} {A out : List RecT} (h : PutLoop x A false out) (hn : ¬ ltK x.key y.key) : PutLoop x (A ++ [y]) false (out ++ [y]) := by
  obtain ⟨rfl, h2⟩ := h
  refine ⟨rfl, fun z hz => ?_⟩
  rcases List.mem_append.1 hz with hz | hz
  · exact h2 z hz
  · obtain rfl : z = y := by simpa using hz
    exact hn
theorem PutLoop.place {x y : RecT} {A out : List RecT} (h : PutLoop x A false out) (hlt : ltK x.key y.key) (hne : ∀ z ∈ A ++ [y], x.key ≠ z.key) : PutLoop x (A ++ [y]) true ((out ++ [x]) ++ [y]) := by
  obtain ⟨rfl, h2⟩ := h
  refine ⟨?_, y, by simp, hlt⟩
  rw [ins_app (fun z hz => ⟨hne z (by simp [hz]), h2 z hz⟩), insS_cons, if_neg (hne y (by simp)), if_pos hlt]
  simp
theorem PutLoop.on {x y : RecT} {A out : List RecT} (h : PutLoop x A true out) (hne : ∀ z ∈ A ++ [y], x.key ≠ z.key) : PutLoop x (A ++ [y]) true (out ++ [y]) := by
  obtain ⟨rfl, z, hz, hl⟩ := h
  exact ⟨by rw [ins_in ⟨z, hz, hl⟩ (fun z hz => hne z (by simp [hz]))], z, by simp [hz], hl⟩
theorem PutLoop.fin {x : RecT} {A out : List RecT} {p : Bool} (h : PutLoop x A p out) (hne : ∀ z ∈ A, x.key ≠ z.key) : insS x A = if p then out else out ++ [x] := by
  cases p
  · obtain ⟨rfl, h2⟩ := h
    have := ins_app (B := []) (fun z hz => ⟨hne z hz, h2 z hz⟩)
    rw [List.append_nil] at this
    rw [this]
    rfl
  · obtain ⟨rfl, _⟩ := h
    rfl
theorem ins_set {x : RecT} {L : List RecT} (h : Rising L) {i : Nat} (hi : i < L.length) (hk : L[i].key = x.key) : insS x L = L.set i x := by
  have e : L = L.take i ++ L[i] :: L.drop (i + 1) := by rw [List.getElem_cons_drop, List.take_append_drop]
  have h2 : Rising (L.take i ++ L[i] :: L.drop (i + 1)) := by rw [← e]; exact h
  have := ins_mid h2 (y := x) hk.symm
  rw [← e] at this
  rw [this, List.set_eq_take_append_cons_drop, if_pos hi]
/-- Where a key is. -/
theorem findI_some {L : List RecT} {k : ByteArray} {y : RecT} (h : findS L k = some y) : ∃ i, ∃ hi : i < L.length, findI L k = (i : Nat) ∧ L[i] = y ∧ L[i].key = k := by
  obtain ⟨h1, h2⟩ := findS_some h
  have hn : L.all (fun x => !decide (x.key = k)) = false := by
    rw [List.all_eq_false]
    exact ⟨y, h1, by simp [h2]⟩
  have hlt : L.findIdx (fun x => decide (x.key = k)) < L.length := List.findIdx_lt_length_of_exists ⟨y, h1, by simpa using h2⟩
  have hp := List.findIdx_getElem (w := hlt)
  refine ⟨_, hlt, ?_, ?_, by simpa using hp⟩
  · unfold findI idxV
    rw [hn]
    rfl
  · have h3 : L.find? (fun x => decide (x.key = k)) = some y := h
    rw [List.find?_eq_getElem?_findIdx, List.getElem?_eq_getElem hlt] at h3
    exact Option.some.inj h3
theorem findI_none {L : List RecT} {k : ByteArray} (h : findS L k = none) : findI L k = -1 := by
  have hn : L.all (fun x => !decide (x.key = k)) = true := by
    rw [List.all_eq_true]
    intro x hx
    simp [findS_none h x hx]
  unfold findI idxV
  rw [hn]
  rfl
/-- A slice is the one that came in, or lies in a block of the call's own. -/
def NewOr (w w' : World) (v v' : Value) : Prop := v' = v ∨ ∀ b, v'.ownBlock = some b → w.heap.size ≤ b ∧ b < w'.heap.size
end Go.Proofs.YtegechmdboccbaaGreatDoor
/-! A store: Put. -/
namespace Go.Proofs.YtegechmdboccbaaGreatDoor
open Go.Conc Go.RowKit Go.Maps
end Go.Proofs.YtegechmdboccbaaGreatDoor
/-! Equality of records. -/
namespace Go.Proofs.YtegechmdboccbaaGreatDoor
open Go.Conc Go.RowKit

theorem eqR (w : World) (k k' d d' : ByteArray) (v o a v' o' a' : Int) (g g' : Bool) : (binOp BinOp.eql 85 (.agg #[.string k, .int .u64 v, .int .i64 o, .int .i64 a, .bool g, .string d]) (.agg #[.string k', .int .u64 v', .int .i64 o', .int .i64 a', .bool g', .string d'])).run Tryz.prog w = .ok (.bool ((k.toList == k'.toList) && (v == v') && (o == o') && (a == a') && (g == g') && (d.toList == d'.toList))) w := by
  simp [go_sem]
  by_cases h1 : k.toList = k'.toList <;> by_cases h2 : v = v' <;> by_cases h3 : o = o' <;> by_cases h4 : a = a' <;> by_cases h5 : g = g' <;> simp [h1, h2, h3, h4, h5]
  split <;> simp_all
theorem neR (w : World) (k k' d d' : ByteArray) (v o a v' o' a' : Int) (g g' : Bool) : (binOp BinOp.neq 85 (.agg #[.string k, .int .u64 v, .int .i64 o, .int .i64 a, .bool g, .string d]) (.agg #[.string k', .int .u64 v', .int .i64 o', .int .i64 a', .bool g', .string d'])).run Tryz.prog w = .ok (.bool (!((k.toList == k'.toList) && (v == v') && (o == o') && (a == a') && (g == g') && (d.toList == d'.toList)))) w := by
  simp [go_sem]
  by_cases h1 : k.toList = k'.toList <;> by_cases h2 : v = v' <;> by_cases h3 : o = o' <;> by_cases h4 : a = a' <;> by_cases h5 : g = g' <;> simp [h1, h2, h3, h4, h5]
  split <;> simp_all
end Go.Proofs.YtegechmdboccbaaGreatDoor
/-! bellhoplaw15: speaks. -/
namespace Go.Proofs.YtegechmdboccbaaGreatDoor
open Go.Conc Go.RowKit Go.Maps

def spX : RecT := ⟨⟨#[0, 1, 97]⟩, 4294967296, 1, 0, false, ⟨#[97, 98, 99, 100, 101, 102, 103, 104, 105, 106]⟩⟩
def spY : RecT := ⟨⟨#[0, 2, 97]⟩, 4294967296, 2, 0, false, ⟨#[97, 98, 99, 100, 101, 102, 103, 104, 105, 106]⟩⟩
theorem sp3 : findV [spX] spX.key = spX ∧ (findS [spX] spX.key).isSome = true := by
  unfold findV
  have : findS [spX] spX.key = some spX := by simp [findS]
  rw [this]
  exact ⟨rfl, rfl⟩
theorem keepD10 {w : World} {p : Addr} {v : Value} (h : w.cell? p = some v) : w.drew.cell? p = some v := h
theorem eqX (w : World) : (binOp BinOp.eql 85 (.agg #[.string ⟨#[0, 1, 97]⟩, .int .u64 4294967296, .int .i64 1, .int .i64 0, .bool false, .string ⟨#[97, 98, 99, 100, 101, 102, 103, 104, 105, 106]⟩]) (.agg #[.string ⟨#[0, 1, 97]⟩, .int .u64 4294967296, .int .i64 1, .int .i64 0, .bool false, .string ⟨#[97, 98, 99, 100, 101, 102, 103, 104, 105, 106]⟩])).run Tryz.prog w = .ok (.bool true) w := by
  have := eqR w ⟨#[0, 1, 97]⟩ ⟨#[0, 1, 97]⟩ ⟨#[97, 98, 99, 100, 101, 102, 103, 104, 105, 106]⟩ ⟨#[97, 98, 99, 100, 101, 102, 103, 104, 105, 106]⟩ 4294967296 1 0 4294967296 1 0 false false
  rw [this]
  simp
end Go.Proofs.YtegechmdboccbaaGreatDoor
/-! bellhoplaw15: same; what a store's reference keeps. -/
namespace Go.Proofs.YtegechmdboccbaaGreatDoor
open Go.Conc Go.RowKit Go.Maps

theorem fl_head (L : List RecT) (h : 0 < L.length) : (L.flatMap recC)[0]? = some (.string (L[0]).key) := by
  have := fl_get recC_length L 0 h 0 (by omega)
  rw [Nat.zero_mul, Nat.zero_add] at this
  exact this
/-- Records are kept where only blocks may change that hold no text. -/
theorem rsl_kept {S : Nat → Prop} {w w' : World} {v : Value} {L : List RecT} (h : RSl w v L) (ho : Only S w w') (hS : ∀ g, S g → ∀ i s, w.cell? ⟨g, i, none⟩ ≠ some (.string s)) : RSl w' v L := by
  obtain ⟨h1, a, cap, h2, h3, h4, h5⟩ := h
  refine ⟨h1, a, cap, h2, h3, h4, ?_⟩
  by_cases hn : 0 < L.length
  · rcases h5 with h5 | ⟨b, off, h5, h6⟩
    · exact .inl h5
    · refine .inr ⟨b, off, h5, fun j u hu => ho.cell (h6 j u hu) (fun hs => ?_)⟩
      exact hS b hs _ _ (h6 0 _ (fl_head L hn))
  · exact .inl (by omega)
theorem no_str {w : World} {b : Nat} {cs : Array Value} {t : TypeId} {f : Nat × Nat} (h : w.heap[b]? = some (.cells cs t f)) (hn : ∀ u ∈ cs.toList, ∀ s, u ≠ .string s) : ∀ i s, w.cell? ⟨b, i, none⟩ ≠ some (.string s) := by
  intro i s e
  rw [cell_at h] at e
  have h2 : cs.toList[i]? = some (.string s) := by simpa using e
  exact hn _ (List.mem_of_getElem? h2) s rfl
theorem good_split {x : RecT} (h : goodR x = true) : 2 ≤ x.key.size ∧ x.key.size ≤ 1000000 ∧ splitS x.key = x.key.extract 2 x.key.size := by
  have h64 := good_keys h
  unfold goodR goodP at h
  simp only [Bool.and_eq_true, beq_iff_eq] at h
  obtain ⟨⟨⟨⟨⟨h1, _⟩, _⟩, _⟩, _⟩, _⟩ := h
  unfold splitE at h1
  cases hs : splitOk x.key with
  | false => rw [hs] at h1; cases h1
  | true =>
    have hs' := hs
    unfold splitOk at hs'
    simp only [Bool.and_eq_true, decide_eq_true_eq] at hs'
    refine ⟨by omega, by omega, ?_⟩
    unfold splitS
    rw [hs]
    rfl
end Go.Proofs.YtegechmdboccbaaGreatDoor
/-! slices.Equal of equal slices (ints, ids, records); message.Same of messages with the same contents. -/
namespace Go.Proofs.YtegechmdboccbaaGreatDoor
open Go.Conc Go.RowKit Go.Maps

def intC (n : Int) : List Value := [.int .i64 n]
theorem intC_length (n : Int) : (intC n).length = 1 := rfl
/-- An id's two cells. -/
def idT (p : ByteArray × Nat) : List Value := [.string p.1, .int .u64 p.2]
theorem idT_length (p : ByteArray × Nat) : (idT p).length = 2 := rfl
def toId (x : RecT) : ByteArray × Nat := (x.key, x.ver)
theorem ids_fl (L : List RecT) : (L.map toId).flatMap idT = L.flatMap idC := by
  rw [List.flatMap_map]
  rfl
theorem neI (w : World) (k k' : ByteArray) (v v' : Int) : (binOp BinOp.neq 83 (.agg #[.string k, .int .u64 v]) (.agg #[.string k', .int .u64 v'])).run Tryz.prog w = .ok (.bool (!((k.toList == k'.toList) && (v == v')))) w := by
  simp [go_sem]
  by_cases h1 : k.toList = k'.toList <;> by_cases h2 : v = v' <;> simp [h1, h2]
/-- A message. -/
structure MsgT where
  kind : Int
  node : Int
  walk : Int
  high : Bool
  nodes : List Int
  ids : List (ByteArray × Nat)
  recs : List RecT
/-- A message's value: its slices stand in the world. -/
structure MsgIs (w : World) (v : Value) (m : MsgT) : Prop where
  out : ∃ vn vi vr, v = .agg #[.int .i64 m.kind, .int .i64 m.node, .int .i64 m.walk, .bool m.high, vn, vi, vr] ∧ Sl w 1 vn m.nodes.length (m.nodes.flatMap intC) ∧ Sl w 2 vi m.ids.length (m.ids.flatMap idT) ∧ RSl w vr m.recs
theorem MsgIs.new {w w' : World} {v : Value} {m : MsgT} (h : MsgIs w v m) (ho : Only (fun _ => False) w w') : MsgIs w' v m := by
  obtain ⟨vn, vi, vr, h1, h2, h3, h4⟩ := h.out
  exact ⟨vn, vi, vr, h1, h2.new ho, h3.new ho, h4.new ho⟩
end Go.Proofs.YtegechmdboccbaaGreatDoor
/-! seeds: node; bellhopref20: Others, Asked; digest.Ask. -/
namespace Go.Proofs.YtegechmdboccbaaGreatDoor
open Go.Conc Go.RowKit Go.Maps

def nodeOk (n : Int) : Bool := decide (1 ≤ n ∧ n ≤ 65535)
theorem snode_any (w : World) (n : Int) : Calls Tryz.prog 96 #[.int .i64 n] w fun e w' => e = .returned (.bool (nodeOk n)) ∧ w = w' := by
  by_cases h1 : 1 ≤ n
  · by_cases h2 : n ≤ 65535
    · have h3 : nodeOk n = true := decide_eq_true ⟨h1, h2⟩
      rw [h3]
      clear h3
      go_enter Tryz.func96, Tryz.ntmps96
      go_wp2_with fail
      go_ret
      exact ⟨rfl, rfl⟩
    · have h3 : nodeOk n = false := decide_eq_false (fun h => h2 h.2)
      rw [h3]
      clear h3
      go_enter Tryz.func96, Tryz.ntmps96
      go_wp2_with fail
      go_ret
      exact ⟨rfl, rfl⟩
  · have h3 : nodeOk n = false := decide_eq_false (fun h => h1 h.1)
    rw [h3]
    clear h3
    go_enter Tryz.func96, Tryz.ntmps96
    go_wp2_with fail
    go_ret
    exact ⟨rfl, rfl⟩
theorem infoInt : (Tryz.prog.info? 3).map (fun i => (i.zero, i.size, i.bytes)) = some (some (.int .i64 0), 1, 8) := by kernel_rfl
theorem intC_one (n : Int) : ∀ u ∈ intC n, u.oneCell' = true := by
  intro u hu
  simp only [intC, List.mem_singleton] at hu
  subst hu
  rfl
/-- A slice of ints of the call's own. -/
abbrev IRow (w : World) (base : Nat) (v : Value) (l : List Int) : Prop := w.ownsRow base 3 1 v l.length (l.flatMap intC)
def othersL (self : Int) (l : List Int) : List Int := l.filter (fun n => !decide (n = self))
theorem others_snoc (self : Int) (l : List Int) (k : Nat) (hk : k < l.length) : othersL self (l.take (k + 1)) = othersL self (l.take k) ++ if l[k] = self then [] else [l[k]] := by
  unfold othersL
  rw [List.take_add_one, List.getElem?_eq_getElem hk, List.filter_append]
  congr 1
  by_cases h : l[k] = self <;> simp [h]
/-- Which seed is asked at a tick. -/
def askedV (l : List Int) (every tick : Int) : Int := if every < 1 ∨ tick % every ≠ 0 ∨ l.length = 0 then 0 else l.getD (((tick / every - 1) % l.length).toNat) 0
def askMsg (L : List RecT) : MsgT := ⟨13, 0, 0, false, [], L.map toId, []⟩
end Go.Proofs.YtegechmdboccbaaGreatDoor
/-! bellhopref20: Asked; seeds.New. -/
namespace Go.Proofs.YtegechmdboccbaaGreatDoor
open Go.Conc Go.RowKit Go.Maps
/-- A node's seeds: their block x. -/
structure SeedsAt (w : World) (x : Nat) (every tick next : Int) (l : List Int) (s : Nat) : Prop where
  out : ∃ v base, w.heap[x]? = some (.cells #[v, .int .i64 every, .int .i64 tick, .int .i64 next, .pointer (some ⟨s, 0, none⟩)] 180 (0, 0)) ∧ IRow w base v l
theorem owns_tyS {w w' : World} {base : Nat} {e t : TypeId} {size n x : Nat} {v : Value} {xs : List Value} {cs : Array Value} {f : Nat × Nat} (h : w.ownsRow base e size v n xs) (hx : w.heap[x]? = some (.cells cs t f)) (ht : t ≠ e) (ho : Only (fun i => i = x) w w') : w'.ownsRow base e size v n xs := by
  refine ⟨h.1, ?_⟩
  rcases h.2 with h2 | ⟨g, cap, cur, hv, hb, hg, r⟩
  · exact .inl h2
  · refine .inr ⟨g, cap, cur, hv, hb, ?_, r⟩
    refine ho.old hg (fun e2 => ?_)
    subst e2
    rw [hx] at hg
    injection hg with hg
    injection hg with _ hg _
    exact ht hg
theorem SeedsAt.new {w w' : World} {x : Nat} {every tick next : Int} {l : List Int} {s : Nat} (h : SeedsAt w x every tick next l s) (ho : Only (fun _ => False) w w') : SeedsAt w' x every tick next l s := by
  obtain ⟨v, base, h1, h2⟩ := h.out
  exact ⟨v, base, ho.old h1 id, owns_only h2 ho (fun _ _ => id)⟩
theorem SeedsAt.lt {w : World} {x : Nat} {every tick next : Int} {l : List Int} {s : Nat} (h : SeedsAt w x every tick next l s) : x < w.heap.size := by
  obtain ⟨v, base, h1, h2⟩ := h.out
  exact lt_of_block h1
/-- Which seeds may be. -/
def headOk (self every : Int) (n : Nat) : Bool := nodeOk self && decide (n ≤ 64 ∧ 0 ≤ every ∧ every ≤ 1000)
def seedsOk (self : Int) (l : List Int) (every : Int) : Bool := headOk self every l.length && l.all nodeOk
def NewPost (w w' : World) (self : Int) (l : List Int) (every : Int) (s : Nat) (e : Ending) : Prop :=
  Only (fun _ => False) w w' ∧ ((seedsOk self l every = true ∧ ∃ x, x = w.heap.size ∧ e = .returned (.tuple #[.pointer (some ⟨x, 0, none⟩), .int .i64 0]) ∧ SeedsAt w' x every 0 0 (othersL self l) s) ∨ (seedsOk self l every = false ∧ e = .returned (.tuple #[.pointer none, .int .i64 1])))
theorem snew_nil (w : World) : Calls Tryz.prog 73 #[.int .i64 1, .slice none 0 0, .int .i64 1, .pointer none] w fun e w' => e = .returned (.tuple #[.pointer none, .int .i64 1]) ∧ w = w' := by
  go_enter Tryz.func73, Tryz.ntmps73
  go_wp2_with fail
  refine (snode_any w 1).mono ?_
  rintro e w1 ⟨rfl, rfl⟩
  have h : nodeOk 1 = true := by decide
  go_wp2_with fail
  go_ret2
  exact ⟨rfl, rfl⟩
set_option maxRecDepth 100000 in
theorem sdnew_head (w : World) (self : Int) (l : List Int) (every : Int) (s : Nat) (v : Value) (h : Sl w 1 v l.length (l.flatMap intC)) (hb : headOk self every l.length = false) :
    Calls Tryz.prog 73 #[.int .i64 self, v, .int .i64 every, .pointer (some ⟨s, 0, none⟩)] w fun e w' => e = .returned (.tuple #[.pointer none, .int .i64 1]) ∧ w = w' := by
  obtain ⟨a, cap, rfl, h1, h2, h3⟩ := Sl.cells intC_length h
  unfold headOk at hb
  have HN := Lib.hid (snode_any w self)
  clear h3 h
  generalize nodeOk self = nk at *
  cases nk
  · clear hb
    go_enter Tryz.func73, Tryz.ntmps73
    go_wp2_with fail
    refine HN.out.mono ?_
    rintro e w1 ⟨rfl, rfl⟩
    go_wp2_with fail
    go_ret2
    exact ⟨rfl, rfl⟩
  · have hb2 : ¬ (l.length ≤ 64 ∧ 0 ≤ every ∧ every ≤ 1000) := by simpa using hb
    clear hb
    by_cases c1 : (l.length : Int) > 64
    · clear hb2
      go_enter Tryz.func73, Tryz.ntmps73
      go_wp2_with fail
      refine HN.out.mono ?_
      rintro e w1 ⟨rfl, rfl⟩
      go_wp2_with fail
      go_ret2
      exact ⟨rfl, rfl⟩
    · by_cases c2 : every < 0
      · clear hb2
        go_enter Tryz.func73, Tryz.ntmps73
        go_wp2_with fail
        refine HN.out.mono ?_
        rintro e w1 ⟨rfl, rfl⟩
        go_wp2_with fail
        go_ret2
        exact ⟨rfl, rfl⟩
      · have c3 : every > 1000 := by omega
        clear hb2
        go_enter Tryz.func73, Tryz.ntmps73
        go_wp2_with fail
        refine HN.out.mono ?_
        rintro e w1 ⟨rfl, rfl⟩
        go_wp2_with fail
        go_ret2
        exact ⟨rfl, rfl⟩
theorem all_snoc (p : Int → Bool) (l : List Int) (k : Nat) (hk : k < l.length) : (l.take (k + 1)).all p = ((l.take k).all p && p l[k]) := by
  rw [List.take_add_one, List.getElem?_eq_getElem hk, List.all_append]
  simp
theorem all_bad (p : Int → Bool) (l : List Int) (k : Nat) (hk : k < l.length) (h : p l[k] = false) : l.all p = false := by
  rw [List.all_eq_false]
  exact ⟨l[k], List.getElem_mem hk, by rw [h]; simp⟩
set_option maxRecDepth 100000 in
set_option maxHeartbeats 2000000 in
theorem sdnew_any (w : World) (self : Int) (l : List Int) (every : Int) (s : Nat) (v : Value) (h : Sl w 1 v l.length (l.flatMap intC)) :
    Calls Tryz.prog 73 #[.int .i64 self, v, .int .i64 every, .pointer (some ⟨s, 0, none⟩)] w fun e w' => NewPost w w' self l every s e := by
  by_cases hh : headOk self every l.length = false
  · refine (sdnew_head w self l every s v h hh).mono ?_
    rintro e w' ⟨rfl, rfl⟩
    exact ⟨Only.refl _ _, .inr ⟨by unfold seedsOk; rw [hh]; rfl, rfl⟩⟩
  · have hok : seedsOk self l every = l.all nodeOk := by unfold seedsOk; rw [Bool.not_eq_false _ |>.mp hh]; rfl
    have hh2 : headOk self every l.length = true := by simpa using hh
    unfold headOk at hh2
    simp only [Bool.and_eq_true, decide_eq_true_eq] at hh2
    obtain ⟨hn, c1, c2, c3⟩ := hh2
    have HN := Lib.hid (show Calls Tryz.prog 96 #[.int .i64 self] w fun e w' => e = .returned (.bool true) ∧ w = w' by rw [← hn]; exact snode_any w self)
    obtain ⟨i0, hi0, iz0, iz1, iz2⟩ := info_parts infoInt
    obtain ⟨a, cap, rfl, h1, h2, h3⟩ := Sl.cells intC_length h
    unfold maxLen at h2
    obtain ⟨W, hW⟩ : ∃ W, W = w.alloc (.cells #[.slice none 0 0, .int .i64 every, .int .i64 0, .int .i64 0, .pointer (some ⟨s, 0, none⟩)] 180) := ⟨_, rfl⟩
    have hbW : W.heap[w.heap.size]? = some (.cells #[.slice none 0 0, .int .i64 every, .int .i64 0, .int .i64 0, .pointer (some ⟨s, 0, none⟩)] 180 (0, 0)) := by rw [hW]; exact heap_alloc_new w _
    have hoW : Only (fun _ => False) w W := by rw [hW]; exact (Only.refl _ _).alloc _
    have hsW : W.heap.size = w.heap.size + 1 := by rw [hW]; simp
    have HNP := Lib.hid (show ∀ w' e, (Only (fun _ => False) w w' ∧ ((seedsOk self l every = true ∧ ∃ x, x = w.heap.size ∧ e = .returned (.tuple #[.pointer (some ⟨x, 0, none⟩), .int .i64 0]) ∧ SeedsAt w' x every 0 0 (othersL self l) s) ∨ (seedsOk self l every = false ∧ e = .returned (.tuple #[.pointer none, .int .i64 1])))) → NewPost w w' self l every s e from fun _ _ h => h)
    have hC := h3.new hoW (fun _ _ _ => id)
    have HOK := Lib.hid hok
    have HC := Lib.hid hC
    have HBW := Lib.hid hbW
    have HOW := Lib.hid hoW
    have HSZ := Lib.hid hsW
    have HCW := Lib.hid h3
    clear hok hC hbW hoW hsW h3
    have c4 : ¬ (l.length : Int) > 64 := by omega
    have c5 : ¬ every < 0 := by omega
    have c6 : ¬ every > 1000 := by omega
    clear h hn hh
    go_enter Tryz.func73, Tryz.ntmps73
    go_wp2_with fail
    refine HN.out.mono ?_
    rintro e w1 ⟨rfl, rfl⟩
    go_upto_region 4 with (fail)
    rw [← hW]
    clear hW
    generalize hX : w.heap.size = X at *
    have HX := Lib.hid hX
    clear hX
    go_wp2_with fail
    go_loopg [39] l.length (fun g v39 wr => ∃ (k : Nat) (v : Value), v39 = .int .i64 k ∧ k ≤ l.length ∧ Only (fun i => i = X) W wr ∧ wr.heap[X]? = some (.cells #[v, .int .i64 every, .int .i64 0, .int .i64 0, .pointer (some ⟨s, 0, none⟩)] 180 (0, 0)) ∧ IRow wr W.heap.size v (othersL self (l.take k)) ∧ (l.take k).all nodeOk = true ∧ g = l.length - k)
    case atStart => exact ⟨0, .slice none 0 0, rfl, Nat.zero_le _, Only.refl _ _, HBW.out, World.ownsRow_nil W _ _ _, rfl, rfl⟩
    case round =>
      obtain ⟨k, v, rfl, hk, ho, hbx, hrow, hall, hg⟩ := hrel
      have Hg := Lib.hid hg
      have HO := Lib.hid ho
      have HROW := Lib.hid hrow
      have HBX := Lib.hid hbx
      have HALL := Lib.hid hall
      clear hg ho hrow hbx hall
      by_cases hlt : k < l.length
      · obtain ⟨b, off, he, hc⟩ := HCW.out.at k hlt
        subst he
        have p00 := hc 0 _ rfl
        have hbl : b < X := by have := World.block_lt_of_cell? _ _ p00; have h9 := HX.out; simp only at this; omega
        have p0 := HO.out.cell (HOW.out.cell p00 id) (fun e => by have e2 : b = X := e; omega)
        simp only [Nat.add_zero, Nat.mul_one] at p0
        have hts := others_snoc self l k hlt
        have hta := all_snoc nodeOk l k hlt
        have htb := all_bad nodeOk l k hlt
        have hol : (othersL self (l.take k)).length ≤ k := Nat.le_trans (List.length_filter_le _ _) (List.length_take_le _ _)
        have hlt' : (k : Int) < (l.length : Int) := by omega
        generalize l[k] = n at *
        have HNK := Lib.hid (snode_any wr n)
        generalize nodeOk n = nk at *
        obtain ⟨va, vcap, rfl, _, _, _⟩ := Sl.cells intC_length (Sl.of_owns HROW.out)
        have x0 : wr.cell? ⟨X, 0, none⟩ = some (.slice va (othersL self (l.take k)).length vcap) := cell_at HBX.out 0
        have xf : ∀ i, wr.frozen? ⟨X, i, none⟩ = false := free_at HBX.out
        have hXl : X < wr.heap.size := lt_of_block HBX.out
        have HTS := Lib.hid hts
        have HOL := Lib.hid hol
        have HTA := Lib.hid hta
        have HTB := Lib.hid htb
        clear hts hol hta htb
        clear hc p00
        cases nk
        · have hbad := HTB.out rfl
          have HBAD := Lib.hid hbad
          clear hbad
          go_wp2_with fail
          refine HNK.out.mono ?_
          rintro e w2 ⟨rfl, rfl⟩
          go_wp2_with fail
          go_ret2
          exact HNP.out _ _ ⟨HOW.out.tr HO.out (fun i hi e => by have := HX.out; omega), .inr ⟨by rw [HOK.out]; exact HBAD.out, rfl⟩⟩
        · by_cases hn : n = self
          · have hnb : (n != self) = false := by rw [hn]; simp
            have HN2 := Lib.hid hn
            clear hn
            go_wp2_with fail
            refine HNK.out.mono ?_
            rintro e w2 ⟨rfl, rfl⟩
            go_wp2_with fail
            go_roundg (l.length - (k + 1))
            case measure => rw [Hg.out]; omega
            case rel =>
              refine ⟨k + 1, _, by go_num, by omega, HO.out, HBX.out, ?_, by rw [HTA.out, HALL.out]; rfl, rfl⟩
              rw [HTS.out, if_pos HN2.out, List.append_nil]
              exact HROW.out
          · have hnb : (n != self) = true := by simpa using hn
            have HN2 := Lib.hid hn
            clear hn
            go_wp2_with fail
            refine HNK.out.mono ?_
            rintro e w2 ⟨rfl, rfl⟩
            go_wp2_with (at_builtin; refine Wait.mk ?_)
            refine Wait.go (wpList_append_src _ rfl (.tmp 53) (.tmp 55) 37 37 rfl W.heap.size 3 i0 _ 1 8 Tryz.underlying37 hi0 iz0 iz1 iz2 rfl _ (othersL self (l.take k)).length ((othersL self (l.take k)).flatMap intC) rfl (HROW.out.alloc _) _ 1 (intC n) rfl ?src4 ?m4 ?b4 ?base4 ?_)
            case src4 => exact Src.ofSlice _ Tryz.underlying37 _ _ _ _ rfl (news_new _ _ _) (intC_one _)
            case m4 => have := HOL.out; unfold maxLen; omega
            case b4 => have := HOL.out; omega
            case base4 => have := HO.out.size; simp; omega
            intro v4 w5 own4 gr4 _
            have ho5 : Only (fun i => i = X) W w5 := (HO.out.alloc _).own (HROW.out.alloc _) (Nat.le_refl _) gr4
            have hXW : X < W.heap.size := lt_of_block HBW.out
            have hbx5 : w5.heap[X]? = some (.cells #[.slice va (othersL self (l.take k)).length vcap, .int .i64 every, .int .i64 0, .int .i64 0, .pointer (some ⟨s, 0, none⟩)] 180 (0, 0)) :=
              by
                have gr5 : (wr.alloc (.cells #[.int .i64 n] 3)).grownBy w5 (Value.slice va (othersL self (l.take k)).length vcap).ownBlock := gr4
                exact (gr5.block X (by simp; omega) (fun e => by have := (HROW.out.lt X e.symm).1; omega)).trans (blk_old HBX.out)
            obtain ⟨ua, ucap, hve, _, _, _⟩ := Sl.cells (l := othersL self (l.take k) ++ [n]) intC_length (by
              have h7 := Sl.of_owns own4
              rw [List.length_append, List.flatMap_append]
              have e1 : [n].flatMap intC = intC n := by simp
              rw [e1]
              exact h7)
            subst hve
            have x05 : w5.cell? ⟨X, 0, none⟩ = some (.slice va (othersL self (l.take k)).length vcap) := cell_at hbx5 0
            have xf5 : ∀ i, w5.frozen? ⟨X, i, none⟩ = false := free_at hbx5
            have HO5 := Lib.hid ho5
            have HW5 := Lib.hid own4
            have HBX5 := Lib.hid hbx5
            clear ho5 own4 hbx5
            clear gr4 x0 xf p0
            go_wp2_with fail
            obtain ⟨w6, hw6⟩ : ∃ w6, w6 = w5.setCell ⟨X, 0, none⟩ (.slice ua ((othersL self (l.take k)).length + 1) ucap) := ⟨_, rfl⟩
            have t6 : Only (fun i => i = X) w5 w6 := by rw [hw6]; exact (Only.refl _ _).setCell (S := fun i => i = X) (p := ⟨X, 0, none⟩) (.inr rfl) _
            have hb6 : w6.heap[X]? = some (.cells #[.slice ua ((othersL self (l.take k)).length + 1) ucap, .int .i64 every, .int .i64 0, .int .i64 0, .pointer (some ⟨s, 0, none⟩)] 180 (0, 0)) := by rw [hw6]; exact set_at HBX5.out 0 _
            rw [← hw6]
            have hrow6 := owns_tyS HW5.out HBX5.out (by decide) t6
            rw [List.length_append] at hrow6
            have T6 := Lib.hid t6
            have HB6 := Lib.hid hb6
            have HROW6 := Lib.hid hrow6
            clear t6 hb6 hrow6
            clear hw6
            go_roundg (l.length - (k + 1))
            case measure => rw [Hg.out]; omega
            case rel =>
              refine ⟨k + 1, _, by go_num, by omega, HO5.out.trans T6.out, HB6.out, ?_, by rw [HTA.out, HALL.out]; rfl, rfl⟩
              unfold IRow
              rw [HTS.out, if_neg HN2.out, List.length_append, List.flatMap_append]
              have e1 : [n].flatMap intC = intC n := by simp
              rw [e1]
              exact HROW6.out
      · have hke : k = l.length := by omega
        have hlt' : ¬ (k : Int) < (l.length : Int) := by omega
        have hW := HROW.out
        have hA := HALL.out
        rw [hke, List.take_length] at hW hA
        have HW2 := Lib.hid hW
        have HA2 := Lib.hid hA
        clear hW hA
        clear hke
        go_wp2_with fail
        go_ret2
        exact HNP.out _ _ ⟨HOW.out.tr HO.out (fun i hi e => by have := HX.out; omega), .inl ⟨by rw [HOK.out]; exact HA2.out, X, rfl, rfl, ⟨_, _, HBX.out, HW2.out⟩⟩⟩
end Go.Proofs.YtegechmdboccbaaGreatDoor
