/- A keeper: Tick. -/
import Derived.Test.YtianboachknfmaaDoorMD
import Derived.Test.YtianboachknfmaaDoorSA
import Derived.Test.YtianboachknfmaaDoorMA
import Derived.Deep.CutBlock
/-! Services, plainly: lists of services that rise by their names. -/
namespace Go.Proofs.YtianboachknfmaaDoor
open Go.Conc Go.RowKit

structure SvcT where
  name : ByteArray
  a0 : Nat
  a1 : Nat
  a2 : Nat
  a3 : Nat
  p : Nat
  q : Nat
  r : Nat
def svcCs (x : SvcT) : List Value := [.string x.name, .int .u8 x.a0, .int .u8 x.a1, .int .u8 x.a2, .int .u8 x.a3, .int .u16 x.p, .int .u16 x.q, .int .u16 x.r]
def svcT (x : SvcT) : Value := .agg #[.string x.name, .int .u8 x.a0, .int .u8 x.a1, .int .u8 x.a2, .int .u8 x.a3, .int .u16 x.p, .int .u16 x.q, .int .u16 x.r]
def zeroW : SvcT := ⟨⟨#[]⟩, 0, 0, 0, 0, 0, 0, 0⟩
theorem svcCs_length (x : SvcT) : (svcCs x).length = 8 := rfl
theorem svcCs_one (x : SvcT) : ∀ u ∈ svcCs x, u.oneCell' = true := by
  intro u hu
  simp only [svcCs, List.mem_cons, List.not_mem_nil, or_false] at hu
  rcases hu with rfl | rfl | rfl | rfl | rfl | rfl | rfl | rfl <;> rfl
/-- What a service may hold. -/
def svcOk (x : SvcT) : Prop := x.name.size ≤ 64 ∧ x.a0 < 256 ∧ x.a1 < 256 ∧ x.a2 < 256 ∧ x.a3 < 256 ∧ x.p < 65536 ∧ x.q < 65536 ∧ x.r < 65536
def RisingV (L : List SvcT) : Prop := L.Pairwise (fun x y => ltK x.name y.name)
def findW (L : List SvcT) (k : ByteArray) : Option SvcT := L.find? (fun x => decide (x.name = k))
/-- A record is placed, or takes the place of the one of its key. -/
def insW (x : SvcT) : List SvcT → List SvcT
  | [] => [x]
  | y :: L => if x.name = y.name then x :: L else if ltK x.name y.name then x :: y :: L else y :: insW x L
theorem mem_insW {x : SvcT} : ∀ {L : List SvcT} {y : SvcT}, RisingV L → (y ∈ insW x L ↔ y = x ∨ (y ∈ L ∧ y.name ≠ x.name))
  | [], y, _ => by simp [insW]
  | z :: L, y, h => by
    obtain ⟨h1, h2⟩ := List.pairwise_cons.1 h
    unfold insW
    split
    · rename_i e
      simp only [List.mem_cons]
      constructor
      · rintro (rfl | hy)
        · exact .inl rfl
        · exact .inr ⟨.inr hy, fun e2 => ltK_irrefl _ (by have := h1 y hy; rw [e2, e] at this; exact this)⟩
      · rintro (rfl | ⟨rfl | hy, hn⟩)
        · exact .inl rfl
        · exact absurd e.symm hn
        · exact .inr hy
    · rename_i e
      split
      · rename_i hlt
        simp only [List.mem_cons]
        constructor
        · rintro (rfl | rfl | hy)
          · exact .inl rfl
          · exact .inr ⟨.inl rfl, fun e2 => e e2.symm⟩
          · exact .inr ⟨.inr hy, fun e2 => ltK_irrefl _ (by have := ltK_trans hlt (h1 y hy); rw [e2] at this; exact this)⟩
        · rintro (rfl | ⟨rfl | hy, hn⟩)
          · exact .inl rfl
          · exact .inr (.inl rfl)
          · exact .inr (.inr hy)
      · simp only [List.mem_cons, mem_insW (L := L) h2]
        constructor
        · rintro (rfl | rfl | ⟨hy, hn⟩)
          · exact .inr ⟨.inl rfl, fun e2 => e e2.symm⟩
          · exact .inl rfl
          · exact .inr ⟨.inr hy, hn⟩
        · rintro (rfl | ⟨rfl | hy, hn⟩)
          · exact .inr (.inl rfl)
          · exact .inl rfl
          · exact .inr (.inr ⟨hy, hn⟩)
theorem risingV_ins {x : SvcT} : ∀ {L : List SvcT}, RisingV L → RisingV (insW x L)
  | [], _ => by simp [insW, RisingV]
  | z :: L, h => by
    obtain ⟨h1, h2⟩ := List.pairwise_cons.1 h
    unfold insW
    split
    · rename_i e
      exact List.pairwise_cons.2 ⟨fun y hy => by rw [e]; exact h1 y hy, h2⟩
    · rename_i e
      split
      · rename_i hlt
        refine List.pairwise_cons.2 ⟨fun y hy => ?_, h⟩
        rcases List.mem_cons.1 hy with rfl | hy
        · exact hlt
        · exact ltK_trans hlt (h1 y hy)
      · rename_i hlt
        refine List.pairwise_cons.2 ⟨fun y hy => ?_, risingV_ins h2⟩
        rcases (mem_insW h2).1 hy with rfl | ⟨hy, _⟩
        · exact ltK_tri hlt e
        · exact h1 y hy
theorem risingV_keys {L : List SvcT} (h : RisingV L) : L.Pairwise (fun x y => x.name ≠ y.name) := h.imp (fun h => ltK_ne h)
theorem risingV_nodup {L : List SvcT} (h : RisingV L) : L.Nodup := (risingV_keys h).imp (fun {a b} (hn : a.name ≠ b.name) (e : a = b) => hn (by rw [e]))
/-- Lists that rise and have the same members are one. -/
theorem risingV_ext {L M : List SvcT} (hL : RisingV L) (hM : RisingV M) (h : ∀ x, x ∈ L ↔ x ∈ M) : L = M := by
  have hp : L.Perm M := (List.perm_ext_iff_of_nodup (risingV_nodup hL) (risingV_nodup hM)).2 h
  exact hp.eq_of_pairwise (fun a b _ _ h1 h2 => absurd (ltK_trans h1 h2) (ltK_irrefl _)) hL hM
theorem risingV_map {L : List SvcT} (h : RisingV L) (f : SvcT → SvcT) (hf : ∀ x, (f x).name = x.name) : RisingV (L.map f) := by
  unfold RisingV
  rw [List.pairwise_map]
  exact h.imp (fun {a b} hab => by rw [hf, hf]; exact hab)
theorem risingV_filter {L : List SvcT} (h : RisingV L) (p : SvcT → Bool) : RisingV (L.filter p) := List.Pairwise.filter _ h
theorem findW_some {L : List SvcT} {k : ByteArray} {y : SvcT} (h : findW L k = some y) : y ∈ L ∧ y.name = k := by
  have h1 := List.mem_of_find?_eq_some h
  have h2 := List.find?_some h
  exact ⟨h1, by simpa using h2⟩
theorem findW_none {L : List SvcT} {k : ByteArray} (h : findW L k = none) : ∀ y ∈ L, y.name ≠ k := by
  intro y hy e
  unfold findW at h
  rw [List.find?_eq_none] at h
  exact h y hy (by simpa using e)
theorem findW_mem {L : List SvcT} (h : RisingV L) {y : SvcT} (hy : y ∈ L) : findW L y.name = some y := by
  cases hf : findW L y.name with
  | none => exact absurd rfl (findW_none hf y hy)
  | some z =>
    obtain ⟨h1, h2⟩ := findW_some hf
    obtain ⟨i, hi, rfl⟩ := List.getElem_of_mem h1
    obtain ⟨j, hj, rfl⟩ := List.getElem_of_mem hy
    have hk := List.pairwise_iff_getElem.1 (risingV_keys h)
    rcases Nat.lt_trichotomy i j with h3 | h3 | h3
    · exact absurd h2 (hk i j hi hj h3)
    · subst h3; rfl
    · exact absurd h2.symm (hk j i hj hi h3)
theorem findW_ins_same {L : List SvcT} (h : RisingV L) (x : SvcT) : findW (insW x L) x.name = some x := findW_mem (risingV_ins h) ((mem_insW h).2 (.inl rfl))
theorem findW_ins_other {L : List SvcT} (h : RisingV L) (x : SvcT) {k : ByteArray} (hk : k ≠ x.name) : findW (insW x L) k = findW L k := by
  cases hf : findW L k with
  | none =>
    cases hg : findW (insW x L) k with
    | none => rfl
    | some z =>
      obtain ⟨h1, h2⟩ := findW_some hg
      rcases (mem_insW h).1 h1 with rfl | ⟨h3, _⟩
      · exact absurd h2.symm hk
      · exact absurd h2 (findW_none hf z h3)
  | some y =>
    obtain ⟨h1, h2⟩ := findW_some hf
    have := findW_mem (risingV_ins h) ((mem_insW (x := x) h).2 (.inr ⟨h1, by rw [h2]; exact hk⟩))
    rw [h2] at this
    exact this
theorem length_insW : ∀ {L : List SvcT} (x : SvcT), RisingV L → (insW x L).length = if (findW L x.name).isSome then L.length else L.length + 1
  | [], x, _ => by simp [insW, findW]
  | z :: L, x, h => by
    obtain ⟨h1, h2⟩ := List.pairwise_cons.1 h
    unfold insW
    by_cases e : x.name = z.name
    · rw [if_pos e]
      have : (findW (z :: L) x.name).isSome = true := by unfold findW; rw [List.find?_cons_of_pos (by simpa using e.symm)]; rfl
      rw [if_pos this]
      rfl
    · rw [if_neg e]
      have e1 : findW (z :: L) x.name = findW L x.name := by unfold findW; rw [List.find?_cons_of_neg (by simpa using fun h => e h.symm)]
      rw [e1]
      by_cases hlt : ltK x.name z.name
      · rw [if_pos hlt]
        have : findW L x.name = none := by
          cases hf : findW L x.name with
          | none => rfl
          | some y =>
            obtain ⟨g1, g2⟩ := findW_some hf
            exact absurd (ltK_trans hlt (h1 y g1)) (by rw [g2]; exact ltK_irrefl _)
        rw [this]
        rfl
      · rw [if_neg hlt]
        have := length_insW (L := L) x h2
        rw [List.length_cons, this]
        cases (findW L x.name).isSome <;> rfl

/-! the map's entries -/
def prsV (L : List SvcT) : List (ByteArray × SvcT) := L.map (fun x => (x.name, x))
theorem prsV_length (L : List SvcT) : (prsV L).length = L.length := List.length_map ..
theorem look_prsV (L : List SvcT) (k : ByteArray) : lookL (prsV L) k = findW L k := by
  unfold lookL findW prsV
  rw [List.find?_map]
  simp only [Function.comp_def]
  cases List.find? (fun x => decide (x.name = k)) L <;> rfl
theorem mem_prsV {L : List SvcT} {p : ByteArray × SvcT} : p ∈ prsV L ↔ p.2 ∈ L ∧ p.1 = p.2.name := by
  unfold prsV
  rw [List.mem_map]
  constructor
  · rintro ⟨x, hx, rfl⟩; exact ⟨hx, rfl⟩
  · rintro ⟨hx, e⟩; exact ⟨p.2, hx, by rw [← e]⟩
theorem prsV_apart {L : List SvcT} (h : RisingV L) : (prsV L).Pairwise (fun p q => p.1 ≠ q.1) := by
  unfold prsV
  rw [List.pairwise_map]
  exact risingV_keys h
theorem put_prsV {L : List SvcT} (h : RisingV L) (x : SvcT) : (putL (prsV L) x.name x).Perm (prsV (insW x L)) := by
  refine (List.perm_ext_iff_of_nodup (nodup_of_apart (apart_put (prsV_apart h) _ _)) (nodup_of_apart (prsV_apart (risingV_ins h)))).2 (fun p => ?_)
  rw [mem_prsV, mem_insW h]
  unfold putL
  rw [List.mem_append, mem_dropL, mem_prsV]
  constructor
  · rintro (⟨⟨h1, h2⟩, h3⟩ | h1)
    · exact ⟨.inr ⟨h1, by rw [← h2]; exact h3⟩, h2⟩
    · obtain rfl : p = (x.name, x) := by simpa using h1
      exact ⟨.inl rfl, rfl⟩
  · rintro ⟨h1 | ⟨h1, h2⟩, h3⟩
    · right
      obtain ⟨p1, p2⟩ := p
      simp only at h1 h3
      subst h1 h3
      simp
    · exact .inl ⟨⟨h1, h3⟩, by rw [h3]; exact h2⟩

end Go.Proofs.YtianboachknfmaaDoor
/-! A keeper of services, plainly. -/
namespace Go.Proofs.YtianboachknfmaaDoor
open Go.Conc Go.RowKit

structure KeepT where
  self : Int
  life : Nat
  count : Nat
  every : Int
  tick : Int
  own : List SvcT
structure KeepOk (k : KeepT) : Prop where
  selfB : 1 ≤ k.self ∧ k.self ≤ 65535
  lifeB : 1 ≤ k.life ∧ k.life < 4294967296
  countB : k.count < 4294967296
  everyB : 1 ≤ k.every ∧ k.every ≤ 1000
  tickB : 0 ≤ k.tick ∧ k.tick < k.every
  rises : RisingV k.own
  names : ∀ x ∈ k.own, namedP x.name = true ∧ svcOk x
  room : k.own.length ≤ 8
/-- A service's record at a count. -/
def madeR (self : Int) (life count : Nat) (x : SvcT) : RecT := ⟨keyB self x.name, life * 4294967296 + count, self, 0, false, dataB x.a0 x.a1 x.a2 x.a3 x.p x.q x.r⟩
def goneR (self : Int) (life count : Nat) (name : ByteArray) : RecT := ⟨keyB self name, life * 4294967296 + count, self, 0, true, ⟨#[]⟩⟩
def regE (k : KeepT) (x : SvcT) : Int := if namedP x.name = false then 9 else if (findW k.own x.name).isSome = false ∧ 8 ≤ k.own.length then 5 else if k.count = 4294967295 then 15 else 0
def regK (k : KeepT) (x : SvcT) : KeepT := if regE k x = 0 then { k with count := k.count + 1, own := insW x k.own } else k
def regR (k : KeepT) (x : SvcT) : RecT := if regE k x = 0 then madeR k.self k.life (k.count + 1) x else zeroR
def wdrE (k : KeepT) (name : ByteArray) : Int := if namedP name = false then 9 else if (findW k.own name).isSome = false then 6 else if k.count = 4294967295 then 15 else 0
def delW (name : ByteArray) (L : List SvcT) : List SvcT := L.filter (fun x => !decide (x.name = name))
def wdrK (k : KeepT) (name : ByteArray) : KeepT := if wdrE k name = 0 then { k with count := k.count + 1, own := delW name k.own } else k
def wdrR (k : KeepT) (name : ByteArray) : RecT := if wdrE k name = 0 then goneR k.self k.life (k.count + 1) name else zeroR
/-- What is told anew from a count on. -/
def tellRs (self : Int) (life : Nat) : Nat → List SvcT → List RecT
  | _, [] => []
  | c, x :: l => if c = 4294967295 then [] else madeR self life (c + 1) x :: tellRs self life (c + 1) l
def tickD (k : KeepT) : Bool := decide ((k.tick + 1) % k.every = 0)
def tickK (k : KeepT) : KeepT := { k with tick := (k.tick + 1) % k.every, count := if tickD k then k.count + (tellRs k.self k.life k.count k.own).length else k.count }
def tickL (k : KeepT) : List RecT := if tickD k then tellRs k.self k.life k.count k.own else []
theorem tellRs_take (self : Int) (life : Nat) : ∀ (l : List SvcT) (c : Nat), c ≤ 4294967295 → (tellRs self life c l).length = min l.length (4294967295 - c) ∧ tellRs self life c l = (List.range (tellRs self life c l).length).map (fun i => madeR self life (c + 1 + i) (l.getD i zeroW))
  | [], c, _ => by simp [tellRs]
  | x :: l, c, hc => by
    unfold tellRs
    by_cases h : c = 4294967295
    · rw [if_pos h]; simp [h]
    · rw [if_neg h]
      obtain ⟨h1, h2⟩ := tellRs_take self life l (c + 1) (by omega)
      refine ⟨by rw [List.length_cons, h1, List.length_cons]; omega, ?_⟩
      rw [List.length_cons, List.range_succ_eq_map, List.map_cons, List.map_map]
      congr 1
      rw [h2]
      simp only [List.length_map, List.length_range]
      refine List.map_congr_left (fun i hi => ?_)
      show _ = madeR self life (c + 1 + (i + 1)) (l.getD i zeroW)
      congr 1
      omega
theorem tellRs_len (self : Int) (life : Nat) (l : List SvcT) (c : Nat) (hc : c ≤ 4294967295) : (tellRs self life c l).length ≤ l.length ∧ c + (tellRs self life c l).length ≤ 4294967295 := by
  have := (tellRs_take self life l c hc).1
  omega
theorem KeepOk.reg {k : KeepT} (h : KeepOk k) {x : SvcT} (hx : svcOk x) : KeepOk (regK k x) := by
  unfold regK
  split
  · rename_i e
    unfold regE at e
    split at e
    · cases e
    rename_i e1
    split at e
    · cases e
    rename_i e2
    split at e
    · cases e
    rename_i e3
    have hc := h.countB
    refine ⟨h.selfB, h.lifeB, by show k.count + 1 < _; omega, h.everyB, h.tickB, risingV_ins h.rises, fun y hy => ?_, ?_⟩
    · rcases (mem_insW h.rises).1 hy with rfl | ⟨h1, _⟩
      · exact ⟨by simpa using e1, hx⟩
      · exact h.names y h1
    · show (insW x k.own).length ≤ 8
      rw [length_insW x h.rises]
      have := h.room
      cases hf : (findW k.own x.name).isSome with
      | false =>
        rw [hf] at e2
        simp at e2 ⊢
        omega
      | true => simpa using this
  · exact h
theorem KeepOk.wdr {k : KeepT} (h : KeepOk k) (n : ByteArray) : KeepOk (wdrK k n) := by
  unfold wdrK
  split
  · rename_i e
    unfold wdrE at e
    split at e
    · cases e
    split at e
    · cases e
    split at e
    · cases e
    rename_i e3
    have hc := h.countB
    refine ⟨h.selfB, h.lifeB, by show k.count + 1 < _; omega, h.everyB, h.tickB, risingV_filter h.rises _, fun y hy => h.names y (List.mem_filter.1 hy).1, Nat.le_trans (List.length_filter_le _ _) h.room⟩
  · exact h
theorem KeepOk.tick {k : KeepT} (h : KeepOk k) : KeepOk (tickK k) := by
  have he := h.everyB
  have hc := h.countB
  have h1 := tellRs_len k.self k.life k.own k.count (by omega)
  refine ⟨h.selfB, h.lifeB, ?_, h.everyB, ⟨Int.emod_nonneg _ (by omega), Int.emod_lt_of_pos _ (by omega)⟩, h.rises, h.names, h.room⟩
  show (if tickD k then k.count + (tellRs k.self k.life k.count k.own).length else k.count) < 4294967296
  split <;> omega
theorem lookV_prs (L : List SvcT) (k : ByteArray) : lookL (prsV L) k = findW L k := look_prsV L k
theorem del_prsV (L : List SvcT) (n : ByteArray) : dropL (prsV L) n = prsV (delW n L) := by
  unfold dropL prsV delW
  rw [List.filter_map]
  rfl
end Go.Proofs.YtianboachknfmaaDoor
/-! A keeper: New, spent, next. -/
namespace Go.Proofs.YtianboachknfmaaDoor
open Go.Conc Go.RowKit Go.Maps

theorem zeroSvc (w : World) : (zeroValue 86).run Tryd.prog w = .ok (svcT zeroW) w := by kernel_rfl
abbrev VMap (w : World) (b : Nat) (L : List SvcT) : Prop := MapIs Tryd.prog 9 Value.string svcT w b (prsV L)
/-- A keeper: its block x, its map's block b, what it holds. -/
structure KeepAt (w : World) (x b : Nat) (k : KeepT) : Prop where
  blk : w.heap[x]? = some (.cells #[.int .i64 k.self, .int .u32 k.life, .int .u32 k.count, .int .i64 k.every, .int .i64 k.tick, .map (some b)] 152 (0, 0))
  map : VMap w b k.own
  ok : KeepOk k
theorem KeepAt.ne {w : World} {x b : Nat} {k : KeepT} (h : KeepAt w x b k) : x ≠ b := by
  obtain ⟨es, c, hb, _⟩ := h.map.own
  rintro rfl
  have := h.blk
  rw [hb] at this
  cases this
theorem KeepAt.lt {w : World} {x b : Nat} {k : KeepT} (h : KeepAt w x b k) : x < w.heap.size ∧ b < w.heap.size := ⟨lt_of_block h.blk, h.map.lt⟩
theorem KeepAt.kept {w w' : World} {S : Nat → Prop} {x b : Nat} {k : KeepT} (h : KeepAt w x b k) (ho : Only S w w') (h1 : ¬ S x) (h2 : ¬ S b) : KeepAt w' x b k := ⟨ho.old h.blk h1, h.map.kept ho h2, h.ok⟩
theorem KeepAt.new {w w' : World} {x b : Nat} {k : KeepT} (h : KeepAt w x b k) (ho : Only (fun _ => False) w w') : KeepAt w' x b k := h.kept ho id id
def newOk (self : Int) (life : Nat) (every : Int) : Prop := 1 ≤ self ∧ self ≤ 65535 ∧ 1 ≤ life ∧ 1 ≤ every ∧ every ≤ 1000
theorem knew_ok (w : World) (self : Int) (life count : Nat) (every : Int) (h1 : 1 ≤ self) (h2 : self ≤ 65535) (h3 : 1 ≤ life) (h4 : life < 4294967296) (h5 : count < 4294967296) (h6 : 1 ≤ every) (h7 : every ≤ 1000) :
    Calls Tryd.prog 28 #[.int .i64 self, .int .u32 life, .int .u32 count, .int .i64 every] w fun e w' =>
      e = .returned (.tuple #[.pointer (some ⟨w.heap.size + 1, 0, none⟩), .int .i64 0]) ∧ Only (fun _ => False) w w' ∧ KeepAt w' (w.heap.size + 1) w.heap.size ⟨self, life, count, every, 0, []⟩ := by
  have hmm := @run_makeMap Tryd.prog
  have hl0 : ((life : Int) == 0) = false := by simp; omega
  go_enter Tryd.func28, Tryd.ntmps28
  go_wp2_with fail
  go_ret2
  refine ⟨rfl, ((Only.refl _ _).alloc _).alloc _, ?_, ?_, ⟨⟨h1, h2⟩, ⟨h3, h4⟩, h5, ⟨h6, h7⟩, ⟨Int.le_refl _, by show (0 : Int) < every; omega⟩, List.Pairwise.nil, (fun _ h => by cases h), by show (0 : Nat) ≤ 8; omega⟩⟩
  · have := heap_alloc_new (w.alloc (.map #[] 0)) (.cells #[.int .i64 self, .int .u32 life, .int .u32 count, .int .i64 every, .int .i64 0, .map (some w.heap.size)] 152 (0, 0))
    simpa using this
  · exact (MapIs.made w).kept ((Only.refl (fun _ => False) _).alloc _) id
theorem knew_no (w : World) (self : Int) (life count : Nat) (every : Int) (h : ¬ newOk self life every) : Calls Tryd.prog 28 #[.int .i64 self, .int .u32 life, .int .u32 count, .int .i64 every] w fun e w' =>
    e = .returned (.tuple #[.pointer none, .int .i64 1]) ∧ w = w' := by
  unfold newOk at h
  have hl : ((life : Int) == 0) = decide (life = 0) := by by_cases h : life = 0 <;> simp [h]
  by_cases h1 : self < 1
  · clear hl h
    go_enter Tryd.func28, Tryd.ntmps28
    go_wp2_with fail
    go_ret2
    exact ⟨rfl, rfl⟩
  by_cases h2 : self > 65535
  · clear hl h
    go_enter Tryd.func28, Tryd.ntmps28
    go_wp2_with fail
    go_ret2
    exact ⟨rfl, rfl⟩
  by_cases h3 : life = 0
  · rw [decide_eq_true h3] at hl
    clear h h3
    go_enter Tryd.func28, Tryd.ntmps28
    go_wp2_with fail
    go_ret2
    exact ⟨rfl, rfl⟩
  rw [decide_eq_false h3] at hl
  by_cases h4 : every < 1
  · clear h h3
    go_enter Tryd.func28, Tryd.ntmps28
    go_wp2_with fail
    go_ret2
    exact ⟨rfl, rfl⟩
  · have h5 : every > 1000 := by omega
    clear h h3
    go_enter Tryd.func28, Tryd.ntmps28
    go_wp2_with fail
    go_ret2
    exact ⟨rfl, rfl⟩
theorem kspent_any (w : World) (x b : Nat) (k : KeepT) (h : KeepAt w x b k) : Calls Tryd.prog 73 #[.pointer (some ⟨x, 0, none⟩)] w fun e w' => e = .returned (.bool (decide (k.count = 4294967295))) ∧ w = w' := by
  have c2 : w.cell? ⟨x, 2, none⟩ = some (.int .u32 k.count) := cell_at h.blk 2
  clear h
  generalize k.count = c at *
  by_cases e : c = 4294967295
  · have e1 : ((c : Int) == 4294967295) = true := by subst e; rfl
    rw [decide_eq_true e]
    clear e
    go_enter Tryd.func73, Tryd.ntmps73
    go_wp2_with fail
    go_ret
    exact ⟨rfl, rfl⟩
  · have e1 : ((c : Int) == 4294967295) = false := by simp; omega
    rw [decide_eq_false e]
    clear e
    go_enter Tryd.func73, Tryd.ntmps73
    go_wp2_with fail
    go_ret
    exact ⟨rfl, rfl⟩
theorem knext_any (w : World) (x b : Nat) (k : KeepT) (h : KeepAt w x b k) (hc : k.count < 4294967295) :
    Calls Tryd.prog 75 #[.pointer (some ⟨x, 0, none⟩)] w fun e w' => e = .returned (.int .u64 (k.life * 4294967296 + (k.count + 1) : Nat)) ∧ Only (fun i => i = x) w w' ∧ KeepAt w' x b { k with count := k.count + 1 } := by
  obtain ⟨self, life, count, every, tick, own⟩ := k
  have hok := h.ok
  have hl := hok.lifeB.2
  simp only at hc hl ⊢
  have hb := h.blk
  simp only at hb
  have c1 : w.cell? ⟨x, 1, none⟩ = some (.int .u32 life) := cell_at hb 1
  have c2 : w.cell? ⟨x, 2, none⟩ = some (.int .u32 count) := cell_at hb 2
  have cf : ∀ i, w.frozen? ⟨x, i, none⟩ = false := free_at hb
  have hs1 := set_at hb 2 (.int .u32 ((count : Int) + 1))
  have ho1 : Only (fun i => i = x) w (w.setCell ⟨x, 2, none⟩ (.int .u32 ((count : Int) + 1))) := (Only.refl _ _).setCell (S := fun i => i = x) (p := ⟨x, 2, none⟩) (.inr rfl) _
  have hm1 := h.map.kept ho1 h.ne.symm
  have hv : ∀ w, Calls Tryd.prog 101 #[.int .u32 life, .int .u32 ((count : Int) + 1)] w fun e w' => e = .returned (.int .u64 (life * 4294967296 + (count + 1) : Nat)) ∧ w = w' := fun w => version_any w life (count + 1) hl (by omega)
  have hok2 : KeepOk ⟨self, life, count + 1, every, tick, own⟩ := ⟨hok.selfB, hok.lifeB, by show count + 1 < _; omega, hok.everyB, hok.tickB, hok.rises, hok.names, hok.room⟩
  have hc1 : (count : Int) ≤ 4294967294 := by omega
  have hc0 : (0 : Int) ≤ (count : Int) := by omega
  obtain ⟨w1, hw1⟩ : ∃ w1, w1 = w.setCell ⟨x, 2, none⟩ (.int .u32 ((count : Int) + 1)) := ⟨_, rfl⟩
  rw [← hw1] at hs1 ho1 hm1
  have g1 : w1.cell? ⟨x, 1, none⟩ = some (.int .u32 life) := cell_at hs1 1
  have g2 : w1.cell? ⟨x, 2, none⟩ = some (.int .u32 ((count : Int) + 1)) := cell_at hs1 2
  have HOUT := Lib.hid (show Only (fun i => i = x) w w1 ∧ KeepAt w1 x b ⟨self, life, count + 1, every, tick, own⟩ from ⟨ho1, hs1, hm1, hok2⟩)
  generalize life * 4294967296 + (count + 1) = V at *
  have HV := Lib.hid hv
  clear hv
  clear h hok hb hs1 ho1 hm1 hok2 hc hl
  go_enter Tryd.func75, Tryd.ntmps75
  go_upto_region 2 with (fail)
  rw [← hw1]
  clear hw1
  go_quiet ((go_at_call 101; exact quiet_id (HV.out _)))
  go_wp2_with fail
  go_ret
  exact ⟨rfl, HOUT.out.1.drewN _, HOUT.out.2.new ((Only.refl _ _).drewN _)⟩
end Go.Proofs.YtianboachknfmaaDoor
/-! A keeper: Own. -/
namespace Go.Proofs.YtianboachknfmaaDoor
open Go.Conc Go.RowKit Go.Maps Go.Sort Go.Shelf

theorem vkeys_any (mb : Option Nat) (W : World) : Calls Tryd.prog 81 #[.map mb] W fun e w' => e = .returned (.func (.func 109) #[] #[.pointer (some ⟨W.heap.size, 0, none⟩)]) ∧ w' = W.alloc (.cells #[.map mb] 150) :=
  callsIn_wide.1 (AnyZ.keys_in Tryd.keysV Fence.wide 5 trivial rfl mb W)
theorem vsorted_any {H : Type} (b nn : Nat) (D0 : DataW H) (R : Value → Option (DataW H × List MemPlace)) (w : World) (hown : w.ownsMap Tryd.prog 9 R b nn D0) (hmax : Maps.size D0 ≤ maxLen) (hbytes : Maps.size D0 * 16 ≤ 140737488355328) :
    Calls Tryd.prog 80 #[.func (.func 109) #[] #[.pointer (some ⟨w.heap.size, 0, none⟩)]] (w.alloc (.cells #[.map (some b)] 150)) fun e w' => ∃ (v : Value) (ss : List (List UInt8)), e = .returned v ∧ ss.Perm (strKeys D0) ∧
      w'.ownsRow (w.alloc (.cells #[.map (some b)] 150)).heap.size 9 1 v ss.length ((ss.mergeSort (fun x y => decide (x ≤ y))).map encStr) ∧ (v = .slice none 0 0 ↔ ss = []) ∧ Below (w.alloc (.cells #[.map (some b)] 150)).heap.size (w.alloc (.cells #[.map (some b)] 150)) w' := by
  have hbl := hown.lt
  have hseq : SeqGives Fence.wide 2 Tryd.prog 109 #[.pointer (some ⟨w.heap.size, 0, none⟩)] encStr (fun ss => ss.Perm (strKeys D0)) (Maps.size D0) (w.alloc (.cells #[.map (some b)] 150)) :=
    AnyZ.keys_gives (ρ := Tryd.keysV_ren) { Tryd.keysV with } Fence.wide _ trivial rfl (by omega) w.heap.size b nn D0 _ (by simp) (by simp) (by
      obtain ⟨es, clock, hb, Ft, hs, hD⟩ := hown
      exact ⟨es, clock, (Below.heap_alloc _ _ b hbl).trans hb, Ft, hs, hD⟩)
  exact callsIn_wide.1 (AnyZ.sorted_in Tryd.sortedS Fence.wide 5 trivial trivial trivial trivial rfl (by omega) (sortsS _) (enters_of Tryd.func108 (by kernel_rfl) rfl) 109 #[.pointer (some ⟨w.heap.size, 0, none⟩)] trivial (enters_of Tryd.func109 (by kernel_rfl) rfl) _ _ hmax hbytes _ hseq)
def keysW (L : List SvcT) : List ByteArray := L.map (·.name)
theorem strKeys_prsV {L : List SvcT} (hs : ∀ x ∈ L, x.name.size ≤ maxLen) : (strKeys (mapD Tryd.prog 9 Value.string svcT (prsV L))).Perm (L.map (fun x => x.name.data.toList)) := by
  have h1 : (((prsV L).map (entL Tryd.prog 9 Value.string svcT)).foldr DataW.insert []).Perm ((prsV L).map (entL Tryd.prog 9 Value.string svcT)) := WideShapes.sorted_perm _
  have h2 := h1.map (fun p => strOf p.1)
  refine h2.trans ?_
  unfold prsV
  rw [List.map_map, List.map_map]
  refine List.Perm.of_eq (List.map_congr_left (fun x hx => ?_))
  simp only [Function.comp_apply, entL]
  rw [keyL_of (WideMaps.keyOf_string_mk Tryd.underlying9 (hs x hx))]
  rfl
theorem merge_keysV {L : List SvcT} (h : RisingV L) {ss : List (List UInt8)} (hp : ss.Perm (L.map (fun x => x.name.data.toList))) : ss.mergeSort (fun x y => decide (x ≤ y)) = L.map (fun x => x.name.data.toList) := by
  have h1 : (ss.mergeSort (fun x y => decide (x ≤ y))).Pairwise (fun x y => decide (x ≤ y) = true) := List.pairwise_mergeSort (le := fun x y : List UInt8 => decide (x ≤ y)) (fun a b c hab hbc => decide_eq_true (List.le_trans (of_decide_eq_true hab) (of_decide_eq_true hbc))) (fun a b => by
    rcases List.le_total a b with h | h
    · show (decide (a ≤ b) || decide (b ≤ a)) = true
      rw [decide_eq_true h]; rfl
    · show (decide (a ≤ b) || decide (b ≤ a)) = true
      rw [decide_eq_true h, Bool.or_true]) ss
  have h2 : (L.map (fun x => x.name.data.toList)).Pairwise (fun x y => decide (x ≤ y) = true) := by
    rw [List.pairwise_map]
    exact h.imp (fun {a b} hab => decide_eq_true (List.le_of_lt hab))
  exact ((List.mergeSort_perm ss _).trans hp).eq_of_pairwise (fun a b _ _ hab hba => List.le_antisymm (of_decide_eq_true hab) (of_decide_eq_true hba)) h1 h2
theorem infoSvc : (Tryd.prog.info? 86).map (fun i => (i.zero, i.size, i.bytes)) = some (some (svcT zeroW), 8, 32) := by kernel_rfl
/-- A slice of services of the call's own. -/
abbrev VRow (w : World) (base : Nat) (v : Value) (L : List SvcT) : Prop := w.ownsRow base 86 8 v L.length (L.flatMap svcCs)
theorem own_nil (w : World) : Calls Tryd.prog 37 #[.pointer none] w fun e w' => e = .returned (.slice none 0 0) ∧ w = w' := by
  go_enter Tryd.func37, Tryd.ntmps37
  go_wp2_with fail
  go_ret
  exact ⟨rfl, rfl⟩
set_option maxRecDepth 100000 in
set_option maxHeartbeats 1000000 in
theorem own_any (w : World) (x b : Nat) (k : KeepT) (h : KeepAt w x b k) :
    Calls Tryd.prog 37 #[.pointer (some ⟨x, 0, none⟩)] w fun e w' => ∃ v, e = .returned v ∧ Only (fun _ => False) w w' ∧ VRow w' w.heap.size v k.own := by
  obtain ⟨i0, hi0, iz0, iz1, iz2⟩ := info_parts infoSvc
  have hz : ∀ y ∈ k.own, y.name.size ≤ maxLen := fun y hy => by have := (h.ok.names y hy).2.1; unfold maxLen; omega
  have hLl := h.ok.room
  have hris := h.ok.rises
  have c5 : w.cell? ⟨x, 5, none⟩ = some (.map (some b)) := cell_at h.blk 5
  have hsz : Maps.size (mapD Tryd.prog 9 Value.string svcT (prsV k.own)) ≤ 8 := by
    rw [size_mapD, prsV_length]
    exact hLl
  have hsrt := vsorted_any b _ _ _ w h.map.own (by unfold maxLen; omega) (by omega)
  generalize hL : k.own = L at *
  have HH := Lib.hid h
  have HS := Lib.hid hsrt
  have HZ := Lib.hid hz
  have HRIS := Lib.hid hris
  have HL := Lib.hid hL
  clear h hsrt hz hris hL
  clear hsz
  go_enter Tryd.func37, Tryd.ntmps37
  go_wp2_with fail
  refine (vkeys_any (some b) w).mono ?_
  rintro e w1 ⟨rfl, rfl⟩
  clear c5
  go_wp2_with fail
  refine HS.out.mono ?_
  rintro e w1 ⟨v, ss, rfl, hp, hrow, _, hb⟩
  have hp2 := hp.trans (strKeys_prsV HZ.out)
  rw [merge_keysV HRIS.out hp2] at hrow
  have ho1 : Only (fun _ => False) w w1 := ((Only.refl _ _).alloc _).trans (Only.of_below hb)
  have e1 : ss.length = L.length := by rw [hp2.length_eq, List.length_map]
  rw [e1, List.map_map] at hrow
  have hsl : Sl w1 1 v L.length (L.map (fun x => .string x.name)) := Sl.of_owns hrow
  obtain ⟨_, ka, kcap, rfl, k1, k2, k3⟩ := hsl
  have hh1 := HH.out.new ho1
  unfold maxLen at k2
  have H1 := Lib.hid hh1
  have HO1 := Lib.hid ho1
  have HK := Lib.hid k3
  clear hh1 ho1 k3
  clear hrow hp hp2 hb HS HH e1
  go_wp2_with fail
  go_loopg [3, 15] L.length (fun g v3 v15 wr => ∃ j : Nat, v15 = .int .i64 j ∧ j ≤ L.length ∧ Only (fun _ => False) w1 wr ∧ VRow wr w1.heap.size v3 (L.take j) ∧ g = L.length - j)
  case atStart => exact ⟨0, rfl, Nat.zero_le _, Only.refl _ _, World.ownsRow_nil w1 _ _ _, rfl⟩
  case round =>
    obtain ⟨j, rfl, hj, ho, hown, hg⟩ := hrel
    have Hg := Lib.hid hg
    have HO := Lib.hid ho
    have HW := Lib.hid hown
    clear hg ho hown
    by_cases hlt : j < L.length
    · obtain ⟨kb, koff, ha, hc⟩ := HK.out.resolve_left (by omega)
      subst ha
      have z0 : wr.cell? ⟨kb, koff + j, none⟩ = some (.string L[j].name) := HO.out.cell (hc j _ (by simp [hlt])) id
      have htk : L.take (j + 1) = L.take j ++ [L[j]] := by rw [List.take_add_one, List.getElem?_eq_getElem hlt]; rfl
      have hhr := H1.out.new HO.out
      have c0 : wr.cell? ⟨x, 5, none⟩ = some (.map (some b)) := cell_at hhr.blk 5
      have hlk := hhr.map.look strKeyed strInj Tryd.underlying150 (z := zeroW) (zeroSvc wr) (strOk (HZ.out _ (List.getElem_mem hlt))) false
      rw [look_prsV, HL.out, findW_mem HRIS.out (List.getElem_mem hlt)] at hlk
      have hln : (L.take j).length = j := by simp; omega
      have HTK := Lib.hid htk
      have HLN := Lib.hid hln
      clear htk hln
      clear hc hhr
      generalize L[j] = y at *
      obtain ⟨n1, a0, a1, a2, a3, p, q, r⟩ := y
      have hlk2 : (Instr.lookup 150 (.map (some b)) (.string n1) false).run Tryd.prog wr = .ok (.agg #[.string n1, .int .u8 a0, .int .u8 a1, .int .u8 a2, .int .u8 a3, .int .u16 p, .int .u16 q, .int .u16 r]) wr := hlk
      clear hlk
      have hlt' : (j : Int) < (L.length : Int) := by omega
      go_wp2_with (at_builtin; refine Wait.mk ?_)
      refine Wait.go (wpList_append_src _ rfl (.tmp 19) (.tmp 26) 90 90 rfl w1.heap.size 86 i0 _ 8 32 Tryd.underlying90 hi0 iz0 iz1 iz2 rfl _ (L.take j).length ((L.take j).flatMap svcCs) rfl (HW.out.alloc _) _ 1 (svcCs ⟨n1, a0, a1, a2, a3, p, q, r⟩) rfl ?src4 ?m4 ?b4 ?base4 ?_)
      case src4 => exact Src.ofSlice _ Tryd.underlying90 _ _ _ _ rfl (news_new _ _ _) (svcCs_one _)
      case m4 => have := HLN.out; unfold maxLen; omega
      case b4 => have := HLN.out; omega
      case base4 => have := HO.out.size; simp; omega
      intro v4 w5 own4 gr4 hv4
      have ho5 : Only (fun _ => False) w1 w5 := (HO.out.alloc _).own (HW.out.alloc _) (Nat.le_refl _) gr4
      have HO5 := Lib.hid ho5
      have HW5 := Lib.hid own4
      clear ho5 own4
      clear hlk2 z0 c0 gr4 hv4
      go_wp2_with fail
      go_roundg (L.length - (j + 1))
      case measure => rw [Hg.out]; omega
      case rel =>
        refine ⟨j + 1, by go_num, by omega, HO5.out, ?_, rfl⟩
        unfold VRow
        rw [HTK.out, List.length_append, List.flatMap_append, List.flatMap_singleton]
        exact HW5.out
    · have hke : j = L.length := by omega
      have hlt' : ¬ (j : Int) < (L.length : Int) := by omega
      have hW := HW.out
      rw [hke, List.take_length] at hW
      have HW2 := Lib.hid hW
      clear hW
      clear hke
      go_wp2_with fail
      go_ret
      exact ⟨_, rfl, HO1.out.trans HO.out, ownsRow_base_a HW2.out HO1.out.size⟩
end Go.Proofs.YtianboachknfmaaDoor
/-! A keeper: Register. -/
namespace Go.Proofs.YtianboachknfmaaDoor
open Go.Conc Go.RowKit Go.Maps

theorem keepSv {w : World} {b i B j : Nat} {v u : Value} (hn : B ≠ b) (h : w.cell? ⟨b, i, none⟩ = some v) : (w.setCell ⟨B, j, none⟩ u).cell? ⟨b, i, none⟩ = some v := by
  rw [World.cell?_of_block (Below.heap_setCell _ _ _ _ (Ne.symm hn))]
  exact h
theorem keepDv {w : World} {p : Addr} {v : Value} (h : w.cell? p = some v) : w.drew.cell? p = some v := h
theorem keepNv {w : World} {o : Obj} {p : Addr} {v : Value} (h : w.cell? p = some v) : (w.alloc o).cell? p = some v := Only.cell ((Only.refl (fun _ => False) _).alloc _) h id
theorem onlyPutV {W w : World} {Q i : Nat} (h : Only (fun i => i = Q) W w) (v : Value) : Only (fun i => i = Q) W (w.setCell ⟨Q, i, none⟩ v) := h.setCell (S := fun i => i = Q) (p := ⟨Q, i, none⟩) (.inr rfl) v
theorem made_val {self : Int} {life c : Nat} (x : SvcT) (h1 : 1 ≤ self) (h2 : self ≤ 65535) (h3 : 1 ≤ life) (h4 : life < 4294967296) (hc : c < 4294967296) (hn : namedP x.name = true) :
    beginE self x.name (life * 4294967296 + c) = 0 ∧ makeV self x.name (life * 4294967296 + c) (dataB x.a0 x.a1 x.a2 x.a3 x.p x.q x.r) = recT (madeR self life c x) ∧ goneV self x.name (life * 4294967296 + c) = recT (goneR self life c x.name) ∧ life * 4294967296 + c < 2 ^ 64 := by
  have hnd : nodeB self = true := by unfold nodeB; rw [decide_eq_true h1, decide_eq_true h2]; rfl
  have hk : keyE self x.name = 0 := by unfold keyE; rw [hnd, hn]; rfl
  have hks : keyS self x.name = keyB self x.name := by unfold keyS; rw [hnd, hn]; rfl
  have hv : (life * 4294967296 + c) / 2 ^ 32 ≠ 0 := by omega
  have hb : beginE self x.name (life * 4294967296 + c) = 0 := by unfold beginE; rw [hk, if_neg (by decide), if_neg hv]
  refine ⟨hb, ?_, ?_, by omega⟩
  · unfold makeV
    rw [if_pos hb, hks]
    rfl
  · unfold goneV
    rw [if_pos hb, hks]
    rfl
set_option maxRecDepth 100000 in
theorem kreg_nil (w : World) (s : SvcT) : Calls Tryd.prog 35 #[.pointer none, svcT s] w fun e w' => e = .returned (.tuple #[.agg #[.string ⟨#[]⟩, .int .u64 0, .int .i64 0, .int .i64 0, .bool false, .string ⟨#[]⟩], .int .i64 1]) ∧ Only (fun _ => False) w w' := by
  obtain ⟨n, a0, a1, a2, a3, p, q, r⟩ := s
  unfold svcT
  simp only
  obtain ⟨W, hW⟩ : ∃ W, W = w.alloc (.cells #[.string n, .int .u8 a0, .int .u8 a1, .int .u8 a2, .int .u8 a3, .int .u16 p, .int .u16 q, .int .u16 r] 86) := ⟨_, rfl⟩
  have hbW : W.heap[w.heap.size]? = some (.cells #[.string n, .int .u8 a0, .int .u8 a1, .int .u8 a2, .int .u8 a3, .int .u16 p, .int .u16 q, .int .u16 r] 86 (0, 0)) := by rw [hW]; exact heap_alloc_new w _
  have hoW : Only (fun _ => False) w W := by rw [hW]; exact (Only.refl _ _).alloc _
  have hsW : W.heap.size = w.heap.size + 1 := by rw [hW]; simp
  obtain ⟨W1, hW1⟩ : ∃ W1, W1 = W.alloc (.cells #[.string ⟨#[]⟩, .int .u64 0, .int .i64 0, .int .i64 0, .bool false, .string ⟨#[]⟩] 33) := ⟨_, rfl⟩
  have hbW1 : W1.heap[W.heap.size]? = some (.cells #[.string ⟨#[]⟩, .int .u64 0, .int .i64 0, .int .i64 0, .bool false, .string ⟨#[]⟩] 33 (0, 0)) := by rw [hW1]; exact heap_alloc_new W _
  have hoW1 : Only (fun _ => False) W W1 := by rw [hW1]; exact (Only.refl _ _).alloc _
  have hsW1 : W1.heap.size = W.heap.size + 1 := by rw [hW1]; simp
  have hoA := hoW.trans hoW1
  rw [hsW] at hbW1
  have HZ := Lib.hid hbW1
  have HOA := Lib.hid hoA
  clear hbW1 hoA
  go_enter Tryd.func35, Tryd.ntmps35
  go_upto_region 1 with (fail)
  rw [← hW, ← hW1]
  clear hW hW1 hoW hoW1 hsW hsW1 hbW
  have z0 : W1.cell? ⟨(w.heap.size + 1), 0, none⟩ = some (.string ⟨#[]⟩) := cell_at HZ.out 0
  have z1 : W1.cell? ⟨(w.heap.size + 1), 1, none⟩ = some (.int .u64 0) := cell_at HZ.out 1
  have z2 : W1.cell? ⟨(w.heap.size + 1), 2, none⟩ = some (.int .i64 0) := cell_at HZ.out 2
  have z3 : W1.cell? ⟨(w.heap.size + 1), 3, none⟩ = some (.int .i64 0) := cell_at HZ.out 3
  have z4 : W1.cell? ⟨(w.heap.size + 1), 4, none⟩ = some (.bool false) := cell_at HZ.out 4
  have z5 : W1.cell? ⟨(w.heap.size + 1), 5, none⟩ = some (.string ⟨#[]⟩) := cell_at HZ.out 5
  have zf : ∀ i, W1.frozen? ⟨w.heap.size + 1, i, none⟩ = false := free_at HZ.out
  go_wp2_with fail
  obtain ⟨s1, s2⟩ := six_set HZ.out (.string ⟨#[]⟩) (.int .u64 0) (.int .i64 0) (.int .i64 0) (.bool false) (.string ⟨#[]⟩)
  generalize ((((((W1.setCell ⟨(w.heap.size + 1), 0, none⟩ (.string ⟨#[]⟩)).setCell ⟨(w.heap.size + 1), 1, none⟩ (.int .u64 0)).setCell ⟨(w.heap.size + 1), 2, none⟩ (.int .i64 0)).setCell ⟨(w.heap.size + 1), 3, none⟩ (.int .i64 0)).setCell ⟨(w.heap.size + 1), 4, none⟩ (.bool false)).setCell ⟨(w.heap.size + 1), 5, none⟩ (.string ⟨#[]⟩)) = wz at *
  have p0 : wz.cell? ⟨(w.heap.size + 1), 0, none⟩ = some (.string ⟨#[]⟩) := cell_at s1 0
  have p1 : wz.cell? ⟨(w.heap.size + 1), 1, none⟩ = some (.int .u64 0) := cell_at s1 1
  have p2 : wz.cell? ⟨(w.heap.size + 1), 2, none⟩ = some (.int .i64 0) := cell_at s1 2
  have p3 : wz.cell? ⟨(w.heap.size + 1), 3, none⟩ = some (.int .i64 0) := cell_at s1 3
  have p4 : wz.cell? ⟨(w.heap.size + 1), 4, none⟩ = some (.bool false) := cell_at s1 4
  have p5 : wz.cell? ⟨(w.heap.size + 1), 5, none⟩ = some (.string ⟨#[]⟩) := cell_at s1 5
  refine bodyPost_ret (v := .tuple #[.agg #[.string ⟨#[]⟩, .int .u64 0, .int .i64 0, .int .i64 0, .bool false, .string ⟨#[]⟩], .int .i64 1]) (by simp [results, Tryd.results35, go_sem, p0, p1, p2, p3, p4, p5]) rfl ?_
  exact ⟨rfl, HOA.out.tr s2 (fun i hi e => by omega)⟩
theorem KeepOk.with {k : KeepT} (h : KeepOk k) {c : Nat} {L : List SvcT} (hc : c < 4294967296) (h1 : RisingV L) (h2 : ∀ x ∈ L, namedP x.name = true ∧ svcOk x) (h3 : L.length ≤ 8) : KeepOk { k with count := c, own := L } :=
  ⟨h.selfB, h.lifeB, hc, h.everyB, h.tickB, h1, h2, h3⟩
set_option maxRecDepth 100000 in
set_option maxHeartbeats 4000000 in
theorem kreg_any (w : World) (x b : Nat) (k : KeepT) (h : KeepAt w x b k) (hx0 : x ≠ 0 ∧ b ≠ 0) (m : Int) (hm : w.cell? ⟨0, 0, none⟩ = some (.int .i64 m)) (s : SvcT) (hs : svcOk s) :
    Calls Tryd.prog 35 #[.pointer (some ⟨x, 0, none⟩), svcT s] w fun e w' => e = .returned (.tuple #[recT (regR k s), .int .i64 (regE k s)]) ∧ Only (fun i => i = x ∨ i = b) w w' ∧ KeepAt w' x b (regK k s) := by
  have HE := Lib.hid (show regE k s = if namedP s.name = false then 9 else if (findW k.own s.name).isSome = false ∧ 8 ≤ k.own.length then 5 else if k.count = 4294967295 then 15 else 0 from rfl)
  have HNO := Lib.hid (show ∀ (c : Int) (w' : World), regE k s = c → c ≠ 0 → Only (fun _ => False) w w' → (Ending.returned (.tuple #[.agg #[.string ⟨#[]⟩, .int .u64 0, .int .i64 0, .int .i64 0, .bool false, .string ⟨#[]⟩], .int .i64 c]) = .returned (.tuple #[recT (regR k s), .int .i64 (regE k s)]) ∧ Only (fun i => i = x ∨ i = b) w w' ∧ KeepAt w' x b (regK k s)) from fun c w' e hc ho => by
    unfold regR regK
    rw [e, if_neg hc, if_neg hc]
    exact ⟨rfl, ho.weaken (fun _ _ => False.elim), h.new ho⟩)
  have HYES := Lib.hid (show ∀ (w' : World), regE k s = 0 → Only (fun i => i = x ∨ i = b) w w' → KeepAt w' x b { k with count := k.count + 1, own := insW s k.own } → (Ending.returned (.tuple #[recT (madeR k.self k.life (k.count + 1) s), .int .i64 0]) = .returned (.tuple #[recT (regR k s), .int .i64 (regE k s)]) ∧ Only (fun i => i = x ∨ i = b) w w' ∧ KeepAt w' x b (regK k s)) from fun w' e ho hk => by
    unfold regR regK
    rw [e, if_pos rfl, if_pos rfl]
    exact ⟨rfl, ho, hk⟩)
  have HREG := Lib.hid (h.ok.reg hs)
  have HRK := Lib.hid (show regE k s = 0 → regK k s = { k with count := k.count + 1, own := insW s k.own } from fun e => by unfold regK; rw [if_pos e])
  have HPP := Lib.hid (put_prsV h.ok.rises s)
  have HLN := Lib.hid (show (prsV k.own).length < maxLen by rw [prsV_length]; have := h.ok.room; unfold maxLen; omega)
  have hkm : s.name.size ≤ maxLen := by have := hs.1; unfold maxLen; omega
  have HKO := Lib.hid (strOk hkm)
  have HMV := Lib.hid (fun (hn : namedP s.name = true) (hc : k.count + 1 < 4294967296) => made_val (c := k.count + 1) s h.ok.selfB.1 h.ok.selfB.2 h.ok.lifeB.1 h.ok.lifeB.2 hc hn)
  have hlt := h.lt
  have hne := h.ne
  have hcb := h.ok.countB
  have hroom := h.ok.room
  have hlk := fun w1 (ho : Only (fun _ => False) w w1) => (h.map.kept ho id).look strKeyed strInj Tryd.underlying150 (z := zeroW) (zeroSvc w1) (strOk hkm) true
  simp only [look_prsV] at hlk
  obtain ⟨n, a0, a1, a2, a3, p, q, r⟩ := s
  obtain ⟨_, _, _, _, _, hp, hq, hr⟩ := hs
  simp only at hp hq hr hkm
  unfold svcT
  simp only at HE HKO HMV hlk ⊢
  generalize (findW k.own n).getD zeroW = y at *
  generalize (findW k.own n).isSome = ok at *
  obtain ⟨yn, y0, y1, y2, y3, yp, yq, yr⟩ := y
  have hlk2 : ∀ w1, Only (fun _ => False) w w1 → (Instr.lookup 150 (.map (some b)) (.string n) true).run Tryd.prog w1 = .ok (.tuple #[.agg #[.string yn, .int .u8 y0, .int .u8 y1, .int .u8 y2, .int .u8 y3, .int .u16 yp, .int .u16 yq, .int .u16 yr], .bool ok]) w1 := fun w1 ho => hlk w1 ho
  obtain ⟨W, hW⟩ : ∃ W, W = w.alloc (.cells #[.string n, .int .u8 a0, .int .u8 a1, .int .u8 a2, .int .u8 a3, .int .u16 p, .int .u16 q, .int .u16 r] 86) := ⟨_, rfl⟩
  have hbW : W.heap[w.heap.size]? = some (.cells #[.string n, .int .u8 a0, .int .u8 a1, .int .u8 a2, .int .u8 a3, .int .u16 p, .int .u16 q, .int .u16 r] 86 (0, 0)) := by rw [hW]; exact heap_alloc_new w _
  have hoW : Only (fun _ => False) w W := by rw [hW]; exact (Only.refl _ _).alloc _
  have hsW : W.heap.size = w.heap.size + 1 := by rw [hW]; simp
  obtain ⟨W1, hW1⟩ : ∃ W1, W1 = W.alloc (.cells #[.string ⟨#[]⟩, .int .u64 0, .int .i64 0, .int .i64 0, .bool false, .string ⟨#[]⟩] 33) := ⟨_, rfl⟩
  have hbW1 : W1.heap[W.heap.size]? = some (.cells #[.string ⟨#[]⟩, .int .u64 0, .int .i64 0, .int .i64 0, .bool false, .string ⟨#[]⟩] 33 (0, 0)) := by rw [hW1]; exact heap_alloc_new W _
  have hoW1 : Only (fun _ => False) W W1 := by rw [hW1]; exact (Only.refl _ _).alloc _
  have hsW1 : W1.heap.size = W.heap.size + 1 := by rw [hW1]; simp
  have hbX := hoW1.old hbW id
  have hoA := hoW.trans hoW1
  have hm1 := hoA.cell hm id
  have hkW := h.new hoA
  have HX1 := Lib.hid (show x < w.heap.size ∧ b < w.heap.size ∧ w.heap.size + 1 < W1.heap.size by omega)
  rw [hsW] at hbW1
  have HLK := Lib.hid hlk2
  have HBX := Lib.hid hbX
  have HZ := Lib.hid hbW1
  have HOA := Lib.hid hoA
  have HM1 := Lib.hid hm1
  have HKW := Lib.hid hkW
  clear hlk2 hbX hbW1 hoA hm1 hkW
  clear hlk hm h
  go_enter Tryd.func35, Tryd.ntmps35
  go_upto_region 1 with (fail)
  rw [← hW, ← hW1]
  clear hW hW1 hoW hoW1 hsW hsW1 hbW
  generalize hX : w.heap.size = X at *
  have HXW := Lib.hid hX
  clear hX
  go_upto_region 3 with (fail)
  go_cut [7] (fun v7 wx => v7 = .bool ok ∧ Only (fun _ => False) W1 wx)
  case first =>
    have c5 : W1.cell? ⟨x, 5, none⟩ = some (.map (some b)) := cell_at HKW.out.blk 5
    have x0 : W1.cell? ⟨X, 0, none⟩ = some (.string n) := cell_at HBX.out 0
    have hx1 : x < W1.heap.size ∧ X < W1.heap.size := by have := HX1.out; omega
    obtain ⟨hx1, hx2⟩ := hx1
    have hlkA := HLK.out W1.drew (HOA.out.drew)
    have hlkB := HLK.out (W1.alloc (.cells #[.string ⟨#[]⟩, .int .u8 0, .int .u8 0, .int .u8 0, .int .u8 0, .int .u16 0, .int .u16 0, .int .u16 0] 86)).drew ((HOA.out.alloc _).drew)
    go_region
    all_goals
      go_wp2_with fail
      go_meet
      exact ⟨rfl, by (repeat (first | (with_reducible assumption) | (with_reducible exact Only.refl _ _) | (with_reducible refine Only.drew ?_) | (with_reducible refine Only.alloc ?_ _) | (with_reducible refine onlySet ?_ (by first | (with_reducible assumption) | omega) _) | (with_reducible refine Only.trans ?_ (by with_reducible assumption))))⟩
  case rest =>
  obtain ⟨rfl, hoc⟩ := hcut
  generalize wc = w2 at *
  have hk2 := HKW.out.new hoc
  have hb2 := hoc.old HBX.out id
  have hz2 := hoc.old HZ.out id
  have hm2 := hoc.cell HM1.out id
  have hoB := HOA.out.trans hoc
  have hnm := named_any w2 n m hm2 hkm
  have x0 : w2.cell? ⟨X, 0, none⟩ = some (.string n) := cell_at hb2 0
  have HK2 := Lib.hid hk2
  have HB2 := Lib.hid hb2
  have HZ2 := Lib.hid hz2
  have HM2 := Lib.hid hm2
  have HOB := Lib.hid hoB
  have HNM := Lib.hid hnm
  clear hk2 hb2 hz2 hm2 hoB hnm
  clear hoc HKW HBX HZ HM1 HOA HLK
  go_wp2_with fail
  refine HNM.out.mono ?_
  rintro e w3 ⟨rfl, ho3⟩
  have hk3 := HK2.out.new ho3
  have hb3 := ho3.old HB2.out id
  have hz3 := ho3.old HZ2.out id
  have hm3 := ho3.cell HM2.out id
  have hoC := HOB.out.trans ho3
  have HK3 := Lib.hid hk3
  have HB3 := Lib.hid hb3
  have HZ3 := Lib.hid hz3
  have HM3 := Lib.hid hm3
  have HOC := Lib.hid hoC
  clear hk3 hb3 hz3 hm3 hoC
  clear ho3 x0 HK2 HB2 HZ2 HM2 HOB HNM
  cases hnn : namedP n
  · -- name
    have e9 : regE k ⟨n, a0, a1, a2, a3, p, q, r⟩ = 9 := by rw [HE.out, hnn]; rfl
    clear hnn
    have zz := HZ3.out
    have z0 : w3.cell? ⟨(X + 1), 0, none⟩ = some (.string ⟨#[]⟩) := cell_at zz 0
    have z1 : w3.cell? ⟨(X + 1), 1, none⟩ = some (.int .u64 0) := cell_at zz 1
    have z2 : w3.cell? ⟨(X + 1), 2, none⟩ = some (.int .i64 0) := cell_at zz 2
    have z3 : w3.cell? ⟨(X + 1), 3, none⟩ = some (.int .i64 0) := cell_at zz 3
    have z4 : w3.cell? ⟨(X + 1), 4, none⟩ = some (.bool false) := cell_at zz 4
    have z5 : w3.cell? ⟨(X + 1), 5, none⟩ = some (.string ⟨#[]⟩) := cell_at zz 5
    have zf : ∀ i, w3.frozen? ⟨X + 1, i, none⟩ = false := free_at zz
    clear zz
    go_wp2_with fail
    obtain ⟨s1, s2⟩ := six_set HZ3.out (.string ⟨#[]⟩) (.int .u64 0) (.int .i64 0) (.int .i64 0) (.bool false) (.string ⟨#[]⟩)
    generalize ((((((w3.setCell ⟨(X + 1), 0, none⟩ (.string ⟨#[]⟩)).setCell ⟨(X + 1), 1, none⟩ (.int .u64 0)).setCell ⟨(X + 1), 2, none⟩ (.int .i64 0)).setCell ⟨(X + 1), 3, none⟩ (.int .i64 0)).setCell ⟨(X + 1), 4, none⟩ (.bool false)).setCell ⟨(X + 1), 5, none⟩ (.string ⟨#[]⟩)) = wz at *
    have p0 : wz.cell? ⟨(X + 1), 0, none⟩ = some (.string ⟨#[]⟩) := cell_at s1 0
    have p1 : wz.cell? ⟨(X + 1), 1, none⟩ = some (.int .u64 0) := cell_at s1 1
    have p2 : wz.cell? ⟨(X + 1), 2, none⟩ = some (.int .i64 0) := cell_at s1 2
    have p3 : wz.cell? ⟨(X + 1), 3, none⟩ = some (.int .i64 0) := cell_at s1 3
    have p4 : wz.cell? ⟨(X + 1), 4, none⟩ = some (.bool false) := cell_at s1 4
    have p5 : wz.cell? ⟨(X + 1), 5, none⟩ = some (.string ⟨#[]⟩) := cell_at s1 5
    refine bodyPost_ret (v := .tuple #[.agg #[.string ⟨#[]⟩, .int .u64 0, .int .i64 0, .int .i64 0, .bool false, .string ⟨#[]⟩], .int .i64 9]) (by simp [results, Tryd.results35, go_sem, p0, p1, p2, p3, p4, p5]) rfl ?_
    exact HNO.out 9 _ e9 (by decide) ((HOC.out).tr s2 (fun i hi e => by have h1 : i = X + 1 := e; have h2 := HX1.out; have h3 := HXW.out; omega))
  · have HE2 := Lib.hid (show regE k ⟨n, a0, a1, a2, a3, p, q, r⟩ = if ok = false ∧ 8 ≤ k.own.length then 5 else if k.count = 4294967295 then 15 else 0 by rw [HE.out, hnn]; rfl)
    have HNN := Lib.hid hnn
    clear hnn HE
    have c5 : w3.cell? ⟨x, 5, none⟩ = some (.map (some b)) := cell_at HK3.out.blk 5
    have hlen : ∀ ty, (Builtin.len_ #[150] ty #[.map (some b)]).run Tryd.prog w3 = .ok (.int .i64 (k.own.length : Nat)) w3 := fun ty => by
      have := HK3.out.map.len Tryd.underlying150 ty
      rw [prsV_length] at this
      exact this
    by_cases hfull : ok = false ∧ 8 ≤ k.own.length
    · -- full
      obtain ⟨rfl, h8⟩ := hfull
      have e5 : regE k ⟨n, a0, a1, a2, a3, p, q, r⟩ = 5 := by rw [HE2.out, if_pos ⟨rfl, h8⟩]
      have h8' : (8 : Int) ≤ (k.own.length : Int) := by omega
      have zz := HZ3.out
      have z0 : w3.cell? ⟨(X + 1), 0, none⟩ = some (.string ⟨#[]⟩) := cell_at zz 0
      have z1 : w3.cell? ⟨(X + 1), 1, none⟩ = some (.int .u64 0) := cell_at zz 1
      have z2 : w3.cell? ⟨(X + 1), 2, none⟩ = some (.int .i64 0) := cell_at zz 2
      have z3 : w3.cell? ⟨(X + 1), 3, none⟩ = some (.int .i64 0) := cell_at zz 3
      have z4 : w3.cell? ⟨(X + 1), 4, none⟩ = some (.bool false) := cell_at zz 4
      have z5 : w3.cell? ⟨(X + 1), 5, none⟩ = some (.string ⟨#[]⟩) := cell_at zz 5
      have zf : ∀ i, w3.frozen? ⟨X + 1, i, none⟩ = false := free_at zz
      clear zz
      go_wp2_with fail
      obtain ⟨s1, s2⟩ := six_set HZ3.out (.string ⟨#[]⟩) (.int .u64 0) (.int .i64 0) (.int .i64 0) (.bool false) (.string ⟨#[]⟩)
      generalize ((((((w3.setCell ⟨(X + 1), 0, none⟩ (.string ⟨#[]⟩)).setCell ⟨(X + 1), 1, none⟩ (.int .u64 0)).setCell ⟨(X + 1), 2, none⟩ (.int .i64 0)).setCell ⟨(X + 1), 3, none⟩ (.int .i64 0)).setCell ⟨(X + 1), 4, none⟩ (.bool false)).setCell ⟨(X + 1), 5, none⟩ (.string ⟨#[]⟩)) = wz at *
      have p0 : wz.cell? ⟨(X + 1), 0, none⟩ = some (.string ⟨#[]⟩) := cell_at s1 0
      have p1 : wz.cell? ⟨(X + 1), 1, none⟩ = some (.int .u64 0) := cell_at s1 1
      have p2 : wz.cell? ⟨(X + 1), 2, none⟩ = some (.int .i64 0) := cell_at s1 2
      have p3 : wz.cell? ⟨(X + 1), 3, none⟩ = some (.int .i64 0) := cell_at s1 3
      have p4 : wz.cell? ⟨(X + 1), 4, none⟩ = some (.bool false) := cell_at s1 4
      have p5 : wz.cell? ⟨(X + 1), 5, none⟩ = some (.string ⟨#[]⟩) := cell_at s1 5
      refine bodyPost_ret (v := .tuple #[.agg #[.string ⟨#[]⟩, .int .u64 0, .int .i64 0, .int .i64 0, .bool false, .string ⟨#[]⟩], .int .i64 5]) (by simp [results, Tryd.results35, go_sem, p0, p1, p2, p3, p4, p5]) rfl ?_
      exact HNO.out 5 _ e5 (by decide) ((HOC.out).tr s2 (fun i hi e => by have h1 : i = X + 1 := e; have h2 := HX1.out; have h3 := HXW.out; omega))
    · have HE3 := Lib.hid (show regE k ⟨n, a0, a1, a2, a3, p, q, r⟩ = if k.count = 4294967295 then 15 else 0 by rw [HE2.out, if_neg hfull])
      clear HE2
      have hsp := kspent_any w3 x b k HK3.out
      have HSP := Lib.hid hsp
      clear hsp
      go_upto_region 6 with (fail)
      go_cut [27] (fun v27 wx => v27 = .bool false ∧ w3 = wx)
      case first =>
        cases ok
        · have h8 : ¬ (8 : Int) ≤ (k.own.length : Int) := by
            intro h
            exact hfull ⟨rfl, by omega⟩
          clear hfull
          go_wp2_with fail
          go_meet
          exact ⟨rfl, rfl⟩
        · clear hfull
          go_wp2_with fail
          go_meet
          exact ⟨rfl, rfl⟩
      case rest =>
      obtain ⟨rfl, rfl⟩ := hcut
      clear c5 hlen hfull
      go_wp2_with fail
      refine HSP.out.mono ?_
      rintro e w4 ⟨rfl, rfl⟩
      by_cases hc : k.count = 4294967295
      · -- spent
        have e15 : regE k ⟨n, a0, a1, a2, a3, p, q, r⟩ = 15 := by rw [HE3.out, if_pos hc]
        rw [decide_eq_true hc]
        clear hc
        have zz := HZ3.out
        have z0 : w3.cell? ⟨(X + 1), 0, none⟩ = some (.string ⟨#[]⟩) := cell_at zz 0
        have z1 : w3.cell? ⟨(X + 1), 1, none⟩ = some (.int .u64 0) := cell_at zz 1
        have z2 : w3.cell? ⟨(X + 1), 2, none⟩ = some (.int .i64 0) := cell_at zz 2
        have z3 : w3.cell? ⟨(X + 1), 3, none⟩ = some (.int .i64 0) := cell_at zz 3
        have z4 : w3.cell? ⟨(X + 1), 4, none⟩ = some (.bool false) := cell_at zz 4
        have z5 : w3.cell? ⟨(X + 1), 5, none⟩ = some (.string ⟨#[]⟩) := cell_at zz 5
        have zf : ∀ i, w3.frozen? ⟨X + 1, i, none⟩ = false := free_at zz
        clear zz
        go_wp2_with fail
        obtain ⟨s1, s2⟩ := six_set HZ3.out (.string ⟨#[]⟩) (.int .u64 0) (.int .i64 0) (.int .i64 0) (.bool false) (.string ⟨#[]⟩)
        generalize ((((((w3.setCell ⟨(X + 1), 0, none⟩ (.string ⟨#[]⟩)).setCell ⟨(X + 1), 1, none⟩ (.int .u64 0)).setCell ⟨(X + 1), 2, none⟩ (.int .i64 0)).setCell ⟨(X + 1), 3, none⟩ (.int .i64 0)).setCell ⟨(X + 1), 4, none⟩ (.bool false)).setCell ⟨(X + 1), 5, none⟩ (.string ⟨#[]⟩)) = wz at *
        have p0 : wz.cell? ⟨(X + 1), 0, none⟩ = some (.string ⟨#[]⟩) := cell_at s1 0
        have p1 : wz.cell? ⟨(X + 1), 1, none⟩ = some (.int .u64 0) := cell_at s1 1
        have p2 : wz.cell? ⟨(X + 1), 2, none⟩ = some (.int .i64 0) := cell_at s1 2
        have p3 : wz.cell? ⟨(X + 1), 3, none⟩ = some (.int .i64 0) := cell_at s1 3
        have p4 : wz.cell? ⟨(X + 1), 4, none⟩ = some (.bool false) := cell_at s1 4
        have p5 : wz.cell? ⟨(X + 1), 5, none⟩ = some (.string ⟨#[]⟩) := cell_at s1 5
        refine bodyPost_ret (v := .tuple #[.agg #[.string ⟨#[]⟩, .int .u64 0, .int .i64 0, .int .i64 0, .bool false, .string ⟨#[]⟩], .int .i64 15]) (by simp [results, Tryd.results35, go_sem, p0, p1, p2, p3, p4, p5]) rfl ?_
        exact HNO.out 15 _ e15 (by decide) ((HOC.out).tr s2 (fun i hi e => by have h1 : i = X + 1 := e; have h2 := HX1.out; have h3 := HXW.out; omega))
      · -- make
        have e0 : regE k ⟨n, a0, a1, a2, a3, p, q, r⟩ = 0 := by rw [HE3.out, if_neg hc]
        have hkr := HREG.out
        rw [HRK.out e0] at hkr
        obtain ⟨mv1, mv2, _, mv4⟩ := HMV.out HNN.out (by omega)
        rw [decide_eq_false hc]
        have HE0 := Lib.hid e0
        have HKR := Lib.hid hkr
        have HMV1 := Lib.hid mv1
        have HMV2 := Lib.hid mv2
        have HMV4 := Lib.hid mv4
        clear e0 hkr mv1 mv2 mv4
        have hcc : k.count < 4294967295 := by omega
        clear hc HE3 HREG HRK HMV HSP
        have c5 : w3.cell? ⟨x, 5, none⟩ = some (.map (some b)) := cell_at HK3.out.blk 5
        have f0 : w3.cell? ⟨X, 0, none⟩ = some (.string n) := cell_at HB3.out 0
        have f1 : w3.cell? ⟨X, 1, none⟩ = some (.int .u8 a0) := cell_at HB3.out 1
        have f2 : w3.cell? ⟨X, 2, none⟩ = some (.int .u8 a1) := cell_at HB3.out 2
        have f3 : w3.cell? ⟨X, 3, none⟩ = some (.int .u8 a2) := cell_at HB3.out 3
        have f4 : w3.cell? ⟨X, 4, none⟩ = some (.int .u8 a3) := cell_at HB3.out 4
        have f5 : w3.cell? ⟨X, 5, none⟩ = some (.int .u16 p) := cell_at HB3.out 5
        have f6 : w3.cell? ⟨X, 6, none⟩ = some (.int .u16 q) := cell_at HB3.out 6
        have f7 : w3.cell? ⟨X, 7, none⟩ = some (.int .u16 r) := cell_at HB3.out 7
        obtain ⟨w6, hst0, hm6, ho6⟩ := (HK3.out.map.kept ((Only.refl (fun _ => False) w3).drew) id).store strKeyed strInj Tryd.underlying150 HLN.out HKO.out ⟨n, a0, a1, a2, a3, p, q, r⟩
        have hst : (Instr.mapUpdate 150 (.map (some b)) (.string n) (.agg #[.string n, .int .u8 a0, .int .u8 a1, .int .u8 a2, .int .u8 a3, .int .u16 p, .int .u16 q, .int .u16 r])).run Tryd.prog w3.drew = .ok () w6 := hst0
        have ho6' : Only (fun i => i = b) w3 w6 := ((Only.refl (fun i => i = b) w3).drew).trans ho6
        have HM6 := Lib.hid hm6
        have HO6 := Lib.hid ho6'
        clear hm6 ho6'
        clear hst0 ho6
        go_upto_region 10 with (fail)
        go_region
        clear hst c5 f0 f1 f2 f3 f4 f5 f6 f7
        have hz6 := HO6.out.old HZ3.out (fun e => by have h1 : X + 1 = b := e; have h2 := HX1.out; omega)
        have hb6 := HO6.out.old HB3.out (fun e => by have h1 : X = b := e; have h2 := HX1.out; omega)
        have hm6 := HO6.out.cell HM3.out (fun e => hx0.2 (Eq.symm e))
        have hblk6 := HO6.out.old HK3.out.blk hne
        have hk6 : KeepAt w6 x b { k with own := insW ⟨n, a0, a1, a2, a3, p, q, r⟩ k.own } := ⟨hblk6, HM6.out.perm strKeyed strInj HPP.out, HKR.out.with hcb HKR.out.rises HKR.out.names HKR.out.room⟩
        have hx6 : w6.cell? ⟨x, 0, none⟩ = some (.int .i64 k.self) := cell_at hblk6 0
        have HKN := Lib.hid (fun w' (ho : Only (fun _ => False) w6 w') => knext_any w' x b _ (hk6.new ho) (show k.count < 4294967295 from hcc))
        have HMK := Lib.hid (fun w' (hm' : w'.cell? ⟨0, 0, none⟩ = some (.int .i64 m)) => make_any w' k.self (k.life * 4294967296 + (k.count + 1)) n a0 a1 a2 a3 p q r m hm' HMV4.out hkm hp hq hr)
        rw [HMV2.out, HMV1.out] at HMK
        have hoD : Only (fun i => i = x ∨ i = b) w w6 := (HOC.out.weaken (fun _ _ => False.elim)).trans (HO6.out.weaken (fun _ _ e => .inr e))
        have g0 : w6.cell? ⟨X, 0, none⟩ = some (.string n) := cell_at hb6 0
        have g1 : w6.cell? ⟨X, 1, none⟩ = some (.int .u8 a0) := cell_at hb6 1
        have g2 : w6.cell? ⟨X, 2, none⟩ = some (.int .u8 a1) := cell_at hb6 2
        have g3 : w6.cell? ⟨X, 3, none⟩ = some (.int .u8 a2) := cell_at hb6 3
        have g4 : w6.cell? ⟨X, 4, none⟩ = some (.int .u8 a3) := cell_at hb6 4
        have g5 : w6.cell? ⟨X, 5, none⟩ = some (.int .u16 p) := cell_at hb6 5
        have g6 : w6.cell? ⟨X, 6, none⟩ = some (.int .u16 q) := cell_at hb6 6
        have g7 : w6.cell? ⟨X, 7, none⟩ = some (.int .u16 r) := cell_at hb6 7
        have HZ6 := Lib.hid hz6
        have HBX6 := Lib.hid hb6
        have HMM6 := Lib.hid hm6
        have HOD := Lib.hid hoD
        clear hz6 hb6 hm6 hoD
        unfold recT madeR at HMK
        dsimp only at HMK
        have HNE := Lib.hid (show X + 1 ≠ X ∧ X + 1 ≠ x by have h2 := HX1.out; omega)
        have HNE2 := Lib.hid (show ¬ X = x ∧ ¬ X + 1 = x by have h2 := HX1.out; omega)
        have HNE2b := Lib.hid (show ¬ (0 : Nat) = x from fun e => hx0.1 e.symm)
        unfold recT madeR at HYES
        dsimp only at HYES
        generalize k.life * 4294967296 + (k.count + 1) = V at *
        go_upto_region 11 with (fail)
        go_cut [5] (fun v5 wx => v5 = .int .i64 0 ∧ wx.heap[X + 1]? = some (.cells #[.string (keyB k.self n),   .int .u64 V, .int .i64 k.self, .int .i64 0, .bool false, .string (dataB a0 a1 a2 a3 p q r)] 33 (0, 0)) ∧ Only (fun i => i = x ∨ i = X + 1) w6 wx ∧ KeepAt wx x b { k with count := k.count + 1, own := insW ⟨n, a0, a1, a2, a3, p, q, r⟩ k.own })
        case first =>
          have z6 := HZ6.out
          go_region_held3 (fun w' => w'.cell? ⟨X, 0, none⟩ = some (.string n) ∧ w'.cell? ⟨X, 1, none⟩ = some (.int .u8 a0) ∧ w'.cell? ⟨X, 2, none⟩ = some (.int .u8 a1) ∧ w'.cell? ⟨X, 3, none⟩ = some (.int .u8 a2) ∧ w'.cell? ⟨X, 4, none⟩ = some (.int .u8 a3) ∧ w'.cell? ⟨X, 5, none⟩ = some (.int .u16 p) ∧ w'.cell? ⟨X, 6, none⟩ = some (.int .u16 q) ∧ w'.cell? ⟨X, 7, none⟩ = some (.int .u16 r) ∧ w'.cell? ⟨x, 0, none⟩ = some (.int .i64 k.self))
            ((go_split_ands; (repeat' apply And.intro); all_goals (repeat (first | (with_reducible assumption) | (with_reducible apply keepDv) | (with_reducible apply keepNv) | (with_reducible apply keepSv HNE.out.1) | (with_reducible apply keepSv HNE.out.2)))))
            (first
              | (go_at_call 75; (with_reducible refine (HKN.out _ (by (repeat (first | (with_reducible assumption) | (with_reducible exact Only.refl _ _) | (with_reducible refine Only.drew ?_) | (with_reducible refine Only.alloc ?_ _) | (with_reducible refine onlySet ?_ (by first | (with_reducible assumption) | omega) _) | (with_reducible refine Only.trans ?_ (by with_reducible assumption)))))).mono ?_); rintro e w7 ⟨rfl, ho7, hk7⟩; have o7 : Only (fun i => i = x) w6 w7 := (by (refine Only.trans (b := _) ?_ ho7; refine Only.weaken (S := fun _ => False) ?_ (fun _ _ => False.elim); (repeat (first | (with_reducible assumption) | (with_reducible exact Only.refl _ _) | (with_reducible refine Only.drew ?_) | (with_reducible refine Only.alloc ?_ _) | (with_reducible refine onlySet ?_ (by first | (with_reducible assumption) | omega) _) | (with_reducible refine Only.trans ?_ (by with_reducible assumption)))))); have g70 := Only.cell o7 g0 HNE2.out.1; have g71 := Only.cell o7 g1 HNE2.out.1; have g72 := Only.cell o7 g2 HNE2.out.1; have g73 := Only.cell o7 g3 HNE2.out.1; have g74 := Only.cell o7 g4 HNE2.out.1; have g75 := Only.cell o7 g5 HNE2.out.1; have g76 := Only.cell o7 g6 HNE2.out.1; have g77 := Only.cell o7 g7 HNE2.out.1; have g7x := cell_at hk7.blk 0; simp at g7x; have z7 := o7.old HZ6.out HNE2.out.2; have m7 := o7.cell HMM6.out HNE2b.out; have HK7 := Lib.hid hk7)
              | (go_at_call 79; (with_reducible refine (HMK.out _ (by (repeat (first | (with_reducible assumption) | (with_reducible apply keepDv))))).mono ?_); rintro e w8 ⟨rfl, ho8⟩; have g80 := Only.cell ho8 g70 id; have g81 := Only.cell ho8 g71 id; have g82 := Only.cell ho8 g72 id; have g83 := Only.cell ho8 g73 id; have g84 := Only.cell ho8 g74 id; have g85 := Only.cell ho8 g75 id; have g86 := Only.cell ho8 g76 id; have g87 := Only.cell ho8 g77 id; have g8x := Only.cell ho8 g7x id; have z8 := Only.old ho8 z7 id; have zc0 := cell_at z8 0; have zc1 := cell_at z8 1; have zc2 := cell_at z8 2; have zc3 := cell_at z8 3; have zc4 := cell_at z8 4; have zc5 := cell_at z8 5; simp at zc0 zc1 zc2 zc3 zc4 zc5; have zf8 := free_at z8; have zl8 := lt_of_block z8; have o8 : Only (fun i => i = x) w6 w8 := Only.trans o7 (Only.weaken (S := fun _ => False) ho8 (fun _ _ => False.elim)); have HK8 := Lib.hid (KeepAt.new HK7.out ho8)))
          all_goals
            go_split_ands
            go_wp2_with fail
            go_meet
            refine ⟨rfl, ?_, (o8.weaken (T := fun i => i = x ∨ i = X + 1) (fun _ _ e => .inl e)).trans (Only.weaken (S := fun i => i = X + 1) ?_ (fun _ _ e => .inr e)), HK8.out.kept (S := fun i => i = X + 1) ?_ (fun e => HNE2.out.2 (Eq.symm e)) (fun e => by have h1 : b = X + 1 := e; have h2 := HX1.out; omega)⟩
            · (apply Eq.trans; (case h₁ => repeat (first | (with_reducible assumption) | (with_reducible exact heap_alloc_new _ _) | (with_reducible apply blk_new; (repeat (first | (with_reducible rfl) | (with_reducible apply sz_set) | (with_reducible apply sz_alloc) | (with_reducible apply sz_drew))); done) | (with_reducible apply blk_same) | (with_reducible apply blk_ne; case hn => (first | assumption | omega)) | (with_reducible apply blk_old) | (with_reducible apply blk_drew))); (case h₂ => rfl))
            · (repeat (first | (with_reducible assumption) | (with_reducible exact Only.refl _ _) | (with_reducible refine Only.drew ?_) | (with_reducible refine onlyPutV ?_ _)))
            · (repeat (first | (with_reducible assumption) | (with_reducible exact Only.refl _ _) | (with_reducible refine Only.drew ?_) | (with_reducible refine onlyPutV ?_ _)))
        case rest =>
        obtain ⟨rfl, hz9, ho9, hk9⟩ := hcut
        have p0 : wc.cell? ⟨(X + 1), 0, none⟩ = some (.string (keyB k.self n)) := cell_at hz9 0
        have p1 : wc.cell? ⟨(X + 1), 1, none⟩ = some (.int .u64 V) := cell_at hz9 1
        have p2 : wc.cell? ⟨(X + 1), 2, none⟩ = some (.int .i64 k.self) := cell_at hz9 2
        have p3 : wc.cell? ⟨(X + 1), 3, none⟩ = some (.int .i64 0) := cell_at hz9 3
        have p4 : wc.cell? ⟨(X + 1), 4, none⟩ = some (.bool false) := cell_at hz9 4
        have p5 : wc.cell? ⟨(X + 1), 5, none⟩ = some (.string (dataB a0 a1 a2 a3 p q r)) := cell_at hz9 5
        have hoE : Only (fun i => i = x ∨ i = b) w wc := HOD.out.tr ho9 (fun i hi e => by
          have h1 : i = x ∨ i = X + 1 := e
          have h2 := HX1.out
          have h3 := HXW.out
          rcases h1 with h1 | h1
          · exact .inl h1
          · omega)
        have HOE := Lib.hid hoE
        have HK9 := Lib.hid hk9
        clear hoE hk9
        clear ho9 hz9 g0 g1 g2 g3 g4 g5 g6 g7 hx6
        go_wp2_with fail
        refine bodyPost_ret (v := .tuple #[.agg #[.string (keyB k.self n), .int .u64 V, .int .i64 k.self, .int .i64 0, .bool false, .string (dataB a0 a1 a2 a3 p q r)], .int .i64 0]) (by simp [results, Tryd.results35, go_sem, p0, p1, p2, p3, p4, p5]) rfl ?_
        exact HYES.out _ HE0.out HOE.out HK9.out
end Go.Proofs.YtianboachknfmaaDoor
/-! A keeper: Withdraw. -/
namespace Go.Proofs.YtianboachknfmaaDoor
open Go.Conc Go.RowKit Go.Maps

set_option maxRecDepth 100000 in
theorem kwdr_nil (w : World) (n : ByteArray) : Calls Tryd.prog 29 #[.pointer none, .string n] w fun e w' => e = .returned (.tuple #[.agg #[.string ⟨#[]⟩, .int .u64 0, .int .i64 0, .int .i64 0, .bool false, .string ⟨#[]⟩], .int .i64 1]) ∧ Only (fun _ => False) w w' := by
  obtain ⟨W1, hW1⟩ : ∃ W1, W1 = w.alloc (.cells #[.string ⟨#[]⟩, .int .u64 0, .int .i64 0, .int .i64 0, .bool false, .string ⟨#[]⟩] 33) := ⟨_, rfl⟩
  have hbW1 : W1.heap[w.heap.size]? = some (.cells #[.string ⟨#[]⟩, .int .u64 0, .int .i64 0, .int .i64 0, .bool false, .string ⟨#[]⟩] 33 (0, 0)) := by rw [hW1]; exact heap_alloc_new w _
  have hoW1 : Only (fun _ => False) w W1 := by rw [hW1]; exact (Only.refl _ _).alloc _
  have hsW1 : W1.heap.size = w.heap.size + 1 := by rw [hW1]; simp
  have HZ := Lib.hid hbW1
  have HOA := Lib.hid hoW1
  clear hbW1 hoW1
  go_enter Tryd.func29, Tryd.ntmps29
  go_upto_region 1 with (fail)
  rw [← hW1]
  clear hW1 hsW1
  have z0 : W1.cell? ⟨w.heap.size, 0, none⟩ = some (.string ⟨#[]⟩) := cell_at HZ.out 0
  have z1 : W1.cell? ⟨w.heap.size, 1, none⟩ = some (.int .u64 0) := cell_at HZ.out 1
  have z2 : W1.cell? ⟨w.heap.size, 2, none⟩ = some (.int .i64 0) := cell_at HZ.out 2
  have z3 : W1.cell? ⟨w.heap.size, 3, none⟩ = some (.int .i64 0) := cell_at HZ.out 3
  have z4 : W1.cell? ⟨w.heap.size, 4, none⟩ = some (.bool false) := cell_at HZ.out 4
  have z5 : W1.cell? ⟨w.heap.size, 5, none⟩ = some (.string ⟨#[]⟩) := cell_at HZ.out 5
  have zf : ∀ i, W1.frozen? ⟨w.heap.size, i, none⟩ = false := free_at HZ.out
  go_wp2_with fail
  obtain ⟨s1, s2⟩ := six_set HZ.out (.string ⟨#[]⟩) (.int .u64 0) (.int .i64 0) (.int .i64 0) (.bool false) (.string ⟨#[]⟩)
  generalize ((((((W1.setCell ⟨w.heap.size, 0, none⟩ (.string ⟨#[]⟩)).setCell ⟨w.heap.size, 1, none⟩ (.int .u64 0)).setCell ⟨w.heap.size, 2, none⟩ (.int .i64 0)).setCell ⟨w.heap.size, 3, none⟩ (.int .i64 0)).setCell ⟨w.heap.size, 4, none⟩ (.bool false)).setCell ⟨w.heap.size, 5, none⟩ (.string ⟨#[]⟩)) = wz at *
  have p0 : wz.cell? ⟨w.heap.size, 0, none⟩ = some (.string ⟨#[]⟩) := cell_at s1 0
  have p1 : wz.cell? ⟨w.heap.size, 1, none⟩ = some (.int .u64 0) := cell_at s1 1
  have p2 : wz.cell? ⟨w.heap.size, 2, none⟩ = some (.int .i64 0) := cell_at s1 2
  have p3 : wz.cell? ⟨w.heap.size, 3, none⟩ = some (.int .i64 0) := cell_at s1 3
  have p4 : wz.cell? ⟨w.heap.size, 4, none⟩ = some (.bool false) := cell_at s1 4
  have p5 : wz.cell? ⟨w.heap.size, 5, none⟩ = some (.string ⟨#[]⟩) := cell_at s1 5
  refine bodyPost_ret (v := .tuple #[.agg #[.string ⟨#[]⟩, .int .u64 0, .int .i64 0, .int .i64 0, .bool false, .string ⟨#[]⟩], .int .i64 1]) (by simp [results, Tryd.results29, go_sem, p0, p1, p2, p3, p4, p5]) rfl ?_
  exact ⟨rfl, HOA.out.tr s2 (fun i hi e => by omega)⟩
set_option maxRecDepth 100000 in
set_option maxHeartbeats 4000000 in
theorem kwdr_any (w : World) (x b : Nat) (k : KeepT) (h : KeepAt w x b k) (hx0 : x ≠ 0 ∧ b ≠ 0) (m : Int) (hm : w.cell? ⟨0, 0, none⟩ = some (.int .i64 m)) (n : ByteArray) (hn64 : n.size ≤ 64) :
    Calls Tryd.prog 29 #[.pointer (some ⟨x, 0, none⟩), .string n] w fun e w' => e = .returned (.tuple #[recT (wdrR k n), .int .i64 (wdrE k n)]) ∧ Only (fun i => i = x ∨ i = b) w w' ∧ KeepAt w' x b (wdrK k n) := by
  have HE := Lib.hid (show wdrE k n = if namedP n = false then 9 else if (findW k.own n).isSome = false then 6 else if k.count = 4294967295 then 15 else 0 from rfl)
  have HNO := Lib.hid (show ∀ (c : Int) (w' : World), wdrE k n = c → c ≠ 0 → Only (fun _ => False) w w' → (Ending.returned (.tuple #[.agg #[.string ⟨#[]⟩, .int .u64 0, .int .i64 0, .int .i64 0, .bool false, .string ⟨#[]⟩], .int .i64 c]) = .returned (.tuple #[recT (wdrR k n), .int .i64 (wdrE k n)]) ∧ Only (fun i => i = x ∨ i = b) w w' ∧ KeepAt w' x b (wdrK k n)) from fun c w' e hc ho => by
    unfold wdrR wdrK
    rw [e, if_neg hc, if_neg hc]
    exact ⟨rfl, ho.weaken (fun _ _ => False.elim), h.new ho⟩)
  have HYES := Lib.hid (show ∀ (w' : World), wdrE k n = 0 → Only (fun i => i = x ∨ i = b) w w' → KeepAt w' x b { k with count := k.count + 1, own := delW n k.own } → (Ending.returned (.tuple #[recT (goneR k.self k.life (k.count + 1) n), .int .i64 0]) = .returned (.tuple #[recT (wdrR k n), .int .i64 (wdrE k n)]) ∧ Only (fun i => i = x ∨ i = b) w w' ∧ KeepAt w' x b (wdrK k n)) from fun w' e ho hk => by
    unfold wdrR wdrK
    rw [e, if_pos rfl, if_pos rfl]
    exact ⟨rfl, ho, hk⟩)
  have HREG := Lib.hid (h.ok.wdr n)
  have HRK := Lib.hid (show wdrE k n = 0 → wdrK k n = { k with count := k.count + 1, own := delW n k.own } from fun e => by unfold wdrK; rw [if_pos e])
  have hkm : n.size ≤ maxLen := by unfold maxLen; omega
  have HKO := Lib.hid (strOk hkm)
  have HMV := Lib.hid (fun (hn : namedP n = true) (hc : k.count + 1 < 4294967296) => made_val (c := k.count + 1) ⟨n, 0, 0, 0, 0, 0, 0, 0⟩ h.ok.selfB.1 h.ok.selfB.2 h.ok.lifeB.1 h.ok.lifeB.2 hc hn)
  have hlt := h.lt
  have hne := h.ne
  have hcb := h.ok.countB
  have hlk := fun w1 (ho : Only (fun _ => False) w w1) => (h.map.kept ho id).look strKeyed strInj Tryd.underlying150 (z := zeroW) (zeroSvc w1) (strOk hkm) true
  simp only [look_prsV] at hlk
  generalize (findW k.own n).getD zeroW = y at *
  generalize (findW k.own n).isSome = ok at *
  obtain ⟨yn, y0, y1, y2, y3, yp, yq, yr⟩ := y
  have hlk2 : ∀ w1, Only (fun _ => False) w w1 → (Instr.lookup 150 (.map (some b)) (.string n) true).run Tryd.prog w1 = .ok (.tuple #[.agg #[.string yn, .int .u8 y0, .int .u8 y1, .int .u8 y2, .int .u8 y3, .int .u16 yp, .int .u16 yq, .int .u16 yr], .bool ok]) w1 := fun w1 ho => hlk w1 ho
  obtain ⟨W1, hW1⟩ : ∃ W1, W1 = w.alloc (.cells #[.string ⟨#[]⟩, .int .u64 0, .int .i64 0, .int .i64 0, .bool false, .string ⟨#[]⟩] 33) := ⟨_, rfl⟩
  have hbW1 : W1.heap[w.heap.size]? = some (.cells #[.string ⟨#[]⟩, .int .u64 0, .int .i64 0, .int .i64 0, .bool false, .string ⟨#[]⟩] 33 (0, 0)) := by rw [hW1]; exact heap_alloc_new w _
  have hoW1 : Only (fun _ => False) w W1 := by rw [hW1]; exact (Only.refl _ _).alloc _
  have hsW1 : W1.heap.size = w.heap.size + 1 := by rw [hW1]; simp
  obtain ⟨V, hV⟩ : ∃ V, V = W1.alloc (.cells #[.string yn, .int .u8 y0, .int .u8 y1, .int .u8 y2, .int .u8 y3, .int .u16 yp, .int .u16 yq, .int .u16 yr] 86) := ⟨_, rfl⟩
  have hbV : V.heap[W1.heap.size]? = some (.cells #[.string yn, .int .u8 y0, .int .u8 y1, .int .u8 y2, .int .u8 y3, .int .u16 yp, .int .u16 yq, .int .u16 yr] 86 (0, 0)) := by rw [hV]; exact heap_alloc_new W1 _
  have hoV : Only (fun _ => False) W1 V := by rw [hV]; exact (Only.refl _ _).alloc _
  have hsV : V.heap.size = W1.heap.size + 1 := by rw [hV]; simp
  have hz2 := hoV.old hbW1 id
  have hoB := hoW1.trans hoV
  have hm2 := hoB.cell hm id
  have hk1 := h.new hoW1
  have hk2 := h.new hoB
  have HX1 := Lib.hid (show x < w.heap.size ∧ b < w.heap.size ∧ w.heap.size < W1.heap.size by omega)
  have hlkA := hlk2 W1 hoW1
  have c5 : W1.cell? ⟨x, 5, none⟩ = some (.map (some b)) := cell_at hk1.blk 5
  have hnm := named_any V n m hm2 hkm
  have HZ2 := Lib.hid hz2
  have HOB := Lib.hid hoB
  have HM2 := Lib.hid hm2
  have HK2 := Lib.hid hk2
  have HNM := Lib.hid hnm
  clear hz2 hoB hm2 hk2 hnm
  clear hlk hlk2 hm h hoV hsV hbV hoW1 hbW1 hk1
  go_enter Tryd.func29, Tryd.ntmps29
  go_upto_region 1 with (fail)
  rw [← hW1]
  clear hW1
  generalize hX : w.heap.size = X at *
  have HXW := Lib.hid hX
  clear hX
  go_upto_region 4 with (fail)
  rw [← hV]
  clear hV hlkA c5 hsW1
  go_wp2_with fail
  refine HNM.out.mono ?_
  rintro e w3 ⟨rfl, ho3⟩
  have hk3 := HK2.out.new ho3
  have hz3 := ho3.old HZ2.out id
  have hm3 := ho3.cell HM2.out id
  have hoC := HOB.out.trans ho3
  have HK3 := Lib.hid hk3
  have HZ3 := Lib.hid hz3
  have HM3 := Lib.hid hm3
  have HOC := Lib.hid hoC
  clear hk3 hz3 hm3 hoC
  clear ho3 HK2 HZ2 HM2 HOB HNM
  cases hnn : namedP n
  · -- name
    have e9 : wdrE k n = 9 := by rw [HE.out, hnn]; rfl
    clear hnn
    have zz := HZ3.out
    have z0 : w3.cell? ⟨X, 0, none⟩ = some (.string ⟨#[]⟩) := cell_at zz 0
    have z1 : w3.cell? ⟨X, 1, none⟩ = some (.int .u64 0) := cell_at zz 1
    have z2 : w3.cell? ⟨X, 2, none⟩ = some (.int .i64 0) := cell_at zz 2
    have z3 : w3.cell? ⟨X, 3, none⟩ = some (.int .i64 0) := cell_at zz 3
    have z4 : w3.cell? ⟨X, 4, none⟩ = some (.bool false) := cell_at zz 4
    have z5 : w3.cell? ⟨X, 5, none⟩ = some (.string ⟨#[]⟩) := cell_at zz 5
    have zf : ∀ i, w3.frozen? ⟨X, i, none⟩ = false := free_at zz
    clear zz
    go_wp2_with fail
    obtain ⟨s1, s2⟩ := six_set HZ3.out (.string ⟨#[]⟩) (.int .u64 0) (.int .i64 0) (.int .i64 0) (.bool false) (.string ⟨#[]⟩)
    generalize ((((((w3.setCell ⟨X, 0, none⟩ (.string ⟨#[]⟩)).setCell ⟨X, 1, none⟩ (.int .u64 0)).setCell ⟨X, 2, none⟩ (.int .i64 0)).setCell ⟨X, 3, none⟩ (.int .i64 0)).setCell ⟨X, 4, none⟩ (.bool false)).setCell ⟨X, 5, none⟩ (.string ⟨#[]⟩)) = wz at *
    have p0 : wz.cell? ⟨X, 0, none⟩ = some (.string ⟨#[]⟩) := cell_at s1 0
    have p1 : wz.cell? ⟨X, 1, none⟩ = some (.int .u64 0) := cell_at s1 1
    have p2 : wz.cell? ⟨X, 2, none⟩ = some (.int .i64 0) := cell_at s1 2
    have p3 : wz.cell? ⟨X, 3, none⟩ = some (.int .i64 0) := cell_at s1 3
    have p4 : wz.cell? ⟨X, 4, none⟩ = some (.bool false) := cell_at s1 4
    have p5 : wz.cell? ⟨X, 5, none⟩ = some (.string ⟨#[]⟩) := cell_at s1 5
    refine bodyPost_ret (v := .tuple #[.agg #[.string ⟨#[]⟩, .int .u64 0, .int .i64 0, .int .i64 0, .bool false, .string ⟨#[]⟩], .int .i64 9]) (by simp [results, Tryd.results29, go_sem, p0, p1, p2, p3, p4, p5]) rfl ?_
    exact HNO.out 9 _ e9 (by decide) ((HOC.out).tr s2 (fun i hi e => by have h1 : i = X := e; have h3 := HXW.out; omega))
  · have HE2 := Lib.hid (show wdrE k n = if ok = false then 6 else if k.count = 4294967295 then 15 else 0 by rw [HE.out, hnn]; rfl)
    have HNN := Lib.hid hnn
    clear hnn HE
    cases ok
    · -- none
      have e6 : wdrE k n = 6 := by rw [HE2.out]; rfl
      have zz := HZ3.out
      have z0 : w3.cell? ⟨X, 0, none⟩ = some (.string ⟨#[]⟩) := cell_at zz 0
      have z1 : w3.cell? ⟨X, 1, none⟩ = some (.int .u64 0) := cell_at zz 1
      have z2 : w3.cell? ⟨X, 2, none⟩ = some (.int .i64 0) := cell_at zz 2
      have z3 : w3.cell? ⟨X, 3, none⟩ = some (.int .i64 0) := cell_at zz 3
      have z4 : w3.cell? ⟨X, 4, none⟩ = some (.bool false) := cell_at zz 4
      have z5 : w3.cell? ⟨X, 5, none⟩ = some (.string ⟨#[]⟩) := cell_at zz 5
      have zf : ∀ i, w3.frozen? ⟨X, i, none⟩ = false := free_at zz
      clear zz
      go_wp2_with fail
      obtain ⟨s1, s2⟩ := six_set HZ3.out (.string ⟨#[]⟩) (.int .u64 0) (.int .i64 0) (.int .i64 0) (.bool false) (.string ⟨#[]⟩)
      generalize ((((((w3.setCell ⟨X, 0, none⟩ (.string ⟨#[]⟩)).setCell ⟨X, 1, none⟩ (.int .u64 0)).setCell ⟨X, 2, none⟩ (.int .i64 0)).setCell ⟨X, 3, none⟩ (.int .i64 0)).setCell ⟨X, 4, none⟩ (.bool false)).setCell ⟨X, 5, none⟩ (.string ⟨#[]⟩)) = wz at *
      have p0 : wz.cell? ⟨X, 0, none⟩ = some (.string ⟨#[]⟩) := cell_at s1 0
      have p1 : wz.cell? ⟨X, 1, none⟩ = some (.int .u64 0) := cell_at s1 1
      have p2 : wz.cell? ⟨X, 2, none⟩ = some (.int .i64 0) := cell_at s1 2
      have p3 : wz.cell? ⟨X, 3, none⟩ = some (.int .i64 0) := cell_at s1 3
      have p4 : wz.cell? ⟨X, 4, none⟩ = some (.bool false) := cell_at s1 4
      have p5 : wz.cell? ⟨X, 5, none⟩ = some (.string ⟨#[]⟩) := cell_at s1 5
      refine bodyPost_ret (v := .tuple #[.agg #[.string ⟨#[]⟩, .int .u64 0, .int .i64 0, .int .i64 0, .bool false, .string ⟨#[]⟩], .int .i64 6]) (by simp [results, Tryd.results29, go_sem, p0, p1, p2, p3, p4, p5]) rfl ?_
      exact HNO.out 6 _ e6 (by decide) ((HOC.out).tr s2 (fun i hi e => by have h1 : i = X := e; have h3 := HXW.out; omega))
    · have HE3 := Lib.hid (show wdrE k n = if k.count = 4294967295 then 15 else 0 by rw [HE2.out]; rfl)
      clear HE2
      have hsp := kspent_any w3 x b k HK3.out
      have HSP := Lib.hid hsp
      clear hsp
      go_wp2_with fail
      refine HSP.out.mono ?_
      rintro e w4 ⟨rfl, rfl⟩
      by_cases hc : k.count = 4294967295
      · -- spent
        have e15 : wdrE k n = 15 := by rw [HE3.out, if_pos hc]
        rw [decide_eq_true hc]
        clear hc
        have zz := HZ3.out
        have z0 : w3.cell? ⟨X, 0, none⟩ = some (.string ⟨#[]⟩) := cell_at zz 0
        have z1 : w3.cell? ⟨X, 1, none⟩ = some (.int .u64 0) := cell_at zz 1
        have z2 : w3.cell? ⟨X, 2, none⟩ = some (.int .i64 0) := cell_at zz 2
        have z3 : w3.cell? ⟨X, 3, none⟩ = some (.int .i64 0) := cell_at zz 3
        have z4 : w3.cell? ⟨X, 4, none⟩ = some (.bool false) := cell_at zz 4
        have z5 : w3.cell? ⟨X, 5, none⟩ = some (.string ⟨#[]⟩) := cell_at zz 5
        have zf : ∀ i, w3.frozen? ⟨X, i, none⟩ = false := free_at zz
        clear zz
        go_wp2_with fail
        obtain ⟨s1, s2⟩ := six_set HZ3.out (.string ⟨#[]⟩) (.int .u64 0) (.int .i64 0) (.int .i64 0) (.bool false) (.string ⟨#[]⟩)
        generalize ((((((w3.setCell ⟨X, 0, none⟩ (.string ⟨#[]⟩)).setCell ⟨X, 1, none⟩ (.int .u64 0)).setCell ⟨X, 2, none⟩ (.int .i64 0)).setCell ⟨X, 3, none⟩ (.int .i64 0)).setCell ⟨X, 4, none⟩ (.bool false)).setCell ⟨X, 5, none⟩ (.string ⟨#[]⟩)) = wz at *
        have p0 : wz.cell? ⟨X, 0, none⟩ = some (.string ⟨#[]⟩) := cell_at s1 0
        have p1 : wz.cell? ⟨X, 1, none⟩ = some (.int .u64 0) := cell_at s1 1
        have p2 : wz.cell? ⟨X, 2, none⟩ = some (.int .i64 0) := cell_at s1 2
        have p3 : wz.cell? ⟨X, 3, none⟩ = some (.int .i64 0) := cell_at s1 3
        have p4 : wz.cell? ⟨X, 4, none⟩ = some (.bool false) := cell_at s1 4
        have p5 : wz.cell? ⟨X, 5, none⟩ = some (.string ⟨#[]⟩) := cell_at s1 5
        refine bodyPost_ret (v := .tuple #[.agg #[.string ⟨#[]⟩, .int .u64 0, .int .i64 0, .int .i64 0, .bool false, .string ⟨#[]⟩], .int .i64 15]) (by simp [results, Tryd.results29, go_sem, p0, p1, p2, p3, p4, p5]) rfl ?_
        exact HNO.out 15 _ e15 (by decide) ((HOC.out).tr s2 (fun i hi e => by have h1 : i = X := e; have h3 := HXW.out; omega))
      · -- make
        have e0 : wdrE k n = 0 := by rw [HE3.out, if_neg hc]
        have hkr := HREG.out
        rw [HRK.out e0] at hkr
        obtain ⟨mv1, _, mv2, mv4⟩ := HMV.out HNN.out (by omega)
        rw [decide_eq_false hc]
        have HE0 := Lib.hid e0
        have HKR := Lib.hid hkr
        have HMV1 := Lib.hid mv1
        have HMV2 := Lib.hid mv2
        have HMV4 := Lib.hid mv4
        clear e0 hkr mv1 mv2 mv4
        have hcc : k.count < 4294967295 := by omega
        clear hc HE3 HREG HRK HMV HSP
        have c5 : w3.cell? ⟨x, 5, none⟩ = some (.map (some b)) := cell_at HK3.out.blk 5
        go_wp2_with (first | (at_delete; refine wpList_mapDrop rfl _ _ _ rfl HK3.out.map strKeyed strInj Tryd.underlying150 rfl rfl HKO.out ?_; intro w6 hm6 ho6; have HM6 := Lib.hid hm6; have HO6 := Lib.hid ho6; clear hm6 ho6))
        simp only [Act.put]
        clear c5
        have hz6 := HO6.out.old HZ3.out (fun e => by have h1 : X = b := e; have h2 := HX1.out; omega)
        have hm6 := HO6.out.cell HM3.out (fun e => hx0.2 (Eq.symm e))
        have hblk6 := HO6.out.old HK3.out.blk hne
        have hmap6 := HM6.out
        rw [del_prsV] at hmap6
        have hk6 : KeepAt w6 x b { k with own := delW n k.own } := ⟨hblk6, hmap6, HKR.out.with hcb HKR.out.rises HKR.out.names HKR.out.room⟩
        have hx6 : w6.cell? ⟨x, 0, none⟩ = some (.int .i64 k.self) := cell_at hblk6 0
        have HKN := Lib.hid (fun w' (ho : Only (fun _ => False) w6 w') => knext_any w' x b _ (hk6.new ho) (show k.count < 4294967295 from hcc))
        have HMK := Lib.hid (fun w' (hm' : w'.cell? ⟨0, 0, none⟩ = some (.int .i64 m)) => gone_any w' k.self (k.life * 4294967296 + (k.count + 1)) n m hm' HMV4.out hkm)
        rw [HMV2.out, HMV1.out] at HMK
        have hoD : Only (fun i => i = x ∨ i = b) w w6 := (HOC.out.weaken (fun _ _ => False.elim)).trans (HO6.out.weaken (fun _ _ e => .inr e))
        have HZ6 := Lib.hid hz6
        have HMM6 := Lib.hid hm6
        have HOD := Lib.hid hoD
        clear hz6 hm6 hoD
        unfold recT goneR at HMK
        dsimp only at HMK
        have HNE2 := Lib.hid (show ¬ X = x by have h2 := HX1.out; omega)
        have HNE2b := Lib.hid (show ¬ (0 : Nat) = x from fun e => hx0.1 e.symm)
        unfold recT goneR at HYES
        dsimp only at HYES
        generalize k.life * 4294967296 + (k.count + 1) = V4 at *
        go_cut [5] (fun v5 wx => v5 = .int .i64 0 ∧ wx.heap[X]? = some (.cells #[.string (keyB k.self n), .int .u64 V4, .int .i64 k.self, .int .i64 0, .bool true, .string ⟨#[]⟩] 33 (0, 0)) ∧ Only (fun i => i = x ∨ i = X) w6 wx ∧ KeepAt wx x b { k with count := k.count + 1, own := delW n k.own })
        case first =>
          have z6 := HZ6.out
          go_region_held3 (fun w' => w'.cell? ⟨x, 0, none⟩ = some (.int .i64 k.self))
            (((repeat (first | (with_reducible assumption) | (with_reducible apply keepDv) | (with_reducible apply keepNv) | (with_reducible apply keepSv HNE2.out)))))
            (first
              | (go_at_call 75; (with_reducible refine (HKN.out _ (by (repeat (first | (with_reducible assumption) | (with_reducible exact Only.refl _ _) | (with_reducible refine Only.drew ?_) | (with_reducible refine Only.alloc ?_ _) | (with_reducible refine onlySet ?_ (by first | (with_reducible assumption) | omega) _) | (with_reducible refine Only.trans ?_ (by with_reducible assumption)))))).mono ?_); rintro e w7 ⟨rfl, ho7, hk7⟩; have o7 : Only (fun i => i = x) w6 w7 := (by (refine Only.trans (b := _) ?_ ho7; refine Only.weaken (S := fun _ => False) ?_ (fun _ _ => False.elim); (repeat (first | (with_reducible assumption) | (with_reducible exact Only.refl _ _) | (with_reducible refine Only.drew ?_) | (with_reducible refine Only.alloc ?_ _) | (with_reducible refine onlySet ?_ (by first | (with_reducible assumption) | omega) _) | (with_reducible refine Only.trans ?_ (by with_reducible assumption)))))); have g7x := cell_at hk7.blk 0; simp at g7x; have z7 := o7.old HZ6.out HNE2.out; have m7 := o7.cell HMM6.out HNE2b.out; have HK7 := Lib.hid hk7)
              | (go_at_call 74; (with_reducible refine (HMK.out _ (by (repeat (first | (with_reducible assumption) | (with_reducible apply keepDv))))).mono ?_); rintro e w8 ⟨rfl, ho8⟩; have g8x := Only.cell ho8 g7x id; have z8 := Only.old ho8 z7 id; have zc0 := cell_at z8 0; have zc1 := cell_at z8 1; have zc2 := cell_at z8 2; have zc3 := cell_at z8 3; have zc4 := cell_at z8 4; have zc5 := cell_at z8 5; simp at zc0 zc1 zc2 zc3 zc4 zc5; have zf8 := free_at z8; have zl8 := lt_of_block z8; have o8 : Only (fun i => i = x) w6 w8 := Only.trans o7 (Only.weaken (S := fun _ => False) ho8 (fun _ _ => False.elim)); have HK8 := Lib.hid (KeepAt.new HK7.out ho8)))
          all_goals
            go_wp2_with fail
            go_meet
            refine ⟨rfl, ?_, (o8.weaken (T := fun i => i = x ∨ i = X) (fun _ _ e => .inl e)).trans (Only.weaken (S := fun i => i = X) ?_ (fun _ _ e => .inr e)), HK8.out.kept (S := fun i => i = X) ?_ (fun e => HNE2.out (Eq.symm e)) (fun e => by have h1 : b = X := e; have h2 := HX1.out; omega)⟩
            · (apply Eq.trans; (case h₁ => repeat (first | (with_reducible assumption) | (with_reducible exact heap_alloc_new _ _) | (with_reducible apply blk_new; (repeat (first | (with_reducible rfl) | (with_reducible apply sz_set) | (with_reducible apply sz_alloc) | (with_reducible apply sz_drew))); done) | (with_reducible apply blk_same) | (with_reducible apply blk_ne; case hn => (first | assumption | omega)) | (with_reducible apply blk_old) | (with_reducible apply blk_drew))); (case h₂ => rfl))
            · (repeat (first | (with_reducible assumption) | (with_reducible exact Only.refl _ _) | (with_reducible refine Only.drew ?_) | (with_reducible refine onlyPutV ?_ _)))
            · (repeat (first | (with_reducible assumption) | (with_reducible exact Only.refl _ _) | (with_reducible refine Only.drew ?_) | (with_reducible refine onlyPutV ?_ _)))
        case rest =>
        obtain ⟨rfl, hz9, ho9, hk9⟩ := hcut
        have p0 : wc.cell? ⟨X, 0, none⟩ = some (.string (keyB k.self n)) := cell_at hz9 0
        have p1 : wc.cell? ⟨X, 1, none⟩ = some (.int .u64 V4) := cell_at hz9 1
        have p2 : wc.cell? ⟨X, 2, none⟩ = some (.int .i64 k.self) := cell_at hz9 2
        have p3 : wc.cell? ⟨X, 3, none⟩ = some (.int .i64 0) := cell_at hz9 3
        have p4 : wc.cell? ⟨X, 4, none⟩ = some (.bool true) := cell_at hz9 4
        have p5 : wc.cell? ⟨X, 5, none⟩ = some (.string ⟨#[]⟩) := cell_at hz9 5
        have hoE : Only (fun i => i = x ∨ i = b) w wc := HOD.out.tr ho9 (fun i hi e => by
          have h1 : i = x ∨ i = X := e
          have h2 := HX1.out
          have h3 := HXW.out
          rcases h1 with h1 | h1
          · exact .inl h1
          · omega)
        have HOE := Lib.hid hoE
        have HK9 := Lib.hid hk9
        clear hoE hk9
        clear ho9 hz9 hx6
        go_wp2_with fail
        refine bodyPost_ret (v := .tuple #[.agg #[.string (keyB k.self n), .int .u64 V4, .int .i64 k.self, .int .i64 0, .bool true, .string ⟨#[]⟩], .int .i64 0]) (by simp [results, Tryd.results29, go_sem, p0, p1, p2, p3, p4, p5]) rfl ?_
        exact HYES.out _ HE0.out HOE.out HK9.out
end Go.Proofs.YtianboachknfmaaDoor
/-! A keeper: Tick. -/
namespace Go.Proofs.YtianboachknfmaaDoor
open Go.Conc Go.RowKit Go.Maps

theorem ktick_nil (w : World) : Calls Tryd.prog 33 #[.pointer none] w fun e w' => e = .returned (.slice none 0 0) ∧ w = w' := by
  go_enter Tryd.func33, Tryd.ntmps33
  go_wp2_with fail
  go_ret
  exact ⟨rfl, rfl⟩
theorem tellRs_get (self : Int) (life : Nat) (l : List SvcT) (c j : Nat) (hc : c ≤ 4294967295) (hj : j = min l.length (4294967295 - c)) : tellRs self life c l = (List.range j).map (fun i => madeR self life (c + 1 + i) (l.getD i zeroW)) := by
  obtain ⟨h1, h2⟩ := tellRs_take self life l c hc
  rw [h2, h1, hj]
theorem madeL_snocW (self : Int) (life : Nat) (l : List SvcT) (c j : Nat) (hj : j < l.length) : (List.range (j + 1)).map (fun i => madeR self life (c + 1 + i) (l.getD i zeroW)) = (List.range j).map (fun i => madeR self life (c + 1 + i) (l.getD i zeroW)) ++ [madeR self life (c + j + 1) l[j]] := by
  rw [List.range_succ, List.map_append, List.map_singleton]
  congr 3
  · omega
  · rw [List.getD_eq_getElem?_getD, List.getElem?_eq_getElem hj]; rfl
theorem onlySetX {V w : World} {x c i : Nat} (h : Only (fun k => k = x) V w) (hc : V.heap.size ≤ c) (v : Value) : Only (fun k => k = x) V (w.setCell ⟨c, i, none⟩ v) := h.setCell (p := ⟨c, i, none⟩) (.inl hc) v
theorem onlySetG {W w : World} {B c i : Nat} (h : Only (fun k => B ≤ k) W w) (hc : B ≤ c) (v : Value) : Only (fun k => B ≤ k) W (w.setCell ⟨c, i, none⟩ v) := h.setCell (S := fun k => B ≤ k) (p := ⟨c, i, none⟩) (.inr hc) v
set_option maxRecDepth 100000 in
set_option maxHeartbeats 4000000 in
theorem ktick_any (w : World) (x b : Nat) (k : KeepT) (h : KeepAt w x b k) (hx0 : x ≠ 0 ∧ b ≠ 0) (m : Int) (hm : w.cell? ⟨0, 0, none⟩ = some (.int .i64 m)) :
    Calls Tryd.prog 33 #[.pointer (some ⟨x, 0, none⟩)] w fun e w' => ∃ v, e = .returned v ∧ Only (fun i => i = x) w w' ∧ KeepAt w' x b (tickK k) ∧ RecRow w' w.heap.size v (tickL k) := by
  obtain ⟨i0, hi0, iz0, iz1, iz2⟩ := info_parts infoRec
  have hev := h.ok.everyB
  have htk := h.ok.tickB
  have hcb := h.ok.countB
  have hlt := h.lt
  have hne := h.ne
  have hq0 : 0 ≤ (k.tick + 1) % k.every := Int.emod_nonneg _ (by omega)
  have hq1 : (k.tick + 1) % k.every < k.every := Int.emod_lt_of_pos _ (by omega)
  have HK1 := Lib.hid (show ∀ w', Only (fun i => i = x) w w' → w'.heap[x]? = some (.cells #[.int .i64 k.self, .int .u32 k.life, .int .u32 k.count, .int .i64 k.every, .int .i64 ((k.tick + 1) % k.every), .map (some b)] 152 (0, 0)) → KeepAt w' x b { k with tick := (k.tick + 1) % k.every } from fun w' ho hb =>
    ⟨hb, h.map.kept ho (Ne.symm hne), ⟨h.ok.selfB, h.ok.lifeB, h.ok.countB, h.ok.everyB, ⟨hq0, hq1⟩, h.ok.rises, h.ok.names, h.ok.room⟩⟩)
  have HTD := Lib.hid (show tickD k = decide ((k.tick + 1) % k.every = 0) from rfl)
  have HTK := Lib.hid (show tickK k = { k with tick := (k.tick + 1) % k.every, count := if tickD k then k.count + (tellRs k.self k.life k.count k.own).length else k.count } from rfl)
  have HTL := Lib.hid (show tickL k = if tickD k then tellRs k.self k.life k.count k.own else [] from rfl)
  have HLEN := Lib.hid (show (tellRs k.self k.life k.count k.own).length = min k.own.length (4294967295 - k.count) from (tellRs_take k.self k.life k.own k.count (by omega)).1)
  have HGET := Lib.hid (fun j (hj : j = min k.own.length (4294967295 - k.count)) => tellRs_get k.self k.life k.own k.count j (by omega) hj)
  have hok := h.ok
  have hblk := h.blk
  have e3 : w.cell? ⟨x, 3, none⟩ = some (.int .i64 k.every) := cell_at hblk 3
  have e4 : w.cell? ⟨x, 4, none⟩ = some (.int .i64 k.tick) := cell_at hblk 4
  have ef : ∀ i, w.frozen? ⟨x, i, none⟩ = false := free_at hblk
  obtain ⟨hev1, hev2⟩ := hev
  obtain ⟨htk1, htk2⟩ := htk
  have hkn0 : ¬ k.every = 0 := by omega
  have HHB := Lib.hid hblk
  have HOK := Lib.hid hok
  have HM := Lib.hid hm
  clear hok hm
  clear h
  go_enter Tryd.func33, Tryd.ntmps33
  go_upto_region 3 with (fail)
  go_cut [20] (fun _ wx => Only (fun i => i = x) w wx ∧ KeepAt wx x b { k with tick := (k.tick + 1) % k.every })
  case first =>
    go_region
    all_goals
      go_wp2_with fail
      go_meet
      have hblk := HHB.out
      refine ⟨?_, HK1.out _ ?_ ?_⟩
      · (repeat (first | (with_reducible assumption) | (with_reducible exact Only.refl _ _) | (with_reducible refine Only.drew ?_) | (with_reducible refine onlyPutV ?_ _)))
      · (repeat (first | (with_reducible assumption) | (with_reducible exact Only.refl _ _) | (with_reducible refine Only.drew ?_) | (with_reducible refine onlyPutV ?_ _)))
      · (apply Eq.trans; (case h₁ => repeat (first | (with_reducible assumption) | (with_reducible exact heap_alloc_new _ _) | (with_reducible apply blk_new; (repeat (first | (with_reducible rfl) | (with_reducible apply sz_set) | (with_reducible apply sz_alloc) | (with_reducible apply sz_drew))); done) | (with_reducible apply blk_same) | (with_reducible apply blk_ne; case hn => (first | assumption | omega)) | (with_reducible apply blk_old) | (with_reducible apply blk_drew))); (case h₂ => rfl))
  case rest =>
  obtain ⟨ho1, hk1⟩ := hcut
  generalize wc = w1 at *
  have hm1 := ho1.cell HM.out (fun e => hx0.1 (Eq.symm e))
  have g4 : w1.cell? ⟨x, 4, none⟩ = some (.int .i64 ((k.tick + 1) % k.every)) := cell_at hk1.blk 4
  have hsz1 := ho1.size
  have HO1 := Lib.hid ho1
  have HKP := Lib.hid hk1
  have HM1 := Lib.hid hm1
  clear ho1 hk1 hm1
  clear HK1 e3 e4 ef HM
  generalize hQ : (k.tick + 1) % k.every = Q at *
  by_cases hz : Q = 0
  · -- yes
    have hzb : (Q != 0) = false := by simpa using hz
    have HTT := Lib.hid (show tickD k = true by rw [HTD.out]; exact decide_eq_true hz)
    have hown := own_any w1 x b _ HKP.out
    dsimp only at hown
    have hnm := HOK.out.names
    have hroom := HOK.out.room
    have hsB := HOK.out.selfB
    have hlB := HOK.out.lifeB
    have HOWN := Lib.hid hown
    have HNM := Lib.hid hnm
    have HSB := Lib.hid hsB
    have HLB := Lib.hid hlB
    have HHQ := Lib.hid hQ
    clear hown hnm hsB hlB hQ
    clear hz
    go_wp2_with fail
    refine HOWN.out.mono ?_
    rintro e w2 ⟨v2, rfl, ho2, hrow2⟩
    have hsl2 : Sl w2 8 v2 k.own.length (k.own.flatMap svcCs) := Sl.of_owns hrow2
    obtain ⟨oa, ocap, rfl, oc0, oc1, oc2⟩ := Sl.cells svcCs_length hsl2
    unfold maxLen at oc1
    have hk2 := HKP.out.new ho2
    have hm2 := ho2.cell HM1.out id
    have hoA := HO1.out.trans (ho2.weaken (T := fun i => i = x) (fun _ _ => False.elim))
    have hbl : 0 < k.own.length → ∀ lb off, oa = some ⟨lb, off, none⟩ → w1.heap.size ≤ lb := fun h0 lb off e => by
      subst e
      exact (hrow2.lt lb rfl).1
    have hsz2 := ho2.size
    have HSZ := Lib.hid (show w.heap.size ≤ w2.heap.size by omega)
    have hx2 : x < w2.heap.size ∧ b < w2.heap.size := by omega
    obtain ⟨hx2, hb2⟩ := hx2
    have HK2 := Lib.hid hk2
    have HM2 := Lib.hid hm2
    have HOA := Lib.hid hoA
    have HOC := Lib.hid oc2
    have HBL := Lib.hid hbl
    clear hk2 hm2 hoA oc2 hbl
    clear ho2 hrow2 hsl2 HOWN HKP HM1 HO1 g4
    go_upto_block 0 with fail
    go_cut [3] (fun v3 wx => Only (fun i => i = x) w2 wx ∧ KeepAt wx x b (tickK k) ∧ RecRow wx w.heap.size v3 (tickL k))
    case first =>
      go_wp2_with fail
      go_loopg [3, 31] k.own.length (fun g v3 v31 wr => ∃ j : Nat, v31 = .int .i64 j ∧ j ≤ k.own.length ∧ k.count + j ≤ 4294967295 ∧ Only (fun i => i = x) w2 wr ∧ KeepAt wr x b { k with tick := Q, count := k.count + j } ∧ RecRow wr w2.heap.size v3 ((List.range j).map (fun i => madeR k.self k.life (k.count + 1 + i) (k.own.getD i zeroW))) ∧ g = k.own.length - j)
      case atStart => exact ⟨0, rfl, Nat.zero_le _, by omega, Only.refl _ _, HK2.out, World.ownsRow_nil _ _ _ _, rfl⟩
      case round =>
        obtain ⟨j, rfl, hj, hcj, ho, hkj, hrow, hg⟩ := hrel
        have Hg := Lib.hid hg
        have HO := Lib.hid ho
        have HKJ := Lib.hid hkj
        have HROW := Lib.hid hrow
        clear hg ho hkj hrow
        have HFIN := Lib.hid (show j = min k.own.length (4294967295 - k.count) → Only (fun i => i = x) w2 wr ∧ KeepAt wr x b (tickK k) ∧ RecRow wr w.heap.size u3 (tickL k) from fun hj => by
          refine ⟨HO.out, ?_, ?_⟩
          · rw [HTK.out, HTT.out, HLEN.out, ← hj]
            exact HKJ.out
          · rw [HTL.out, HTT.out]
            show RecRow wr w.heap.size u3 (tellRs k.self k.life k.count k.own)
            rw [HGET.out j hj]
            exact ownsRow_base_a HROW.out HSZ.out)
        by_cases hlt : j < k.own.length
        · obtain ⟨lb, off, he, hc⟩ := HOC.out.at j hlt
          have hlbs : w1.heap.size ≤ lb := HBL.out (by omega) lb off he
          subst he
          have hcr : ∀ i u, (svcCs k.own[j])[i]? = some u → wr.cell? ⟨lb, off + j * 8 + i, none⟩ = some u := fun i u hu => HO.out.cell (hc i u hu) (fun e => by
            have h9 : lb = x := e
            omega)
          have HTS := Lib.hid (madeL_snocW k.self k.life k.own k.count j hlt)
          obtain ⟨hyn, hyo⟩ := HNM.out _ (List.getElem_mem hlt)
          have hlt' : (j : Int) < (k.own.length : Int) := by omega
          generalize k.own[j] = y at *
          obtain ⟨n1, a0, a1, a2, a3, p1, q1, r1⟩ := y
          obtain ⟨hn64, _, _, _, _, hp1, hq1', hr1⟩ := hyo
          simp only at hyn hn64 hp1 hq1' hr1
          have y0 := hcr 0 _ rfl
          have y1 := hcr 1 _ rfl
          have y2 := hcr 2 _ rfl
          have y3 := hcr 3 _ rfl
          have y4 := hcr 4 _ rfl
          have y5 := hcr 5 _ rfl
          have y6 := hcr 6 _ rfl
          have y7 := hcr 7 _ rfl
          simp only [Nat.add_zero] at y0
          simp only at y0 y1 y2 y3 y4 y5 y6 y7
          clear hc hcr
          obtain ⟨V, hV⟩ : ∃ V, V = wr.alloc (.cells #[.string n1, .int .u8 a0, .int .u8 a1, .int .u8 a2, .int .u8 a3, .int .u16 p1, .int .u16 q1, .int .u16 r1] 86) := ⟨_, rfl⟩
          have hbV : V.heap[wr.heap.size]? = some (.cells #[.string n1, .int .u8 a0, .int .u8 a1, .int .u8 a2, .int .u8 a3, .int .u16 p1, .int .u16 q1, .int .u16 r1] 86 (0, 0)) := by rw [hV]; exact heap_alloc_new wr _
          have hoV : Only (fun _ => False) wr V := by rw [hV]; exact (Only.refl _ _).alloc _
          have hsV : V.heap.size = wr.heap.size + 1 := by rw [hV]; simp
          have hkV := HKJ.out.new hoV
          have hrV := owns_only HROW.out hoV (fun _ _ => id)
          have hoC : Only (fun i => i = x) w2 V := HO.out.trans (hoV.weaken (fun _ _ => False.elim))
          have hmV := hoC.cell HM2.out (fun e => hx0.1 (Eq.symm e))
          have hwr := HO.out.size
          have hsp := kspent_any V x b _ hkV
          dsimp only at hsp
          have HKV := Lib.hid hkV
          have HRV := Lib.hid hrV
          have HOC2 := Lib.hid hoC
          have HMV0 := Lib.hid hmV
          have HBV := Lib.hid hbV
          have HSP := Lib.hid hsp
          clear hkV hrV hoC hmV hbV hsp
          go_upto_region 10 with (fail)
          rw [← hV]
          clear hV y0 y1 y2 y3 y4 y5 y6 y7 hoV
          go_wp2_with fail
          refine HSP.out.mono ?_
          rintro e w5 ⟨rfl, rfl⟩
          by_cases hc : k.count + j = 4294967295
          · -- spent
            have HF := Lib.hid (show Only (fun i => i = x) w2 V ∧ KeepAt V x b (tickK k) ∧ RecRow V w.heap.size u3 (tickL k) from by
              refine ⟨HOC2.out, ?_, ?_⟩
              · rw [HTK.out, HTT.out, HLEN.out, show min k.own.length (4294967295 - k.count) = j by omega]
                exact HKV.out
              · rw [HTL.out, HTT.out]
                show RecRow V w.heap.size u3 (tellRs k.self k.life k.count k.own)
                rw [HGET.out j (by omega)]
                exact ownsRow_base_a HRV.out HSZ.out)
            rw [decide_eq_true hc]
            clear hc
            go_wp2_with fail
            go_meet
            exact HF.out
          · -- make
            rw [decide_eq_false hc]
            have hcc : k.count + j < 4294967295 := by omega
            obtain ⟨mv1, mv2, _, mv4⟩ := made_val (c := k.count + j + 1) ⟨n1, a0, a1, a2, a3, p1, q1, r1⟩ HSB.out.1 HSB.out.2 HLB.out.1 HLB.out.2 (by omega) hyn
            dsimp only at mv1 mv2
            have HKN := Lib.hid (fun w' (ho : Only (fun _ => False) V w') => knext_any w' x b _ (HKV.out.new ho) (show k.count + j < 4294967295 from hcc))
            have HMK := Lib.hid (fun w' (hm' : w'.cell? ⟨0, 0, none⟩ = some (.int .i64 m)) => make_any w' k.self (k.life * 4294967296 + (k.count + j + 1)) n1 a0 a1 a2 a3 p1 q1 r1 m hm' mv4 (by unfold maxLen; omega) hp1 hq1' hr1)
            rw [mv2, mv1] at HMK
            unfold recT madeR at HMK
            dsimp only at HMK HKN
            have HMR := Lib.hid (show madeR k.self k.life (k.count + j + 1) ⟨n1, a0, a1, a2, a3, p1, q1, r1⟩ = ⟨keyB k.self n1, k.life * 4294967296 + (k.count + j + 1), k.self, 0, false, dataB a0 a1 a2 a3 p1 q1 r1⟩ from rfl)
            generalize hVV : k.life * 4294967296 + (k.count + j + 1) = VV at *
            have hx6 : V.cell? ⟨x, 0, none⟩ = some (.int .i64 k.self) := cell_at HKV.out.blk 0
            have hbi : wr.heap.size < V.heap.size := lt_of_block HBV.out
            have hbx : ¬ wr.heap.size = x := by omega
            generalize wr.heap.size = bi at *
            have g0 : V.cell? ⟨bi, 0, none⟩ = some (.string n1) := cell_at HBV.out 0
            have g1 : V.cell? ⟨bi, 1, none⟩ = some (.int .u8 a0) := cell_at HBV.out 1
            have g2 : V.cell? ⟨bi, 2, none⟩ = some (.int .u8 a1) := cell_at HBV.out 2
            have g3 : V.cell? ⟨bi, 3, none⟩ = some (.int .u8 a2) := cell_at HBV.out 3
            have g4 : V.cell? ⟨bi, 4, none⟩ = some (.int .u8 a3) := cell_at HBV.out 4
            have g5 : V.cell? ⟨bi, 5, none⟩ = some (.int .u16 p1) := cell_at HBV.out 5
            have g6 : V.cell? ⟨bi, 6, none⟩ = some (.int .u16 q1) := cell_at HBV.out 6
            have g7 : V.cell? ⟨bi, 7, none⟩ = some (.int .u16 r1) := cell_at HBV.out 7
            have HNE2 := Lib.hid (show ¬ bi = x ∧ ¬ (0 : Nat) = x from ⟨hbx, fun e => hx0.1 e.symm⟩)
            have HNE3 := Lib.hid (show ¬ V.heap.size = x by omega)
            have hxV : x < V.heap.size ∧ b < V.heap.size := HKV.out.lt
            obtain ⟨hxV, hbVl⟩ := hxV
            have HVV := Lib.hid hVV
            clear hVV
            clear mv1 mv2 mv4 hc HSP hyn hsV
            go_upto_region 11 with (fail)
            go_cut [6, 7] (fun v6 v7 wx => v7 = .int .i64 0 ∧ ∃ A, v6 = .pointer (some ⟨A, 0, none⟩) ∧ wx.heap[A]? = some (.cells #[.string (keyB k.self n1), .int .u64 VV, .int .i64 k.self, .int .i64 0, .bool false, .string (dataB a0 a1 a2 a3 p1 q1 r1)] 33 (0, 0)) ∧ Only (fun i => i = x) V wx ∧ KeepAt wx x b { k with tick := Q, count := k.count + j + 1 })
            case first =>
              go_region_held3 (fun w' => w'.cell? ⟨bi, 0, none⟩ = some (.string n1) ∧ w'.cell? ⟨bi, 1, none⟩ = some (.int .u8 a0) ∧ w'.cell? ⟨bi, 2, none⟩ = some (.int .u8 a1) ∧ w'.cell? ⟨bi, 3, none⟩ = some (.int .u8 a2) ∧ w'.cell? ⟨bi, 4, none⟩ = some (.int .u8 a3) ∧ w'.cell? ⟨bi, 5, none⟩ = some (.int .u16 p1) ∧ w'.cell? ⟨bi, 6, none⟩ = some (.int .u16 q1) ∧ w'.cell? ⟨bi, 7, none⟩ = some (.int .u16 r1) ∧ w'.cell? ⟨x, 0, none⟩ = some (.int .i64 k.self))
                (((try go_split_ands); (repeat' apply And.intro); all_goals (repeat (first | (with_reducible assumption) | (with_reducible apply keepDv) | (with_reducible apply keepNv) | ((with_reducible refine keepSv ?_ ?_); (focus omega))))))
                (first
                  | (go_at_call 75; (with_reducible refine (HKN.out _ (by (repeat (first | (with_reducible assumption) | (with_reducible exact Only.refl _ _) | (with_reducible refine Only.drew ?_) | (with_reducible refine Only.alloc ?_ _) | (with_reducible refine onlySet ?_ (by first | (with_reducible assumption) | omega) _) | (with_reducible refine Only.trans ?_ (by with_reducible assumption)))))).mono ?_); rintro e w7 ⟨rfl, ho7, hk7⟩; have o7 : Only (fun i => i = x) V w7 := (by (refine Only.trans (b := _) ?_ ho7; refine Only.weaken (S := fun _ => False) ?_ (fun _ _ => False.elim); (repeat (first | (with_reducible assumption) | (with_reducible exact Only.refl _ _) | (with_reducible refine Only.drew ?_) | (with_reducible refine Only.alloc ?_ _) | (with_reducible refine onlySet ?_ (by first | (with_reducible assumption) | omega) _) | (with_reducible refine Only.trans ?_ (by with_reducible assumption)))))); have hs7 := Only.size ho7; (try simp at hs7); have hz7 : V.heap.size ≤ w7.heap.size := (by omega); have g70 := Only.cell o7 g0 HNE2.out.1; have g71 := Only.cell o7 g1 HNE2.out.1; have g72 := Only.cell o7 g2 HNE2.out.1; have g73 := Only.cell o7 g3 HNE2.out.1; have g74 := Only.cell o7 g4 HNE2.out.1; have g75 := Only.cell o7 g5 HNE2.out.1; have g76 := Only.cell o7 g6 HNE2.out.1; have g77 := Only.cell o7 g7 HNE2.out.1; have g7x := cell_at hk7.blk 0; simp at g7x; have m7 := o7.cell HMV0.out HNE2.out.2; have HK7 := Lib.hid hk7; (try (have z7 : w7.heap[V.heap.size]? = some (.cells #[.string ⟨#[]⟩, .int .u64 0, .int .i64 0, .int .i64 0, .bool false, .string ⟨#[]⟩] 33 (0, 0)) := Only.old ho7 (heap_alloc_new V _) HNE3.out)))
                  | (go_at_call 79; (with_reducible refine (HMK.out _ (by (repeat (first | (with_reducible assumption) | (with_reducible apply keepDv) | (with_reducible apply keepNv))))).mono ?_); rintro e w8 ⟨rfl, ho8⟩; have hs8 := Only.size ho8; (try simp at hs8); have hz8 : V.heap.size ≤ w8.heap.size := (by omega); have c8 : Only (fun _ => False) w7 w8 := (by (refine Only.trans (b := _) ?_ ho8; (repeat (first | (with_reducible assumption) | (with_reducible exact Only.refl _ _) | (with_reducible refine Only.drew ?_) | (with_reducible refine Only.alloc ?_ _) | (with_reducible refine onlySet ?_ (by first | (with_reducible assumption) | omega) _) | (with_reducible refine Only.trans ?_ (by with_reducible assumption)))))); have o8 : Only (fun i => i = x) V w8 := Only.trans o7 (Only.weaken (S := fun _ => False) c8 (fun _ _ => False.elim)); have HK8 := Lib.hid (KeepAt.new HK7.out c8); have g80 := Only.cell c8 g70 id; have g81 := Only.cell c8 g71 id; have g82 := Only.cell c8 g72 id; have g83 := Only.cell c8 g73 id; have g84 := Only.cell c8 g74 id; have g85 := Only.cell c8 g75 id; have g86 := Only.cell c8 g76 id; have g87 := Only.cell c8 g77 id; have g8x := Only.cell c8 g7x id; (try (have za : w8.heap[w7.heap.size]? = some (.cells #[.string ⟨#[]⟩, .int .u64 0, .int .i64 0, .int .i64 0, .bool false, .string ⟨#[]⟩] 33 (0, 0)) := Only.old ho8 (heap_alloc_new w7 _) id; have zc0 := cell_at za 0; have zc1 := cell_at za 1; have zc2 := cell_at za 2; have zc3 := cell_at za 3; have zc4 := cell_at za 4; have zc5 := cell_at za 5; simp at zc0 zc1 zc2 zc3 zc4 zc5; have zcf := free_at za; have zcl := lt_of_block za)); (try (have zb : w8.heap[V.heap.size]? = some (.cells #[.string ⟨#[]⟩, .int .u64 0, .int .i64 0, .int .i64 0, .bool false, .string ⟨#[]⟩] 33 (0, 0)) := Only.old c8 z7 id; have zd0 := cell_at zb 0; have zd1 := cell_at zb 1; have zd2 := cell_at zb 2; have zd3 := cell_at zb 3; have zd4 := cell_at zb 4; have zd5 := cell_at zb 5; simp at zd0 zd1 zd2 zd3 zd4 zd5; have zdf := free_at zb; have zdl := lt_of_block zb))))
              all_goals
                go_split_ands
                go_wp2_with fail
                go_meet
                refine ⟨rfl, _, rfl, ?_, ?_, HK8.out.kept (S := fun k => V.heap.size ≤ k) ?_ (by omega) (by omega)⟩
                · (apply Eq.trans; (case h₁ => repeat (first | (with_reducible assumption) | (with_reducible exact heap_alloc_new _ _) | (with_reducible apply blk_new; (repeat (first | (with_reducible rfl) | (with_reducible apply sz_set) | (with_reducible apply sz_alloc) | (with_reducible apply sz_drew))); done) | (with_reducible apply blk_same) | (with_reducible apply blk_ne; case hn => (first | assumption | omega)) | (with_reducible apply blk_old) | (with_reducible apply blk_drew))); (case h₂ => rfl))
                · (repeat (first | (with_reducible assumption) | (with_reducible refine Only.drew ?_) | (with_reducible refine Only.alloc ?_ _) | (with_reducible refine onlySetX ?_ (by first | assumption | omega) _)))
                · (repeat (first | (with_reducible exact Only.refl _ _) | (with_reducible refine Only.drew ?_) | (with_reducible refine Only.alloc ?_ _) | (with_reducible refine onlySetG ?_ (by first | assumption | omega) _)))
            case rest =>
            obtain ⟨rfl, A, rfl, hA, hoz, hkz⟩ := hcut
            have z0 : wc.cell? ⟨A, 0, none⟩ = some (.string (keyB k.self n1)) := cell_at hA 0
            have z1 : wc.cell? ⟨A, 1, none⟩ = some (.int .u64 VV) := cell_at hA 1
            have z2 : wc.cell? ⟨A, 2, none⟩ = some (.int .i64 k.self) := cell_at hA 2
            have z3 : wc.cell? ⟨A, 3, none⟩ = some (.int .i64 0) := cell_at hA 3
            have z4 : wc.cell? ⟨A, 4, none⟩ = some (.bool false) := cell_at hA 4
            have z5 : wc.cell? ⟨A, 5, none⟩ = some (.string (dataB a0 a1 a2 a3 p1 q1 r1)) := cell_at hA 5
            have hrZ := owns_only HRV.out hoz (fun i hi e => by have h9 : i = x := e; omega)
            have hoD := HOC2.out.trans hoz
            have hrl : ((List.range j).map (fun i => madeR k.self k.life (k.count + 1 + i) (k.own.getD i zeroW))).length = j := by simp
            generalize (List.range j).map (fun i => madeR k.self k.life (k.count + 1 + i) (k.own.getD i zeroW)) = RL at *
            have HRZ := Lib.hid hrZ
            have HOD := Lib.hid hoD
            have HKZ := Lib.hid hkz
            have HRL := Lib.hid hrl
            clear hrZ hoD hkz hrl
            clear hoz hA g0 g1 g2 g3 g4 g5 g6 g7 hx6
            go_wp2_with (at_builtin; refine Wait.mk ?_)
            refine Wait.go (wpList_append_src _ rfl (.tmp 50) (.tmp 52) 28 28 rfl w2.heap.size 33 i0 _ 6 64 Tryd.underlying28 hi0 iz0 iz1 iz2 rfl _ RL.length (RL.flatMap recC) rfl (HRZ.out.alloc _) _ 1 (recC ⟨keyB k.self n1, VV, k.self, 0, false, dataB a0 a1 a2 a3 p1 q1 r1⟩) rfl ?src4 ?m4 ?b4 ?base4 ?_)
            case src4 => exact Src.ofSlice _ Tryd.underlying28 _ _ _ _ rfl (news_new _ _ _) (recC_one _)
            case m4 => have := HRL.out; unfold maxLen; omega
            case b4 => have := HRL.out; omega
            case base4 => have := HOD.out.size; simp; omega
            intro v4 w9 own4 gr4 hv4
            have ho9 : Only (fun i => i = x) w2 w9 := (HOD.out.alloc _).own (HRZ.out.alloc _) (Nat.le_refl _) gr4
            have hk9 : KeepAt w9 x b { k with tick := Q, count := k.count + j + 1 } := HKZ.out.kept (S := fun i => w2.heap.size ≤ i) (((Only.refl _ _).alloc _).grown gr4 (fun q e => .inr ((HRZ.out.lt q e).1))) (by omega) (by omega)
            have HO9 := Lib.hid ho9
            have HK9 := Lib.hid hk9
            have HW9 := Lib.hid own4
            clear ho9 hk9 own4
            clear gr4 hv4 z0 z1 z2 z3 z4 z5
            go_wp2_with fail
            go_roundg (k.own.length - (j + 1))
            case measure => rw [Hg.out]; omega
            case rel =>
              refine ⟨j + 1, by go_num, by omega, by omega, HO9.out, HK9.out, ?_, rfl⟩
              unfold RecRow
              rw [HTS.out, HMR.out, List.length_append, List.flatMap_append, List.flatMap_singleton]
              exact HW9.out
        · have HF := Lib.hid (HFIN.out (by omega))
          have hlt' : ¬ (j : Int) < (k.own.length : Int) := by omega
          go_wp2_with fail
          go_meet
          exact HF.out
    case rest =>
    obtain ⟨hoz, hkz, hrz⟩ := hcut
    have hoB := HOA.out.trans hoz
    have HOB := Lib.hid hoB
    have HKZ := Lib.hid hkz
    have HRZ := Lib.hid hrz
    clear hoB hkz hrz
    clear hoz
    go_wp2_with fail
    go_ret
    exact ⟨_, rfl, HOB.out, HKZ.out, HRZ.out⟩
  · -- no
    have hzb : (Q != 0) = true := by simpa using hz
    have HTT := Lib.hid (show tickD k = false by rw [HTD.out]; exact decide_eq_false hz)
    have HHQ := Lib.hid hQ
    clear hQ
    go_wp2_with fail
    go_ret
    refine ⟨_, rfl, HO1.out, ?_, ?_⟩
    · rw [HTK.out, HTT.out]
      exact HKP.out
    · rw [HTL.out, HTT.out]
      exact World.ownsRow_nil _ _ _ _
end Go.Proofs.YtianboachknfmaaDoor
