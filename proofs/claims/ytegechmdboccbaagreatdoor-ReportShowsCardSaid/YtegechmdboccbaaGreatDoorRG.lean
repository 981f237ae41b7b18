/- Contracts of Send, Clear, Break. -/
import Derived.Test.YtegechmdboccbaaGreatDoorRE
import Derived.Test.YtegechmdboccbaaGreatDoorRA
import Derived.Test.YtegechmdboccbaaGreatDoorRC
import Derived.Test.YtegechmdboccbaaGreatDoorRF
import Derived.Conc.LoneSelectN
/-! Services, plainly: lists of services that rise by their names. -/
namespace Go.Proofs.YtegechmdboccbaaGreatDoor
open Go.Conc Go.RowKit

structure SvcT where
  name : ByteArray
  a0 : Nat
  a1 : Nat
  a2 : Nat
  a3 : Nat
  p : Nat
  q : Nat
  r : Nat
def svcCs (x : SvcT) : List Value := [.string x.name, .int .u8 x.a0, .int .u8 x.a1, .int .u8 x.a2, .int .u8 x.a3, .int .u16 x.p, .int .u16 x.q, .int .u16 x.r]
def svcT (x : SvcT) : Value := .agg #[.string x.name, .int .u8 x.a0, .int .u8 x.a1, .int .u8 x.a2, .int .u8 x.a3, .int .u16 x.p, .int .u16 x.q, .int .u16 x.r]
def zeroSv0 : SvcT := ⟨⟨#[]⟩, 0, 0, 0, 0, 0, 0, 0⟩
theorem svcCs_length (x : SvcT) : (svcCs x).length = 8 := rfl
theorem svcCs_one (x : SvcT) : ∀ u ∈ svcCs x, u.oneCell' = true := by
  intro u hu
  simp only [svcCs, List.mem_cons, List.not_mem_nil, or_false] at hu
  rcases hu with rfl | rfl | rfl | rfl | rfl | rfl | rfl | rfl <;> rfl
/-- What a service may hold. -/
def svcOk (x : SvcT) : Prop := x.name.size ≤ 64 ∧ x.a0 < 256 ∧ x.a1 < 256 ∧ x.a2 < 256 ∧ x.a3 < 256 ∧ x.p < 65536 ∧ x.q < 65536 ∧ x.r < 65536
def RisingV (L : List SvcT) : Prop := L.Pairwise (fun x y => ltK x.name y.name)
def findSv (L : List SvcT) (k : ByteArray) : Option SvcT := L.find? (fun x => decide (x.name = k))
/-- A record is placed, or takes the place of the one of its key. -/
def insW (x : SvcT) : List SvcT → List SvcT
  | [] => [x]
  | y :: L => if x.name = y.name then x :: L else if ltK x.name y.name then x :: y :: L else y :: insW x L
theorem mem_insW {x : SvcT} : ∀ {L : List SvcT} {y : SvcT}, RisingV L → (y ∈ insW x L ↔ y = x ∨ (y ∈ L ∧ y.name ≠ x.name))
  | [], y, _ => by simp [insW]
  | z :: L, y, h => by
    obtain ⟨h1, h2⟩ := List.pairwise_cons.1 h
    unfold insW
    split
    · rename_i e
      simp only [List.mem_cons]
      constructor
      · rintro (rfl | hy)
        · exact .inl rfl
        · exact .inr ⟨.inr hy, fun e2 => ltK_irrefl _ (by have := h1 y hy; rw [e2, e] at this; exact this)⟩
      · rintro (rfl | ⟨rfl | hy, hn⟩)
        · exact .inl rfl
        · exact absurd e.symm hn
        · exact .inr hy
    · rename_i e
      split
      · rename_i hlt
        simp only [List.mem_cons]
        constructor
        · rintro (rfl | rfl | hy)
          · exact .inl rfl
          · exact .inr ⟨.inl rfl, fun e2 => e e2.symm⟩
          · exact .inr ⟨.inr hy, fun e2 => ltK_irrefl _ (by have := ltK_trans hlt (h1 y hy); rw [e2] at this; exact this)⟩
        · rintro (rfl | ⟨rfl | hy, hn⟩)
          · exact .inl rfl
          · exact .inr (.inl rfl)
          · exact .inr (.inr hy)
      · simp only [List.mem_cons, mem_insW (L := L) h2]
        constructor
        · rintro (rfl | rfl | ⟨hy, hn⟩)
          · exact .inr ⟨.inl rfl, fun e2 => e e2.symm⟩
          · exact .inl rfl
          · exact .inr ⟨.inr hy, hn⟩
        · rintro (rfl | ⟨rfl | hy, hn⟩)
          · exact .inr (.inl rfl)
          · exact .inl rfl
          · exact .inr (.inr ⟨hy, hn⟩)
theorem risingV_ins {x : SvcT} : ∀ {L : List SvcT}, RisingV L → RisingV (insW x L)
  | [], _ => by simp [insW, RisingV]
  | z :: L, h => by
    obtain ⟨h1, h2⟩ := List.pairwise_cons.1 h
    unfold insW
    split
    · rename_i e
      exact List.pairwise_cons.2 ⟨fun y hy => by rw [e]; exact h1 y hy, h2⟩
    · rename_i e
      split
      · rename_i hlt
        refine List.pairwise_cons.2 ⟨fun y hy => ?_, h⟩
        rcases List.mem_cons.1 hy with rfl | hy
        · exact hlt
        · exact ltK_trans hlt (h1 y hy)
      · rename_i hlt
        refine List.pairwise_cons.2 ⟨fun y hy => ?_, risingV_ins h2⟩
        rcases (mem_insW h2).1 hy with rfl | ⟨hy, _⟩
        · exact ltK_tri hlt e
        · exact h1 y hy
theorem risingV_keys {L : List SvcT} (h : RisingV L) : L.Pairwise (fun x y => x.name ≠ y.name) := h.imp (fun h => ltK_ne h)
theorem risingV_nodup {L : List SvcT} (h : RisingV L) : L.Nodup := (risingV_keys h).imp (fun {a b} (hn : a.name ≠ b.name) (e : a = b) => hn (by rw [e]))
/-- Lists that rise and have the same members are one. -/
theorem risingV_ext {L M : List SvcT} (hL : RisingV L) (hM : RisingV M) (h : ∀ x, x ∈ L ↔ x ∈ M) : L = M := by
  have hp : L.Perm M := (List.perm_ext_iff_of_nodup (risingV_nodup hL) (risingV_nodup hM)).2 h
  exact hp.eq_of_pairwise (fun a b _ _ h1 h2 => absurd (ltK_trans h1 h2) (ltK_irrefl _)) hL hM
theorem risingV_map {L : List SvcT} (h : RisingV L) (f : SvcT → SvcT) (hf : ∀ x, (f x).name = x.name) : RisingV (L.map f) := by
  unfold RisingV
  rw [List.pairwise_map]
  exact h.imp (fun {a b} hab => by rw [hf, hf]; exact hab)
theorem risingV_filter {L : List SvcT} (h : RisingV L) (p : SvcT → Bool) : RisingV (L.filter p) := List.Pairwise.filter _ h
theorem findSv_some {L : List SvcT} {k : ByteArray} {y : SvcT} (h : findSv L k = some y) : y ∈ L ∧ y.name = k := by
  have h1 := List.mem_of_find?_eq_some h
  have h2 := List.find?_some h
  exact ⟨h1, by simpa using h2⟩
theorem findSv_none {L : List SvcT} {k : ByteArray} (h : findSv L k = none) : ∀ y ∈ L, y.name ≠ k := by
  intro y hy e
  unfold findSv at h
  rw [List.find?_eq_none] at h
  exact h y hy (by simpa using e)
theorem findSv_mem {L : List SvcT} (h : RisingV L) {y : SvcT} (hy : y ∈ L) : findSv L y.name = some y := by
  cases hf : findSv L y.name with
  | none => exact absurd rfl (findSv_none hf y hy)
  | some z =>
    obtain ⟨h1, h2⟩ := findSv_some hf
    obtain ⟨i, hi, rfl⟩ := List.getElem_of_mem h1
    obtain ⟨j, hj, rfl⟩ := List.getElem_of_mem hy
    have hk := List.pairwise_iff_getElem.1 (risingV_keys h)
    rcases Nat.lt_trichotomy i j with h3 | h3 | h3
    · exact absurd h2 (hk i j hi hj h3)
    · subst h3; rfl
    · exact absurd h2.symm (hk j i hj hi h3)
theorem findW_ins_same {L : List SvcT} (h : RisingV L) (x : SvcT) : findSv (insW x L) x.name = some x := findSv_mem (risingV_ins h) ((mem_insW h).2 (.inl rfl))
theorem findW_ins_other {L : List SvcT} (h : RisingV L) (x : SvcT) {k : ByteArray} (hk : k ≠ x.name) : findSv (insW x L) k = findSv L k := by
  cases hf : findSv L k with
  | none =>
    cases hg : findSv (insW x L) k with
    | none => rfl
    | some z =>
      obtain ⟨h1, h2⟩ := findSv_some hg
      rcases (mem_insW h).1 h1 with rfl | ⟨h3, _⟩
      · exact absurd h2.symm hk
      · exact absurd h2 (findSv_none hf z h3)
  | some y =>
    obtain ⟨h1, h2⟩ := findSv_some hf
    have := findSv_mem (risingV_ins h) ((mem_insW (x := x) h).2 (.inr ⟨h1, by rw [h2]; exact hk⟩))
    rw [h2] at this
    exact this
theorem length_insW : ∀ {L : List SvcT} (x : SvcT), RisingV L → (insW x L).length = if (findSv L x.name).isSome then L.length else L.length + 1
  | [], x, _ => by simp [insW, findSv]
  | z :: L, x, h => by
    obtain ⟨h1, h2⟩ := List.pairwise_cons.1 h
    unfold insW
    by_cases e : x.name = z.name
    · rw [if_pos e]
      have : (findSv (z :: L) x.name).isSome = true := by unfold findSv; rw [List.find?_cons_of_pos (by simpa using e.symm)]; rfl
      rw [if_pos this]
      rfl
    · rw [if_neg e]
      have e1 : findSv (z :: L) x.name = findSv L x.name := by unfold findSv; rw [List.find?_cons_of_neg (by simpa using fun h => e h.symm)]
      rw [e1]
      by_cases hlt : ltK x.name z.name
      · rw [if_pos hlt]
        have : findSv L x.name = none := by
          cases hf : findSv L x.name with
          | none => rfl
          | some y =>
            obtain ⟨g1, g2⟩ := findSv_some hf
            exact absurd (ltK_trans hlt (h1 y g1)) (by rw [g2]; exact ltK_irrefl _)
        rw [this]
        rfl
      · rw [if_neg hlt]
        have := length_insW (L := L) x h2
        rw [List.length_cons, this]
        cases (findSv L x.name).isSome <;> rfl

/-! the map's entries -/
def prsV (L : List SvcT) : List (ByteArray × SvcT) := L.map (fun x => (x.name, x))
theorem prsV_length (L : List SvcT) : (prsV L).length = L.length := List.length_map ..
theorem look_prsV (L : List SvcT) (k : ByteArray) : lookL (prsV L) k = findSv L k := by
  unfold lookL findSv prsV
  rw [List.find?_map]
  simp only [Function.comp_def]
  cases List.find? (fun x => decide (x.name = k)) L <;> rfl
theorem mem_prsV {L : List SvcT} {p : ByteArray × SvcT} : p ∈ prsV L ↔ p.2 ∈ L ∧ p.1 = p.2.name := by
  unfold prsV
  rw [List.mem_map]
  constructor
  · rintro ⟨x, hx, rfl⟩; exact ⟨hx, rfl⟩
  · rintro ⟨hx, e⟩; exact ⟨p.2, hx, by rw [← e]⟩
theorem prsV_apart {L : List SvcT} (h : RisingV L) : (prsV L).Pairwise (fun p q => p.1 ≠ q.1) := by
  unfold prsV
  rw [List.pairwise_map]
  exact risingV_keys h
theorem put_prsV {L : List SvcT} (h : RisingV L) (x : SvcT) : (putL (prsV L) x.name x).Perm (prsV (insW x L)) := by
  refine (List.perm_ext_iff_of_nodup (nodup_of_apart (apart_put (prsV_apart h) _ _)) (nodup_of_apart (prsV_apart (risingV_ins h)))).2 (fun p => ?_)
  rw [mem_prsV, mem_insW h]
  unfold putL
  rw [List.mem_append, mem_dropL, mem_prsV]
  constructor
  · rintro (⟨⟨h1, h2⟩, h3⟩ | h1)
    · exact ⟨.inr ⟨h1, by rw [← h2]; exact h3⟩, h2⟩
    · obtain rfl : p = (x.name, x) := by simpa using h1
      exact ⟨.inl rfl, rfl⟩
  · rintro ⟨h1 | ⟨h1, h2⟩, h3⟩
    · right
      obtain ⟨p1, p2⟩ := p
      simp only at h1 h3
      subst h1 h3
      simp
    · exact .inl ⟨⟨h1, h3⟩, by rw [h3]; exact h2⟩

end Go.Proofs.YtegechmdboccbaaGreatDoor
/-! record: Make. -/
namespace Go.Proofs.YtegechmdboccbaaGreatDoor
open Go.Conc Go.RowKit

/-- A service's data in bytes. -/
def dataL (a0 a1 a2 a3 : Int) (p q r : Nat) : List UInt8 := (bytesOf [a0, a1, a2, a3]).data.toList ++ beL p 2 ++ beL q 2 ++ beL r 2
def dataB (a0 a1 a2 a3 : Int) (p q r : Nat) : ByteArray := ⟨(dataL a0 a1 a2 a3 p q r).toArray⟩
def makeV (o : Int) (name : ByteArray) (ver : Nat) (d : ByteArray) : Value := if beginE o name ver = 0 then recV (keyS o name) ver o 0 false d else rec0
end Go.Proofs.YtegechmdboccbaaGreatDoor
/-! A keeper of services, plainly. -/
namespace Go.Proofs.YtegechmdboccbaaGreatDoor
open Go.Conc Go.RowKit

structure KeepT where
  self : Int
  life : Nat
  count : Nat
  every : Int
  tick : Int
  own : List SvcT
structure KeepOk (k : KeepT) : Prop where
  selfB : 1 ≤ k.self ∧ k.self ≤ 65535
  lifeB : 1 ≤ k.life ∧ k.life < 4294967296
  countB : k.count < 4294967296
  everyB : 1 ≤ k.every ∧ k.every ≤ 1000
  tickB : 0 ≤ k.tick ∧ k.tick < k.every
  rises : RisingV k.own
  names : ∀ x ∈ k.own, namedP x.name = true ∧ svcOk x
  room : k.own.length ≤ 8
/-- A service's record at a count. -/
def madeR (self : Int) (life count : Nat) (x : SvcT) : RecT := ⟨keyB self x.name, life * 4294967296 + count, self, 0, false, dataB x.a0 x.a1 x.a2 x.a3 x.p x.q x.r⟩
def goneR (self : Int) (life count : Nat) (name : ByteArray) : RecT := ⟨keyB self name, life * 4294967296 + count, self, 0, true, ⟨#[]⟩⟩
def regE (k : KeepT) (x : SvcT) : Int := if namedP x.name = false then 9 else if (findSv k.own x.name).isSome = false ∧ 8 ≤ k.own.length then 5 else if k.count = 4294967295 then 15 else 0
def regK (k : KeepT) (x : SvcT) : KeepT := if regE k x = 0 then { k with count := k.count + 1, own := insW x k.own } else k
def regR (k : KeepT) (x : SvcT) : RecT := if regE k x = 0 then madeR k.self k.life (k.count + 1) x else zeroR
def wdrE (k : KeepT) (name : ByteArray) : Int := if namedP name = false then 9 else if (findSv k.own name).isSome = false then 6 else if k.count = 4294967295 then 15 else 0
def delW (name : ByteArray) (L : List SvcT) : List SvcT := L.filter (fun x => !decide (x.name = name))
def wdrK (k : KeepT) (name : ByteArray) : KeepT := if wdrE k name = 0 then { k with count := k.count + 1, own := delW name k.own } else k
def wdrR (k : KeepT) (name : ByteArray) : RecT := if wdrE k name = 0 then goneR k.self k.life (k.count + 1) name else zeroR
/-- What is told anew from a count on. -/
def tellRs (self : Int) (life : Nat) : Nat → List SvcT → List RecT
  | _, [] => []
  | c, x :: l => if c = 4294967295 then [] else madeR self life (c + 1) x :: tellRs self life (c + 1) l
def tickD (k : KeepT) : Bool := decide ((k.tick + 1) % k.every = 0)
def tickK (k : KeepT) : KeepT := { k with tick := (k.tick + 1) % k.every, count := if tickD k then k.count + (tellRs k.self k.life k.count k.own).length else k.count }
def tickL (k : KeepT) : List RecT := if tickD k then tellRs k.self k.life k.count k.own else []
theorem tellRs_take (self : Int) (life : Nat) : ∀ (l : List SvcT) (c : Nat), c ≤ 4294967295 → (tellRs self life c l).length = min l.length (4294967295 - c) ∧ tellRs self life c l = (List.range (tellRs self life c l).length).map (fun i => madeR self life (c + 1 + i) (l.getD i zeroSv0))
  | [], c, _ => by simp [tellRs]
  | x :: l, c, hc => by
    unfold tellRs
    by_cases h : c = 4294967295
    · rw [if_pos h]; simp [h]
    · rw [if_neg h]
      obtain ⟨h1, h2⟩ := tellRs_take self life l (c + 1) (by omega)
      refine ⟨by rw [List.length_cons, h1, List.length_cons]; omega, ?_⟩
      rw [List.length_cons, List.range_succ_eq_map, List.map_cons, List.map_map]
      congr 1
      rw [h2]
      simp only [List.length_map, List.length_range]
      refine List.map_congr_left (fun i hi => ?_)
      show _ = madeR self life (c + 1 + (i + 1)) (l.getD i zeroSv0)
      congr 1
      omega
theorem tellRs_len (self : Int) (life : Nat) (l : List SvcT) (c : Nat) (hc : c ≤ 4294967295) : (tellRs self life c l).length ≤ l.length ∧ c + (tellRs self life c l).length ≤ 4294967295 := by
  have := (tellRs_take self life l c hc).1
  omega
theorem KeepOk.reg {k : KeepT} (h : KeepOk k) {x : SvcT} (hx : svcOk x) : KeepOk (regK k x) := by
  unfold regK
  split
  · rename_i e
    unfold regE at e
    split at e
    · cases e
    rename_i e1
    split at e
    · cases e
    rename_i e2
    split at e
    · cases e
    rename_i e3
    have hc := h.countB
    refine ⟨h.selfB, h.lifeB, by show k.count + 1 < _; omega, h.everyB, h.tickB, risingV_ins h.rises, fun y hy => ?_, ?_⟩
    · rcases (mem_insW h.rises).1 hy with rfl | ⟨h1, _⟩
      · exact ⟨by simpa using e1, hx⟩
      · exact h.names y h1
    · show (insW x k.own).length ≤ 8
      rw [length_insW x h.rises]
      have := h.room
      cases hf : (findSv k.own x.name).isSome with
      | false =>
        rw [hf] at e2
        simp at e2 ⊢
        omega
      | true => simpa using this
  · exact h
theorem KeepOk.wdr {k : KeepT} (h : KeepOk k) (n : ByteArray) : KeepOk (wdrK k n) := by
  unfold wdrK
  split
  · rename_i e
    unfold wdrE at e
    split at e
    · cases e
    split at e
    · cases e
    split at e
    · cases e
    rename_i e3
    have hc := h.countB
    refine ⟨h.selfB, h.lifeB, by show k.count + 1 < _; omega, h.everyB, h.tickB, risingV_filter h.rises _, fun y hy => h.names y (List.mem_filter.1 hy).1, Nat.le_trans (List.length_filter_le _ _) h.room⟩
  · exact h
theorem KeepOk.tick {k : KeepT} (h : KeepOk k) : KeepOk (tickK k) := by
  have he := h.everyB
  have hc := h.countB
  have h1 := tellRs_len k.self k.life k.own k.count (by omega)
  refine ⟨h.selfB, h.lifeB, ?_, h.everyB, ⟨Int.emod_nonneg _ (by omega), Int.emod_lt_of_pos _ (by omega)⟩, h.rises, h.names, h.room⟩
  show (if tickD k then k.count + (tellRs k.self k.life k.count k.own).length else k.count) < 4294967296
  split <;> omega
theorem lookV_prs (L : List SvcT) (k : ByteArray) : lookL (prsV L) k = findSv L k := look_prsV L k
theorem del_prsV (L : List SvcT) (n : ByteArray) : dropL (prsV L) n = prsV (delW n L) := by
  unfold dropL prsV delW
  rw [List.filter_map]
  rfl
end Go.Proofs.YtegechmdboccbaaGreatDoor
/-! record.Version. -/
namespace Go.Proofs.YtegechmdboccbaaGreatDoor
open Go.Conc Go.RowKit

theorem u64_or32 (a b : Nat) (ha : a < 2 ^ 32) (hb : b < 2 ^ 32) : bits .or .u64 ((a : Int) * 4294967296) (b : Int) = ((a * 4294967296 + b : Nat) : Int) := by
  have hx : a * 4294967296 ||| b < 2 ^ 64 := Nat.or_lt_two_pow (by omega) (by omega)
  rw [show ((a : Int) * 4294967296) = ((a * 4294967296 : Nat) : Int) by omega]
  show IntKind.u64.wrap ((BitVec.ofInt 64 ((a * 4294967296 : Nat) : Int) ||| BitVec.ofInt 64 (b : Int)).toNat : Int) = _
  rw [BitVec.toNat_or, BitVec.ofInt_natCast, BitVec.ofInt_natCast, BitVec.toNat_ofNat, BitVec.toNat_ofNat, Nat.mod_eq_of_lt (by omega), Nat.mod_eq_of_lt (by omega)]
  rw [show a * 4294967296 = a <<< 32 by rw [Nat.shiftLeft_eq]] at hx ⊢
  rw [← Nat.shiftLeft_add_eq_or_of_lt (i := 32) (by omega) a, Nat.shiftLeft_eq] at hx ⊢
  exact IntWalk.u64_in _ (by omega)
end Go.Proofs.YtegechmdboccbaaGreatDoor
/-! A keeper: New, spent, next. -/
namespace Go.Proofs.YtegechmdboccbaaGreatDoor
open Go.Conc Go.RowKit Go.Maps

theorem zeroSvc (w : World) : (zeroValue 250).run Tryz.prog w = .ok (svcT zeroSv0) w := by kernel_rfl
abbrev VMap (w : World) (b : Nat) (L : List SvcT) : Prop := MapIs Tryz.prog 9 Value.string svcT w b (prsV L)
/-- A keeper: its block x, its map's block b, what it holds. -/
structure KeepAt (w : World) (x b : Nat) (k : KeepT) : Prop where
  blk : w.heap[x]? = some (.cells #[.int .i64 k.self, .int .u32 k.life, .int .u32 k.count, .int .i64 k.every, .int .i64 k.tick, .map (some b)] 183 (0, 0))
  map : VMap w b k.own
  ok : KeepOk k
theorem KeepAt.ne {w : World} {x b : Nat} {k : KeepT} (h : KeepAt w x b k) : x ≠ b := by
  obtain ⟨es, c, hb, _⟩ := h.map.own
  rintro rfl
  have := h.blk
  rw [hb] at this
  cases this
theorem KeepAt.lt {w : World} {x b : Nat} {k : KeepT} (h : KeepAt w x b k) : x < w.heap.size ∧ b < w.heap.size := ⟨lt_of_block h.blk, h.map.lt⟩
theorem KeepAt.kept {w w' : World} {S : Nat → Prop} {x b : Nat} {k : KeepT} (h : KeepAt w x b k) (ho : Only S w w') (h1 : ¬ S x) (h2 : ¬ S b) : KeepAt w' x b k := ⟨ho.old h.blk h1, h.map.kept ho h2, h.ok⟩
theorem KeepAt.new {w w' : World} {x b : Nat} {k : KeepT} (h : KeepAt w x b k) (ho : Only (fun _ => False) w w') : KeepAt w' x b k := h.kept ho id id
def newOk (self : Int) (life : Nat) (every : Int) : Prop := 1 ≤ self ∧ self ≤ 65535 ∧ 1 ≤ life ∧ 1 ≤ every ∧ every ≤ 1000
theorem knew_ok (w : World) (self : Int) (life count : Nat) (every : Int) (h1 : 1 ≤ self) (h2 : self ≤ 65535) (h3 : 1 ≤ life) (h4 : life < 4294967296) (h5 : count < 4294967296) (h6 : 1 ≤ every) (h7 : every ≤ 1000) :
    Calls Tryz.prog 74 #[.int .i64 self, .int .u32 life, .int .u32 count, .int .i64 every] w fun e w' =>
      e = .returned (.tuple #[.pointer (some ⟨w.heap.size + 1, 0, none⟩), .int .i64 0]) ∧ Only (fun _ => False) w w' ∧ KeepAt w' (w.heap.size + 1) w.heap.size ⟨self, life, count, every, 0, []⟩ := by
  have hmm := @run_makeMap Tryz.prog
  have hl0 : ((life : Int) == 0) = false := by simp; omega
  go_enter Tryz.func74, Tryz.ntmps74
  go_wp2_with fail
  go_ret2
  refine ⟨rfl, ((Only.refl _ _).alloc _).alloc _, ?_, ?_, ⟨⟨h1, h2⟩, ⟨h3, h4⟩, h5, ⟨h6, h7⟩, ⟨Int.le_refl _, by show (0 : Int) < every; omega⟩, List.Pairwise.nil, (fun _ h => by cases h), by show (0 : Nat) ≤ 8; omega⟩⟩
  · have := heap_alloc_new (w.alloc (.map #[] 0)) (.cells #[.int .i64 self, .int .u32 life, .int .u32 count, .int .i64 every, .int .i64 0, .map (some w.heap.size)] 183 (0, 0))
    simpa using this
  · exact (MapIs.made w).kept ((Only.refl (fun _ => False) _).alloc _) id
theorem knew_no (w : World) (self : Int) (life count : Nat) (every : Int) (h : ¬ newOk self life every) : Calls Tryz.prog 74 #[.int .i64 self, .int .u32 life, .int .u32 count, .int .i64 every] w fun e w' =>
    e = .returned (.tuple #[.pointer none, .int .i64 1]) ∧ w = w' := by
  unfold newOk at h
  have hl : ((life : Int) == 0) = decide (life = 0) := by by_cases h : life = 0 <;> simp [h]
  by_cases h1 : self < 1
  · clear hl h
    go_enter Tryz.func74, Tryz.ntmps74
    go_wp2_with fail
    go_ret2
    exact ⟨rfl, rfl⟩
  by_cases h2 : self > 65535
  · clear hl h
    go_enter Tryz.func74, Tryz.ntmps74
    go_wp2_with fail
    go_ret2
    exact ⟨rfl, rfl⟩
  by_cases h3 : life = 0
  · rw [decide_eq_true h3] at hl
    clear h h3
    go_enter Tryz.func74, Tryz.ntmps74
    go_wp2_with fail
    go_ret2
    exact ⟨rfl, rfl⟩
  rw [decide_eq_false h3] at hl
  by_cases h4 : every < 1
  · clear h h3
    go_enter Tryz.func74, Tryz.ntmps74
    go_wp2_with fail
    go_ret2
    exact ⟨rfl, rfl⟩
  · have h5 : every > 1000 := by omega
    clear h h3
    go_enter Tryz.func74, Tryz.ntmps74
    go_wp2_with fail
    go_ret2
    exact ⟨rfl, rfl⟩
end Go.Proofs.YtegechmdboccbaaGreatDoor
/-! agent.New. -/
namespace Go.Proofs.YtegechmdboccbaaGreatDoor
open Go.Conc Go.RowKit Go.Maps

/-- An agent's blocks: its own, its overlay's, its store's and that one's map, its tree's, its Want's with the map, the clock and the clock's map, its seeds', its keeper's and that one's map. -/
structure AgBlk where
  a : Nat
  ov : Nat
  s : Nat
  sb : Nat
  t : Nat
  x : Nat
  kb : Nat
  c : Nat
  cb : Nat
  sd : Nat
  k : Nat
  kb2 : Nat
/-- An agent as plain data. -/
structure AgT where
  o : OverT
  most : Int
  ttl : Int
  ref : Int
  recs : List RecT
  every : Int
  now : Int
  eager : List Int
  lazy : List Int
  wait : Int
  cnt : Int
  wl : List EntW
  wc : List (ByteArray × (Int × Int))
  sync : Int
  tick : Int
  next : Int
  seeds : List Int
  keep : KeepT
structure AgentAt (w : World) (B : AgBlk) (T : AgT) : Prop where
  blk : w.heap[B.a]? = some (.cells #[.pointer (some ⟨B.ov, 0, none⟩), .pointer (some ⟨B.s, 0, none⟩), .pointer (some ⟨B.t, 0, none⟩), .pointer (some ⟨B.sd, 0, none⟩), .pointer (some ⟨B.k, 0, none⟩)] 118 (0, 0))
  over : OverAt w B.ov T.o
  store : StoreAt w B.s B.sb T.most T.ttl T.ref T.recs
  tree : TreeAt w B.t B.s B.x T.every T.now T.eager T.lazy
  want : WantAt w B.x B.kb B.c B.cb T.wait T.cnt T.wl T.wc
  sds : SeedsAt w B.sd T.sync T.tick T.next T.seeds B.s
  keep : KeepAt w B.k B.kb2 T.keep
  apart : B.sb ≠ B.kb ∧ B.sb ≠ B.cb ∧ B.sb ≠ B.kb2 ∧ B.kb ≠ B.cb ∧ B.kb ≠ B.kb2 ∧ B.cb ≠ B.kb2
theorem AgentAt.new {w w' : World} {B : AgBlk} {T : AgT} (h : AgentAt w B T) (ho : Only (fun _ => False) w w') : AgentAt w' B T :=
  ⟨ho.old h.blk id, h.over.new ho, h.store.new ho, h.tree.new ho, h.want.new ho, h.sds.new ho, h.keep.new ho, h.apart⟩
/-- An agent's blocks. -/
def AgBlk.foot (B : AgBlk) (k : Nat) : Prop := k = B.a ∨ k = B.ov ∨ k = B.s ∨ k = B.sb ∨ k = B.t ∨ k = B.x ∨ k = B.kb ∨ k = B.c ∨ k = B.cb ∨ k = B.sd ∨ k = B.k ∨ k = B.kb2
theorem SeedsAt.keptS {S : Nat → Prop} {w w' : World} {x : Nat} {every tick next : Int} {l : List Int} {s : Nat} (h : SeedsAt w x every tick next l s) (ho : Only S w w') (hx : ¬ S x) (hn : ∀ k, S k → ∀ cs f, w.heap[k]? ≠ some (.cells cs 3 f)) : SeedsAt w' x every tick next l s := by
  obtain ⟨v, base, h1, h2⟩ := h.out
  exact ⟨v, base, ho.old h1 hx, owns_ty h2 ho hn⟩
theorem AgentAt.kept {S : Nat → Prop} {w w' : World} {B : AgBlk} {T : AgT} (h : AgentAt w B T) (ho : Only S w w') (hf : ∀ k, B.foot k → ¬ S k) (hn : ∀ k, S k → ∀ cs f, w.heap[k]? ≠ some (.cells cs 3 f)) : AgentAt w' B T := by
  unfold AgBlk.foot at hf
  exact ⟨ho.old h.blk (hf _ (by simp)), h.over.kept ho (hf _ (by simp)) hn, h.store.kept ho (hf _ (by simp)) (hf _ (by simp)), h.tree.kept ho (hf _ (by simp)) hn,
    h.want.keptS ho (hf _ (by simp)) (hf _ (by simp)) (hf _ (by simp)) (hf _ (by simp)) hn, h.sds.keptS ho (hf _ (by simp)) hn, h.keep.kept ho (hf _ (by simp)) (hf _ (by simp)), h.apart⟩
/-- All its blocks are new since a world of so many blocks. -/
structure AgBlk.from (B : AgBlk) (n : Nat) : Prop where
  a : n ≤ B.a
  ov : n ≤ B.ov
  s : n ≤ B.s
  sb : n ≤ B.sb
  t : n ≤ B.t
  x : n ≤ B.x
  kb : n ≤ B.kb
  c : n ≤ B.c
  cb : n ≤ B.cb
  sd : n ≤ B.sd
  k : n ≤ B.k
  kb2 : n ≤ B.kb2
theorem AgBlk.from.mono {B : AgBlk} {n k : Nat} (h : B.from n) (hk : k ≤ n) : B.from k :=
  ⟨Nat.le_trans hk h.a, Nat.le_trans hk h.ov, Nat.le_trans hk h.s, Nat.le_trans hk h.sb, Nat.le_trans hk h.t, Nat.le_trans hk h.x, Nat.le_trans hk h.kb, Nat.le_trans hk h.c, Nat.le_trans hk h.cb, Nat.le_trans hk h.sd, Nat.le_trans hk h.k, Nat.le_trans hk h.kb2⟩
theorem AgBlk.from.foot {B : AgBlk} {n : Nat} (h : B.from n) : ∀ k, B.foot k → n ≤ k := by
  intro k hk
  rcases hk with rfl | rfl | rfl | rfl | rfl | rfl | rfl | rfl | rfl | rfl | rfl | rfl
  · exact h.a
  · exact h.ov
  · exact h.s
  · exact h.sb
  · exact h.t
  · exact h.x
  · exact h.kb
  · exact h.c
  · exact h.cb
  · exact h.sd
  · exact h.k
  · exact h.kb2
theorem AgentAt.keptNew {w w' : World} {n : Nat} {S : Nat → Prop} {B : AgBlk} {T : AgT} (h : AgentAt w B T) (hf : B.from n) (hS : ∀ k, S k → k < n) (ho : Only S w w') (hn : ∀ k, S k → ∀ cs f, w.heap[k]? ≠ some (.cells cs 3 f)) : AgentAt w' B T :=
  h.kept ho (fun k hk hs => by have := hf.foot k hk; have := hS k hs; omega) hn
/-- A config of agents. -/
structure ACfgT where
  o : OCfgT
  most : Int
  ttl : Int
  wait : Int
  tell : Int
  sync : Int
  refresh : Int
def ACfgT.cells (c : ACfgT) (v : Value) : List Value := c.o.cells v ++ [.int .i64 c.most, .int .i64 c.ttl, .int .i64 c.wait, .int .i64 c.tell, .int .i64 c.sync, .int .i64 c.refresh]
theorem infoACfg (c : ACfgT) (v : Value) : (Tryz.prog.info? 41).map (·.size) = some (c.cells v).toArray.size := by kernel_rfl
def newOkB (self : Int) (life : Nat) (every : Int) : Bool := decide (1 ≤ self ∧ self ≤ 65535 ∧ 1 ≤ life ∧ 1 ≤ every ∧ every ≤ 1000)
/-- May it be, of a node, in a life? -/
def ACfgT.ok (c : ACfgT) (self : Int) (life : Nat) : Bool := (c.o.good && inB self 1 65535) && sizesB c.most c.ttl && treeOk c.wait c.tell && seedsOk self c.o.seeds c.sync && newOkB self life c.refresh
def newA (self : Int) (life : Nat) (c : ACfgT) : AgT := ⟨newO self c.o, c.most, c.ttl, 0, [], c.tell, 0, [], [], c.wait, 0, [], [], c.sync, 0, 0, othersL self c.o.seeds, ⟨self, life, 0, c.refresh, 0, []⟩⟩
theorem rowI_flat (l : List Int) : l.flatMap intC = rowI l := by
  induction l with
  | nil => rfl
  | cons x l ih => rw [List.flatMap_cons, ih]; rfl
/-- What a new agent's blocks hold, world by world. -/
def AgNew (w w' : World) (self : Int) (life : Nat) (c : ACfgT) (e : Ending) : Prop :=
  ∃ B : AgBlk, e = .returned (.tuple #[.pointer (some ⟨B.a, 0, none⟩), .int .i64 0]) ∧ Only (fun _ => False) w w' ∧ AgentAt w' B (newA self life c) ∧ B.from w.heap.size
theorem idx5 (k : Nat) (hk : k < 5) : ∀ w, (Instr.index 154 (.agg #[.int .i64 0, .int .i64 0, .int .i64 0, .int .i64 0, .int .i64 0]) (.int .i64 k)).run Tryz.prog w = .ok (.int .i64 0) w := by
  intro w
  rcases (by omega : k = 0 ∨ k = 1 ∨ k = 2 ∨ k = 3 ∨ k = 4) with rfl | rfl | rfl | rfl | rfl <;> kernel_rfl
set_option maxRecDepth 100000 in
set_option maxHeartbeats 4000000 in
theorem anew_ok (w : World) (self : Int) (life : Nat) (c : ACfgT) (v : Value) (h : Sl w 1 v c.o.seeds.length (rowI c.o.seeds)) (hl : life < 4294967296) (hk : c.ok self life = true) :
    Calls Tryz.prog 45 #[.int .i64 self, .int .u32 life, .agg (c.cells v).toArray] w fun e w' => AgNew w w' self life c e := by
  have HP := Lib.hid (show ∀ w' e, (∃ B : AgBlk, e = .returned (.tuple #[.pointer (some ⟨B.a, 0, none⟩), .int .i64 0]) ∧ Only (fun _ => False) w w' ∧ AgentAt w' B (newA self life c) ∧ B.from w.heap.size) → AgNew w w' self life c e from fun _ _ h => h)
  unfold ACfgT.ok sizesB newOkB at hk
  simp only [Bool.and_eq_true, decide_eq_true_eq] at hk
  obtain ⟨⟨⟨⟨⟨g1, g2⟩, g3⟩, g4⟩, g5⟩, g6⟩ := hk
  have hsl : c.o.seeds.length ≤ 64 := by
    have := g1
    unfold OCfgT.good at this
    simp only [Bool.and_eq_true, decide_eq_true_eq] at this
    exact this.1.2
  obtain ⟨W, hW⟩ : ∃ W, W = w.alloc (.cells (c.cells v).toArray 41) := ⟨_, rfl⟩
  have hbW : W.heap[w.heap.size]? = some (.cells (c.cells v).toArray 41 (0, 0)) := by rw [hW]; exact heap_alloc_new w _
  have hoW : Only (fun _ => False) w W := by rw [hW]; exact (Only.refl _ _).alloc _
  have hsW : W.heap.size = w.heap.size + 1 := by rw [hW]; simp
  have hgood : (c.o.good && inB self 1 65535) = true := by rw [g1, g2]; rfl
  have hix := fun k (hk : k < 5) => idx5 k hk
  have hk1 := h.new hoW
  have c0 := fun i => cell_at hbW i
  have ha : W.heap[w.heap.size]? = some (.cells (c.cells v).toArray 41 (0, 0)) := hbW
  have z0 : W.cell? ⟨w.heap.size, 0, none⟩ = some (.int .i64 c.o.act) := cell_at hbW 0
  have z1 : W.cell? ⟨w.heap.size, 1, none⟩ = some (.int .i64 c.o.pas) := cell_at hbW 1
  have z2 : W.cell? ⟨w.heap.size, 2, none⟩ = some (.int .i64 c.o.far) := cell_at hbW 2
  have z3 : W.cell? ⟨w.heap.size, 3, none⟩ = some (.int .i64 c.o.near) := cell_at hbW 3
  have z4 : W.cell? ⟨w.heap.size, 4, none⟩ = some (.int .i64 c.o.mixA) := cell_at hbW 4
  have z5 : W.cell? ⟨w.heap.size, 5, none⟩ = some (.int .i64 c.o.mixP) := cell_at hbW 5
  have z6 : W.cell? ⟨w.heap.size, 6, none⟩ = some (.int .i64 c.o.every) := cell_at hbW 6
  have z7 : W.cell? ⟨w.heap.size, 7, none⟩ = some (v) := cell_at hbW 7
  have z8 : W.cell? ⟨w.heap.size, 8, none⟩ = some (.int .i64 c.most) := cell_at hbW 8
  have z9 : W.cell? ⟨w.heap.size, 9, none⟩ = some (.int .i64 c.ttl) := cell_at hbW 9
  have z10 : W.cell? ⟨w.heap.size, 10, none⟩ = some (.int .i64 c.wait) := cell_at hbW 10
  have z11 : W.cell? ⟨w.heap.size, 11, none⟩ = some (.int .i64 c.tell) := cell_at hbW 11
  have z12 : W.cell? ⟨w.heap.size, 12, none⟩ = some (.int .i64 c.sync) := cell_at hbW 12
  have z13 : W.cell? ⟨w.heap.size, 13, none⟩ = some (.int .i64 c.refresh) := cell_at hbW 13
  have hon := onew_any W self c.o v hk1 (by omega)
  unfold OverNew OCfgT.cells at hon
  have HON := Lib.hid hon
  have HBW := Lib.hid ha
  have HOW := Lib.hid hoW
  have HSL := Lib.hid hk1
  have HIX := Lib.hid hix
  have HGOOD := Lib.hid hgood
  have HS := Lib.hid hsW
  have G3 := Lib.hid g3
  have G4 := Lib.hid g4
  have G5 := Lib.hid g5
  have G6 := Lib.hid g6
  clear hon ha hoW hk1 hix hgood hsW g3 g4 g5 g6
  clear hbW c0 h g1 g2
  go_enter Tryz.func45, Tryz.ntmps45
  go_upto_region 1 with (fail)
  rw [← hW]
  clear hW
  have HB0 := Lib.hid HBW.out
  go_wp2_with fail
  refine HON.out.mono ?_
  rintro e w1 ⟨ho1, hh⟩
  rcases hh with ⟨-, bo, hbo, rfl, hat1⟩ | ⟨hbad, -⟩
  case inr => rw [HGOOD.out] at hbad; cases hbad
  clear z0 z1 z2 z3 z4 z5 z6 z7 z8 z9 z10 z11 z12 z13
  have hB1 := ho1.old HB0.out id
  have z8 : w1.cell? ⟨w.heap.size, 8, none⟩ = some (.int .i64 c.most) := cell_at hB1 8
  have z9 : w1.cell? ⟨w.heap.size, 9, none⟩ = some (.int .i64 c.ttl) := cell_at hB1 9
  have hst := snew_ok w1 c.most c.ttl G3.out.1 G3.out.2.1 G3.out.2.2.1 G3.out.2.2.2
  have hs1 := ho1.size
  have HB1 := Lib.hid hB1
  have HO1 := Lib.hid ho1
  have HA1 := Lib.hid hat1
  have HST := Lib.hid hst
  have HBO := Lib.hid hbo
  have HS1 := Lib.hid hs1
  clear hB1 ho1 hat1 hst hbo hs1
  go_wp2_with fail
  refine HST.out.mono ?_
  rintro e w2 ⟨rfl, ho2, hat2⟩
  clear z8 z9
  have hB2 := ho2.old HB1.out id
  have z10 : w2.cell? ⟨w.heap.size, 10, none⟩ = some (.int .i64 c.wait) := cell_at hB2 10
  have z11 : w2.cell? ⟨w.heap.size, 11, none⟩ = some (.int .i64 c.tell) := cell_at hB2 11
  have htn := tnew_ok w2 (w1.heap.size + 1) c.wait c.tell G4.out
  unfold TreeNew at htn
  have hs2 := ho2.size
  have HB2 := Lib.hid hB2
  have HO2 := Lib.hid ho2
  have HA2 := Lib.hid hat2
  have HTN := Lib.hid htn
  have HS2 := Lib.hid hs2
  clear hB2 ho2 hat2 htn hs2
  go_wp2_with fail
  refine HTN.out.mono ?_
  rintro e w3 ⟨bt, bx, bkb, bc, bcb, rfl, ho3, hat3, hat4, k1, k2, k3, k4, k5, k6, k7, k8⟩
  clear z10 z11
  have hB3 := ho3.old HB2.out id
  have z7 : w3.cell? ⟨w.heap.size, 7, none⟩ = some (v) := cell_at hB3 7
  have z12 : w3.cell? ⟨w.heap.size, 12, none⟩ = some (.int .i64 c.sync) := cell_at hB3 12
  have hsn := sdnew_any w3 self c.o.seeds c.sync (w1.heap.size + 1) v (by rw [rowI_flat]; exact HSL.out.new (HO1.out.trans (HO2.out.trans ho3)))
  unfold NewPost at hsn
  have hs3 := ho3.size
  have HB3 := Lib.hid hB3
  have HO3 := Lib.hid ho3
  have HA3 := Lib.hid hat3
  have HA4 := Lib.hid hat4
  have HSN := Lib.hid hsn
  have HS3 := Lib.hid hs3
  have K1 := Lib.hid k1
  have K2 := Lib.hid k2
  have K3 := Lib.hid k3
  have K4 := Lib.hid k4
  have K5 := Lib.hid k5
  have K6 := Lib.hid k6
  have K7 := Lib.hid k7
  have K8 := Lib.hid k8
  clear hB3 ho3 hat3 hat4 hsn hs3 k1 k2 k3 k4 k5 k6 k7 k8
  go_wp2_with fail
  refine HSN.out.mono ?_
  rintro e w4 ⟨ho4, hh⟩
  rcases hh with ⟨-, bs, hbs, rfl, hat5⟩ | ⟨hbad, -⟩
  case inr => rw [G5.out] at hbad; cases hbad
  clear z7 z12
  have hB4 := ho4.old HB3.out id
  have z13 : w4.cell? ⟨w.heap.size, 13, none⟩ = some (.int .i64 c.refresh) := cell_at hB4 13
  have hkn := knew_ok w4 self life 0 c.refresh G6.out.1 G6.out.2.1 G6.out.2.2.1 hl (by decide) G6.out.2.2.2.1 G6.out.2.2.2.2
  have hs4 := ho4.size
  have HB4 := Lib.hid hB4
  have HO4 := Lib.hid ho4
  have HA5 := Lib.hid hat5
  have HKN := Lib.hid hkn
  have HS4 := Lib.hid hs4
  have HBS := Lib.hid hbs
  clear hB4 ho4 hat5 hkn hs4 hbs
  go_wp2_with fail
  refine HKN.out.mono ?_
  rintro e w5 ⟨rfl, ho5, hat6⟩
  clear z13
  have hs5 := ho5.size
  have HO5 := Lib.hid ho5
  have HA6 := Lib.hid hat6
  have HS5 := Lib.hid hs5
  clear ho5 hat6 hs5
  go_wp2_with fail
  go_loopg [69] 5 (fun g v69 wr => ∃ k : Nat, v69 = .int .i64 k ∧ k ≤ 5 ∧ Only (fun _ => False) w5 wr ∧ g = 5 - k)
  case atStart => exact ⟨0, rfl, Nat.zero_le _, Only.refl _ _, rfl⟩
  case round =>
    obtain ⟨k, rfl, hk, ho, hg⟩ := hrel
    have HO := Lib.hid ho
    have Hg := Lib.hid hg
    clear ho hg
    by_cases hlt : k < 5
    · have hlt' : (k : Int) < 5 := by omega
      have hx := HIX.out k hlt
      go_wp2_with fail
      go_roundg (5 - (k + 1))
      case measure => rw [Hg.out]; omega
      case rel => exact ⟨k + 1, by go_num, by omega, HO.out, rfl⟩
    · have hlt' : ¬ (k : Int) < 5 := by omega
      go_wp2_with fail
      go_ret2
      have e0 : (W : World).heap.size = w.heap.size + 1 := HS.out
      have e1 := HS1.out
      have e2 := HS2.out
      have e3 := HS3.out
      have e4 := HS4.out
      have e5 := HS5.out
      have q1 := HBO.out
      have q2 := HBS.out
      have q3 := HA2.out.lt
      have q4 := HA6.out.lt
      have hw := HO.out.size
      have o6 : Only (fun _ => False) wr (wr.alloc (.cells #[.pointer (some ⟨bo, 0, none⟩), .pointer (some ⟨w1.heap.size + 1, 0, none⟩), .pointer (some ⟨bt, 0, none⟩), .pointer (some ⟨bs, 0, none⟩), .pointer (some ⟨w4.heap.size + 1, 0, none⟩)] 118)) := (Only.refl _ _).alloc _
      have o5 := HO.out.trans o6
      have o4 := HO5.out.trans o5
      have o3 := HO4.out.trans o4
      have o2 := HO3.out.trans o3
      have o1 := HO2.out.trans o2
      have q5 := K1.out
      have q6 := K2.out
      have q7 := K3.out
      have q8 := K4.out
      have q9 := K5.out
      have q10 := K7.out
      have q11 := K8.out
      exact HP.out _ _ ⟨⟨wr.heap.size, bo, w1.heap.size + 1, w1.heap.size, bt, bx, bkb, bc, bcb, bs, w4.heap.size + 1, w4.heap.size⟩, rfl, HOW.out.trans (HO1.out.trans o1),
        ⟨heap_alloc_new wr _, HA1.out.new o1, HA2.out.new o2, HA3.out.new o3, HA4.out.new o3, HA5.out.new o4, HA6.out.new o5, ⟨by simp only; omega, by simp only; omega, by simp only; omega, K6.out, by simp only; omega, by simp only; omega⟩⟩, ⟨by simp only; omega, by simp only; omega, by simp only; omega, by simp only; omega, by simp only; omega, by simp only; omega, by simp only; omega, by simp only; omega, by simp only; omega, by simp only; omega, by simp only; omega, by simp only; omega⟩⟩
end Go.Proofs.YtegechmdboccbaaGreatDoor
/-! Contracts of the functions of package pipe that touch the channel: New, Len, put, Take. -/
namespace Go.Proofs.YtegechmdboccbaaGreatDoor
open Go.Conc Go.RowKit

/-- A pipe: its pointer's block p, its channel's block c, what lies in it. -/
structure PipeAt (w : World) (p c : Nat) (buf : List Value) : Prop where
  blk : w.heap[p]? = some (.cells #[.chan (some c)] 162 (0, 0))
  chan : ∃ s r, w.heap[c]? = some (.chan 64 buf.toArray false s r false)

theorem PipeAt.cell {w : World} {p c : Nat} {buf : List Value} (h : PipeAt w p c buf) : w.cell? ⟨p, 0, none⟩ = some (.chan (some c)) := by simp [World.cell?, h.blk]
theorem PipeAt.ne {w : World} {p c : Nat} {buf : List Value} (h : PipeAt w p c buf) {a : Addr} {v : Value} (hc : w.cell? a = some v) : a.block ≠ c := by
  obtain ⟨s, r, hb⟩ := h.chan
  intro e
  simp [World.cell?, e, hb] at hc
theorem PipeAt.lt {w : World} {p c : Nat} {buf : List Value} (h : PipeAt w p c buf) : p < w.heap.size ∧ c < w.heap.size := by
  obtain ⟨s, r, hb⟩ := h.chan
  exact ⟨World.block_lt_of_cell? _ _ h.cell, lt_of_block hb⟩
theorem PipeAt.pne {w : World} {p c : Nat} {buf : List Value} (h : PipeAt w p c buf) : p ≠ c := h.ne h.cell
theorem PipeAt.kept {w w' : World} {S : Nat → Prop} {p c : Nat} {buf : List Value} (h : PipeAt w p c buf) (ho : Only S w w') (hp : ¬ S p) (hc : ¬ S c) : PipeAt w' p c buf := by
  obtain ⟨s, r, hb⟩ := h.chan
  exact ⟨ho.old h.blk hp, s, r, (ho.block c h.lt.2 hc).trans hb⟩
theorem PipeAt.set {w w' : World} {S : Nat → Prop} {p c : Nat} {buf : List Value} (h : PipeAt w p c buf) (ho : Only S w w') (hp : ¬ S p) (hc : ¬ S c) (buf' : List Value) (s r : Nat) : PipeAt (w'.setChan c 64 buf'.toArray false s r false) p c buf' := by
  have h1 := h.kept ho hp hc
  refine ⟨?_, s, r, heap_setChan _ _ _ _ _ _ _ _ h1.lt.2⟩
  have : (w'.setChan c 64 buf'.toArray false s r false).heap[p]? = w'.heap[p]? := by simp [World.setChan, Array.getElem?_setIfInBounds_ne h.pne.symm]
  exact this.trans h1.blk

theorem PipeAt.ne_own {w : World} {p c : Nat} {buf : List Value} (h : PipeAt w p c buf) {base : Nat} {e : TypeId} {size n : Nat} {v : Value} {xs : List Value} (ho : w.ownsRow base e size v n xs) (he : e ≠ 162) : v.ownBlock ≠ some p ∧ v.ownBlock ≠ some c := by
  obtain ⟨s, r, hb⟩ := h.chan
  have hb' := h.blk
  rcases ho.2 with ⟨rfl, _⟩ | ⟨g, cap, cur, rfl, _, hg, _⟩
  · simp [Value.ownBlock]
  · refine ⟨fun e1 => ?_, fun e1 => ?_⟩
    · simp only [Value.ownBlock, Option.some.injEq] at e1
      subst e1
      rw [hg] at hb'
      simp at hb'
      exact he hb'.2
    · simp only [Value.ownBlock, Option.some.injEq] at e1
      subst e1
      rw [hg] at hb
      simp at hb

theorem bytesItem : ∃ i, Tryz.prog.info? 246 = some i ∧ i.bytes = 24 := by
  have h : (Tryz.prog.info? 246).map (·.bytes) = some 24 := by kernel_rfl
  obtain ⟨i, hi, hb⟩ := Option.map_eq_some_iff.1 h
  exact ⟨i, hi, hb⟩
theorem mkchan (w : World) : (Instr.makeChan 160 (.int .i64 64)).run Tryz.prog w = .ok (.chan (some w.heap.size)) (w.alloc (.chan 64 #[] false 0 0 false)) := by
  obtain ⟨i, hi, hb⟩ := bytesItem
  simpa using run_makeChan (P := Tryz.prog) (w := w) Tryz.underlying160 hi .i64 64 (by omega) (by rw [hb]; omega)

theorem len_any (w : World) (p c : Nat) (buf : List Value) (h : PipeAt w p c buf) :
    Calls Tryz.prog 54 #[.pointer (some ⟨p, 0, none⟩)] w fun e w' => e = .returned (.int .i64 buf.length) ∧ w = w' := by
  have hp := h.cell
  obtain ⟨_, s, r, hc⟩ := h
  have hlen := fun ty => run_len_chan (P := Tryz.prog) 160 ty Tryz.underlying160 hc
  rw [List.size_toArray] at hlen
  go_enter Tryz.func54, Tryz.ntmps54
  go_wp2
  go_ret
  exact ⟨rfl, rfl⟩
theorem len_nil (w : World) : Calls Tryz.prog 54 #[.pointer none] w fun e w' => e = .returned (.int .i64 0) ∧ w = w' := by
  go_enter Tryz.func54, Tryz.ntmps54
  go_wp2
  go_ret
  exact ⟨rfl, rfl⟩

def zeroItem : Value := .agg #[.bool false, .string ⟨#[]⟩]
end Go.Proofs.YtegechmdboccbaaGreatDoor
/-! Contracts of Send, Clear, Break. -/
namespace Go.Proofs.YtegechmdboccbaaGreatDoor
open Go.Conc Go.RowKit
/-- What lies in a pipe: breaks and texts. -/
def items (l : List (Bool × ByteArray)) : List Value := l.map fun x => .agg #[.bool x.1, .string x.2]

theorem len_n (w : World) (p c : Nat) (buf : List Value) (n : Int) (h : PipeAt w p c buf) (hn : (buf.length : Int) = n) :
    Calls Tryz.prog 54 #[.pointer (some ⟨p, 0, none⟩)] w fun e w' => e = .returned (.int .i64 n) ∧ w = w' := by
  subst hn
  exact len_any w p c buf h

/-- What Take finds. -/
def Took (l : List (Bool × ByteArray)) (a : Bool) (b : ByteArray) (ok : Bool) (rest : List (Bool × ByteArray)) : Prop :=
  (ok = true ∧ l = (a, b) :: rest) ∨ (ok = false ∧ l = [] ∧ rest = [] ∧ a = false ∧ b = ⟨#[]⟩)

def bn (b : Bool) : Nat := cond b 1 0

end Go.Proofs.YtegechmdboccbaaGreatDoor
