/- A slice of acts of services that came in, as a list. -/
import Derived.Test.YtianboachknfmaaDoorSB
import Derived.Test.YtianboachknfmaaDoorSA
import Derived.Test.YtianboachknfmaaDoorME
import Derived.Test.YtianboachknfmaaDoorMA
/-! ServiceRises, plainly: what a store holds that is told all that keepers tell, life behind life. -/
namespace Go.Proofs.YtianboachknfmaaDoor
open Go.Conc Go.RowKit

def names6 : List ByteArray := [⟨#[97]⟩, ⟨#[98]⟩, ⟨#[99, 46, 100]⟩, ⟨#[101]⟩, ⟨#[102]⟩, ⟨#[103, 45, 49]⟩]
def keys6 : List ByteArray := names6.map (fun n => keyB 7 n)
theorem names6_named : ∀ n ∈ names6, namedP n = true := by decide +kernel
theorem names6_size : ∀ n ∈ names6, n.size ≤ 64 := by decide +kernel
theorem key7_inj {n m : ByteArray} (h : keyB 7 n = keyB 7 m) : n = m := by
  have h1 := key_rest 7 n
  have h2 := key_rest 7 m
  rw [← h1, ← h2, h]
structure RInv (L : List RecT) (k : KeepT) (last : Nat) : Prop where
  ok : StoreOk 48 60000 L
  keep : KeepOk k
  self : k.self = 7
  names : ∀ x ∈ k.own, x.name ∈ names6
  top : last ≤ k.life * 4294967296 + k.count
  recs : ∀ r ∈ L, (∃ n ∈ names6, r.key = keyB 7 n) ∧ r.ver ≤ last
  live : ∀ r ∈ L, r.ver / 4294967296 = k.life → r.gone = false → ∃ x ∈ k.own, r.key = keyB 7 x.name ∧ r.data = dataB x.a0 x.a1 x.a2 x.a3 x.p x.q x.r
  own : ∀ x ∈ k.own, ∃ r ∈ L, r.key = keyB 7 x.name ∧ r.ver / 4294967296 = k.life ∧ r.gone = false
/-- Records that are told one behind another: each may be, and rises. -/
def Tellable (k : KeepT) : List RecT → Nat → List RecT → Prop
  | L, last, [] => RInv L k last
  | L, last, x :: A => last < x.ver ∧ goodR x = true ∧ x.ver < 2 ^ 64 ∧ x.key.size ≤ 1000 ∧ putE 48 60000 L x = 0 ∧ Tellable k (putS 48 60000 L x) x.ver A
theorem put7 {L : List RecT} {last : Nat} (hok : StoreOk 48 60000 L) (hr : ∀ r ∈ L, (∃ n ∈ names6, r.key = keyB 7 n) ∧ r.ver ≤ last) {x : RecT} (hg : goodR x = true) (ha : x.age = 0) (hv : last < x.ver) :
    putE 48 60000 L x = 0 ∧ putS 48 60000 L x = insS x L := by
  have hlen : L.length ≤ 6 := keys_room (K := keys6) hok.rises (fun y hy => by
    obtain ⟨⟨n, hn, e⟩, _⟩ := hr y hy
    rw [e]
    exact List.mem_map.2 ⟨n, hn, rfl⟩)
  have he : putE 48 60000 L x = 0 := by
    unfold putE
    rw [hg, ha, if_neg (by decide), if_neg (by decide)]
    cases hf : findS L x.key with
    | none =>
      show (if (48 : Int) ≤ (L.length : Int) then (5 : Int) else 0) = 0
      rw [if_neg (by omega)]
    | some y =>
      have h1 := (hr y (findS_some hf).1).2
      show (if x.ver ≤ y.ver then (13 : Int) else 0) = 0
      rw [if_neg (by omega)]
  exact ⟨he, by unfold putS; rw [if_pos he]⟩
theorem node7 : nodeB ((7 : Nat) : Int) = true := by decide
theorem made7_good {life c : Nat} {x : SvcT} (h3 : 1 ≤ life) (hn : x.name ∈ names6) : goodR (madeR 7 life c x) = true :=
  made_good 7 x.name (life * 4294967296 + c) false _ node7 (names6_named _ hn) (by omega) rfl
theorem gone7_good {life c : Nat} {n : ByteArray} (h3 : 1 ≤ life) (hn : n ∈ names6) : goodR (goneR 7 life c n) = true :=
  made_good 7 n (life * 4294967296 + c) true _ node7 (names6_named _ hn) (by omega) rfl
theorem key7_size {n : ByteArray} (hn : n ∈ names6) : (keyB 7 n).size ≤ 1000 := by
  rw [keyB_size]
  have := names6_size n hn
  omega
/-- One record of a service that is offered is told. -/
theorem RInv.put {L : List RecT} {k : KeepT} {last c : Nat} (h : RInv L k last) {x : SvcT} (hx : x ∈ k.own) (hl : last ≤ k.life * 4294967296 + c) (hc : c + 1 ≤ k.count) :
    last < (madeR 7 k.life (c + 1) x).ver ∧ goodR (madeR 7 k.life (c + 1) x) = true ∧ (madeR 7 k.life (c + 1) x).ver < 2 ^ 64 ∧ (madeR 7 k.life (c + 1) x).key.size ≤ 1000 ∧ putE 48 60000 L (madeR 7 k.life (c + 1) x) = 0 ∧ RInv (putS 48 60000 L (madeR 7 k.life (c + 1) x)) k (madeR 7 k.life (c + 1) x).ver := by
  have hn := h.names x hx
  have hlf := h.keep.lifeB
  have hcb := h.keep.countB
  have hver : (madeR 7 k.life (c + 1) x).ver = k.life * 4294967296 + (c + 1) := rfl
  have hkey : (madeR 7 k.life (c + 1) x).key = keyB 7 x.name := rfl
  have hg := made7_good (c := c + 1) hlf.1 hn
  have hv : last < (madeR 7 k.life (c + 1) x).ver := by rw [hver]; omega
  obtain ⟨p1, p2⟩ := put7 h.ok h.recs hg rfl hv
  refine ⟨hv, hg, by rw [hver]; omega, by rw [hkey]; exact key7_size hn, p1, ?_⟩
  have hok := h.ok.put (madeR 7 k.life (c + 1) x)
  rw [p2] at hok ⊢
  have hmem : ∀ y, y ∈ insS (madeR 7 k.life (c + 1) x) L ↔ y = madeR 7 k.life (c + 1) x ∨ (y ∈ L ∧ y.key ≠ keyB 7 x.name) := fun y => mem_insS h.ok.rises
  refine ⟨hok, h.keep, h.self, h.names, by rw [hver]; omega, fun r hr => ?_, fun r hr h1 h2 => ?_, fun y hy => ?_⟩
  · rcases (hmem r).1 hr with rfl | ⟨h1, _⟩
    · exact ⟨⟨x.name, hn, rfl⟩, Nat.le_refl _⟩
    · obtain ⟨h2, h3⟩ := h.recs r h1
      exact ⟨h2, by omega⟩
  · rcases (hmem r).1 hr with rfl | ⟨h3, _⟩
    · exact ⟨x, hx, rfl, rfl⟩
    · exact h.live r h3 h1 h2
  · by_cases e : y.name = x.name
    · exact ⟨_, (hmem _).2 (.inl rfl), by rw [e, hkey], by rw [hver]; omega, rfl⟩
    · obtain ⟨r, h1, h2, h3, h4⟩ := h.own y hy
      exact ⟨r, (hmem _).2 (.inr ⟨h1, fun e2 => e (key7_inj (h2.symm.trans e2))⟩), h2, h3, h4⟩
theorem tell_rs {k : KeepT} : ∀ (l : List SvcT) (c last : Nat) (L : List RecT), RInv L k last → last ≤ k.life * 4294967296 + c → (∀ x ∈ l, x ∈ k.own) → c + (tellRs 7 k.life c l).length ≤ k.count → Tellable k L last (tellRs 7 k.life c l)
  | [], _, _, _, h, _, _, _ => h
  | x :: l, c, last, L, h, hl, hx, hc => by
    unfold tellRs at hc ⊢
    by_cases e : c = 4294967295
    · rw [if_pos e]
      exact h
    · rw [if_neg e] at hc ⊢
      rw [List.length_cons] at hc
      obtain ⟨h1, h2, h3, h4, h5, h6⟩ := h.put (hx x List.mem_cons_self) hl (by omega)
      refine ⟨h1, h2, h3, h4, h5, tell_rs l (c + 1) _ _ h6 (Nat.le_refl _) (fun y hy => hx y (List.mem_cons_of_mem _ hy)) (by omega)⟩
theorem tell_tick {L : List RecT} {k : KeepT} {last : Nat} (h : RInv L k last) : Tellable (tickK k) L last (tickL k) := by
  have hlen := tellRs_len k.self k.life k.own k.count (by have := h.keep.countB; omega)
  have hk := h.keep.tick
  have hcnt : k.count ≤ (tickK k).count := by
    unfold tickK
    simp only
    split <;> omega
  have hI : RInv L (tickK k) last := ⟨h.ok, hk, h.self, h.names, Nat.le_trans h.top (by show _ ≤ k.life * 4294967296 + (tickK k).count; omega), h.recs, h.live, h.own⟩
  unfold tickL
  cases hd : tickD k with
  | false => exact hI
  | true =>
    rw [if_pos rfl, h.self]
    have hce : (tickK k).count = k.count + (tellRs k.self k.life k.count k.own).length := by
      unfold tickK
      simp only [hd, if_pos]
    rw [h.self] at hce
    exact tell_rs (k := tickK k) k.own k.count last L hI h.top (fun x hx => hx) (by show k.count + (tellRs 7 k.life k.count k.own).length ≤ _; omega)
theorem tell_reg {L : List RecT} {k : KeepT} {last : Nat} (h : RInv L k last) {x : SvcT} (hs : svcOk x) (hn : x.name ∈ names6) (he : regE k x = 0) : Tellable (regK k x) L last [regR k x] := by
  have hk := h.keep.reg hs
  have e1 : regK k x = { k with count := k.count + 1, own := insW x k.own } := by unfold regK; rw [if_pos he]
  have e2 : regR k x = madeR 7 k.life (k.count + 1) x := by unfold regR; rw [if_pos he, h.self]
  rw [e1] at hk ⊢
  rw [e2]
  have hlf := h.keep.lifeB
  have hcb := hk.countB
  simp only at hcb
  have hver : (madeR 7 k.life (k.count + 1) x).ver = k.life * 4294967296 + (k.count + 1) := rfl
  have hkey : (madeR 7 k.life (k.count + 1) x).key = keyB 7 x.name := rfl
  have hg := made7_good (c := k.count + 1) hlf.1 hn
  have ht := h.top
  have hv : last < (madeR 7 k.life (k.count + 1) x).ver := by rw [hver]; omega
  obtain ⟨p1, p2⟩ := put7 h.ok h.recs hg rfl hv
  refine ⟨hv, hg, by rw [hver]; omega, by rw [hkey]; exact key7_size hn, p1, ?_⟩
  have hok := h.ok.put (madeR 7 k.life (k.count + 1) x)
  rw [p2] at hok ⊢
  have hmem : ∀ y, y ∈ insS (madeR 7 k.life (k.count + 1) x) L ↔ y = madeR 7 k.life (k.count + 1) x ∨ (y ∈ L ∧ y.key ≠ keyB 7 x.name) := fun y => mem_insS h.ok.rises
  have hmw : ∀ y, y ∈ insW x k.own ↔ y = x ∨ (y ∈ k.own ∧ y.name ≠ x.name) := fun y => mem_insW h.keep.rises
  refine ⟨hok, hk, h.self, fun y hy => ?_, by show _ ≤ k.life * 4294967296 + (k.count + 1); rw [hver]; omega, fun r hr => ?_, fun r hr h1 h2 => ?_, fun y hy => ?_⟩
  · rcases (hmw y).1 hy with rfl | ⟨h1, _⟩
    · exact hn
    · exact h.names y h1
  · rcases (hmem r).1 hr with rfl | ⟨h1, _⟩
    · exact ⟨⟨x.name, hn, rfl⟩, Nat.le_refl _⟩
    · obtain ⟨h2, h3⟩ := h.recs r h1
      exact ⟨h2, by omega⟩
  · rcases (hmem r).1 hr with rfl | ⟨h3, h4⟩
    · exact ⟨x, (hmw x).2 (.inl rfl), rfl, rfl⟩
    · obtain ⟨y, h5, h6, h7⟩ := h.live r h3 h1 h2
      exact ⟨y, (hmw y).2 (.inr ⟨h5, fun e => h4 (by rw [h6, e])⟩), h6, h7⟩
  · rcases (hmw y).1 hy with rfl | ⟨h1, h2⟩
    · exact ⟨_, (hmem _).2 (.inl rfl), rfl, by show (madeR 7 k.life (k.count + 1) y).ver / 4294967296 = k.life; rw [hver]; omega, rfl⟩
    · obtain ⟨r, h3, h4, h5, h6⟩ := h.own y h1
      exact ⟨r, (hmem _).2 (.inr ⟨h3, fun e2 => h2 (key7_inj (h4.symm.trans e2))⟩), h4, h5, h6⟩
theorem tell_wdr {L : List RecT} {k : KeepT} {last : Nat} (h : RInv L k last) {n : ByteArray} (hn : n ∈ names6) (he : wdrE k n = 0) : Tellable (wdrK k n) L last [wdrR k n] := by
  have hk := h.keep.wdr n
  have e1 : wdrK k n = { k with count := k.count + 1, own := delW n k.own } := by unfold wdrK; rw [if_pos he]
  have e2 : wdrR k n = goneR 7 k.life (k.count + 1) n := by unfold wdrR; rw [if_pos he, h.self]
  rw [e1] at hk ⊢
  rw [e2]
  have hlf := h.keep.lifeB
  have hcb := hk.countB
  simp only at hcb
  have hver : (goneR 7 k.life (k.count + 1) n).ver = k.life * 4294967296 + (k.count + 1) := rfl
  have hkey : (goneR 7 k.life (k.count + 1) n).key = keyB 7 n := rfl
  have hg := gone7_good (c := k.count + 1) hlf.1 hn
  have ht := h.top
  have hv : last < (goneR 7 k.life (k.count + 1) n).ver := by rw [hver]; omega
  obtain ⟨p1, p2⟩ := put7 h.ok h.recs hg rfl hv
  refine ⟨hv, hg, by rw [hver]; omega, by rw [hkey]; exact key7_size hn, p1, ?_⟩
  have hok := h.ok.put (goneR 7 k.life (k.count + 1) n)
  rw [p2] at hok ⊢
  have hmem : ∀ y, y ∈ insS (goneR 7 k.life (k.count + 1) n) L ↔ y = goneR 7 k.life (k.count + 1) n ∨ (y ∈ L ∧ y.key ≠ keyB 7 n) := fun y => mem_insS h.ok.rises
  have hmw : ∀ y, y ∈ delW n k.own ↔ y ∈ k.own ∧ y.name ≠ n := fun y => by unfold delW; simp
  refine ⟨hok, hk, h.self, fun y hy => h.names y ((hmw y).1 hy).1, by show _ ≤ k.life * 4294967296 + (k.count + 1); rw [hver]; omega, fun r hr => ?_, fun r hr h1 h2 => ?_, fun y hy => ?_⟩
  · rcases (hmem r).1 hr with rfl | ⟨h1, _⟩
    · exact ⟨⟨n, hn, rfl⟩, Nat.le_refl _⟩
    · obtain ⟨h2, h3⟩ := h.recs r h1
      exact ⟨h2, by omega⟩
  · rcases (hmem r).1 hr with rfl | ⟨h3, h4⟩
    · cases h2
    · obtain ⟨y, h5, h6, h7⟩ := h.live r h3 h1 h2
      exact ⟨y, (hmw y).2 ⟨h5, fun e => h4 (by rw [h6, e])⟩, h6, h7⟩
  · obtain ⟨h1, h2⟩ := (hmw y).1 hy
    obtain ⟨r, h3, h4, h5, h6⟩ := h.own y h1
    exact ⟨r, (hmem _).2 (.inr ⟨h3, fun e2 => h2 (key7_inj (h4.symm.trans e2))⟩), h4, h5, h6⟩
theorem keep_fresh {life : Nat} (h1 : 1 ≤ life) (h2 : life < 4294967296) : KeepOk ⟨7, life, 0, 2, 0, []⟩ where
  selfB := ⟨by show (1 : Int) ≤ 7; omega, by show (7 : Int) ≤ 65535; omega⟩
  lifeB := ⟨h1, h2⟩
  countB := by show (0 : Nat) < 4294967296; omega
  everyB := ⟨by show (1 : Int) ≤ 2; omega, by show (2 : Int) ≤ 1000; omega⟩
  tickB := ⟨Int.le_refl _, by show (0 : Int) < 2; omega⟩
  rises := List.Pairwise.nil
  names := fun _ h => by cases h
  room := by show (0 : Nat) ≤ 8; omega
theorem rinv_start : RInv [] ⟨7, 1, 0, 2, 0, []⟩ 0 where
  ok := StoreOk.empty (by omega) (by omega) (by omega) (by omega)
  keep := keep_fresh (by omega) (by omega)
  self := rfl
  names := fun _ h => by cases h
  top := Nat.zero_le _
  recs := fun _ h => by cases h
  live := fun _ h => by cases h
  own := fun _ h => by cases h
theorem life_next (N a c last : Nat) (h : last ≤ a * N + c) (hc : c < N) : last ≤ (a + 1) * N + 0 := by
  rw [Nat.succ_mul]
  omega
theorem life_old (a c last v : Nat) (h : last ≤ a * 4294967296 + c) (hc : c < 4294967296) (h2 : v ≤ last) : v / 4294967296 ≠ a + 1 := by omega
/-- A life anew. -/
theorem RInv.anew {L : List RecT} {k : KeepT} {last : Nat} (h : RInv L k last) (hl : k.life < 1000) : RInv L ⟨7, k.life + 1, 0, 2, 0, []⟩ last := by
  have hcb := h.keep.countB
  have ht := h.top
  refine ⟨h.ok, keep_fresh (by omega) (by omega), rfl, (fun _ h => by cases h), ?_, h.recs, fun r hr h1 _ => ?_, (fun _ h => by cases h)⟩
  · exact life_next 4294967296 k.life k.count last ht hcb
  · exact absurd h1 (life_old _ _ _ _ ht hcb (h.recs r hr).2)
def liveB (life : Nat) (r : RecT) : Bool := decide (r.ver / 4294967296 = life) && !r.gone
theorem RInv.count {L : List RecT} {k : KeepT} {last : Nat} (h : RInv L k last) : (L.filter (liveB k.life)).length = k.own.length := by
  have hp : ((L.filter (liveB k.life)).map (·.key)).Perm (k.own.map (fun x => keyB 7 x.name)) := by
    refine (List.perm_ext_iff_of_nodup ?_ ?_).2 (fun a => ?_)
    · refine List.Nodup.sublist ((List.filter_sublist (l := L) (p := liveB k.life)).map _) ?_
      show (L.map (·.key)).Pairwise (· ≠ ·)
      rw [List.pairwise_map]
      exact rising_keys h.ok.rises
    · show (k.own.map (fun x => keyB 7 x.name)).Pairwise (· ≠ ·)
      rw [List.pairwise_map]
      exact (risingV_keys h.keep.rises).imp (fun {a b} hab e => hab (key7_inj e))
    · simp only [List.mem_map, List.mem_filter]
      constructor
      · rintro ⟨r, ⟨h1, h2⟩, rfl⟩
        unfold liveB at h2
        simp only [Bool.and_eq_true, decide_eq_true_eq, Bool.not_eq_true'] at h2
        obtain ⟨x, h3, h4, _⟩ := h.live r h1 h2.1 h2.2
        exact ⟨x, h3, h4.symm⟩
      · rintro ⟨x, hx, rfl⟩
        obtain ⟨r, h1, h2, h3, h4⟩ := h.own x hx
        exact ⟨r, ⟨h1, by unfold liveB; rw [h3, h4]; simp⟩, h2⟩
  have := hp.length_eq
  rw [List.length_map, List.length_map] at this
  exact this
theorem dataB_told (n : ByteArray) (a0 a1 a2 a3 p q r : Nat) (h0 : a0 < 256) (h1 : a1 < 256) (h2 : a2 < 256) (h3 : a3 < 256) (hp : p < 65536) (hq : q < 65536) (hr : r < 65536) (o : Int) :
    svcV ((keyB o n).extract 2 (keyB o n).size) (bA (dataB a0 a1 a2 a3 p q r) 0) (bA (dataB a0 a1 a2 a3 p q r) 1) (bA (dataB a0 a1 a2 a3 p q r) 2) (bA (dataB a0 a1 a2 a3 p q r) 3) (bA (dataB a0 a1 a2 a3 p q r) 4 * 256 + bA (dataB a0 a1 a2 a3 p q r) 5) (bA (dataB a0 a1 a2 a3 p q r) 6 * 256 + bA (dataB a0 a1 a2 a3 p q r) 7) (bA (dataB a0 a1 a2 a3 p q r) 8 * 256 + bA (dataB a0 a1 a2 a3 p q r) 9) = svcT ⟨n, a0, a1, a2, a3, p, q, r⟩ := by
  obtain ⟨b0, b1, b2, b3, b4, b5, b6⟩ := refD_bytes a0 a1 a2 a3 p q r h0 h1 h2 h3 hp hq hr
  rw [dataB_ref _ _ _ _ p q r hp hq hr, b0, b1, b2, b3, b4, b5, b6, key_rest]
  rfl
theorem RInv.named {L : List RecT} {k : KeepT} {last : Nat} (h : RInv L k last) {x : SvcT} (hx : x ∈ k.own) :
    ∃ r, L.filter (fun y => !(!decide (splitS y.key = x.name) || y.gone)) = [r] ∧ r.ver < 2 ^ 64 ∧ r.key.size ≤ 1000 ∧ tellE r.key r.ver r.o r.age r.gone r.data = 0 ∧ tellV r.key r.ver r.o r.age r.gone r.data = svcT x := by
  obtain ⟨r, h1, h2, h3, h4⟩ := h.own x hx
  obtain ⟨y, h5, h6, h7⟩ := h.live r h1 h3 h4
  have e1 : y.name = x.name := key7_inj (h6.symm.trans h2)
  have e2 : y = x := by
    have a := findW_mem h.keep.rises h5
    have b := findW_mem h.keep.rises hx
    rw [e1, b] at a
    exact (Option.some.inj a).symm
  subst e2
  have hn := h.names y hx
  have hsp : ∀ n ∈ names6, splitS (keyB 7 n) = n := fun n hn => (split_key node7 (names6_named n hn)).2.1
  obtain ⟨hg, _⟩ := h.ok.goods r h1
  obtain ⟨_, s1, s2, s3, s4, s5, s6, s7⟩ := (h.keep.names y hx).2
  have hcb := h.keep.countB
  have hlb := h.keep.lifeB
  have htop := h.top
  have hle := (h.recs r h1).2
  refine ⟨r, ?_, by omega, by rw [h2]; exact key7_size hn, ?_, ?_⟩
  · refine rising_ext (rising_filter h.ok.rises _) (List.pairwise_singleton _ _) (fun z => ?_)
    rw [List.mem_filter, List.mem_singleton]
    constructor
    · rintro ⟨z1, z2⟩
      obtain ⟨⟨n, hn2, z3⟩, _⟩ := h.recs z z1
      rw [z3, hsp n hn2] at z2
      have z4 : n = y.name := by
        by_cases e : n = y.name
        · exact e
        · rw [decide_eq_false e] at z2
          cases z2
      have a := findS_mem h.ok.rises z1
      have b := findS_mem h.ok.rises h1
      rw [z3, z4, ← h2, b] at a
      exact (Option.some.inj a).symm
    · rintro rfl
      exact ⟨h1, by rw [h2, hsp _ hn, h4]; simp⟩
  · unfold tellE
    rw [show goodP r.key r.ver r.o r.age r.gone r.data = true from hg, h4]
    rfl
  · unfold tellV
    rw [show goodP r.key r.ver r.o r.age r.gone r.data = true from hg, h4, if_pos (show (true && !false) = true from rfl), h2, h7]
    exact dataB_told _ _ _ _ _ _ _ _ s1 s2 s3 s4 s5 s6 s7 7
end Go.Proofs.YtianboachknfmaaDoor
/-! bellhoplaw26.speaks. -/
namespace Go.Proofs.YtianboachknfmaaDoor
open Go.Conc Go.RowKit Go.Maps

def sp26N : ByteArray := ⟨#[119, 101, 98]⟩
def sp26S : SvcT := ⟨sp26N, 0, 0, 0, 0, 80, 0, 0⟩
def sp26K : KeepT := ⟨3, 1, 0, 2, 0, []⟩
def sp26L : KeepT := ⟨3, 1, 1, 2, 0, [sp26S]⟩
theorem sp26_ok : svcOk sp26S := by
  unfold svcOk
  decide +kernel
theorem sp26_e : regE sp26K sp26S = 0 := by decide +kernel
theorem sp26_k : regK sp26K sp26S = sp26L := by
  unfold regK
  rw [if_pos sp26_e]
  rfl
theorem sp26_r : regR sp26K sp26S = madeR 3 1 1 sp26S := by
  unfold regR
  rw [if_pos sp26_e]
  rfl
theorem sp26_t1 : tickL sp26L = [] := by
  unfold tickL
  rw [if_neg (by decide +kernel)]
theorem sp26_k1 : tickK sp26L = { sp26L with tick := 1 } := by
  unfold tickK
  have h : tickD sp26L = false := by decide +kernel
  rw [h]
  rfl
theorem sp26_t2 : tickL { sp26L with tick := 1 } = [madeR 3 1 2 sp26S] := by
  unfold tickL
  rw [if_pos (by decide +kernel)]
  rfl
set_option maxRecDepth 100000 in
set_option maxHeartbeats 4000000 in
theorem speaks26_any (w : World) (m : Int) (hm : w.cell? ⟨0, 0, none⟩ = some (.int .i64 m)) :
    Calls Tryd.prog 27 #[] w fun e w' => e = .returned (.bool true) ∧ Only (fun _ => False) w w' := by
  have h0 : 0 < w.heap.size := World.block_lt_of_cell? _ _ hm
  have HNEW := Lib.hid (knew_ok w 3 1 0 2 (by decide) (by decide) (by decide) (by decide) (by decide) (by decide) (by decide))
  have HM := Lib.hid hm
  clear hm
  go_enter Tryd.func27, Tryd.ntmps27
  go_wp2_with fail
  refine HNEW.out.mono ?_
  rintro e w1 ⟨rfl, ho1, hk1⟩
  have hb0 : w.heap.size + 1 ≠ 0 ∧ w.heap.size ≠ 0 := by omega
  have hreg := kreg_any w1 _ _ _ hk1 hb0 m (ho1.cell HM.out id) sp26S sp26_ok
  rw [show (⟨3, 1, 0, 2, 0, []⟩ : KeepT) = sp26K from rfl, sp26_e, sp26_k, sp26_r] at hreg
  have HREG := Lib.hid hreg
  have HO1 := Lib.hid ho1
  clear hreg ho1
  clear HNEW hk1
  go_wp2_with fail
  refine HREG.out.mono ?_
  rintro e w2 ⟨rfl, ho2, hk2⟩
  have hlt2 := hk2.lt.1
  have hoA := HO1.out.tr ho2 (fun i hi e => by have h9 : i = w.heap.size + 1 ∨ i = w.heap.size := e; omega)
  have hd : recT (madeR 3 1 1 sp26S) = .agg #[.string (keyB 3 sp26N), .int .u64 4294967297, .int .i64 3, .int .i64 0, .bool false, .string (dataB 0 0 0 0 80 0 0)] := rfl
  rw [hd]
  generalize hd0 : dataB 0 0 0 0 80 0 0 = D at *
  generalize hk0 : keyB 3 sp26N = K at *
  obtain ⟨V, hV⟩ : ∃ V, V = w2.alloc (.cells #[.string K, .int .u64 4294967297, .int .i64 3, .int .i64 0, .bool false, .string D] 33) := ⟨_, rfl⟩
  have hbV : V.heap[w2.heap.size]? = some (.cells #[.string K, .int .u64 4294967297, .int .i64 3, .int .i64 0, .bool false, .string D] 33 (0, 0)) := by rw [hV]; exact heap_alloc_new w2 _
  have hoV : Only (fun _ => False) w2 V := by rw [hV]; exact (Only.refl _ _).alloc _
  have hsV : V.heap.size = w2.heap.size + 1 := by rw [hV]; simp
  have hoB := hoA.trans hoV
  have hkV := hk2.new hoV
  have htk := ktick_any V _ _ _ hkV hb0 m (hoB.cell HM.out id)
  rw [sp26_t1, sp26_k1] at htk
  have hs2 := hoA.size
  have HTK := Lib.hid htk
  have HOB := Lib.hid hoB
  have HBV := Lib.hid hbV
  clear htk hoB hbV
  clear hd hoA hk2 hoV HREG HO1 ho2 hkV
  go_upto_region 3 with (fail)
  rw [← hV]
  clear hV
  go_wp2_with fail
  refine HTK.out.mono ?_
  rintro e w3 ⟨v3, rfl, ho3, hk3, hr3⟩
  obtain ⟨a3, cap3, rfl, _⟩ := Sl.cells recC_length (Sl.of_owns hr3)
  have hoC := HOB.out.tr ho3 (fun i hi e => by have h9 : i = w.heap.size + 1 := e; omega)
  have htk2 := ktick_any w3 _ _ _ hk3 hb0 m (hoC.cell HM.out id)
  rw [sp26_t2] at htk2
  have hb3 := ho3.old HBV.out (fun e => by have h9 : w2.heap.size = w.heap.size + 1 := e; omega)
  have HTK2 := Lib.hid htk2
  have HOC := Lib.hid hoC
  have HB3 := Lib.hid hb3
  clear htk2 hoC hb3
  clear HTK HOB HBV ho3 hk3 hr3
  go_wp2_with fail
  refine HTK2.out.mono ?_
  rintro e w4 ⟨v4, rfl, ho4, hk4, hr4⟩
  obtain ⟨a4, cap4, rfl, _, _, h4⟩ := Sl.cells recC_length (Sl.of_owns hr4)
  obtain ⟨b4, off4, rfl, hc4⟩ := h4.at 0 (Nat.zero_lt_one)
  have y1 : w4.cell? ⟨b4, off4 + 1, none⟩ = some (.int .u64 4294967298) := hc4 1 _ rfl
  have y5 : w4.cell? ⟨b4, off4 + 5, none⟩ = some (.string D) := by rw [← hd0]; exact hc4 5 _ rfl
  have hb4 := ho4.old HB3.out (fun e => by have h9 : w2.heap.size = w.heap.size + 1 := e; omega)
  have g0 : w4.cell? ⟨w2.heap.size, 0, none⟩ = some (.string K) := cell_at hb4 0
  have g1 : w4.cell? ⟨w2.heap.size, 1, none⟩ = some (.int .u64 4294967297) := cell_at hb4 1
  have g2 : w4.cell? ⟨w2.heap.size, 2, none⟩ = some (.int .i64 3) := cell_at hb4 2
  have g3 : w4.cell? ⟨w2.heap.size, 3, none⟩ = some (.int .i64 0) := cell_at hb4 3
  have g4 : w4.cell? ⟨w2.heap.size, 4, none⟩ = some (.bool false) := cell_at hb4 4
  have g5 : w4.cell? ⟨w2.heap.size, 5, none⟩ = some (.string D) := cell_at hb4 5
  have hoD := HOC.out.tr ho4 (fun i hi e => by have h9 : i = w.heap.size + 1 := e; omega)
  have HOWN := Lib.hid (show ∀ w', Only (fun _ => False) w4 w' → Calls Tryd.prog 37 #[.pointer (some ⟨w.heap.size + 1, 0, none⟩)] w' fun e w'' => ∃ a cap, e = .returned (.slice a 1 cap) ∧ Only (fun _ => False) w' w'' from fun w' ho => (own_any w' _ _ _ (hk4.new ho)).mono (fun e w'' hh => by
    obtain ⟨v, h1, h2, h3⟩ := hh
    have h4 : Sl w'' 8 v [sp26S].length ([sp26S].flatMap svcCs) := Sl.of_owns h3
    obtain ⟨oa, ocap, rfl, _⟩ := Sl.cells svcCs_length h4
    exact ⟨oa, ocap, h1, h2⟩))
  have HOD := Lib.hid hoD
  clear hoD
  clear hc4 hb4 ho4 hk4 hr4 HTK2
  go_upto_region 4 with (fail)
  go_cut [0] (fun v0 w' => v0 = .bool true ∧ Only (fun _ => False) w4 w')
  case first =>
    go_region_held3 (fun w' => w'.cell? ⟨b4, off4 + 1, none⟩ = some (.int .u64 4294967298) ∧ w'.cell? ⟨b4, off4 + 5, none⟩ = some (.string D) ∧ w'.cell? ⟨w2.heap.size, 1, none⟩ = some (.int .u64 4294967297) ∧ w'.cell? ⟨w2.heap.size, 2, none⟩ = some (.int .i64 3) ∧ w'.cell? ⟨w2.heap.size, 5, none⟩ = some (.string D))
      (((try go_split_ands); (repeat' apply And.intro); all_goals (repeat (first | (with_reducible assumption) | (with_reducible apply keepDv) | (with_reducible apply keepNv)))))
      (first
        | (go_at_call 37; (with_reducible refine (HOWN.out _ (by (repeat (first | (with_reducible assumption) | (with_reducible exact Only.refl _ _) | (with_reducible refine Only.drew ?_) | (with_reducible refine Only.alloc ?_ _) | (with_reducible refine onlySet ?_ (by first | (with_reducible assumption) | omega) _) | (with_reducible refine Only.trans ?_ (by with_reducible assumption)))))).mono ?_); rintro e w7 ⟨oa, ocap, rfl, ho7⟩; have o7 : Only (fun _ => False) w4 w7 := (by (refine Only.trans (b := _) ?_ ho7; (repeat (first | (with_reducible assumption) | (with_reducible exact Only.refl _ _) | (with_reducible refine Only.drew ?_) | (with_reducible refine Only.alloc ?_ _) | (with_reducible refine onlySet ?_ (by first | (with_reducible assumption) | omega) _) | (with_reducible refine Only.trans ?_ (by with_reducible assumption)))))); have q0 := Only.cell o7 y1 id; have q1 := Only.cell o7 y5 id; have q2 := Only.cell o7 g1 id; have q3 := Only.cell o7 g2 id; have q4 := Only.cell o7 g5 id))
    all_goals
      go_split_ands
      go_wp2_with fail
      go_meet
      exact ⟨rfl, by (repeat (first | (with_reducible assumption) | (with_reducible refine Only.drew ?_)))⟩
  case rest =>
  obtain ⟨rfl, hoz⟩ := hcut
  have hoE := HOD.out.trans hoz
  have HOE := Lib.hid hoE
  clear hoE
  clear hoz
  go_wp2_with fail
  go_ret
  exact ⟨rfl, HOE.out⟩
end Go.Proofs.YtianboachknfmaaDoor
/-! An act upon a keeper; what ServiceRises' loop keeps. -/
namespace Go.Proofs.YtianboachknfmaaDoor
open Go.Conc Go.RowKit Go.Maps

structure ActV where
  what : Int
  name : ByteArray
  b0 : Nat
  b1 : Nat
  b2 : Nat
  b3 : Nat
  p : Nat
def actVC (a : ActV) : List Value := [.int .i64 a.what, .string a.name, .int .u8 a.b0, .int .u8 a.b1, .int .u8 a.b2, .int .u8 a.b3, .int .u16 a.p]
def actVOk (a : ActV) : Prop := (Lit.int .i64 a.what).wf = true ∧ a.name.size ≤ maxLen ∧ a.b0 < 256 ∧ a.b1 < 256 ∧ a.b2 < 256 ∧ a.b3 < 256 ∧ a.p < 65536
theorem actVC_length (a : ActV) : (actVC a).length = 7 := rfl
structure RAt (N nb s : Nat) (w : World) (x b : Nat) (k : KeepT) (L : List RecT) (last : Nat) : Prop where
  keep : KeepAt w x b k
  store : StoreAt w (s + 1) s 48 60000 0 L
  inv : RInv L k last
  sep : N ≤ s ∧ s + 1 < nb ∧ N ≤ x ∧ N ≤ b ∧ x ≠ nb ∧ b ≠ nb ∧ x ≠ s ∧ x ≠ s + 1 ∧ b ≠ s ∧ b ≠ s + 1
theorem RAt.new {N nb s : Nat} {w w' : World} {x b : Nat} {k : KeepT} {L : List RecT} {last : Nat} (h : RAt N nb s w x b k L last) (ho : Only (fun _ => False) w w') : RAt N nb s w' x b k L last :=
  ⟨h.keep.new ho, h.store.new ho, h.inv, h.sep⟩
theorem RInv.last64 {L : List RecT} {k : KeepT} {last : Nat} (h : RInv L k last) : last < 2 ^ 64 := by
  have := h.keep.lifeB
  have := h.keep.countB
  have := h.top
  omega
/-- What goes on behind an act: another keeper's state, and what it told. -/
structure RTold (N nb s : Nat) (w : World) (B : Nat) (x b : Nat) (k : KeepT) (L : List RecT) (last : Nat) (v : Value) (A : List RecT) : Prop where
  keep : KeepAt w x b k
  store : StoreAt w (s + 1) s 48 60000 0 L
  told : Tellable k L last A
  row : RecRow w B v A
theorem regK_life (k : KeepT) (x : SvcT) : (regK k x).life = k.life := by unfold regK; split <;> rfl
theorem wdrK_life (k : KeepT) (n : ByteArray) : (wdrK k n).life = k.life := by unfold wdrK; split <;> rfl
theorem regK_no {k : KeepT} {x : SvcT} (h : regE k x ≠ 0) : regK k x = k := by unfold regK; rw [if_neg h]
theorem wdrK_no {k : KeepT} {n : ByteArray} (h : wdrE k n ≠ 0) : wdrK k n = k := by unfold wdrK; rw [if_neg h]
theorem rtold_act {N nb s : Nat} {w w' : World} {x b : Nat} {k K' : KeepT} {L : List RecT} {last : Nat} {v : Value} {A : List RecT} (hat : RAt N nb s w x b k L last) (ho : Only (fun i => i = x ∨ i = b) w w') (hk : KeepAt w' x b K') (ht : Tellable K' L last A) (hr : RecRow w' w.heap.size v A) :
    Only (fun j => N ≤ j ∧ j ≠ nb) w w' ∧ RTold N nb s w' w.heap.size x b K' L last v A := by
  have hs := hat.sep
  refine ⟨ho.weaken (fun i _ e => ?_), hk, hat.store.kept ho (fun e => ?_) (fun e => ?_), ht, hr⟩
  · show N ≤ i ∧ i ≠ nb
    have h9 : i = x ∨ i = b := e
    omega
  · have h9 : s + 1 = x ∨ s + 1 = b := e
    omega
  · have h9 : s = x ∨ s = b := e
    omega
theorem onlySetXB {V w : World} {x b c i : Nat} (h : Only (fun k => k = x ∨ k = b) V w) (hc : V.heap.size ≤ c) (v : Value) : Only (fun k => k = x ∨ k = b) V (w.setCell ⟨c, i, none⟩ v) := h.setCell (p := ⟨c, i, none⟩) (.inl hc) v
theorem infoU8s : (Tryd.prog.info? 5).map (fun i => (i.zero, i.size, i.bytes)) = some (some (.int .u8 0), 1, 1) := by kernel_rfl
theorem neS (w : World) (n : ByteArray) (a0 a1 a2 a3 p q r : Int) : (binOp BinOp.neq 86 (.agg #[.string n, .int .u8 a0, .int .u8 a1, .int .u8 a2, .int .u8 a3, .int .u16 p, .int .u16 q, .int .u16 r]) (.agg #[.string n, .int .u8 a0, .int .u8 a1, .int .u8 a2, .int .u8 a3, .int .u16 p, .int .u16 q, .int .u16 r])).run Tryd.prog w = .ok (.bool false) w := by
  have hc : Tryd.prog.cellsOf 5 = 1 := by kernel_rfl
  have hsz : ∀ w, (Go.sizeOf 5).run Tryd.prog w = .ok 1 w := fun w => by kernel_rfl
  obtain ⟨i, hi, _⟩ := info_parts infoU8s
  simp [run_equalIn_array (P := Tryd.prog) _ _ _ _ Tryd.underlying73 hi, Op.eqItems, List.range, List.range.loop, hc, part, hsz, go_sem]
end Go.Proofs.YtianboachknfmaaDoor
/-! A slice of acts of services that came in, as a list. -/
namespace Go.Proofs.YtianboachknfmaaDoor
open Go.Conc Go.RowKit Go.ChangeShapes Go.WideShapes Go.ChangeAt Go.WideMaps Go.WideElems

theorem rows_acts26 : ∀ rows : List (List Value), (∀ r ∈ rows, r.length = 7 ∧ ∃ a : ActV, r = actVC a ∧ actVOk a) →
    ∃ l : List ActV, rows.length = l.length ∧ rows.flatten = l.flatMap actVC ∧ ∀ a ∈ l, actVOk a
  | [], _ => ⟨[], rfl, rfl, by simp⟩
  | r :: rows, h => by
    obtain ⟨l, h1, h2, h3⟩ := rows_acts26 rows (fun r' h' => h r' (by simp [h']))
    obtain ⟨_, a, rfl, h4⟩ := h r (by simp)
    refine ⟨a :: l, by simp [h1], by simp [h2], fun b hb => ?_⟩
    rcases List.mem_cons.1 hb with rfl | hb
    · exact h4
    · exact h3 b hb
set_option maxRecDepth 100000 in
theorem sl_acts26 {H : Type} {enc : TypeId × Value → H} {w : World} {base : Nat} {held : Bool} {v : Value} {d : DataW H} {ps : List MemPlace} (hok : Value.okWide Tryd.prog w .any base 66 v) (h : DataW.Trod enc Tryd.prog w 0 (fun _ => true) held 66 v d ps) :
    ∃ l : List ActV, Sl w 7 v l.length (l.flatMap actVC) ∧ ∀ a ∈ l, actVOk a := by
  have hc : Tryd.prog.cellsOf 75 = 7 := by kernel_rfl
  have cu16 : Tryd.prog.cellsOf 45 = 1 := by kernel_rfl
  have cu8 : Tryd.prog.cellsOf 5 = 1 := by kernel_rfl
  have cA : Tryd.prog.cellsOf 73 = 4 := by kernel_rfl
  have cint : Tryd.prog.cellsOf 3 = 1 := by kernel_rfl
  have cstr : Tryd.prog.cellsOf 9 = 1 := by kernel_rfl
  obtain ⟨rows, h1, h2⟩ := sl_structs (Q := fun r => ∃ a : ActV, r = actVC a ∧ actVOk a) Tryd.underlying66 hc (by decide) hok h (fun n cs x hx => by
    obtain ⟨xs, m, _, _, hl, hlen, hel⟩ := DataW.trod_struct Tryd.underlying75 hx
    rw [hc] at hl
    match cs, hl with
    | [k0, k1, k2, k3, k4, k5, k6], _ =>
      match xs, hlen with
      | [y0, y1, y2, y3], _ =>
        have e0 : DataW.trod enc Tryd.prog w 0 (fun _ => true) held m 3 ((([k0, k1, k2, k3, k4, k5, k6] : List Value).drop 0).take (Tryd.prog.cellsOf 3)) = some y0 := hel 0 _ rfl
        rw [cint] at e0
        have f0 : DataW.trod enc Tryd.prog w 0 (fun _ => true) held m 3 [k0] = some y0 := e0
        have e1 : DataW.trod enc Tryd.prog w 0 (fun _ => true) held m 9 ((([k0, k1, k2, k3, k4, k5, k6] : List Value).drop 1).take (Tryd.prog.cellsOf 9)) = some y1 := hel 1 _ rfl
        rw [cstr] at e1
        have f1 : DataW.trod enc Tryd.prog w 0 (fun _ => true) held m 9 [k1] = some y1 := e1
        have e2 : DataW.trod enc Tryd.prog w 0 (fun _ => true) held m 73 ((([k0, k1, k2, k3, k4, k5, k6] : List Value).drop 2).take (Tryd.prog.cellsOf 73)) = some y2 := hel 2 _ rfl
        rw [cA] at e2
        have f2 : DataW.trod enc Tryd.prog w 0 (fun _ => true) held m 73 [k2, k3, k4, k5] = some y2 := e2
        have e3 : DataW.trod enc Tryd.prog w 0 (fun _ => true) held m 45 ((([k0, k1, k2, k3, k4, k5, k6] : List Value).drop 6).take (Tryd.prog.cellsOf 45)) = some y3 := hel 3 _ rfl
        rw [cu16] at e3
        have f3 : DataW.trod enc Tryd.prog w 0 (fun _ => true) held m 45 [k6] = some y3 := e3
        obtain ⟨z0, h0, _, w0⟩ := DataW.trod_int Tryd.underlying3 f0
        obtain ⟨nm, h1, _, w1⟩ := DataW.trod_string Tryd.underlying9 f1
        obtain ⟨_, _, _, _, m2, _, g0, g1, g2, g3⟩ := trod_array4 Tryd.underlying73 cu8 f2
        obtain ⟨x0, i0, _, v0⟩ := DataW.trod_int Tryd.underlying5 g0
        obtain ⟨x1, i1, _, v1⟩ := DataW.trod_int Tryd.underlying5 g1
        obtain ⟨x2, i2, _, v2⟩ := DataW.trod_int Tryd.underlying5 g2
        obtain ⟨x3, i3, _, v3⟩ := DataW.trod_int Tryd.underlying5 g3
        obtain ⟨z6, h6, _, w6⟩ := DataW.trod_int Tryd.underlying45 f3
        cases h0
        cases h1
        cases i0
        cases i1
        cases i2
        cases i3
        cases h6
        obtain ⟨x0, rfl, q0⟩ := nat_u8 v0
        obtain ⟨x1, rfl, q1⟩ := nat_u8 v1
        obtain ⟨x2, rfl, q2⟩ := nat_u8 v2
        obtain ⟨x3, rfl, q3⟩ := nat_u8 v3
        obtain ⟨z6, rfl, q6⟩ := nat_u16 w6
        exact ⟨⟨z0, nm, x0, x1, x2, x3, z6⟩, rfl, ⟨w0, w1, q0, q1, q2, q3, q6⟩⟩)
  obtain ⟨l, e1, e2, e3⟩ := rows_acts26 rows h2
  rw [e1, e2] at h1
  exact ⟨l, h1, e3⟩
end Go.Proofs.YtianboachknfmaaDoor
