/- bellhoplaw20: which seed is asked when; speaks. -/
import Derived.Test.YtianboachknfmaaDoorSds5
namespace Go.Proofs.YtianboachknfmaaDoor
open Go.Conc Go.RowKit Go.Maps

def sdT (every : Int) (k : Nat) : Int := if every = 0 then 0 else (k : Int) % every
def sdN (every : Int) (n k : Nat) : Int := if every = 0 ∨ n = 0 then 0 else ((k : Int) / every) % (n : Int)
theorem mod_succ {every : Int} (k : Int) : (k % every + 1) % every = (k + 1) % every := by
  rw [Int.emod_add_emod]
theorem div_succ_yes {every k : Int} (h : 1 ≤ every) (h2 : (k + 1) % every = 0) : (k + 1) / every = k / every + 1 := by
  obtain ⟨q, hq⟩ := Int.dvd_of_emod_eq_zero h2
  have e1 : (k + 1) / every = q := by rw [hq]; exact Int.mul_ediv_cancel_left _ (by omega)
  have e2 : k / every = q - 1 := by
    have : k = (every - 1) + every * (q - 1) := by rw [Int.mul_sub]; omega
    rw [this, Int.add_mul_ediv_left _ _ (by omega), Int.ediv_eq_zero_of_lt (by omega) (by omega)]
    omega
  omega
theorem div_succ_no {every k : Int} (h : 1 ≤ every) (h2 : (k + 1) % every ≠ 0) : (k + 1) / every = k / every := by
  have e := Int.emod_add_mul_ediv k every
  have h3 := Int.emod_nonneg k (show every ≠ 0 by omega)
  have h4 := Int.emod_lt_of_pos k (show 0 < every by omega)
  generalize k % every = r at *
  generalize k / every = q at *
  have e5 : k + 1 = (r + 1) + every * q := by omega
  rw [e5, Int.add_mul_emod_self_left] at h2
  rw [e5, Int.add_mul_ediv_left _ _ (by omega)]
  have h6 : r + 1 < every := by
    rcases (by omega : r + 1 < every ∨ r + 1 = every) with h7 | h7
    · exact h7
    · rw [h7, Int.emod_self] at h2
      exact absurd rfl h2
  rw [Int.ediv_eq_zero_of_lt (by omega) h6]
  omega
theorem sdT_zero (k : Nat) : sdT 0 k = 0 := rfl
theorem sdN_zero (n k : Nat) : sdN 0 n k = 0 := if_pos (.inl rfl)
theorem sdT_start (every : Int) : sdT every 0 = 0 := by unfold sdT; split <;> simp
theorem sdN_start (every : Int) (n : Nat) : sdN every n 0 = 0 := by unfold sdN; split <;> simp
theorem sdT_range {every : Int} (h : 1 ≤ every) (k : Nat) : 0 ≤ sdT every k ∧ sdT every k < every := by
  unfold sdT
  rw [if_neg (by omega)]
  exact ⟨Int.emod_nonneg _ (by omega), Int.emod_lt_of_pos _ (by omega)⟩
theorem sdT_succ {every : Int} (h : 1 ≤ every) (k : Nat) : (sdT every k + 1) % every = sdT every (k + 1) := by
  unfold sdT
  rw [if_neg (by omega), if_neg (by omega), mod_succ]
  rfl
theorem sdT_is {every : Int} (h : 1 ≤ every) (k : Nat) : sdT every (k + 1) = ((k : Int) + 1) % every := by
  unfold sdT
  rw [if_neg (by omega)]
  rfl
theorem sdN_no {every : Int} (h : 1 ≤ every) (n k : Nat) (h2 : ((k : Int) + 1) % every ≠ 0 ∨ n = 0) : sdN every n (k + 1) = sdN every n k := by
  unfold sdN
  by_cases c : every = 0 ∨ n = 0
  · rw [if_pos c, if_pos c]
  · rw [if_neg c, if_neg c]
    have h3 := h2.resolve_right (fun e => c (.inr e))
    rw [show (((k + 1 : Nat)) : Int) = (k : Int) + 1 from rfl, div_succ_no h h3]
theorem sdN_yes {every : Int} (h : 1 ≤ every) (n k : Nat) (h2 : ((k : Int) + 1) % every = 0) (hn : 0 < n) : sdN every n (k + 1) = (sdN every n k + 1) % n := by
  unfold sdN
  have c : ¬ (every = 0 ∨ n = 0) := by omega
  rw [if_neg c, if_neg c]
  rw [show (((k + 1 : Nat)) : Int) = (k : Int) + 1 from rfl, div_succ_yes h h2, Int.emod_add_emod]
theorem sdN_ask {every : Int} (h : 1 ≤ every) (n k : Nat) (h2 : ((k : Int) + 1) % every = 0) (hn : 0 < n) : (((k : Int) + 1) / every - 1) % (n : Int) = sdN every n k ∧ 1 ≤ ((k : Int) + 1) / every := by
  unfold sdN
  have c : ¬ (every = 0 ∨ n = 0) := by omega
  rw [if_neg c, div_succ_yes h h2]
  have := Int.ediv_nonneg (show (0 : Int) ≤ (k : Int) by omega) (show (0 : Int) ≤ every by omega)
  exact ⟨by congr 1; omega, by omega⟩
theorem sdN_nat {every : Int} (n k : Nat) (hn : 0 < n) : ∃ i : Nat, i < n ∧ sdN every n k = (i : Nat) := by
  unfold sdN
  by_cases c : every = 0 ∨ n = 0
  · rw [if_pos c]
    exact ⟨0, hn, rfl⟩
  · rw [if_neg c]
    have h1 := Int.emod_nonneg ((k : Int) / every) (show (n : Int) ≠ 0 by omega)
    have h2 := Int.emod_lt_of_pos ((k : Int) / every) (show (0 : Int) < n by omega)
    exact ⟨(((k : Int) / every) % n).toNat, by omega, by omega⟩
theorem SeedsAt.ne {w : World} {x s b : Nat} {every tick next most ttl r : Int} {l : List Int} {L : List RecT} (h : SeedsAt w x every tick next l s) (hs : StoreAt w s b most ttl r L) : x ≠ s := by
  rintro rfl
  obtain ⟨v, base, h1, _⟩ := h.out
  have h2 := hs.blk
  rw [h1] at h2
  injection h2 with h2
  injection h2 with h2 _ _
  have := congrArg Array.size h2
  simp at this
theorem SeedsAt.nem {w : World} {x s b : Nat} {every tick next most ttl r : Int} {l : List Int} {L : List RecT} (h : SeedsAt w x every tick next l s) (hs : StoreAt w s b most ttl r L) : b ≠ x := by
  rintro rfl
  obtain ⟨v, base, h1, _⟩ := h.out
  obtain ⟨es, c, hb, _⟩ := hs.map.own
  rw [hb] at h1
  cases h1
/-- A Tick that asks: its one letter. -/
structure OutIs (w : World) (g x : Nat) (n : Int) (m : MsgT) : Prop where
  out : ∃ vn vi vr T, w.heap[g]? = some (.cells #[.int .i64 n, .int .i64 13, .int .i64 0, .int .i64 0, .bool false, vn, vi, vr] T (0, 0)) ∧ MsgIs w (.agg #[.int .i64 13, .int .i64 0, .int .i64 0, .bool false, vn, vi, vr]) m
  ne : g ≠ x
theorem tick_yes (w : World) (x : Nat) (every tick next : Int) (l : List Int) (s b : Nat) (most ttl r : Int) (L : List RecT) (h : SeedsAt w x every tick next l s) (hs : StoreAt w s b most ttl r L) (he : 1 ≤ every) (he2 : every ≤ 1000) (ht : 0 ≤ tick) (ht2 : tick < every) (hn : (tick + 1) % every = 0) (i : Nat) (hi : i < l.length) (hni : next = (i : Nat)) (hll : l.length ≤ 1000) :
    Calls Tryd.prog 24 #[.pointer (some ⟨x, 0, none⟩)] w fun e w' => ∃ g, e = .returned (.slice (some ⟨g, 0, none⟩) 1 1) ∧ Only (fun i => i = x) w w' ∧ SeedsAt w' x every 0 ((next + 1) % l.length) l s ∧ StoreAt w' s b most ttl r L ∧ OutIs w' g x l[i] (askMsg L) := by
  refine (sdtick_yes w x every tick next l s b most ttl r L h hs (h.ne hs) he he2 ht ht2 hn i hi hni hll).mono ?_
  rintro e w' ⟨g, vn, vi, vr, T, rfl, ho, h2, h3, h4⟩
  refine ⟨g, rfl, ho, h2, hs.kept ho (h.ne hs).symm (h.nem hs), ⟨vn, vi, vr, T, h3, h4⟩, ?_⟩
  rintro rfl
  obtain ⟨v, base, h5, _⟩ := h2.out
  rw [h5] at h3
  injection h3 with h3
  injection h3 with h3 _ _
  have := congrArg Array.size h3
  simp at this
theorem sp20_new : seedsOk 1 [1, 2, 3] 1 = true ∧ othersL 1 [1, 2, 3] = [2, 3] := by decide
theorem sdnew_123 (W : World) (s : Nat) (v : Value) (h : Sl W 1 v 3 ([1, 2, 3].flatMap intC)) : Calls Tryd.prog 22 #[.int .i64 1, v, .int .i64 1, .pointer (some ⟨s, 0, none⟩)] W fun e w' => e = .returned (.tuple #[.pointer (some ⟨W.heap.size, 0, none⟩), .int .i64 0]) ∧ Only (fun _ => False) W w' ∧ SeedsAt w' W.heap.size 1 0 0 [2, 3] s := by
  refine (sdnew_any W 1 [1, 2, 3] 1 s v h).mono ?_
  rintro e w' ⟨ho, ⟨_, x, rfl, rfl, h2⟩ | ⟨h2, _⟩⟩
  · rw [sp20_new.2] at h2
    exact ⟨rfl, ho, h2⟩
  · rw [sp20_new.1] at h2
    cases h2
theorem tick2 (w : World) (x s b : Nat) (r : Int) (L : List RecT) (i j : Nat) (n : Int) (hi : (i = 0 ∧ j = 1 ∧ n = 2) ∨ (i = 1 ∧ j = 0 ∧ n = 3)) (h : SeedsAt w x 1 0 (i : Nat) [2, 3] s) (hs : StoreAt w s b 4 100 r L) :
    Calls Tryd.prog 24 #[.pointer (some ⟨x, 0, none⟩)] w fun e w' => ∃ g, e = .returned (.slice (some ⟨g, 0, none⟩) 1 1) ∧ Only (fun i => i = x) w w' ∧ SeedsAt w' x 1 0 (j : Nat) [2, 3] s ∧ StoreAt w' s b 4 100 r L ∧ w'.cell? ⟨g, 0, none⟩ = some (.int .i64 n) ∧ w'.cell? ⟨g, 1, none⟩ = some (.int .i64 13) ∧ g ≠ x := by
  have hi2 : i < [(2 : Int), 3].length := by rcases hi with ⟨rfl, _⟩ | ⟨rfl, _⟩ <;> decide
  refine (tick_yes w x 1 0 (i : Nat) [2, 3] s b 4 100 r L h hs (by omega) (by omega) (by omega) (by omega) (by decide) i hi2 rfl (by decide)).mono ?_
  rintro e w' ⟨g, rfl, ho, h2, h3, h4⟩
  obtain ⟨vn, vi, vr, T, h5, _⟩ := h4.out
  refine ⟨g, rfl, ho, ?_, h3, ?_, cell_at h5 1, h4.ne⟩
  · rcases hi with ⟨rfl, rfl, rfl⟩ | ⟨rfl, rfl, rfl⟩ <;> exact h2
  · have h6 := cell_at h5 0
    rcases hi with ⟨rfl, rfl, rfl⟩ | ⟨rfl, rfl, rfl⟩ <;> exact h6
set_option maxRecDepth 100000 in
set_option maxHeartbeats 1000000 in
theorem speaks20_any (w : World) : Calls Tryd.prog 20 #[] w fun e w' => e = .returned (.bool true) ∧ Only (fun _ => False) w w' := by
  go_enter Tryd.func20, Tryd.ntmps20
  go_wp2_with fail
  refine (snew_ok w 4 100 (by omega) (by omega) (by omega) (by omega)).mono ?_
  rintro e w1 ⟨rfl, ho1, hs1⟩
  generalize w.heap.size = b at *
  have HWS := Lib.hid ho1.size
  have HO1 := Lib.hid ho1
  have HS1 := Lib.hid hs1
  clear ho1 hs1
  go_wp2_with fail
  obtain ⟨W, hW⟩ : ∃ W, W = w1.alloc (.cells #[.int .i64 1, .int .i64 2, .int .i64 3] 3) := ⟨_, rfl⟩
  rw [← hW]
  have hsl : Sl W 1 (.slice (some ⟨w1.heap.size, 0, none⟩) 3 3) 3 ([1, 2, 3].flatMap intC) := by rw [hW]; exact Sl.fresh w1 _ _ 3 1 rfl (by unfold maxLen; decide)
  have hoW : Only (fun _ => False) w1 W := by rw [hW]; exact (Only.refl _ _).alloc _
  have hsW := HS1.out.new hoW
  have hoW2 := HO1.out.trans hoW
  have HSW := Lib.hid hsW
  have HOW := Lib.hid hoW2
  clear hsW hoW2
  clear hW hoW
  refine (sdnew_123 W _ _ hsl).mono ?_
  rintro e w2 ⟨rfl, ho2, hx2⟩
  have hs2 := HSW.out.new ho2
  have hoA := HOW.out.trans ho2
  have hXw : w.heap.size ≤ W.heap.size := HOW.out.size
  generalize W.heap.size = X at *
  have HS2 := Lib.hid hs2
  have HX2 := Lib.hid hx2
  have HOA := Lib.hid hoA
  have HXW := Lib.hid hXw
  clear hs2 hx2 hoA hXw
  clear ho2 hsl
  go_wp2_with fail
  refine (tick2 w2 X _ b 0 [] 0 1 2 (.inl ⟨rfl, rfl, rfl⟩) HX2.out HS2.out).mono ?_
  rintro e w3 ⟨g1, rfl, ho3, hx3, hs3, p0, p1, hg1⟩
  have hoB := HOA.out.tr ho3 (fun i hi e => by have := HXW.out; omega)
  have HS3 := Lib.hid hs3
  have HX3 := Lib.hid hx3
  have HOB := Lib.hid hoB
  have HG1 := Lib.hid hg1
  clear hs3 hx3 hoB hg1
  clear ho3
  go_wp2_with fail
  refine (tick2 w3 X _ b 0 [] 1 0 3 (.inr ⟨rfl, rfl, rfl⟩) HX3.out HS3.out).mono ?_
  rintro e w4 ⟨g2, rfl, ho4, hx4, hs4, q0, q1, hg2⟩
  have hoC := HOB.out.tr ho4 (fun i hi e => by have := HXW.out; omega)
  have p04 := ho4.cell p0 HG1.out
  have p14 := ho4.cell p1 HG1.out
  have HS4 := Lib.hid hs4
  have HX4 := Lib.hid hx4
  have HOC := Lib.hid hoC
  have HG2 := Lib.hid hg2
  clear hs4 hx4 hoC hg2
  clear ho4 p0 p1
  go_wp2_with fail
  refine (tick2 w4 X _ b 0 [] 0 1 2 (.inl ⟨rfl, rfl, rfl⟩) HX4.out HS4.out).mono ?_
  rintro e w5 ⟨g3, rfl, ho5, hx5, hs5, r0, r1, hg3⟩
  have hoD := HOC.out.tr ho5 (fun i hi e => by have := HXW.out; omega)
  have p05 := ho5.cell p04 HG1.out
  have p15 := ho5.cell p14 HG1.out
  have q05 := ho5.cell q0 HG2.out
  have HOD := Lib.hid hoD
  clear hoD
  clear ho5 p04 p14 q0 q1 r1 hx5 hs5 hg3
  go_wp2_with fail
  go_ret
  exact ⟨rfl, HOD.out⟩
end Go.Proofs.YtianboachknfmaaDoor
