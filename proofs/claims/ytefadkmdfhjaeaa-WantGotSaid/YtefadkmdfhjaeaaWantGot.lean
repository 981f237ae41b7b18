/- WantGot is true of every input: what was received, or what no node has, is no longer wanted; the rest is, with the greatest version that was heard. No condition. -/
import Derived.Test.YtefadkmdfhjaeaaWK
import Derived.Test.YtefadkmdfhjaeaaWE
import Derived.Test.YtefadkmdfhjaeaaWA
import Derived.Deep.CutBlock
import Derived.Lib.SmallJoins
/-! The walk of WantGot. -/
namespace Go.Proofs.Ytefadkmdfhjaeaa
open Go.Conc Go.RowKit Go.Maps

def u8C (n : Nat) : List Value := [.int .u8 n]
theorem u8C_length (n : Nat) : (u8C n).length = 1 := rfl
def bestC (bs : List Nat) : Array Value := (bs.map (fun n : Nat => Value.int .i64 (n : Int))).toArray
theorem bestC_at (bs : List Nat) (k : Nat) (hk : k < bs.length) : (bestC bs)[k]? = some (.int .i64 ((bs.getD k 0 : Nat) : Int)) := by
  unfold bestC
  rw [List.getElem?_toArray, List.getElem?_map, List.getElem?_eq_getElem hk, List.getD_eq_getElem?_getD, List.getElem?_eq_getElem hk]
  rfl
theorem bestC_set (bs : List Nat) (k v : Nat) : (bestC bs).setIfInBounds k (.int .i64 (v : Int)) = bestC (bs.set k v) := by
  unfold bestC
  rw [List.setIfInBounds_toArray, List.map_set]
theorem WRun.beside {w1 w w' : World} {x kb c cb M : Nat} {wq cnt : Int} {L : List EntW} {C : List (ByteArray × (Int × Int))} {cs : Array Value} (h : WRun w1 w x kb c cb wq cnt L C) (hM : w.heap[M]? = some (.cells cs 62 (0, 0))) (hl : w1.heap.size ≤ M) (hf : ∀ i, footW kb c cb i → i < M) (ho : Only (fun i => i = M) w w') : WRun w1 w' x kb c cb wq cnt L C := by
  have hx : ¬ x = M := fun e => by
    have h1 := h.at_.blk
    rw [e, hM] at h1
    simp only [Option.some.injEq, Obj.cells.injEq] at h1
    exact absurd h1.2.1 (by decide)
  have hkb : ¬ kb = M := fun e => by have := hf kb (.inl rfl); omega
  have hc : ¬ c = M := fun e => by have := hf c (.inr (.inl rfl)); omega
  have hcb : ¬ cb = M := fun e => by have := hf cb (.inr (.inr rfl)); omega
  exact ⟨⟨ho.old h.at_.blk hx, h.at_.keys.kept ho hkb, fun e he => row_kept (h.at_.rows e he) ho (cells_not hM (by decide)), h.at_.clk.kept ho hc hcb, h.at_.sync, h.at_.ne, h.at_.small⟩, h.only.tr ho (fun i hi e => by omega), h.foot⟩
/-- What is wanted behind n calls; the greatest versions in their array. -/
structure GSt (w1 w : World) (x kb c cb M n : Nat) (bs : List Nat) (dead : Nat → Bool) : Prop where
  out : ∃ L C cnt, WRun w1 w x kb c cb 5 cnt L C ∧ GAt L (fun k => bs.getD k 0) dead ∧ C.length ≤ n ∧ 0 ≤ cnt ∧ cnt ≤ (n : Int)
  box : w.heap[M]? = some (.cells (bestC bs) 62 (0, 0))
  len : bs.length = 8
  small : ∀ k, bs.getD k 0 ≤ 256
  foot : (∀ i, footW kb c cb i → i < M) ∧ w1.heap.size ≤ M
section
variable {w1 w w' : World} {x kb c cb M n : Nat} {bs : List Nat} {dead : Nat → Bool}
theorem GSt.new (h : GSt w1 w x kb c cb M n bs dead) (ho : Only (fun _ => False) w w') : GSt w1 w' x kb c cb M n bs dead := by
  obtain ⟨L, C, cnt, h1, h2⟩ := h.out
  exact ⟨⟨L, C, cnt, h1.new ho, h2⟩, ho.old h.box id, h.len, h.small, h.foot⟩
theorem GSt.only (h : GSt w1 w x kb c cb M n bs dead) : Only (fun _ => False) w1 w := by
  obtain ⟨L, C, cnt, h1, h2⟩ := h.out
  exact h1.only
theorem GSt.cell (h : GSt w1 w x kb c cb M n bs dead) (k : Nat) (hk : k < 8) : w.cell? ⟨M, k, none⟩ = some (.int .i64 ((bs.getD k 0 : Nat) : Int)) := by
  rw [cell_at h.box]
  exact bestC_at bs k (by rw [h.len]; exact hk)
structure PGh (w1 w w' : World) (x kb c cb M n : Nat) (bs : List Nat) (k v : Nat) (e : Ending) : Prop where
  out : ∃ b, e = .returned (.bool b) ∧ w'.heap[M]? = some (.cells (bestC bs) 62 (0, 0)) ∧ Only (footW kb c cb) w w' ∧
    ∀ w3, w3 = w'.setCell ⟨M, k, none⟩ (.int .i64 ((max (bs.getD k 0) v : Nat) : Int)) → GSt w1 w3 x kb c cb M (n + 1) (bs.set k (max (bs.getD k 0) v)) (fun _ => false)
theorem g_heard (h : GSt w1 w x kb c cb M n bs (fun _ => false)) (hn : n < 60) (k v : Nat) (hk : k < 8) (hv : 1 ≤ v) (hv2 : v ≤ 256) :
    Calls Try.prog 8 #[.pointer (some ⟨x, 0, none⟩), .agg #[.string (letK k), .int .u64 v], .int .i64 (1 + ((k % 2 : Nat) : Int)), .int .i64 0] w fun e w' => PGh w1 w w' x kb c cb M n bs k v e := by
  obtain ⟨L, C, cnt, hr, hg, hC, hc0, hc1⟩ := h.out
  have hLC := hr.at_.sync.length_eq
  rw [List.length_map, List.length_map] at hLC
  refine (wrun_heard hr (letK k) (by rw [letK_size]; unfold maxLen; omega) v _ 0 (by decide) (by decide) (by decide) hc0 (by omega) (by omega)).mono ?_
  rintro e w' hh
  obtain ⟨b, L', C', cnt', rfl, hs, hr2, ho, _⟩ := hh.out
  obtain ⟨g1, g2, g3, g4⟩ := heard_got hg hk hv (by omega) hs
  have hb := ho.old h.box (fun hf => by have := h.foot.1 M hf; omega)
  refine ⟨b, rfl, hb, ho, fun w3 hw3 => ?_⟩
  have t3 : Only (fun i => i = M) w' w3 := by rw [hw3]; exact (Only.refl _ _).setCell (S := fun i => i = M) (p := ⟨M, k, none⟩) (.inr rfl) _
  refine ⟨⟨L', C', cnt', hr2.beside hb h.foot.2 h.foot.1 t3, g1.congr (fun j hj => ?_) (fun _ _ => rfl), by omega, by omega, by omega⟩, ?_, by rw [List.length_set]; exact h.len, fun j => ?_, h.foot⟩
  · unfold setB
    generalize max (bs.getD k 0) v = mx
    show (if j = k then mx else bs.getD j 0) = (bs.set k mx).getD j 0
    rw [List.getD_eq_getElem?_getD (l := bs.set k mx), List.getElem?_set]
    by_cases hjk : j = k
    · subst hjk
      rw [if_pos rfl, if_pos rfl, if_pos (by rw [h.len]; exact hj)]
      rfl
    · rw [if_neg hjk, if_neg (fun e => hjk e.symm), ← List.getD_eq_getElem?_getD]
  · rw [hw3, ← bestC_set]
    exact set_at hb k _
  · have h1 := h.small k
    have h2 := h.small j
    generalize hmx : max (bs.getD k 0) v = mx
    rw [List.getD_eq_getElem?_getD (l := bs.set k mx), List.getElem?_set]
    by_cases hjk : k = j
    · rw [if_pos hjk]
      split
      · show mx ≤ 256; omega
      · show 0 ≤ 256; omega
    · rw [if_neg hjk, ← List.getD_eq_getElem?_getD]; exact h2
structure PGg (w1 w w' : World) (x kb c cb M n : Nat) (bs : List Nat) (dead : Nat → Bool) (b : Bool) (e : Ending) : Prop where
  out : e = .returned (.bool b) ∧ Only (footW kb c cb) w w' ∧ GSt w1 w' x kb c cb M n bs dead
theorem g_got (h : GSt w1 w x kb c cb M n bs dead) (k : Nat) (hk : k < 8) (hd : dead k = false) :
    Calls Try.prog 11 #[.pointer (some ⟨x, 0, none⟩), .agg #[.string (letK k), .int .u64 ((bs.getD k 0 : Nat) : Int)]] w fun e w' => PGg w1 w w' x kb c cb M n bs (fun j => dead j || decide (j = k)) (decide (0 < bs.getD k 0)) e := by
  obtain ⟨L, C, cnt, hr, hg, hC, hc0, hc1⟩ := h.out
  refine (wgot_any w x kb c cb 5 cnt L C hr.at_ (letK k) (by rw [letK_size]; unfold maxLen; omega) (bs.getD k 0)).mono ?_
  rintro e w' ⟨rfl, ho, hat⟩
  obtain ⟨g1, g2⟩ := got_got hg hk hd
  rw [g1] at hat ⊢
  refine ⟨rfl, ho, ⟨⟨_, _, cnt, hr.step hat ho, g2, ?_, hc0, hc1⟩, ho.old h.box (fun hf => by have := h.foot.1 M hf; omega), h.len, h.small, h.foot⟩⟩
  split
  · exact Nat.le_trans (List.length_filter_le _ _) hC
  · exact hC
structure PGl (w1 w w' : World) (x kb c cb M n : Nat) (bs : List Nat) (dead : Nat → Bool) (e : Ending) : Prop where
  out : e = .returned (.tuple #[]) ∧ GSt w1 w' x kb c cb M n bs dead
theorem g_lost (h : GSt w1 w x kb c cb M n bs dead) (hn : n ≤ 60) (nd : Nat) (hd : nd < 2) :
    Calls Try.prog 13 #[.pointer (some ⟨x, 0, none⟩), .int .i64 (1 + (nd : Int))] w fun e w' => PGl w1 w w' x kb c cb M n bs (fun k => dead k || decide (k % 2 = nd)) e := by
  obtain ⟨L, C, cnt, hr, hg, hC, hc0, hc1⟩ := h.out
  have hLC := hr.at_.sync.length_eq
  rw [List.length_map, List.length_map] at hLC
  refine (wlost_any w x kb c cb 5 cnt L C hr.at_ (by omega) (1 + (nd : Int))).mono ?_
  rintro e w' ⟨rfl, hp⟩
  obtain ⟨L', hat, hla, ho, _⟩ := hp.out
  exact ⟨rfl, ⟨⟨L', _, cnt, hr.step hat ho, lost_got hg hd hla, Nat.le_trans (List.length_filter_le _ _) hC, hc0, hc1⟩, ho.old h.box (fun hf => by have := h.foot.1 M hf; omega), h.len, h.small, h.foot⟩⟩
structure PGi (w w' : World) (bs : List Nat) (dead : Nat → Bool) (e : Ending) : Prop where
  out : ∃ (v : Value) (S : List EntW), e = .returned v ∧ Only (fun _ => False) w w' ∧ Sl w' 2 v S.length (S.flatMap idW) ∧ S.map (fun e => (e.key, e.ver)) = (liveG (fun k => bs.getD k 0) dead 8).map (fun k => (letK k, bs.getD k 0))
theorem g_ids (h : GSt w1 w x kb c cb M n bs dead) (hn : n ≤ 60) : Calls Try.prog 10 #[.pointer (some ⟨x, 0, none⟩)] w fun e w' => PGi w w' bs dead e := by
  obtain ⟨L, C, cnt, hr, hg, hC, hc0, hc1⟩ := h.out
  have hLC := hr.at_.sync.length_eq
  rw [List.length_map, List.length_map] at hLC
  refine (wids_any w x kb c cb 5 cnt L C hr.at_ (by omega)).mono ?_
  rintro e w' ⟨v, rfl, ho, S, hS, hrow⟩
  exact ⟨v, S, rfl, ho, Sl.of_owns hrow, told_got hg hr.at_.mid.apart hS⟩
end
def gotBit (got k : Nat) : Bool := decide (got / 2 ^ k % 2 = 1)
theorem got_shift (got k : Nat) : (got : Int) / 2 ^ k = ((got / 2 ^ k : Nat) : Int) := by
  rw [Int.natCast_ediv, Int.natCast_pow]
  rfl
theorem GSt.dead_congr {w1 w : World} {x kb c cb M n : Nat} {bs : List Nat} {d d' : Nat → Bool} (h : GSt w1 w x kb c cb M n bs d) (hd : ∀ k, k < 8 → d k = d' k) : GSt w1 w x kb c cb M n bs d' := by
  obtain ⟨L, C, cnt, h1, h2, h3⟩ := h.out
  exact ⟨⟨L, C, cnt, h1, h2.congr (fun _ _ => rfl) hd, h3⟩, h.box, h.len, h.small, h.foot⟩
set_option maxRecDepth 100000 in
set_option maxHeartbeats 8000000 in
theorem got18_any (w : World) (vk vv : Value) (keys vers : List Nat) (got lost : Nat) (hk : Sl w 1 vk keys.length (keys.flatMap u8C)) (hv : Sl w 1 vv vers.length (vers.flatMap u8C)) (hk8 : ∀ n ∈ keys, n < 256) (hv8 : ∀ n ∈ vers, n < 256) (hg8 : got < 256) (hl8 : lost < 256) :
    Calls Try.prog 5 #[.agg #[vk, vv, .int .u8 got, .int .u8 lost]] w fun e w' => e = .returned (.bool true) ∧ Only (fun _ => False) w w' := by
  obtain ⟨ka, kc, rfl, k1, k2, k3⟩ := Sl.cells u8C_length hk
  obtain ⟨va, vc, rfl, v1, v2, v3⟩ := Sl.cells u8C_length hv
  unfold maxLen at k2 v2
  obtain ⟨W, hW⟩ : ∃ W, W = w.alloc (.cells #[.slice ka keys.length kc, .slice va vers.length vc, .int .u8 got, .int .u8 lost] 61) := ⟨_, rfl⟩
  have hbW : W.heap[w.heap.size]? = some (.cells #[.slice ka keys.length kc, .slice va vers.length vc, .int .u8 got, .int .u8 lost] 61 (0, 0)) := by rw [hW]; exact heap_alloc_new w _
  have hoW : Only (fun _ => False) w W := by rw [hW]; exact (Only.refl _ _).alloc _
  have hsW : W.heap.size = w.heap.size + 1 := by rw [hW]; simp
  have hck := k3.new hoW (fun _ _ _ => id)
  have hcv := v3.new hoW (fun _ _ _ => id)
  have HK8 := Lib.hid hk8
  have HV8 := Lib.hid hv8
  have HCK := Lib.hid hck
  have HCV := Lib.hid hcv
  have HOW := Lib.hid hoW
  have HBW := Lib.hid hbW
  clear hk8 hv8 hck hcv hoW hbW
  clear hk hv k3 v3 hsW
  go_enter Try.func5, Try.ntmps5
  go_upto_region 1 with (fail)
  rw [← hW]
  clear hW
  generalize hX : w.heap.size = X at *
  go_wp2_with fail
  refine (speaks18_any W).mono ?_
  rintro e w1 ⟨rfl, ho1⟩
  have hb1 := ho1.old HBW.out id
  have HCK1 := Lib.hid (HCK.out.new ho1 (fun _ _ _ => id))
  have HCV1 := Lib.hid (HCV.out.new ho1 (fun _ _ _ => id))
  have HO1 := Lib.hid (HOW.out.trans ho1)
  have x0 : w1.cell? ⟨X, 0, none⟩ = some (.slice ka keys.length kc) := cell_at hb1 0
  have x1 : w1.cell? ⟨X, 1, none⟩ = some (.slice va vers.length vc) := cell_at hb1 1
  have x2 : w1.cell? ⟨X, 2, none⟩ = some (.int .u8 got) := cell_at hb1 2
  have x3 : w1.cell? ⟨X, 3, none⟩ = some (.int .u8 lost) := cell_at hb1 3
  clear HCK HCV HOW HBW ho1 hb1
  go_upto_region 3 with (fail)
  go_quiet (fail)
  obtain ⟨w1', hw1⟩ : ∃ w', w' = w1.drewN nq := ⟨_, rfl⟩
  have ho2 : Only (fun _ => False) w1 w1' := by rw [hw1]; exact (Only.refl _ _).drewN _
  rw [← hw1]
  clear hw1 x0 x1 x2 x3
  have HO2 := Lib.hid (HO1.out.trans ho2)
  have HCK2 := Lib.hid (HCK1.out.new ho2 (fun _ _ _ => id))
  have HCV2 := Lib.hid (HCV1.out.new ho2 (fun _ _ _ => id))
  clear HO1 HCK1 HCV1 ho2
  go_wp2_with fail
  refine (wrun_new w1' 5).mono ?_
  rintro e w2 ⟨x, kb, c, cb, rfl, h2⟩
  rw [show min (max (5 : Int) 0) 1000 = 5 by decide] at h2
  obtain ⟨W3, hW3⟩ : ∃ W3, W3 = w2.alloc (.cells #[.int .i64 0, .int .i64 0, .int .i64 0, .int .i64 0, .int .i64 0, .int .i64 0, .int .i64 0, .int .i64 0] 62) := ⟨_, rfl⟩
  have hbW3 : W3.heap[w2.heap.size]? = some (.cells #[.int .i64 0, .int .i64 0, .int .i64 0, .int .i64 0, .int .i64 0, .int .i64 0, .int .i64 0, .int .i64 0] 62 (0, 0)) := by rw [hW3]; exact heap_alloc_new w2 _
  have hoW3 : Only (fun _ => False) w2 W3 := by rw [hW3]; exact (Only.refl _ _).alloc _
  have hsW3 : W3.heap.size = w2.heap.size + 1 := by rw [hW3]; simp
  have hst : GSt w1' W3 x kb c cb w2.heap.size 0 [0, 0, 0, 0, 0, 0, 0, 0] (fun _ => false) := ⟨⟨[], [], 0, h2.new hoW3, GAt.start.congr (fun k hk => by
      rcases k with _ | _ | _ | _ | _ | _ | _ | _ | k
      all_goals first | rfl | omega) (fun _ _ => rfl), Nat.zero_le _, by decide, by decide⟩, hbW3, rfl, fun k => (by
      rcases k with _ | _ | _ | _ | _ | _ | _ | _ | k
      all_goals first | decide | (simp)), ⟨fun i hi => by
    rcases hi with rfl | rfl | rfl
    · exact h2.at_.keys.lt
    · exact lt_of_block h2.at_.clk.blk
    · exact h2.at_.clk.map.lt, h2.only.size⟩⟩
  have HST := Lib.hid hst
  clear h2 hoW3 hbW3 hsW3 hst
  go_upto_region 6 with (fail)
  rw [← hW3]
  clear hW3
  generalize hM : w2.heap.size = M at *
  clear hM
  go_upto_block 0 with fail
  go_cut [9] (fun v9 wx => ∃ bs n, GSt w1' wx x kb c cb M n bs (fun _ => false) ∧ n ≤ 40)
  case first =>
    go_wp2_with fail
    go_loopg [9] 40 (fun gk v9 wr => ∃ (i : Nat) (bs : List Nat), v9 = .int .i64 i ∧ i ≤ keys.length ∧ i ≤ 40 ∧ GSt w1' wr x kb c cb M i bs (fun _ => false) ∧ gk = 40 - i)
    case atStart => exact ⟨0, _, rfl, Nat.zero_le _, Nat.zero_le _, HST.out, rfl⟩
    case round =>
      obtain ⟨i, bs, rfl, hi, hi40, hst, hg⟩ := hrel
      by_cases hlt : i < keys.length ∧ i < 40
      · -- round
        obtain ⟨hlt, hlt40⟩ := hlt
        have hlt' : (i : Int) < (keys.length : Int) := by omega
        have hlt40' : (i : Int) < 40 := by omega
        have HON := Lib.hid hst.only
        have Hg := Lib.hid hg
        have HS1 := Lib.hid hst
        clear hg hst
        go_upto_if 40 with (fail)
        go_cut [10] (fun v10 wx => ∃ v : Nat, v10 = .int .i64 v ∧ 1 ≤ v ∧ v ≤ 256 ∧ wr = wx)
        case first =>
          by_cases hvl : i < vers.length
          · have hvl' : (i : Int) < (vers.length : Int) := by omega
            obtain ⟨b, off, rfl, hcc⟩ := HCV2.out.at i hvl
            have p0 : wr.cell? ⟨b, off + i, none⟩ = some (.int .u8 (vers[i] : Nat)) := by
              have h9 := HON.out.cell (hcc 0 _ rfl) id
              simpa using h9
            have hy := HV8.out vers[i] (List.getElem_mem hvl)
            generalize vers[i] = y at *
            have hw1 : IntKind.i64.wrap (y : Int) = y := by rw [IntKind.wrap_i64]; omega
            have hw2 : IntKind.i64.wrap (1 + (y : Int)) = 1 + y := by rw [IntKind.wrap_i64]; omega
            clear hcc
            go_wp2_with fail
            go_meet
            exact ⟨1 + y, congrArg (Value.int .i64) (by omega), by omega, by omega, rfl⟩
          · have hvl' : ¬ (i : Int) < (vers.length : Int) := by omega
            go_wp2_with fail
            go_meet
            exact ⟨1, rfl, by omega, by omega, rfl⟩
        case rest =>
          obtain ⟨vn, rfl, hv1, hv2, rfl⟩ := hcut
          obtain ⟨b, off, rfl, hcc⟩ := HCK2.out.at i hlt
          have p0 : wr.cell? ⟨b, off + i, none⟩ = some (.int .u8 (keys[i] : Nat)) := by
            have h9 := HON.out.cell (hcc 0 _ rfl) id
            simpa using h9
          have hy := HK8.out keys[i] (List.getElem_mem hlt)
          generalize keys[i] = y at *
          have ha7 : bits .and .u8 (y : Int) 7 = ((y % 8 : Nat) : Int) := and_u8 y hy 3 (by omega)
          obtain ⟨k, hk, hk8⟩ : ∃ k, y % 8 = k ∧ k < 8 := ⟨_, rfl, by omega⟩
          rw [hk] at ha7
          have hw1 : IntKind.i64.wrap (k : Int) = k := by rw [IntKind.wrap_i64]; omega
          clear hcc hk
          go_upto_region 13 with (fail)
          have hm1 : bits .and .i64 (k : Int) 1 = ((k % 2 : Nat) : Int) := (and_i64 (k : Int) 1 (by omega)).trans (by omega)
          have hw2 : IntKind.i64.wrap (97 + (k : Int)) = 97 + k := by rw [IntKind.wrap_i64]; omega
          have hw3 : IntKind.u8.wrap (97 + (k : Int)) = 97 + k := by rw [IntKind.wrap_u8]; omega
          have hw4 : IntKind.u64.wrap (vn : Int) = vn := by rw [IntKind.wrap_u64]; omega
          have hw5 : IntKind.i64.wrap (1 + ((k % 2 : Nat) : Int)) = 1 + ((k % 2 : Nat) : Int) := by rw [IntKind.wrap_i64]; omega
          have hcv := conv18
          have hst1 := HS1.out.new ((Only.refl _ _).alloc (.cells #[.int .u8 (97 + (k : Int))] 5))
          have hhe := g_heard hst1 (by omega) k vn hk8 hv1 hv2
          unfold letK at hhe
          have HHE := Lib.hid hhe
          generalize k % 2 = k2 at *
          clear hst1 hhe p0
          go_wp2_with fail
          refine HHE.out.mono ?_
          rintro e w5 hh
          obtain ⟨nb, rfl, hb5, ho5, hnx⟩ := hh.out
          have c0 : w5.cell? ⟨M, k, none⟩ = some (.int .i64 ((bs.getD k 0 : Nat) : Int)) := by
            rw [cell_at hb5]
            exact bestC_at bs k (by rw [HS1.out.len]; exact hk8)
          have cf : ∀ j, w5.frozen? ⟨M, j, none⟩ = false := free_at hb5
          have hk8' : (k : Int) < 8 := by omega
          have hk0' : (0 : Int) ≤ (k : Int) := by omega
          have HNX := Lib.hid hnx
          generalize bs.getD k 0 = bk at *
          clear hh ho5 hnx hb5 hcv hw1 hw2 hw3 hw4 hw5 hm1 ha7
          by_cases hmx : bk ≤ vn
          · have hmx' : (bk : Int) ≤ (vn : Int) := by omega
            have hmm : max (bk : Int) (vn : Int) = vn := by omega
            have HMM := Lib.hid (show max bk vn = vn by omega)
            go_wp2_with fail
            all_goals
              go_roundg (40 - (i + 1))
              case measure => rw [Hg.out]; omega
              case rel => exact ⟨i + 1, _, by go_num, by omega, by omega, HNX.out _ (by rw [HMM.out]), rfl⟩
          · have hmx' : ¬ (bk : Int) ≤ (vn : Int) := by omega
            have hmm : max (bk : Int) (vn : Int) = bk := by omega
            have HMM := Lib.hid (show max bk vn = bk by omega)
            go_wp2_with fail
            all_goals
              go_roundg (40 - (i + 1))
              case measure => rw [Hg.out]; omega
              case rel => exact ⟨i + 1, _, by go_num, by omega, by omega, HNX.out _ (by rw [HMM.out]), rfl⟩
      · -- stop
        have hcase : (¬ (i : Int) < (keys.length : Int)) ∨ ((i : Int) < (keys.length : Int) ∧ ¬ (i : Int) < 40) := by omega
        have HS1 := Lib.hid hst
        clear hlt hg hst
        rcases hcase with h1 | ⟨h1, h2⟩
        all_goals
          go_wp2_with fail
          go_meet
          exact ⟨bs, i, HS1.out, hi40⟩
  case rest =>
    obtain ⟨bs, n, hst, hn40⟩ := hcut
    have HS2 := Lib.hid hst
    generalize hw4 : wc = w4 at *
    clear hw4 hst
    go_upto_block 2 with fail
    go_cut [12] (fun v12 wx => GSt w1' wx x kb c cb M n bs (gotBit got))
    case first =>
      go_wp2_with fail
      go_loopg [12] 8 (fun gk v12 wr => ∃ k : Nat, v12 = .int .i64 k ∧ k ≤ 8 ∧ GSt w1' wr x kb c cb M n bs (fun j => decide (j < k) && gotBit got j) ∧ gk = 8 - k)
      case atStart => exact ⟨0, rfl, by omega, HS2.out.dead_congr (fun j _ => by simp), rfl⟩
      case round =>
        obtain ⟨k, rfl, hk, hst, hg⟩ := hrel
        by_cases hlt : k < 8
        · -- one
          have hlt' : (k : Int) < 8 := by omega
          have hk0' : (0 : Int) ≤ (k : Int) := by omega
          have hk8' : (k : Int) ≤ 8 := by omega
          have hsh := got_shift got k
          have hgl : got / 2 ^ k < 256 := Nat.lt_of_le_of_lt (Nat.div_le_self _ _) hg8
          have hbd : gotBit got k = decide (got / 2 ^ k % 2 = 1) := rfl
          have ha := and1_u8 (got / 2 ^ k) hgl
          generalize got / 2 ^ k = g at *
          have Hg := Lib.hid hg
          have HS3 := Lib.hid hst
          have HBD := Lib.hid hbd
          clear hg hst hbd
          cases hgb : gotBit got k with
          | false =>
            have hr : g % 2 = 0 := by have h9 := HBD.out; rw [hgb] at h9; have := of_decide_eq_false h9.symm; omega
            rw [hr] at ha
            have HN := Lib.hid (HS3.out.dead_congr (d' := fun j => decide (j < k + 1) && gotBit got j) (fun j _ => by
              by_cases hjk : j = k
              · subst hjk; simp [hgb]
              · have : (j < k + 1) ↔ j < k := by omega
                simp [this]))
            clear hr hgb hgl HBD
            go_upto_region 18 with (fail)
            go_quiet (fail)
            go_wp2_with fail
            go_roundg (8 - (k + 1))
            case measure => rw [Hg.out]; omega
            case rel => exact ⟨k + 1, by go_num, by omega, HN.out.new ((Only.refl _ _).drewN _), rfl⟩
          | true =>
            have hr : g % 2 = 1 := by have h9 := HBD.out; rw [hgb] at h9; exact of_decide_eq_true h9.symm
            rw [hr] at ha
            have HDC := Lib.hid (show ∀ wz, GSt w1' wz x kb c cb M n bs (fun j => (decide (j < k) && gotBit got j) || decide (j = k)) → GSt w1' wz x kb c cb M n bs (fun j => decide (j < k + 1) && gotBit got j) from fun wz h => h.dead_congr (fun j _ => by
              by_cases hjk : j = k
              · subst hjk; simp [hgb]
              · have : (j < k + 1) ↔ j < k := by omega
                simp [this, hjk]))
            have hgo := fun w' (ho : Only (fun _ => False) wr w') => g_got (HS3.out.new ho) k hlt (by simp)
            have HCL := Lib.hid (fun w' (ho : Only (fun _ => False) wr w') => (HS3.out.new ho).cell k hlt)
            have HC5 := Lib.hid (fun w5 (h : GSt w1' w5 x kb c cb M n bs (fun j => (decide (j < k) && gotBit got j) || decide (j = k))) => h.cell k hlt)
            have c0 := HCL.out wr (Only.refl _ _)
            unfold letK at hgo
            have hw2 : IntKind.i64.wrap (97 + (k : Int)) = 97 + k := by rw [IntKind.wrap_i64]; omega
            have hw3 : IntKind.u8.wrap (97 + (k : Int)) = 97 + k := by rw [IntKind.wrap_u8]; omega
            have hcv := conv18
            have hcvd := conv18d
            have hsm := HS3.out.small k
            have hwu : IntKind.u64.wrap ((bs.getD k 0 : Nat) : Int) = ((bs.getD k 0 : Nat) : Int) := by rw [IntKind.wrap_u64]; omega
            generalize bs.getD k 0 = bk at *
            clear hr hgb hgl HBD
            rcases Nat.eq_zero_or_pos bk with hz | hz
            · subst hz
              have hd0 : decide (0 < 0) = false := rfl
              have HGO := Lib.hid hgo
              clear hgo
              go_upto_region 18 with (fail)
              refine wp_region_held_drew (S := fun w' => w'.cell? ⟨M, k, none⟩ = some (.int .i64 0)) (by kernel_rfl) (by first | exact HC5.out _ hs5 | exact HCL.out _ (by (repeat (first | (with_reducible assumption) | (with_reducible exact Only.refl _ _) | (with_reducible refine Only.drew ?_) | (with_reducible refine Only.alloc ?_ _) | (with_reducible refine onlySet ?_ (by first | (with_reducible assumption) | omega) _) | (with_reducible refine Only.trans ?_ (by with_reducible assumption)))))) (fun hHeld => ?_)
              refine wpAnyH_takeD (d := some 77) (i := 0) (oi := _) (v := ?vp1) rfl (by kernel_rfl) (by kernel_rfl) (by kernel_rfl) (by kernel_rfl) (fun _ _ _ h => h) (Or.inl ⟨by rfl, ?hyp1⟩) hHeld ?restp1
              case hyp1 =>
                intro w hSw
                try dsimp only at hSw
                go_simp
                try with_reducible rfl
              refine wpAnyH_act (a' := ?nap1) ?nep1 ?nrp1
              case nep1 =>
                try simp [Act.put]
                try rfl
              refine wpAnyH_takeD (d := some 78) (i := 1) (oi := _) (v := ?vp2) rfl (by kernel_rfl) (by kernel_rfl) (by kernel_rfl) (by kernel_rfl) (fun _ _ _ h => h) (Or.inl ⟨by rfl, ?hyp2⟩) hHeld ?restp2
              case hyp2 =>
                intro w hSw
                try dsimp only at hSw
                go_simp
                try with_reducible rfl
              refine wpAnyH_act (a' := ?nap2) ?nep2 ?nrp2
              case nep2 =>
                try simp [Act.put]
                try rfl
              refine wpAnyH_takeD (d := some 79) (i := 2) (oi := _) (v := ?vp3) rfl (by kernel_rfl) (by kernel_rfl) (by kernel_rfl) (by kernel_rfl) (fun _ _ _ h => h) (Or.inl ⟨by rfl, ?hyp3⟩) hHeld ?restp3
              case hyp3 =>
                intro w hSw
                try dsimp only at hSw
                go_simp
                try with_reducible rfl
              refine wpAnyH_act (a' := ?nap3) ?nep3 ?nrp3
              case nep3 =>
                try simp [Act.put]
                try rfl
              refine wpAnyH_takeD (d := some 80) (i := 3) (oi := _) (v := ?vp4) rfl (by kernel_rfl) (by kernel_rfl) (by kernel_rfl) (by kernel_rfl) (fun _ _ _ h => h) (Or.inl ⟨by rfl, ?hyp4⟩) hHeld ?restp4
              case hyp4 =>
                intro w hSw
                try dsimp only at hSw
                go_simp
                try with_reducible rfl
              refine wpAnyH_act (a' := ?nap4) ?nep4 ?nrp4
              case nep4 =>
                try simp [Act.put]
                try rfl
              refine wpAnyH_takeD (d := some 81) (i := 4) (oi := _) (v := ?vp5) rfl (by kernel_rfl) (by kernel_rfl) (by kernel_rfl) (by kernel_rfl) (fun _ _ _ h => h) (Or.inl ⟨by rfl, ?hyp5⟩) hHeld ?restp5
              case hyp5 =>
                intro w hSw
                try dsimp only at hSw
                go_simp
                try with_reducible rfl
              refine wpAnyH_act (a' := ?nap5) ?nep5 ?nrp5
              case nep5 =>
                try simp [Act.put]
                try rfl
              refine wpAnyH_takeD (d := some 82) (i := 5) (oi := _) (v := ?vp6) rfl (by kernel_rfl) (by kernel_rfl) (by kernel_rfl) (by kernel_rfl) (fun _ _ _ h => h) (Or.inl ⟨by rfl, ?hyp6⟩) hHeld ?restp6
              case hyp6 =>
                intro w hSw
                try dsimp only at hSw
                go_simp
                try with_reducible rfl
              refine wpAnyH_act (a' := ?nap6) ?nep6 ?nrp6
              case nep6 =>
                try simp [Act.put]
                try rfl
              refine wpAnyH_takeD (d := some 83) (i := 6) (oi := _) (v := ?vp7) rfl (by kernel_rfl) (by kernel_rfl) (by kernel_rfl) (by kernel_rfl) (fun _ _ _ h => h) (Or.inl ⟨by rfl, ?hyp7⟩) hHeld ?restp7
              case hyp7 =>
                intro w hSw
                try dsimp only at hSw
                go_simp
                try with_reducible rfl
              refine wpAnyH_act (a' := ?nap7) ?nep7 ?nrp7
              case nep7 =>
                try simp [Act.put]
                try rfl
              refine wpAnyH_takeD (d := some 84) (i := 7) (oi := _) (v := ?vp8) rfl (by kernel_rfl) (by kernel_rfl) (by kernel_rfl) (by kernel_rfl) (fun _ _ _ h => h) (Or.inl ⟨by rfl, ?hyp8⟩) hHeld ?restp8
              case hyp8 =>
                intro w hSw
                try dsimp only at hSw
                go_simp
                try with_reducible rfl
              refine wpAnyH_act (a' := ?nap8) ?nep8 ?nrp8
              case nep8 =>
                try simp [Act.put]
                try rfl
              refine wpAnyH_takeD (d := some 85) (i := 8) (oi := _) (v := ?vp9) rfl (by kernel_rfl) (by kernel_rfl) (by kernel_rfl) (by kernel_rfl) (fun _ _ _ h => h) (Or.inl ⟨by rfl, ?hyp9⟩) hHeld ?restp9
              case hyp9 =>
                intro w hSw
                try dsimp only at hSw
                go_simp
                try with_reducible rfl
              refine wpAnyH_act (a' := ?nap9) ?nep9 ?nrp9
              case nep9 =>
                try simp [Act.put]
                try rfl
              refine wpAnyH_takeD (d := some 86) (i := 9) (oi := _) (v := ?vp10) rfl (by kernel_rfl) (by kernel_rfl) (by kernel_rfl) (by kernel_rfl) (fun _ _ _ h => h) (Or.inl ⟨by rfl, ?hyp10⟩) hHeld ?restp10
              case hyp10 =>
                intro w hSw
                try dsimp only at hSw
                go_simp
                try with_reducible rfl
              refine wpAnyH_act (a' := ?nap10) ?nep10 ?nrp10
              case nep10 =>
                try simp [Act.put]
                try rfl
              refine wpAnyH_takeD (d := some 89) (i := 12) (oi := _) (v := ?vp11) rfl (by kernel_rfl) (by kernel_rfl) (by kernel_rfl) (by kernel_rfl) (fun _ _ _ h => h) (Or.inl ⟨by rfl, ?hyp11⟩) hHeld ?restp11
              case hyp11 =>
                intro w hSw
                try dsimp only at hSw
                go_simp
                try with_reducible rfl
              refine wpAnyH_act (a' := ?nap11) ?nep11 ?nrp11
              case nep11 =>
                try simp [Act.put]
                try rfl
              refine wpAnyH_takeD (d := some 90) (i := 13) (oi := _) (v := ?vp12) rfl (by kernel_rfl) (by kernel_rfl) (by kernel_rfl) (by kernel_rfl) (fun _ _ _ h => h) (Or.inl ⟨by rfl, ?hyp12⟩) hHeld ?restp12
              case hyp12 =>
                intro w hSw
                try dsimp only at hSw
                go_simp
                try with_reducible rfl
              refine wpAnyH_act (a' := ?nap12) ?nep12 ?nrp12
              case nep12 =>
                try simp [Act.put]
                try rfl
              refine wpAnyH_takeD (d := some 91) (i := 14) (oi := _) (v := ?vp13) rfl (by kernel_rfl) (by kernel_rfl) (by kernel_rfl) (by kernel_rfl) (fun _ _ _ h => h) (Or.inl ⟨by rfl, ?hyp13⟩) hHeld ?restp13
              case hyp13 =>
                intro w hSw
                try dsimp only at hSw
                go_simp
                try with_reducible rfl
              refine wpAnyH_act (a' := ?nap13) ?nep13 ?nrp13
              case nep13 =>
                try simp [Act.put]
                try rfl
              refine wpAnyH_takeD (d := some 92) (i := 15) (oi := _) (v := ?vp14) rfl (by kernel_rfl) (by kernel_rfl) (by kernel_rfl) (by kernel_rfl) (fun _ _ _ h => h) (Or.inl ⟨by rfl, ?hyp14⟩) hHeld ?restp14
              case hyp14 =>
                intro w hSw
                try dsimp only at hSw
                go_simp
                try with_reducible rfl
              refine wpAnyH_act (a' := ?nap14) ?nep14 ?nrp14
              case nep14 =>
                try simp [Act.put]
                try rfl
              refine wpAnyH_takeD (d := some 95) (i := 18) (oi := _) (v := ?vp15) rfl (by kernel_rfl) (by kernel_rfl) (by kernel_rfl) (by kernel_rfl) (fun _ _ _ h => h) (Or.inl ⟨by rfl, ?hyp15⟩) hHeld ?restp15
              case hyp15 =>
                intro w hSw
                try dsimp only at hSw
                go_simp
                try with_reducible rfl
              refine wpAnyH_act (a' := ?nap15) ?nep15 ?nrp15
              case nep15 =>
                try simp [Act.put]
                try rfl
              refine wpAnyH_takeD (d := some 96) (i := 19) (oi := _) (v := ?vp16) rfl (by kernel_rfl) (by kernel_rfl) (by kernel_rfl) (by kernel_rfl) (fun _ _ _ h => h) (Or.inl ⟨by rfl, ?hyp16⟩) hHeld ?restp16
              case hyp16 =>
                intro w hSw
                try dsimp only at hSw
                go_simp
                try with_reducible rfl
              refine wpAnyH_act (a' := ?nap16) ?nep16 ?nrp16
              case nep16 =>
                try simp [Act.put]
                try rfl
              refine wpAnyH_takeD (d := some 97) (i := 20) (oi := _) (v := ?vp17) rfl (by kernel_rfl) (by kernel_rfl) (by kernel_rfl) (by kernel_rfl) (fun _ _ _ h => h) (Or.inl ⟨by rfl, ?hyp17⟩) hHeld ?restp17
              case hyp17 =>
                intro w hSw
                try dsimp only at hSw
                go_simp
                try with_reducible rfl
              refine wpAnyH_act (a' := ?nap17) ?nep17 ?nrp17
              case nep17 =>
                try simp [Act.put]
                try rfl
              refine wpAnyH_takeD (d := some 98) (i := 21) (oi := _) (v := ?vp18) rfl (by kernel_rfl) (by kernel_rfl) (by kernel_rfl) (by kernel_rfl) (fun _ _ _ h => h) (Or.inl ⟨by rfl, ?hyp18⟩) hHeld ?restp18
              case hyp18 =>
                intro w hSw
                try dsimp only at hSw
                go_simp
                try with_reducible rfl
              refine wpAnyH_act (a' := ?nap18) ?nep18 ?nrp18
              case nep18 =>
                try simp [Act.put]
                try rfl
              refine wpAnyH_ready (rs := [10]) (by kernel_rfl) (by simp) ?_
              refine AllReadyH.cons (o := _) rfl (fun K hK => ?_) AllReadyH.nil
              go_simp
              refine hK.out _ _ (by first | exact HC5.out _ hs5 | exact HCL.out _ (by (repeat (first | (with_reducible assumption) | (with_reducible exact Only.refl _ _) | (with_reducible refine Only.drew ?_) | (with_reducible refine Only.alloc ?_ _) | (with_reducible refine onlySet ?_ (by first | (with_reducible assumption) | omega) _) | (with_reducible refine Only.trans ?_ (by with_reducible assumption)))))) (fun hNew => ?_)
              clear hK K hHeld
              have hHeld := hNew
              clear hNew
              refine wpAnyH_act (a' := ?nap19) ?nep19 ?nrp19
              case nep19 =>
                try simp [Act.put]
                try rfl
              refine wpAnyH_ready (rs := [11]) (by kernel_rfl) (by simp) ?_
              refine AllReadyH.cons (o := _) rfl (fun K hK => ?_) AllReadyH.nil
              go_simp
              refine hK.out _ _ (by first | exact HC5.out _ hs5 | exact HCL.out _ (by (repeat (first | (with_reducible assumption) | (with_reducible exact Only.refl _ _) | (with_reducible refine Only.drew ?_) | (with_reducible refine Only.alloc ?_ _) | (with_reducible refine onlySet ?_ (by first | (with_reducible assumption) | omega) _) | (with_reducible refine Only.trans ?_ (by with_reducible assumption)))))) (fun hNew => ?_)
              clear hK K hHeld
              have hHeld := hNew
              clear hNew
              refine wpAnyH_act (a' := ?nap20) ?nep20 ?nrp20
              case nep20 =>
                try simp [Act.put]
                try rfl
              refine wpAnyH_takeD (d := some 93) (i := 16) (oi := _) (v := ?vp19) rfl (by kernel_rfl) (by kernel_rfl) (by kernel_rfl) (by kernel_rfl) (fun _ _ _ h => h) (Or.inl ⟨by rfl, ?hyp19⟩) hHeld ?restp19
              case hyp19 =>
                intro w hSw
                try dsimp only at hSw
                go_simp
                try with_reducible rfl
              refine wpAnyH_act (a' := ?nap21) ?nep21 ?nrp21
              case nep21 =>
                try simp [Act.put]
                try rfl
              refine wpAnyH_ready (rs := [17]) (by kernel_rfl) (by simp) ?_
              refine AllReadyH.cons (o := _) rfl (fun K hK => ?_) AllReadyH.nil
              go_simp
              go_at_call 11
              refine (HGO.out _ (by (repeat (first | (with_reducible assumption) | (with_reducible exact Only.refl _ _) | (with_reducible refine Only.drew ?_) | (with_reducible refine Only.alloc ?_ _) | (with_reducible refine onlySet ?_ (by first | (with_reducible assumption) | omega) _) | (with_reducible refine Only.trans ?_ (by with_reducible assumption)))))).mono ?_
              rintro e9 w5 hh
              obtain ⟨rfl, ho5, hs5⟩ := hh.out
              go_wp2_with fail
              refine hK.out _ _ (by first | exact HC5.out _ hs5 | exact HCL.out _ (by (repeat (first | (with_reducible assumption) | (with_reducible exact Only.refl _ _) | (with_reducible refine Only.drew ?_) | (with_reducible refine Only.alloc ?_ _) | (with_reducible refine onlySet ?_ (by first | (with_reducible assumption) | omega) _) | (with_reducible refine Only.trans ?_ (by with_reducible assumption)))))) (fun hNew => ?_)
              clear hK K hHeld
              have hHeld := hNew
              clear hNew
              refine wpAnyH_act (a' := ?nap22) ?nep22 ?nrp22
              case nep22 =>
                try simp [Act.put]
                try rfl
              refine wpAnyH_takeD (d := some 99) (i := 22) (oi := _) (v := ?vp20) rfl (by kernel_rfl) (by kernel_rfl) (by kernel_rfl) (by kernel_rfl) (fun _ _ _ h => h) (Or.inl ⟨by rfl, ?hyp20⟩) hHeld ?restp20
              case hyp20 =>
                intro w hSw
                try dsimp only at hSw
                go_simp
                try with_reducible rfl
              refine wpAnyH_act (a' := ?nap23) ?nep23 ?nrp23
              case nep23 =>
                try simp [Act.put]
                try rfl
              refine wpAnyH_takeD (d := some 100) (i := 23) (oi := _) (v := ?vp21) rfl (by kernel_rfl) (by kernel_rfl) (by kernel_rfl) (by kernel_rfl) (fun _ _ _ h => h) (Or.inl ⟨by rfl, ?hyp21⟩) hHeld ?restp21
              case hyp21 =>
                intro w hSw
                try dsimp only at hSw
                go_simp
                try with_reducible rfl
              refine wpAnyH_act (a' := ?nap24) ?nep24 ?nrp24
              case nep24 =>
                try simp [Act.put]
                try rfl
              refine wpAnyH_done (by kernel_rfl) ?_ _
              go_wp2_with fail
              go_roundg (8 - (k + 1))
              case measure => rw [Hg.out]; omega
              case rel => exact ⟨k + 1, by go_num, by omega, HDC.out _ hs5, rfl⟩
            · have hz' : (0 : Int) < (bk : Int) := by omega
              rw [decide_eq_true hz] at hgo
              have HGO := Lib.hid hgo
              clear hgo
              go_upto_region 18 with (fail)
              refine wp_region_held_drew (S := fun w' => w'.cell? ⟨M, k, none⟩ = some (.int .i64 bk)) (by kernel_rfl) (by first | exact HC5.out _ hs5 | exact HCL.out _ (by (repeat (first | (with_reducible assumption) | (with_reducible exact Only.refl _ _) | (with_reducible refine Only.drew ?_) | (with_reducible refine Only.alloc ?_ _) | (with_reducible refine onlySet ?_ (by first | (with_reducible assumption) | omega) _) | (with_reducible refine Only.trans ?_ (by with_reducible assumption)))))) (fun hHeld => ?_)
              refine wpAnyH_takeD (d := some 77) (i := 0) (oi := _) (v := ?vq1) rfl (by kernel_rfl) (by kernel_rfl) (by kernel_rfl) (by kernel_rfl) (fun _ _ _ h => h) (Or.inl ⟨by rfl, ?hyq1⟩) hHeld ?restq1
              case hyq1 =>
                intro w hSw
                try dsimp only at hSw
                go_simp
                try with_reducible rfl
              refine wpAnyH_act (a' := ?naq1) ?neq1 ?nrq1
              case neq1 =>
                try simp [Act.put]
                try rfl
              refine wpAnyH_takeD (d := some 78) (i := 1) (oi := _) (v := ?vq2) rfl (by kernel_rfl) (by kernel_rfl) (by kernel_rfl) (by kernel_rfl) (fun _ _ _ h => h) (Or.inl ⟨by rfl, ?hyq2⟩) hHeld ?restq2
              case hyq2 =>
                intro w hSw
                try dsimp only at hSw
                go_simp
                try with_reducible rfl
              refine wpAnyH_act (a' := ?naq2) ?neq2 ?nrq2
              case neq2 =>
                try simp [Act.put]
                try rfl
              refine wpAnyH_takeD (d := some 79) (i := 2) (oi := _) (v := ?vq3) rfl (by kernel_rfl) (by kernel_rfl) (by kernel_rfl) (by kernel_rfl) (fun _ _ _ h => h) (Or.inl ⟨by rfl, ?hyq3⟩) hHeld ?restq3
              case hyq3 =>
                intro w hSw
                try dsimp only at hSw
                go_simp
                try with_reducible rfl
              refine wpAnyH_act (a' := ?naq3) ?neq3 ?nrq3
              case neq3 =>
                try simp [Act.put]
                try rfl
              refine wpAnyH_takeD (d := some 80) (i := 3) (oi := _) (v := ?vq4) rfl (by kernel_rfl) (by kernel_rfl) (by kernel_rfl) (by kernel_rfl) (fun _ _ _ h => h) (Or.inl ⟨by rfl, ?hyq4⟩) hHeld ?restq4
              case hyq4 =>
                intro w hSw
                try dsimp only at hSw
                go_simp
                try with_reducible rfl
              refine wpAnyH_act (a' := ?naq4) ?neq4 ?nrq4
              case neq4 =>
                try simp [Act.put]
                try rfl
              refine wpAnyH_takeD (d := some 81) (i := 4) (oi := _) (v := ?vq5) rfl (by kernel_rfl) (by kernel_rfl) (by kernel_rfl) (by kernel_rfl) (fun _ _ _ h => h) (Or.inl ⟨by rfl, ?hyq5⟩) hHeld ?restq5
              case hyq5 =>
                intro w hSw
                try dsimp only at hSw
                go_simp
                try with_reducible rfl
              refine wpAnyH_act (a' := ?naq5) ?neq5 ?nrq5
              case neq5 =>
                try simp [Act.put]
                try rfl
              refine wpAnyH_takeD (d := some 82) (i := 5) (oi := _) (v := ?vq6) rfl (by kernel_rfl) (by kernel_rfl) (by kernel_rfl) (by kernel_rfl) (fun _ _ _ h => h) (Or.inl ⟨by rfl, ?hyq6⟩) hHeld ?restq6
              case hyq6 =>
                intro w hSw
                try dsimp only at hSw
                go_simp
                try with_reducible rfl
              refine wpAnyH_act (a' := ?naq6) ?neq6 ?nrq6
              case neq6 =>
                try simp [Act.put]
                try rfl
              refine wpAnyH_takeD (d := some 83) (i := 6) (oi := _) (v := ?vq7) rfl (by kernel_rfl) (by kernel_rfl) (by kernel_rfl) (by kernel_rfl) (fun _ _ _ h => h) (Or.inl ⟨by rfl, ?hyq7⟩) hHeld ?restq7
              case hyq7 =>
                intro w hSw
                try dsimp only at hSw
                go_simp
                try with_reducible rfl
              refine wpAnyH_act (a' := ?naq7) ?neq7 ?nrq7
              case neq7 =>
                try simp [Act.put]
                try rfl
              refine wpAnyH_takeD (d := some 84) (i := 7) (oi := _) (v := ?vq8) rfl (by kernel_rfl) (by kernel_rfl) (by kernel_rfl) (by kernel_rfl) (fun _ _ _ h => h) (Or.inl ⟨by rfl, ?hyq8⟩) hHeld ?restq8
              case hyq8 =>
                intro w hSw
                try dsimp only at hSw
                go_simp
                try with_reducible rfl
              refine wpAnyH_act (a' := ?naq8) ?neq8 ?nrq8
              case neq8 =>
                try simp [Act.put]
                try rfl
              refine wpAnyH_takeD (d := some 85) (i := 8) (oi := _) (v := ?vq9) rfl (by kernel_rfl) (by kernel_rfl) (by kernel_rfl) (by kernel_rfl) (fun _ _ _ h => h) (Or.inl ⟨by rfl, ?hyq9⟩) hHeld ?restq9
              case hyq9 =>
                intro w hSw
                try dsimp only at hSw
                go_simp
                try with_reducible rfl
              refine wpAnyH_act (a' := ?naq9) ?neq9 ?nrq9
              case neq9 =>
                try simp [Act.put]
                try rfl
              refine wpAnyH_takeD (d := some 86) (i := 9) (oi := _) (v := ?vq10) rfl (by kernel_rfl) (by kernel_rfl) (by kernel_rfl) (by kernel_rfl) (fun _ _ _ h => h) (Or.inl ⟨by rfl, ?hyq10⟩) hHeld ?restq10
              case hyq10 =>
                intro w hSw
                try dsimp only at hSw
                go_simp
                try with_reducible rfl
              refine wpAnyH_act (a' := ?naq10) ?neq10 ?nrq10
              case neq10 =>
                try simp [Act.put]
                try rfl
              refine wpAnyH_takeD (d := some 89) (i := 12) (oi := _) (v := ?vq11) rfl (by kernel_rfl) (by kernel_rfl) (by kernel_rfl) (by kernel_rfl) (fun _ _ _ h => h) (Or.inl ⟨by rfl, ?hyq11⟩) hHeld ?restq11
              case hyq11 =>
                intro w hSw
                try dsimp only at hSw
                go_simp
                try with_reducible rfl
              refine wpAnyH_act (a' := ?naq11) ?neq11 ?nrq11
              case neq11 =>
                try simp [Act.put]
                try rfl
              refine wpAnyH_takeD (d := some 90) (i := 13) (oi := _) (v := ?vq12) rfl (by kernel_rfl) (by kernel_rfl) (by kernel_rfl) (by kernel_rfl) (fun _ _ _ h => h) (Or.inl ⟨by rfl, ?hyq12⟩) hHeld ?restq12
              case hyq12 =>
                intro w hSw
                try dsimp only at hSw
                go_simp
                try with_reducible rfl
              refine wpAnyH_act (a' := ?naq12) ?neq12 ?nrq12
              case neq12 =>
                try simp [Act.put]
                try rfl
              refine wpAnyH_takeD (d := some 91) (i := 14) (oi := _) (v := ?vq13) rfl (by kernel_rfl) (by kernel_rfl) (by kernel_rfl) (by kernel_rfl) (fun _ _ _ h => h) (Or.inl ⟨by rfl, ?hyq13⟩) hHeld ?restq13
              case hyq13 =>
                intro w hSw
                try dsimp only at hSw
                go_simp
                try with_reducible rfl
              refine wpAnyH_act (a' := ?naq13) ?neq13 ?nrq13
              case neq13 =>
                try simp [Act.put]
                try rfl
              refine wpAnyH_takeD (d := some 92) (i := 15) (oi := _) (v := ?vq14) rfl (by kernel_rfl) (by kernel_rfl) (by kernel_rfl) (by kernel_rfl) (fun _ _ _ h => h) (Or.inl ⟨by rfl, ?hyq14⟩) hHeld ?restq14
              case hyq14 =>
                intro w hSw
                try dsimp only at hSw
                go_simp
                try with_reducible rfl
              refine wpAnyH_act (a' := ?naq14) ?neq14 ?nrq14
              case neq14 =>
                try simp [Act.put]
                try rfl
              refine wpAnyH_takeD (d := some 95) (i := 18) (oi := _) (v := ?vq15) rfl (by kernel_rfl) (by kernel_rfl) (by kernel_rfl) (by kernel_rfl) (fun _ _ _ h => h) (Or.inl ⟨by rfl, ?hyq15⟩) hHeld ?restq15
              case hyq15 =>
                intro w hSw
                try dsimp only at hSw
                go_simp
                try with_reducible rfl
              refine wpAnyH_act (a' := ?naq15) ?neq15 ?nrq15
              case neq15 =>
                try simp [Act.put]
                try rfl
              refine wpAnyH_takeD (d := some 96) (i := 19) (oi := _) (v := ?vq16) rfl (by kernel_rfl) (by kernel_rfl) (by kernel_rfl) (by kernel_rfl) (fun _ _ _ h => h) (Or.inl ⟨by rfl, ?hyq16⟩) hHeld ?restq16
              case hyq16 =>
                intro w hSw
                try dsimp only at hSw
                go_simp
                try with_reducible rfl
              refine wpAnyH_act (a' := ?naq16) ?neq16 ?nrq16
              case neq16 =>
                try simp [Act.put]
                try rfl
              refine wpAnyH_takeD (d := some 97) (i := 20) (oi := _) (v := ?vq17) rfl (by kernel_rfl) (by kernel_rfl) (by kernel_rfl) (by kernel_rfl) (fun _ _ _ h => h) (Or.inl ⟨by rfl, ?hyq17⟩) hHeld ?restq17
              case hyq17 =>
                intro w hSw
                try dsimp only at hSw
                go_simp
                try with_reducible rfl
              refine wpAnyH_act (a' := ?naq17) ?neq17 ?nrq17
              case neq17 =>
                try simp [Act.put]
                try rfl
              refine wpAnyH_takeD (d := some 98) (i := 21) (oi := _) (v := ?vq18) rfl (by kernel_rfl) (by kernel_rfl) (by kernel_rfl) (by kernel_rfl) (fun _ _ _ h => h) (Or.inl ⟨by rfl, ?hyq18⟩) hHeld ?restq18
              case hyq18 =>
                intro w hSw
                try dsimp only at hSw
                go_simp
                try with_reducible rfl
              refine wpAnyH_act (a' := ?naq18) ?neq18 ?nrq18
              case neq18 =>
                try simp [Act.put]
                try rfl
              refine wpAnyH_ready (rs := [10]) (by kernel_rfl) (by simp) ?_
              refine AllReadyH.cons (o := _) rfl (fun K hK => ?_) AllReadyH.nil
              go_simp
              refine hK.out _ _ (by first | exact HC5.out _ hs5 | exact HCL.out _ (by (repeat (first | (with_reducible assumption) | (with_reducible exact Only.refl _ _) | (with_reducible refine Only.drew ?_) | (with_reducible refine Only.alloc ?_ _) | (with_reducible refine onlySet ?_ (by first | (with_reducible assumption) | omega) _) | (with_reducible refine Only.trans ?_ (by with_reducible assumption)))))) (fun hNew => ?_)
              clear hK K hHeld
              have hHeld := hNew
              clear hNew
              refine wpAnyH_act (a' := ?naq19) ?neq19 ?nrq19
              case neq19 =>
                try simp [Act.put]
                try rfl
              refine wpAnyH_ready (rs := [11]) (by kernel_rfl) (by simp) ?_
              refine AllReadyH.cons (o := _) rfl (fun K hK => ?_) AllReadyH.nil
              go_simp
              refine hK.out _ _ (by first | exact HC5.out _ hs5 | exact HCL.out _ (by (repeat (first | (with_reducible assumption) | (with_reducible exact Only.refl _ _) | (with_reducible refine Only.drew ?_) | (with_reducible refine Only.alloc ?_ _) | (with_reducible refine onlySet ?_ (by first | (with_reducible assumption) | omega) _) | (with_reducible refine Only.trans ?_ (by with_reducible assumption)))))) (fun hNew => ?_)
              clear hK K hHeld
              have hHeld := hNew
              clear hNew
              refine wpAnyH_act (a' := ?naq20) ?neq20 ?nrq20
              case neq20 =>
                try simp [Act.put]
                try rfl
              refine wpAnyH_takeD (d := some 93) (i := 16) (oi := _) (v := ?vq19) rfl (by kernel_rfl) (by kernel_rfl) (by kernel_rfl) (by kernel_rfl) (fun _ _ _ h => h) (Or.inl ⟨by rfl, ?hyq19⟩) hHeld ?restq19
              case hyq19 =>
                intro w hSw
                try dsimp only at hSw
                go_simp
                try with_reducible rfl
              refine wpAnyH_act (a' := ?naq21) ?neq21 ?nrq21
              case neq21 =>
                try simp [Act.put]
                try rfl
              refine wpAnyH_ready (rs := [17]) (by kernel_rfl) (by simp) ?_
              refine AllReadyH.cons (o := _) rfl (fun K hK => ?_) AllReadyH.nil
              go_simp
              go_at_call 11
              refine (HGO.out _ (by (repeat (first | (with_reducible assumption) | (with_reducible exact Only.refl _ _) | (with_reducible refine Only.drew ?_) | (with_reducible refine Only.alloc ?_ _) | (with_reducible refine onlySet ?_ (by first | (with_reducible assumption) | omega) _) | (with_reducible refine Only.trans ?_ (by with_reducible assumption)))))).mono ?_
              rintro e9 w5 hh
              obtain ⟨rfl, ho5, hs5⟩ := hh.out
              go_wp2_with fail
              refine hK.out _ _ (by first | exact HC5.out _ hs5 | exact HCL.out _ (by (repeat (first | (with_reducible assumption) | (with_reducible exact Only.refl _ _) | (with_reducible refine Only.drew ?_) | (with_reducible refine Only.alloc ?_ _) | (with_reducible refine onlySet ?_ (by first | (with_reducible assumption) | omega) _) | (with_reducible refine Only.trans ?_ (by with_reducible assumption)))))) (fun hNew => ?_)
              clear hK K hHeld
              have hHeld := hNew
              clear hNew
              refine wpAnyH_act (a' := ?naq22) ?neq22 ?nrq22
              case neq22 =>
                try simp [Act.put]
                try rfl
              refine wpAnyH_takeD (d := some 99) (i := 22) (oi := _) (v := ?vq20) rfl (by kernel_rfl) (by kernel_rfl) (by kernel_rfl) (by kernel_rfl) (fun _ _ _ h => h) (Or.inl ⟨by rfl, ?hyq20⟩) hHeld ?restq20
              case hyq20 =>
                intro w hSw
                try dsimp only at hSw
                go_simp
                try with_reducible rfl
              refine wpAnyH_act (a' := ?naq23) ?neq23 ?nrq23
              case neq23 =>
                try simp [Act.put]
                try rfl
              refine wpAnyH_takeD (d := some 100) (i := 23) (oi := _) (v := ?vq21) rfl (by kernel_rfl) (by kernel_rfl) (by kernel_rfl) (by kernel_rfl) (fun _ _ _ h => h) (Or.inl ⟨by rfl, ?hyq21⟩) hHeld ?restq21
              case hyq21 =>
                intro w hSw
                try dsimp only at hSw
                go_simp
                try with_reducible rfl
              refine wpAnyH_act (a' := ?naq24) ?neq24 ?nrq24
              case neq24 =>
                try simp [Act.put]
                try rfl
              refine wpAnyH_done (by kernel_rfl) ?_ _
              go_wp2_with fail
              go_roundg (8 - (k + 1))
              case measure => rw [Hg.out]; omega
              case rel => exact ⟨k + 1, by go_num, by omega, HDC.out _ hs5, rfl⟩
        · -- over
          have hlt' : ¬ (k : Int) < 8 := by omega
          have HN := Lib.hid (hst.dead_congr (d' := gotBit got) (fun j hj => by simp [show j < k by omega]))
          clear hst hg
          go_wp2_with fail
          go_meet
          exact HN.out
    case rest =>
      have HS4 := Lib.hid hcut
      generalize hw5 : wc = w5 at *
      clear hw5 hcut
      have hl1 : bits .and .u8 (lost : Int) 1 = ((lost % 2 : Nat) : Int) := and1_u8 lost hl8
      obtain ⟨nd, hnd, hnd2⟩ : ∃ nd, lost % 2 = nd ∧ nd < 2 := ⟨_, rfl, by omega⟩
      rw [hnd] at hl1
      have hw1 : IntKind.i64.wrap (nd : Int) = nd := by rw [IntKind.wrap_i64]; omega
      have hw2 : IntKind.i64.wrap (1 + (nd : Int)) = 1 + nd := by rw [IntKind.wrap_i64]; omega
      clear hnd
      have HGL := Lib.hid (g_lost HS4.out (by omega) nd hnd2)
      go_wp2_with fail
      refine HGL.out.mono ?_
      rintro e w6 hh
      obtain ⟨rfl, hs6⟩ := hh.out
      have HGI := Lib.hid (g_ids hs6 (by omega))
      have HS6 := Lib.hid hs6
      clear hs6
      clear hh HGL hw2
      go_wp2_with fail
      refine HGI.out.mono ?_
      rintro e w7 hh
      obtain ⟨v13, S, rfl, ho7, hrow, hmap⟩ := hh.out
      obtain ⟨sa, sc, rfl, s1, s2, hcs⟩ := Sl.cells idW_length hrow
      unfold maxLen at s2
      have hs7 := HS6.out.new ho7
      have hslen : S.length = (liveG (fun k => bs.getD k 0) (fun k => gotBit got k || decide (k % 2 = nd)) 8).length := by have := congrArg List.length hmap; simpa using this
      obtain ⟨LV, hLV⟩ : ∃ LV : Nat → Nat, ∀ k, LV k = (liveG (fun k => bs.getD k 0) (fun k => gotBit got k || decide (k % 2 = nd)) k).length := ⟨_, fun _ => rfl⟩
      have hslen2 : S.length = LV 8 := by rw [hLV]; exact hslen
      have HS7 := Lib.hid hs7
      have HCS := Lib.hid hcs
      have HMAP := Lib.hid hmap
      have HSL := Lib.hid hslen
      have HLVD := Lib.hid hLV
      have HSL2 := Lib.hid hslen2
      clear hs7 hcs hmap hslen hLV hslen2
      clear hh HGI ho7 hrow
      go_wp2_with fail
      go_loopg [14, 15] 8 (fun gk v14 v15 wr => ∃ k : Nat, v15 = .int .i64 k ∧ k ≤ 8 ∧ v14 = .int .i64 (LV k : Nat) ∧ Only (fun _ => False) w7 wr ∧ gk = 8 - k)
      case atStart => exact ⟨0, rfl, by omega, by rw [HLVD.out]; rfl, Only.refl _ _, rfl⟩
      case round =>
        obtain ⟨k, rfl, hk, rfl, ho, hg⟩ := hrel
        have HS8 := Lib.hid (HS7.out.new ho)
        have HLS := Lib.hid (liveG_succ (fun k => bs.getD k 0) (fun k => gotBit got k || decide (k % 2 = nd)) k)
        have Hg := Lib.hid hg
        have HO6 := Lib.hid ho
        clear hg ho
        by_cases hlt : k < 8
        · -- key
          have hlt' : (k : Int) < 8 := by omega
          have hk0' : (0 : Int) ≤ (k : Int) := by omega
          have hk8' : (k : Int) ≤ 8 := by omega
          have hsh := got_shift got k
          have hgl : got / 2 ^ k < 256 := Nat.lt_of_le_of_lt (Nat.div_le_self _ _) hg8
          have hbd : gotBit got k = decide (got / 2 ^ k % 2 = 1) := rfl
          have ha := and1_u8 (got / 2 ^ k) hgl
          have hm1 : bits .and .i64 (k : Int) 1 = ((k % 2 : Nat) : Int) := (and_i64 (k : Int) 1 (by omega)).trans (by omega)
          have c0 := HS8.out.cell k hlt
          have hsm := HS8.out.small k
          have HLA := Lib.hid (fun h => liveG_at (fun k => bs.getD k 0) (fun k => gotBit got k || decide (k % 2 = nd)) (k := k) (n := 8) hlt h)
          generalize got / 2 ^ k = g at *
          skip
          generalize hbk : bs.getD k 0 = bk at *
          generalize hgb : gotBit got k = gb at *
          generalize hk2 : k % 2 = k2 at *
          have HBK := Lib.hid hbk
          clear hbk hgb hk2
          have hskip : (decide (bk = 0) || (gb || decide (k2 = nd))) = true → LV (k + 1) = LV k := fun h => by rw [HLVD.out, HLVD.out, HLS.out, if_pos h]
          have hlive : (decide (bk = 0) || (gb || decide (k2 = nd))) = false → LV (k + 1) = LV k + 1 := fun h => by rw [HLVD.out, HLVD.out, HLS.out, if_neg (by rw [h]; decide), List.length_append]; rfl
          have HSK := Lib.hid hskip
          have HLI := Lib.hid hlive
          clear hskip hlive
          by_cases hz : bk = 0
          · -- skip0
            have HV := Lib.hid (HSK.out (by simp [hz]))
            subst hz
            clear ha hsh hm1
            go_wp2_with fail
            go_roundg (8 - (k + 1))
            case measure => rw [Hg.out]; omega
            case rel => exact ⟨k + 1, by go_num, by omega, by rw [HV.out], HO6.out, rfl⟩
          have hz' : ¬ ((bk : Int) = 0) := by omega
          cases gb with
          | true =>
            have HV := Lib.hid (HSK.out (by simp))
            have hr : g % 2 = 1 := of_decide_eq_true hbd.symm
            rw [hr] at ha
            clear hr hbd hz hm1
            go_wp2_with fail
            go_roundg (8 - (k + 1))
            case measure => rw [Hg.out]; omega
            case rel => exact ⟨k + 1, by go_num, by omega, by rw [HV.out], HO6.out, rfl⟩
          | false =>
            have hr : g % 2 = 0 := by have := of_decide_eq_false hbd.symm; omega
            rw [hr] at ha
            clear hr hbd
            by_cases hkn : k2 = nd
            · -- skip2
              have HV := Lib.hid (HSK.out (by simp [hkn]))
              subst hkn
              clear hz
              go_wp2_with fail
              go_roundg (8 - (k + 1))
              case measure => rw [Hg.out]; omega
              case rel => exact ⟨k + 1, by go_num, by omega, by rw [HV.out], HO6.out, rfl⟩
            · -- live
              have hlf : (decide (bk = 0) || (false || decide (k2 = nd))) = false := by simp [hz, hkn]
              have HLV := Lib.hid (HLI.out hlf)
              have hla := HLA.out hlf
              have hkn' : ¬ ((k2 : Int) = (nd : Int)) := by omega
              have hkb : ((k2 : Int) == (nd : Int)) = false := by simpa using hkn'
              rw [← HLVD.out k] at hla
              generalize hat : LV k = at_ at *
              have hal : at_ < S.length := by rw [HSL.out]; exact (List.getElem?_eq_some_iff.1 hla).1
              have hse : S[at_].key = letK k ∧ S[at_].ver = bk := by
                have h1 : (S.map (fun e => (e.key, e.ver)))[at_]? = ((liveG (fun k => bs.getD k 0) (fun k => gotBit got k || decide (k % 2 = nd)) 8).map (fun k => (letK k, bs.getD k 0)))[at_]? := by rw [HMAP.out]
                rw [List.getElem?_map, List.getElem?_map, hla, List.getElem?_eq_getElem hal] at h1
                simp only [Option.map_some, Option.some.injEq, Prod.mk.injEq] at h1
                exact ⟨h1.1, h1.2.trans HBK.out⟩
              obtain ⟨sb, so, rfl, hcc⟩ := HCS.out.at at_ hal
              have q0 : wr.cell? ⟨sb, so + at_ * 2, none⟩ = some (.string (bytesOf [97 + (k : Int)])) := HO6.out.cell (by have h9 := hcc 0 _ rfl; rw [hse.1] at h9; exact h9) id
              have q1 : wr.cell? ⟨sb, so + at_ * 2 + 1, none⟩ = some (.int .u64 bk) := HO6.out.cell (by have h9 := hcc 1 _ rfl; rw [hse.2] at h9; exact h9) id
              have HC27 := Lib.hid (show ∀ w', Only (fun _ => False) wr w' → w'.cell? ⟨M, k, none⟩ = some (.int .i64 bk) ∧ w'.cell? ⟨sb, so + at_ * 2, none⟩ = some (.string (bytesOf [97 + (k : Int)])) ∧ w'.cell? ⟨sb, so + at_ * 2 + 1, none⟩ = some (.int .u64 bk) from fun w' ho => ⟨ho.cell c0 id, ho.cell q0 id, ho.cell q1 id⟩)
              have hal' : (at_ : Int) < (S.length : Int) := by omega
              have hal0 : (0 : Int) ≤ (at_ : Int) := by omega
              have hage : ¬ (S.length : Int) ≤ (at_ : Int) := by omega
              have hagd : decide ((S.length : Int) ≤ (at_ : Int)) = false := decide_eq_false hage
              have hw3 : IntKind.i64.wrap (97 + (k : Int)) = 97 + k := by rw [IntKind.wrap_i64]; omega
              have hw4 : IntKind.u8.wrap (97 + (k : Int)) = 97 + k := by rw [IntKind.wrap_u8]; omega
              have hw5 : IntKind.u64.wrap (bk : Int) = bk := by rw [IntKind.wrap_u64]; omega
              have hw6 : IntKind.i64.wrap ((at_ : Int) + 1) = (at_ : Int) + 1 := by rw [IntKind.wrap_i64]; omega
              have hcv := conv18
              have hcvd := conv18d
              clear hz hkn hlf hla hse hcc hat
              go_upto_region 27 with (fail)
              refine wp_region_held_drew (S := fun w' => w'.cell? ⟨M, k, none⟩ = some (.int .i64 bk) ∧ w'.cell? ⟨sb, so + at_ * 2, none⟩ = some (.string (bytesOf [97 + (k : Int)])) ∧ w'.cell? ⟨sb, so + at_ * 2 + 1, none⟩ = some (.int .u64 bk)) (by kernel_rfl) (by first | exact HC27.out _ (((Only.refl (fun _ => False) wr).alloc _).drew) | exact HC27.out _ ((Only.refl (fun _ => False) wr).drew)) (fun hHeld => ?_)
              refine wpAnyH_takeD (d := some 132) (i := 0) (oi := _) (v := ?v1) rfl (by kernel_rfl) (by kernel_rfl) (by kernel_rfl) (by kernel_rfl) (fun _ _ _ h => h) (Or.inl ⟨by rfl, ?hy1⟩) hHeld ?rest1
              case hy1 =>
                intro w hSw
                try dsimp only at hSw
                go_simp
                try with_reducible rfl
              refine wpAnyH_act (a' := ?na1) ?ne1 ?nr1
              case ne1 =>
                try simp [Act.put]
                try rfl
              refine wpAnyH_takeD (d := some 133) (i := 1) (oi := _) (v := ?v2) rfl (by kernel_rfl) (by kernel_rfl) (by kernel_rfl) (by kernel_rfl) (fun _ _ _ h => h) (Or.inl ⟨by rfl, ?hy2⟩) hHeld ?rest2
              case hy2 =>
                intro w hSw
                try dsimp only at hSw
                go_simp
                try with_reducible rfl
              refine wpAnyH_act (a' := ?na2) ?ne2 ?nr2
              case ne2 =>
                try simp [Act.put]
                try rfl
              refine wpAnyH_takeD (d := some 134) (i := 2) (oi := _) (v := ?v3) rfl (by kernel_rfl) (by kernel_rfl) (by kernel_rfl) (by kernel_rfl) (fun _ _ _ h => h) (Or.inl ⟨by rfl, ?hy3⟩) hHeld ?rest3
              case hy3 =>
                intro w hSw
                try dsimp only at hSw
                go_simp
                try with_reducible rfl
              refine wpAnyH_act (a' := ?na3) ?ne3 ?nr3
              case ne3 =>
                try simp [Act.put]
                try rfl
              refine wpAnyH_takeD (d := some 135) (i := 3) (oi := _) (v := ?v4) rfl (by kernel_rfl) (by kernel_rfl) (by kernel_rfl) (by kernel_rfl) (fun _ _ _ h => h) (Or.inl ⟨by rfl, ?hy4⟩) hHeld ?rest4
              case hy4 =>
                intro w hSw
                try dsimp only at hSw
                go_simp
                try with_reducible rfl
              refine wpAnyH_act (a' := ?na4) ?ne4 ?nr4
              case ne4 =>
                try simp [Act.put]
                try rfl
              refine wpAnyH_takeD (d := some 136) (i := 4) (oi := _) (v := ?v5) rfl (by kernel_rfl) (by kernel_rfl) (by kernel_rfl) (by kernel_rfl) (fun _ _ _ h => h) (Or.inl ⟨by rfl, ?hy5⟩) hHeld ?rest5
              case hy5 =>
                intro w hSw
                try dsimp only at hSw
                go_simp
                try with_reducible rfl
              refine wpAnyH_act (a' := ?na5) ?ne5 ?nr5
              case ne5 =>
                try simp [Act.put]
                try rfl
              refine wpAnyH_takeD (d := some 137) (i := 5) (oi := _) (v := ?v6) rfl (by kernel_rfl) (by kernel_rfl) (by kernel_rfl) (by kernel_rfl) (fun _ _ _ h => h) (Or.inl ⟨by rfl, ?hy6⟩) hHeld ?rest6
              case hy6 =>
                intro w hSw
                try dsimp only at hSw
                go_simp
                try with_reducible rfl
              refine wpAnyH_act (a' := ?na6) ?ne6 ?nr6
              case ne6 =>
                try simp [Act.put]
                try rfl
              refine wpAnyH_takeD (d := some 138) (i := 6) (oi := _) (v := ?v7) rfl (by kernel_rfl) (by kernel_rfl) (by kernel_rfl) (by kernel_rfl) (fun _ _ _ h => h) (Or.inl ⟨by rfl, ?hy7⟩) hHeld ?rest7
              case hy7 =>
                intro w hSw
                try dsimp only at hSw
                go_simp
                try with_reducible rfl
              refine wpAnyH_act (a' := ?na7) ?ne7 ?nr7
              case ne7 =>
                try simp [Act.put]
                try rfl
              refine wpAnyH_takeD (d := some 139) (i := 7) (oi := _) (v := ?v8) rfl (by kernel_rfl) (by kernel_rfl) (by kernel_rfl) (by kernel_rfl) (fun _ _ _ h => h) (Or.inl ⟨by rfl, ?hy8⟩) hHeld ?rest8
              case hy8 =>
                intro w hSw
                try dsimp only at hSw
                go_simp
                try with_reducible rfl
              refine wpAnyH_act (a' := ?na8) ?ne8 ?nr8
              case ne8 =>
                try simp [Act.put]
                try rfl
              refine wpAnyH_takeD (d := some 140) (i := 8) (oi := _) (v := ?v9) rfl (by kernel_rfl) (by kernel_rfl) (by kernel_rfl) (by kernel_rfl) (fun _ _ _ h => h) (Or.inl ⟨by rfl, ?hy9⟩) hHeld ?rest9
              case hy9 =>
                intro w hSw
                try dsimp only at hSw
                go_simp
                try with_reducible rfl
              refine wpAnyH_act (a' := ?na9) ?ne9 ?nr9
              case ne9 =>
                try simp [Act.put]
                try rfl
              refine wpAnyH_takeD (d := some 141) (i := 9) (oi := _) (v := ?v10) rfl (by kernel_rfl) (by kernel_rfl) (by kernel_rfl) (by kernel_rfl) (fun _ _ _ h => h) (Or.inl ⟨by rfl, ?hy10⟩) hHeld ?rest10
              case hy10 =>
                intro w hSw
                try dsimp only at hSw
                go_simp
                try with_reducible rfl
              refine wpAnyH_act (a' := ?na10) ?ne10 ?nr10
              case ne10 =>
                try simp [Act.put]
                try rfl
              refine wpAnyH_takeD (d := some 142) (i := 10) (oi := _) (v := ?v11) rfl (by kernel_rfl) (by kernel_rfl) (by kernel_rfl) (by kernel_rfl) (fun _ _ _ h => h) (Or.inl ⟨by rfl, ?hy11⟩) hHeld ?rest11
              case hy11 =>
                intro w hSw
                try dsimp only at hSw
                go_simp
                try with_reducible rfl
              refine wpAnyH_act (a' := ?na11) ?ne11 ?nr11
              case ne11 =>
                try simp [Act.put]
                try rfl
              refine wpAnyH_takeD (d := some 143) (i := 11) (oi := _) (v := ?v12) rfl (by kernel_rfl) (by kernel_rfl) (by kernel_rfl) (by kernel_rfl) (fun _ _ _ h => h) (Or.inl ⟨by rfl, ?hy12⟩) hHeld ?rest12
              case hy12 =>
                intro w hSw
                try dsimp only at hSw
                go_simp
                try with_reducible rfl
              refine wpAnyH_act (a' := ?na12) ?ne12 ?nr12
              case ne12 =>
                try simp [Act.put]
                try rfl
              refine wpAnyH_takeD (d := some 146) (i := 14) (oi := _) (v := ?v13) rfl (by kernel_rfl) (by kernel_rfl) (by kernel_rfl) (by kernel_rfl) (fun _ _ _ h => h) (Or.inl ⟨by rfl, ?hy13⟩) hHeld ?rest13
              case hy13 =>
                intro w hSw
                try dsimp only at hSw
                go_simp
                try with_reducible rfl
              refine wpAnyH_act (a' := ?na13) ?ne13 ?nr13
              case ne13 =>
                try simp [Act.put]
                try rfl
              refine wpAnyH_takeD (d := some 147) (i := 15) (oi := _) (v := ?v14) rfl (by kernel_rfl) (by kernel_rfl) (by kernel_rfl) (by kernel_rfl) (fun _ _ _ h => h) (Or.inl ⟨by rfl, ?hy14⟩) hHeld ?rest14
              case hy14 =>
                intro w hSw
                try dsimp only at hSw
                go_simp
                try with_reducible rfl
              refine wpAnyH_act (a' := ?na14) ?ne14 ?nr14
              case ne14 =>
                try simp [Act.put]
                try rfl
              refine wpAnyH_takeD (d := some 148) (i := 16) (oi := _) (v := ?v15) rfl (by kernel_rfl) (by kernel_rfl) (by kernel_rfl) (by kernel_rfl) (fun _ _ _ h => h) (Or.inl ⟨by rfl, ?hy15⟩) hHeld ?rest15
              case hy15 =>
                intro w hSw
                try dsimp only at hSw
                go_simp
                try with_reducible rfl
              refine wpAnyH_act (a' := ?na15) ?ne15 ?nr15
              case ne15 =>
                try simp [Act.put]
                try rfl
              refine wpAnyH_takeD (d := some 149) (i := 17) (oi := _) (v := ?v16) rfl (by kernel_rfl) (by kernel_rfl) (by kernel_rfl) (by kernel_rfl) (fun _ _ _ h => h) (Or.inl ⟨by rfl, ?hy16⟩) hHeld ?rest16
              case hy16 =>
                intro w hSw
                try dsimp only at hSw
                go_simp
                try with_reducible rfl
              refine wpAnyH_act (a' := ?na16) ?ne16 ?nr16
              case ne16 =>
                try simp [Act.put]
                try rfl
              refine wpAnyH_ready (rs := [12]) (by kernel_rfl) (by simp) ?_
              refine AllReadyH.cons (o := _) rfl (fun K hK => ?_) AllReadyH.nil
              go_simp
              refine hK.out _ _ (by first | exact HC27.out _ (((Only.refl (fun _ => False) wr).alloc _).drew) | exact HC27.out _ ((Only.refl (fun _ => False) wr).drew)) (fun hNew => ?_)
              clear hK K hHeld
              have hHeld := hNew
              clear hNew
              refine wpAnyH_act (a' := ?na17) ?ne17 ?nr17
              case ne17 =>
                try simp [Act.put]
                try rfl
              refine wpAnyH_ready (rs := [13]) (by kernel_rfl) (by simp) ?_
              refine AllReadyH.cons (o := _) rfl (fun K hK => ?_) AllReadyH.nil
              go_simp
              refine hK.out _ _ (by first | exact HC27.out _ (((Only.refl (fun _ => False) wr).alloc _).drew) | exact HC27.out _ ((Only.refl (fun _ => False) wr).drew)) (fun hNew => ?_)
              clear hK K hHeld
              have hHeld := hNew
              clear hNew
              refine wpAnyH_act (a' := ?na18) ?ne18 ?nr18
              case ne18 =>
                try simp [Act.put]
                try rfl
              refine wpAnyH_takeD (d := some 150) (i := 18) (oi := _) (v := ?v17) rfl (by kernel_rfl) (by kernel_rfl) (by kernel_rfl) (by kernel_rfl) (fun _ _ _ h => h) (Or.inl ⟨by rfl, ?hy17⟩) hHeld ?rest17
              case hy17 =>
                intro w hSw
                try dsimp only at hSw
                go_simp
                try with_reducible rfl
              refine wpAnyH_act (a' := ?na19) ?ne19 ?nr19
              case ne19 =>
                try simp [Act.put]
                try rfl
              refine wpAnyH_takeD (d := some 151) (i := 19) (oi := _) (v := ?v18) rfl (by kernel_rfl) (by kernel_rfl) (by kernel_rfl) (by kernel_rfl) (fun _ _ _ h => h) (Or.inl ⟨by rfl, ?hy18⟩) hHeld ?rest18
              case hy18 =>
                intro w hSw
                try dsimp only at hSw
                go_simp
                try with_reducible rfl
              refine wpAnyH_act (a' := ?na20) ?ne20 ?nr20
              case ne20 =>
                try simp [Act.put]
                try rfl
              refine wpAnyH_takeD (d := some 152) (i := 20) (oi := _) (v := ?v19) rfl (by kernel_rfl) (by kernel_rfl) (by kernel_rfl) (by kernel_rfl) (fun _ _ _ h => h) (Or.inl ⟨by rfl, ?hy19⟩) hHeld ?rest19
              case hy19 =>
                intro w hSw
                try dsimp only at hSw
                go_simp
                try with_reducible rfl
              refine wpAnyH_act (a' := ?na21) ?ne21 ?nr21
              case ne21 =>
                try simp [Act.put]
                try rfl
              refine wpAnyH_done (by kernel_rfl) ?_ _
              have hfin : Only (fun _ => False) wr ((wr.alloc (.cells #[.int .u8 (97 + (k : Int))] 5)).drew) := (by (repeat (first | (with_reducible assumption) | (with_reducible exact Only.refl _ _) | (with_reducible refine Only.drew ?_) | (with_reducible refine Only.alloc ?_ _) | (with_reducible refine onlySet ?_ (by first | (with_reducible assumption) | omega) _) | (with_reducible refine Only.trans ?_ (by with_reducible assumption)))))
              go_wp2_with fail
              go_roundg (8 - (k + 1))
              case measure => rw [Hg.out]; omega
              case rel => exact ⟨k + 1, by go_num, by omega, by rw [HLV.out]; rfl, HO6.out.trans hfin, rfl⟩
        · -- end
          have hlt' : ¬ (k : Int) < 8 := by omega
          obtain rfl : k = 8 := by omega
          have hsl := HSL2.out
          have HF := Lib.hid (HO2.out.trans (HS8.out.only))
          rw [← hsl]
          clear hsl hlt
          go_wp2_with fail
          go_ret
          exact ⟨rfl, HF.out⟩
end Go.Proofs.Ytefadkmdfhjaeaa
/-! WantGot's walk at what came in: a struct of two slices of bytes and two bytes. -/
namespace Go.Proofs.Ytefadkmdfhjaeaa
open Go.Conc Go.RowKit Go.ChangeShapes Go.WideShapes Go.ChangeAt Go.WideMaps Go.WideElems Go.Joins

theorem nats_u8 : ∀ (l : List Int), (∀ z ∈ l, (Lit.int .u8 z).wf = true) → ∃ n : List Nat, l = n.map (fun k : Nat => (k : Int)) ∧ ∀ k ∈ n, k < 256
  | [], _ => ⟨[], rfl, fun k hk => by cases hk⟩
  | z :: l, h => by
    obtain ⟨k, rfl, hk⟩ := nat_u8 (h z (by simp))
    obtain ⟨n, rfl, hn⟩ := nats_u8 l (fun z hz => h z (by simp [hz]))
    exact ⟨k :: n, rfl, fun j hj => by rcases List.mem_cons.1 hj with rfl | hj; exact hk; exact hn j hj⟩
theorem u8C_map (n : List Nat) : n.flatMap u8C = (n.map (fun k : Nat => (k : Int))).map (.int .u8) := by
  induction n with
  | nil => rfl
  | cons k n ih => rw [List.flatMap_cons, ih]; rfl
/-- A slice of bytes, one cell of a struct that came in. -/
theorem cell_bytes {H : Type} {enc : TypeId × Value → H} {w : World} {held : Bool} {v : Value} {n : Nat} {y : DataW H × List MemPlace} (hf : DataW.trod enc Try.prog w 0 (fun _ => true) held n 59 [v] = some y) :
    ∃ zs : List Nat, Sl w 1 v zs.length (zs.flatMap u8C) ∧ ∀ z ∈ zs, z < 256 := by
  rcases open_ints Try.underlying59 Try.underlying5 (by kernel_rfl) hf with ⟨hcs, -⟩ | ⟨a, len', cap', zs, hcs, _, hl, hm, hz, -, hcell, hwz⟩
  · simp only [List.cons.injEq, and_true] at hcs
    subst hcs
    exact ⟨[], Sl.nil _ _, by simp⟩
  · simp only [List.cons.injEq, and_true] at hcs
    subst hcs
    simp only [if_true] at hz
    have hlen : (zs.take len').length = len' := by rw [List.length_take]; omega
    obtain ⟨ns, hns, hn⟩ := nats_u8 (zs.take len') (fun z h => hwz z (List.mem_of_mem_take h))
    have hnl : ns.length = len' := by have := congrArg List.length hns; rw [hlen, List.length_map] at this; exact this.symm
    refine ⟨ns, ?_, hn⟩
    rw [u8C_map, ← hns]
    refine (sl_of_row (by decide) (by simp; omega) hl hm ?_ : Sl w 1 _ len' _).cast hnl.symm
    intro j u hu
    simp only [List.getElem?_map, Option.map_eq_some_iff] at hu
    obtain ⟨z, hz1, rfl⟩ := hu
    have hj : j < len' := by have := (List.getElem?_eq_some_iff.1 hz1).1; omega
    rw [hcell j (by omega)]
    rw [List.getElem?_take] at hz1
    rw [if_pos hj] at hz1
    simp [List.getD, hz1]
set_option maxRecDepth 100000 in
theorem got18_in {H : Type} {enc : TypeId × Value → H} {w : World} {base : Nat} {held : Bool} {v : Value} {d : DataW H} {ps : List MemPlace} (hok : Value.okWide Try.prog w .any base 61 v) (h : DataW.Trod enc Try.prog w 0 (fun _ => true) held 61 v d ps) :
    Calls Try.prog 5 #[v] w fun e w' => e = .returned (.bool true) ∧ Only (fun _ => False) w w' := by
  obtain ⟨v0, v1, v2, v3, y0, y1, y2, y3, n, rfl, _, _, h0, h1, h2, h3⟩ := open_agg4 Try.underlying61 (by kernel_rfl) (by kernel_rfl) hok h
  obtain ⟨ks, k1, k2⟩ := cell_bytes h0
  obtain ⟨vs, u1, u2⟩ := cell_bytes h1
  obtain ⟨z2, g2, _, w2⟩ := DataW.trod_int Try.underlying5 h2
  obtain ⟨z3, g3, _, w3⟩ := DataW.trod_int Try.underlying5 h3
  simp only [List.cons.injEq, and_true] at g2 g3
  subst g2 g3
  obtain ⟨a, rfl, ha⟩ := nat_u8 w2
  obtain ⟨b, rfl, hb⟩ := nat_u8 w3
  exact got18_any w v0 v1 ks vs a b k1 u1 k2 u2 ha hb
end Go.Proofs.Ytefadkmdfhjaeaa
/-! WantGot is true of every input: what was received, or what no node has, is no longer wanted; the rest is, with the greatest version that was heard. No condition. -/
namespace Go.Proofs.Ytefadkmdfhjaeaa.gotLaw18
open Go.Conc Go.RowKit Go.ChangeShapes Go.WideShapes Go.ChangeAt

theorem own : ownKnob Try.prog.godebug = none := by kernel_rfl
theorem laidOut : laidOutB Try.prog = true := by kernel_rfl
theorem reads : ∀ t ∈ Try.f5.params.toList, Try.prog.readableRec t = true ∧ t < Try.prog.types.size := by
  intro t ht
  have h1 : ([61].all fun u => Try.prog.readableRec u && decide (u < Try.prog.types.size)) = true := by kernel_rfl
  rw [Try.params5] at ht
  have := List.all_eq_true.1 h1 t ht
  simpa using this
set_option maxRecDepth 100000 in
theorem lifted (os : Os) (started : os.Started) (H : Type) (enc : TypeId × Value → H) :
    ReturnsInHanded {} Try.checked os 5 .any (Rows.wantGotSpec.pre6 enc Try.prog Try.f5 Rows.wantGotRow.domain false) (Rows.wantGotSpec.post enc Try.prog Try.f5 false true false false) := by
  refine returnsInHanded_of_change (C := Try.checked) own started (by kernel_rfl) Try.func5
    (ChangeSpec.witness6 (enc := enc) (C := Try.checked) false ⟨#[], #[.agg #[.slice none 0 0, .slice none 0 0, .int .u8 0, .int .u8 0]], []⟩ 8 (by kernel_rfl) (by kernel_rfl) (by kernel_rfl) (by kernel_rfl)) ?_
  intro W base args ds gs before hval0 hW _ _
  have hval : ∀ (j : Nat) t v, Try.f5.params[j]? = some t → args[j]? = some v → Value.okWide Try.prog W .any base t v := hval0
  have hW' := hW
  obtain ⟨p, q, hA0, hV, rfl, _, _⟩ := hW
  have hA : DataW.TrodAll enc Try.prog W 0 (fun _ => true) true Try.f5.params.toList args.toList ds p := hA0
  rw [Try.params5] at hA hval
  obtain ⟨v0, vs0, d0, ds0, p0, q0, hargs, rfl, rfl, h0, r0⟩ := trodAll_cons hA
  obtain ⟨rfl, rfl, rfl⟩ := trodAll_nil r0
  obtain rfl : args = #[v0] := by cases args; simp_all
  have hcall := got18_in (hval 0 61 v0 rfl rfl) h0
  obtain ⟨rfl, rfl⟩ := trodVars_none hV
  refine hcall.mono fun e W' ⟨he, ho⟩ => ?_
  subst he
  exact ⟨_, rfl, law_post hW' (ho.below (Nat.le_refl _) (fun _ _ => id)) laidOut reads rfl Try.underlying4 rfl rfl rfl rfl⟩

theorem holds : Rows.WantGotSaid :=
  OpenClaim.holds_of_wide 5 Try.f5 rfl rfl rfl rfl rfl rfl rfl ⟨rfl, rfl, rfl, rfl, rfl⟩ rfl rfl rfl rfl rfl (by kernel_rfl) Try.func5 (by kernel_rfl)
    (of_decide_eq_true (by kernel_rfl)) (by unfold Func.isWrapper; first | (rw [if_pos (by decide +kernel)]; kernel_rfl) | (rw [if_neg (by decide +kernel)]; exact ⟨rfl, rfl⟩))
    (fun os started H enc _ => lifted os started H enc)
#print axioms holds
end Go.Proofs.Ytefadkmdfhjaeaa.gotLaw18
