/- A clock: what its steps leave. -/
import Derived.Test.YtefadkmdfhjaeaaWA
import Derived.Conc.LoneSelectN
import Derived.Deep.RegionWith
import Derived.Deep.RegionLaw
import Derived.Deep.RegionHeld3
import Derived.Outline
import Derived.Sort.Grow
import Derived.StillTailTactics
import Derived.Shelf.SlSortCmp.Whole1
import Derived.Shelf.SlicesE.DeleteFunc
import Derived.Test.YtefadkmdfhjaeaaShelfC
/-! Comparing. -/
namespace Go.Proofs.Ytefadkmdfhjaeaa
open Go.Conc Go.RowKit

theorem nan64_any (w : World) (a : Int) : Calls Try.prog 50 #[.int .i64 a] w fun e w' => e = .returned (.bool false) ∧ w = w' := by
  go_enter Try.func50, Try.ntmps50
  go_wp2_with fail
  go_ret
  exact ⟨by simp, rfl⟩
theorem nanI_any (w : World) (a : Int) : Calls Try.prog 51 #[.int .i64 a] w fun e w' => e = .returned (.bool false) ∧ w = w' := by
  go_enter Try.func51, Try.ntmps51
  go_wp2_with fail
  go_ret
  exact ⟨by simp, rfl⟩
/-- Three ways. -/
def cmpZ (a b : Int) : Int := if a < b then -1 else if b < a then 1 else 0
theorem cmpI_any (w : World) (a b : Int) : Calls Try.prog 40 #[.int .i64 a, .int .i64 b] w fun e w' => e = .returned (.int .i64 (cmpZ a b)) ∧ w = w' := by
  unfold cmpZ
  go_enter Try.func40, Try.ntmps40
  go_wp2_with (first | (go_at_call 51; refine (nanI_any _ _).mono ?_; rintro e w2 ⟨rfl, rfl⟩))
  all_goals
    go_ret
    exact ⟨rfl, rfl⟩
theorem cmp64_any (w : World) (a b : Int) : Calls Try.prog 39 #[.int .i64 a, .int .i64 b] w fun e w' => e = .returned (.int .i64 (cmpZ a b)) ∧ w = w' := by
  unfold cmpZ
  go_enter Try.func39, Try.ntmps39
  go_wp2_with (first | (go_at_call 50; refine (nan64_any _ _).mono ?_; rintro e w2 ⟨rfl, rfl⟩))
  all_goals
    go_ret
    exact ⟨rfl, rfl⟩
end Go.Proofs.Ytefadkmdfhjaeaa
/-! cmp.Or of two ints. -/
namespace Go.Proofs.Ytefadkmdfhjaeaa
open Go.Conc Go.RowKit

/-- The first that is not 0. -/
def orZ (x y : Int) : Int := if x = 0 then y else x
set_option maxRecDepth 100000 in
theorem or_two (w : World) (B : Nat) (x y : Int) (c0 : w.cell? ⟨B, 0, none⟩ = some (.int .i64 x)) (c1 : w.cell? ⟨B, 1, none⟩ = some (.int .i64 y)) :
    Calls Try.prog 38 #[.slice (some ⟨B, 0, none⟩) 2 2] w fun e w' => e = .returned (.int .i64 (orZ x y)) ∧ w = w' := by
  go_enter Try.func38, Try.ntmps38
  go_wp2_with fail
  go_loopg [5, 8] 2 (fun g v5 v8 wx => ∃ k : Nat, v8 = .int .i64 k ∧ k ≤ 2 ∧ w = wx ∧ (1 ≤ k → x = 0) ∧ (2 ≤ k → y = 0) ∧ g = 2 - k)
  case atStart => exact ⟨0, rfl, Nat.zero_le _, rfl, fun h => absurd h (by decide), fun h => absurd h (by decide), rfl⟩
  case round =>
    obtain ⟨k, rfl, hk, rfl, hx, hy, hg⟩ := hrel
    have Hg := Lib.hid hg
    have HX := Lib.hid hx
    have HY := Lib.hid hy
    clear hg hx hy
    rcases (by omega : k = 0 ∨ k = 1 ∨ k = 2) with rfl | rfl | rfl
    · by_cases h0 : x = 0
      · subst h0
        go_wp2_with fail
        go_roundg 1
        case measure => rw [Hg.out]; omega
        case rel =>
          refine ⟨1, by go_num, by omega, rfl, (by simp), fun h => absurd h (by decide), rfl⟩
      · have h1 : (x != 0) = true := by simpa using h0
        go_wp2_with fail
        go_ret
        exact ⟨(by rw [show orZ x y = x from if_neg h0]; rfl), rfl⟩
    · have h0 := HX.out (by decide)
      subst h0
      by_cases h2 : y = 0
      · subst h2
        go_wp2_with fail
        go_roundg 0
        case measure => rw [Hg.out]; omega
        case rel =>
          refine ⟨2, by go_num, by omega, rfl, (by simp), (by simp), rfl⟩
      · have h1 : (y != 0) = true := by simpa using h2
        go_wp2_with fail
        go_ret
        exact ⟨rfl, rfl⟩
    · have h0 := HX.out (by decide)
      have h2 := HY.out (by decide)
      subst h0 h2
      go_wp2_with fail
      go_ret
      exact ⟨rfl, rfl⟩
end Go.Proofs.Ytefadkmdfhjaeaa
/-! A new clock. -/
namespace Go.Proofs.Ytefadkmdfhjaeaa
open Go.Conc Go.RowKit

set_option maxRecDepth 100000 in
theorem newClock_any (w : World) (m : Int) : Calls Try.prog 18 #[.int .i64 m] w fun e w' => e = .returned (.pointer (some ⟨w.heap.size + 1, 0, none⟩)) ∧ w' = (w.alloc (.map #[] 0)).alloc (.cells #[.map (some w.heap.size), .int .i64 (min (max m 0) 64), .int .i64 0] 92) := by
  have hmm := @run_makeMap Try.prog
  go_enter Try.func18, Try.ntmps18
  go_wp2_with fail
  all_goals
    go_ret
    refine ⟨rfl, ?_⟩
    exact congrArg (fun z : Int => (w.alloc (.map #[] 0)).alloc (.cells #[.map (some w.heap.size), .int .i64 z, .int .i64 0] 92)) (by omega)
end Go.Proofs.Ytefadkmdfhjaeaa
/-! A clock: Set, When, Unset, Len. -/
namespace Go.Proofs.Ytefadkmdfhjaeaa
open Go.Conc Go.RowKit Go.Maps

def entC (e : Int × Int) : Value := .agg #[.int .i64 e.1, .int .i64 e.2]
theorem strKeyed : Keyed Try.prog 9 := string_keyed Try.underlying9
theorem strInj : ∀ a b : ByteArray, Value.string a = Value.string b → a = b := fun _ _ h => Value.string.inj h
theorem strOk {s : ByteArray} (h : s.size ≤ maxLen) : KeyOk Try.prog 9 Value.string s := ⟨_, Go.WideMaps.keyOf_string_mk Try.underlying9 h⟩
theorem zeroC (w : World) : (zeroValue 94).run Try.prog w = .ok (entC (0, 0)) w := by kernel_rfl
abbrev CMap (w : World) (b : Nat) (L : List (ByteArray × (Int × Int))) : Prop := MapIs Try.prog 9 Value.string entC w b L
/-- A clock: its block c, its map's block b, its entries in the order in which they were set. -/
structure ClkIs (w : World) (c b : Nat) (most cnt : Int) (L : List (ByteArray × (Int × Int))) : Prop where
  blk : w.heap[c]? = some (.cells #[.map (some b), .int .i64 most, .int .i64 cnt] 92 (0, 0))
  map : CMap w b L
theorem ClkIs.ne {w : World} {c b : Nat} {most cnt : Int} {L : List (ByteArray × (Int × Int))} (h : ClkIs w c b most cnt L) : c ≠ b := by
  obtain ⟨es, clock, hb, _⟩ := h.map.own
  rintro rfl
  have := h.blk
  rw [hb] at this
  cases this
theorem ClkIs.kept {w w' : World} {c b : Nat} {most cnt : Int} {L : List (ByteArray × (Int × Int))} {S : Nat → Prop} (h : ClkIs w c b most cnt L) (ho : Only S w w') (h1 : ¬ S c) (h2 : ¬ S b) : ClkIs w' c b most cnt L :=
  ⟨ho.old h.blk h1, h.map.kept ho h2⟩
def okSet (most : Int) (L : List (ByteArray × (Int × Int))) (k : ByteArray) : Bool := (lookL L k).isSome || decide ((L.length : Int) < most)
def SetPost (w : World) (c b : Nat) (most cnt : Int) (L : List (ByteArray × (Int × Int))) (k : ByteArray) (a : Int) (w' : World) : Prop :=
  Only (fun i => i = c ∨ i = b) w w' ∧ if okSet most L k then ClkIs w' c b most (cnt + 1) (putL L k (a, cnt + 1)) else ClkIs w' c b most cnt L

set_option maxRecDepth 100000 in
theorem when_clk (w : World) (c b : Nat) (most cnt : Int) (L : List (ByteArray × (Int × Int))) (h : ClkIs w c b most cnt L) (k : ByteArray) (hk : k.size ≤ maxLen) : Calls Try.prog 56 #[.pointer (some ⟨c, 0, none⟩), .string k] w fun e w' => e = .returned (.tuple #[.int .i64 ((lookL L k).getD (0, 0)).1, .bool (lookL L k).isSome]) ∧ Only (fun _ => False) w w' := by
  have c0 : w.cell? ⟨c, 0, none⟩ = some (.map (some b)) := cell_at h.blk 0
  have hl0 := h.map.look strKeyed strInj Try.underlying90 (z := (0, 0)) (zeroC w) (strOk hk) true
  generalize lookL L k = r at *
  obtain ⟨a, o, ok, hl, ha, hb⟩ : ∃ a o ok, (Instr.lookup 90 (.map (some b)) (.string k) true).run Try.prog w = .ok (.tuple #[.agg #[.int .i64 a, .int .i64 o], .bool ok]) w ∧ (r.getD (0, 0)).1 = a ∧ r.isSome = ok := ⟨_, _, _, hl0, rfl, rfl⟩
  rw [ha, hb]
  clear hl0 ha hb
  go_enter Try.func56, Try.ntmps56
  go_wp2_with fail
  go_ret2
  exact ⟨rfl, (Only.refl _ _).alloc _⟩
def UnsetPost (w : World) (c b : Nat) (most cnt : Int) (L : List (ByteArray × (Int × Int))) (k : ByteArray) (w' : World) : Prop :=
  Only (fun i => i = b) w w' ∧ ClkIs w' c b most cnt (dropL L k)
set_option maxRecDepth 100000 in
theorem unset_clk (w : World) (c b : Nat) (most cnt : Int) (L : List (ByteArray × (Int × Int))) (h : ClkIs w c b most cnt L) (k : ByteArray) (hk : k.size ≤ maxLen) : Calls Try.prog 46 #[.pointer (some ⟨c, 0, none⟩), .string k] w fun e w' => e = .returned (.bool (lookL L k).isSome) ∧ UnsetPost w c b most cnt L k w' := by
  go_enter Try.func46, Try.ntmps46
  go_wp2_with fail
  refine (when_clk w c b most cnt L h k hk).mono ?_
  rintro e w1 ⟨rfl, ho⟩
  have h1 := h.kept ho id id
  have c0 : w1.cell? ⟨c, 0, none⟩ = some (.map (some b)) := cell_at h1.blk 0
  have hne := h.ne
  have HO := Lib.hid ho
  have H1 := Lib.hid h1
  clear ho h1
  cases hr : lookL L k with
  | none =>
    go_wp2_with fail
    go_ret
    refine ⟨by rw [hr]; rfl, HO.out.weaken (fun _ _ => False.elim), ?_⟩
    rw [dropL_of_none hr]
    exact H1.out
  | some r =>
    go_wp2_with (first | (at_delete; refine wpList_mapDrop rfl _ _ _ rfl H1.out.map strKeyed strInj Try.underlying90 rfl rfl (strOk hk) ?_; intro w2 hm2 ho2))
    go_ret
    exact ⟨by rw [hr]; rfl, (HO.out.weaken (fun _ _ => False.elim)).trans ho2, ho2.old H1.out.blk hne, hm2⟩
set_option maxRecDepth 100000 in
theorem set_clk (w : World) (c b : Nat) (most cnt : Int) (L : List (ByteArray × (Int × Int))) (h : ClkIs w c b most cnt L) (k : ByteArray) (hk : k.size ≤ maxLen) (a : Int) (hc0 : 0 ≤ cnt) (hc : cnt < 1000000) (hL : L.length < 1000000) : Calls Try.prog 19 #[.pointer (some ⟨c, 0, none⟩), .string k, .int .i64 a] w fun e w' => e = .returned (.bool (okSet most L k)) ∧ SetPost w c b most cnt L k a w' := by
  have c0 : w.cell? ⟨c, 0, none⟩ = some (.map (some b)) := cell_at h.blk 0
  have c1 : w.cell? ⟨c, 1, none⟩ = some (.int .i64 most) := cell_at h.blk 1
  have c2 : w.cell? ⟨c, 2, none⟩ = some (.int .i64 cnt) := cell_at h.blk 2
  have hf : ∀ i, w.frozen? ⟨c, i, none⟩ = false := free_at h.blk
  have hl0 := h.map.look strKeyed strInj Try.underlying90 (z := (0, 0)) (zeroC w) (strOk hk) true
  have hlen := h.map.len Try.underlying90
  have hne := h.ne
  have H := Lib.hid h
  clear h
  obtain ⟨x, o, ok, hl, hok⟩ : ∃ x o ok, (Instr.lookup 90 (.map (some b)) (.string k) true).run Try.prog w = .ok (.tuple #[.agg #[.int .i64 x, .int .i64 o], .bool ok]) w ∧ (lookL L k).isSome = ok := ⟨_, _, _, hl0, rfl⟩
  have HOK := Lib.hid hok
  have hNE := hne
  clear hl0 hok hne
  go_enter Try.func19, Try.ntmps19
  go_upto_region 4 with (fail)
  obtain ⟨W, hW⟩ : ∃ W, W = w.alloc (.cells #[.int .i64 x, .int .i64 o] 94) := ⟨_, rfl⟩
  have ho1 : Only (fun _ => False) w W := by rw [hW]; exact (Only.refl _ _).alloc _
  rw [← hW]
  have h1 := H.out.kept ho1 id id
  have HO1 := Lib.hid ho1
  have H1 := Lib.hid h1
  clear hW c0 c1 c2 hf hl hlen ho1 H
  have c0 : W.cell? ⟨c, 0, none⟩ = some (.map (some b)) := cell_at h1.blk 0
  have c1 : W.cell? ⟨c, 1, none⟩ = some (.int .i64 most) := cell_at h1.blk 1
  have hlen : ∀ n ty, (Builtin.len_ #[90] ty #[.map (some b)]).run Try.prog (W.drewN n) = .ok (.int .i64 (L.length : Nat)) (W.drewN n) := fun n ty => (h1.map.kept ((Only.refl (fun _ => False) W).drewN n) id).len Try.underlying90 ty
  clear h1
  go_cut [33] (fun v wx => v = .bool (!ok && decide (most ≤ (L.length : Int))) ∧ Only (fun _ => False) W wx)
  case first =>
    cases ok
    · go_quiet (fail)
      go_wp2_with fail
      all_goals
        go_meet
        refine ⟨?_, (Only.refl _ _).drewN _⟩
        first | rfl | simp
    · go_quiet (fail)
      go_wp2_with fail
      all_goals
        go_meet
        refine ⟨?_, (Only.refl _ _).drewN _⟩
        first | rfl | simp
  case rest =>
    obtain ⟨rfl, hcx⟩ := hcut
    have h1 := H1.out.kept hcx id id
    have ho := HO1.out.trans hcx
    have HO := Lib.hid ho
    have H2 := Lib.hid h1
    clear c0 c1 hlen hcx H1 HO1 ho
    cases hF : (!ok && decide (most ≤ (L.length : Int)))
    · have c0 : wc.cell? ⟨c, 0, none⟩ = some (.map (some b)) := cell_at h1.blk 0
      have c2 : wc.cell? ⟨c, 2, none⟩ = some (.int .i64 cnt) := cell_at h1.blk 2
      have hf : ∀ i, wc.frozen? ⟨c, i, none⟩ = false := free_at h1.blk
      have HF := Lib.hid hF
      clear hF h1
      go_upto_region 7 with (fail)
      obtain ⟨W2, hW⟩ : ∃ W2, W2 = wc.setCell ⟨c, 2, none⟩ (.int .i64 (cnt + 1)) := ⟨_, rfl⟩
      have ho2 : Only (fun i => i = c) wc W2 := by rw [hW]; exact (Only.refl _ _).setCell (S := fun i => i = c) (p := ⟨c, 2, none⟩) (.inr rfl) _
      have hb2 : W2.heap[c]? = some (.cells #[.map (some b), .int .i64 most, .int .i64 (cnt + 1)] 92 (0, 0)) := by rw [hW]; exact set_at H2.out.blk 2 _
      have hm2 := H2.out.map.kept ho2 (fun e => hNE e.symm)
      rw [← hW]
      have HM2 := Lib.hid hm2
      have HB2 := Lib.hid hb2
      have HO2 := Lib.hid ho2
      clear hW c0 c2 hf ho2 hm2
      have c0 : W2.cell? ⟨c, 0, none⟩ = some (.map (some b)) := cell_at hb2 0
      have c2 : W2.cell? ⟨c, 2, none⟩ = some (.int .i64 (cnt + 1)) := cell_at hb2 2
      clear hb2
      obtain ⟨w3, hst0, hm3, ho3⟩ := (HM2.out.kept ((Only.refl (fun _ => False) W2).drew) id).store strKeyed strInj Try.underlying90 (by unfold maxLen; omega) (strOk hk) (a, cnt + 1)
      have hst : (Instr.mapUpdate 90 (.map (some b)) (.string k) (.agg #[.int .i64 a, .int .i64 (cnt + 1)])).run Try.prog W2.drew = .ok () w3 := hst0
      have HM3 := Lib.hid hm3
      have HO3 := Lib.hid ho3
      clear hst0 hm3 ho3
      go_region
      go_wp2_with fail
      go_ret
      have hk2 : okSet most L k = true := by
        unfold okSet
        rw [HOK.out]
        have := HF.out
        revert this
        cases ok <;> simp
      refine ⟨by rw [hk2]; rfl, ?_, ?_⟩
      · have t1 : Only (fun i => i = c ∨ i = b) w W2 := (HO.out.weaken (fun _ _ => False.elim)).trans (HO2.out.weaken (fun _ _ e => .inl e))
        exact (t1.drew).trans (HO3.out.weaken (fun _ _ e => .inr e))
      · rw [hk2]
        exact ⟨HO3.out.old (w := W2.drew) HB2.out hNE, HM3.out⟩
    · go_wp2_with fail
      go_ret
      have hk2 : okSet most L k = false := by
        unfold okSet
        rw [HOK.out]
        revert hF
        cases ok <;> simp
      refine ⟨by rw [hk2]; rfl, HO.out.weaken (fun _ _ => False.elim), ?_⟩
      rw [hk2]
      exact H2.out
end Go.Proofs.Ytefadkmdfhjaeaa
/-! A clock's Due: its closures. -/
namespace Go.Proofs.Ytefadkmdfhjaeaa
open Go.Conc Go.RowKit Go.Maps Go.Sort

def entAt (L : List (ByteArray × (Int × Int))) (x : ByteArray) : Int × Int := (lookL L x).getD (0, 0)
def cfC (L : List (ByteArray × (Int × Int))) (x y : ByteArray) : Int := orZ (cmpZ (entAt L x).1 (entAt L y).1) (cmpZ (entAt L x).2 (entAt L y).2)
theorem fieldE0 (x y : Int) (w : World) : (Instr.field 94 (.agg #[.int .i64 x, .int .i64 y]) 0).run Try.prog w = .ok (.int .i64 x) w := by kernel_rfl
theorem fieldE1 (x y : Int) (w : World) : (Instr.field 94 (.agg #[.int .i64 x, .int .i64 y]) 1).run Try.prog w = .ok (.int .i64 y) w := by kernel_rfl
set_option maxRecDepth 100000 in
theorem due2_any (W : World) (B1 B2 c b : Nat) (L : List (ByteArray × (Int × Int))) (now : Int) (h1 : W.cell? ⟨B1, 0, none⟩ = some (.pointer (some ⟨c, 0, none⟩))) (h2 : W.cell? ⟨B2, 0, none⟩ = some (.int .i64 now))
    (hc : W.cell? ⟨c, 0, none⟩ = some (.map (some b))) (hm : CMap W b L) (x : ByteArray) (hx : x.size ≤ maxLen) :
    Calls Try.prog 42 #[.string x, .pointer (some ⟨B1, 0, none⟩), .pointer (some ⟨B2, 0, none⟩)] W fun e w' => e = .returned (.bool (decide (now < (entAt L x).1))) ∧ ∃ q, w' = W.drewN q := by
  obtain ⟨W2, hW2⟩ : ∃ W2, W2 = W.drew := ⟨_, rfl⟩
  have hm2 : CMap W2 b L := by rw [hW2]; exact hm.kept ((Only.refl (fun _ => False) W).drew) id
  have g1 : W2.cell? ⟨B1, 0, none⟩ = some (.pointer (some ⟨c, 0, none⟩)) := by rw [hW2]; exact h1
  have g2 : W2.cell? ⟨B2, 0, none⟩ = some (.int .i64 now) := by rw [hW2]; exact h2
  have gc : W2.cell? ⟨c, 0, none⟩ = some (.map (some b)) := by rw [hW2]; exact hc
  have hl0 := hm2.look strKeyed strInj Try.underlying90 (z := (0, 0)) (zeroC _) (strOk hx) false
  unfold entAt
  generalize (lookL L x).getD (0, 0) = r at *
  obtain ⟨a, o⟩ := r
  have hl : (Instr.lookup 90 (.map (some b)) (.string x) false).run Try.prog W2 = .ok (.agg #[.int .i64 a, .int .i64 o]) W2 := hl0
  have H := Lib.hid hW2
  clear hl0 hm hm2 h1 h2 hc
  have hf0 := fieldE0
  go_enter Try.func42, Try.ntmps42
  go_upto_region 1 with (fail)
  refine wp_region_still_tail 8 (by kernel_rfl) (by kernel_rfl) ?_
  change wpStill _ _ W.drew (fun a' => wpList _ _ _ _ a' W.drew) _ _
  rw [← hW2]
  clear hW2
  simp only [List.take_succ_cons, List.take_zero, List.drop_succ_cons, List.drop_zero]
  repeat still_step
  refine wpStill_nil ?_
  clear hl g1 g2 gc
  go_wp2_with fail
  all_goals
    go_ret
    refine ⟨?_, 1, H.out⟩
    simp_all
theorem grow_one (w : World) (o : Obj) : w.alloc o = grow w #[o] := by
  unfold grow World.alloc
  rw [Array.push_eq_append]
set_option maxRecDepth 100000 in
theorem due1_any (W : World) (B1 c b : Nat) (L : List (ByteArray × (Int × Int))) (h1 : W.cell? ⟨B1, 0, none⟩ = some (.pointer (some ⟨c, 0, none⟩)))
    (hc : W.cell? ⟨c, 0, none⟩ = some (.map (some b))) (hm : CMap W b L) (x y : ByteArray) (hx : x.size ≤ maxLen) (hy : y.size ≤ maxLen) :
    Calls Try.prog 37 #[.string x, .string y, .pointer (some ⟨B1, 0, none⟩)] W fun e w' => e = .returned (.int .i64 (cfC L x y)) ∧ ∃ q os, w' = grow (W.drewN q) os := by
  obtain ⟨W2, hW2⟩ : ∃ W2, W2 = W.drew := ⟨_, rfl⟩
  have hm2 : CMap W2 b L := by rw [hW2]; exact hm.kept ((Only.refl (fun _ => False) W).drew) id
  have g1 : W2.cell? ⟨B1, 0, none⟩ = some (.pointer (some ⟨c, 0, none⟩)) := by rw [hW2]; exact h1
  have gc : W2.cell? ⟨c, 0, none⟩ = some (.map (some b)) := by rw [hW2]; exact hc
  have hl0 := hm2.look strKeyed strInj Try.underlying90 (z := (0, 0)) (zeroC _) (strOk hx) false
  have hl1 := hm2.look strKeyed strInj Try.underlying90 (z := (0, 0)) (zeroC _) (strOk hy) false
  unfold cfC entAt
  generalize (lookL L x).getD (0, 0) = r at *
  generalize (lookL L y).getD (0, 0) = s at *
  obtain ⟨a, o⟩ := r
  obtain ⟨a2, o2⟩ := s
  have hl : (Instr.lookup 90 (.map (some b)) (.string x) false).run Try.prog W2 = .ok (.agg #[.int .i64 a, .int .i64 o]) W2 := hl0
  have hl' : (Instr.lookup 90 (.map (some b)) (.string y) false).run Try.prog W2 = .ok (.agg #[.int .i64 a2, .int .i64 o2]) W2 := hl1
  have H := Lib.hid hW2
  clear hl0 hl1 hm hm2 h1 hc
  have hf0 := fieldE0
  have hf1 := fieldE1
  go_enter Try.func37, Try.ntmps37
  go_upto_region 1 with (fail)
  refine wp_region_still_tail 30 (by kernel_rfl) (by kernel_rfl) ?_
  change wpStill _ _ W.drew (fun a' => wpList _ _ _ _ a' W.drew) _ _
  rw [← hW2]
  clear hW2
  simp only [List.take_succ_cons, List.take_zero, List.drop_succ_cons, List.drop_zero]
  repeat still_step
  still_call ((cmp64_any W2 a a2).mono fun _ _ h => ⟨h.1, h.2.symm⟩)
  repeat still_step
  still_call ((cmpI_any W2 o o2).mono fun _ _ h => ⟨h.1, h.2.symm⟩)
  refine wpStill_nil ?_
  clear hl hl' g1 gc
  go_wp2_with fail
  refine (or_two _ W2.heap.size (cmpZ a a2) (cmpZ o o2) (by simp) (by simp)).mono ?_
  rintro e w3 ⟨rfl, rfl⟩
  go_wp2_with fail
  go_ret
  refine ⟨rfl, 1, #[.cells #[.int .i64 (cmpZ a a2), .int .i64 (cmpZ o o2)] 3 (0, 0)], ?_⟩
  rw [grow_one, H.out]
  rfl
end Go.Proofs.Ytefadkmdfhjaeaa
/-! Rows: what slices.SortFunc and slices.DeleteFunc leave, said by 'ownsRow' and 'Only'. -/
namespace Go.Proofs.Ytefadkmdfhjaeaa
open Go.Conc Go.RowKit Go.Sort

section
variable {α : Type} [Inhabited α] {enc : α → Value} {w : World} {base g n cap : Nat} {e : TypeId} {d : Array α}
theorem put_block (enc : α → Value) (w : World) (g : Nat) (d : Array α) {cur : Array Value} {e : TypeId} {f : Nat × Nat} (h : w.heap[g]? = some (.cells cur e f)) : (putRow enc w g 0 d).heap[g]? = some (.cells (putCells enc 0 d cur) e f) := by
  show (w.heap.modify g (onCells (putCells enc 0 d)))[g]? = _
  rw [Array.getElem?_modify, if_pos rfl, h]
  rfl
theorem put_other (enc : α → Value) (w : World) (g : Nat) (d : Array α) (k : Nat) (h : k ≠ g) : (putRow enc w g 0 d).heap[k]? = w.heap[k]? := by
  show (w.heap.modify g (onCells (putCells enc 0 d)))[k]? = _
  rw [Array.getElem?_modify, if_neg (fun e => h e.symm)]
theorem put_only (enc : α → Value) (w : World) (g : Nat) (d : Array α) : Only (fun i => i = g) w (putRow enc w g 0 d) :=
  ⟨rfl, rfl, rfl, by simp, fun k _ hn => put_other enc w g d k hn⟩
theorem grow_only (w : World) (os : Array Obj) : Only (fun _ => False) w (grow w os) :=
  ⟨rfl, rfl, rfl, by show w.heap.size ≤ (w.heap ++ os).size; simp, fun k hk _ => by
    show (w.heap ++ os)[k]? = _
    rw [Array.getElem?_append_left hk]⟩
theorem ahead_only (w : World) (q : Nat) : Only (fun _ => False) w (Sort.ahead w q) := ⟨rfl, rfl, rfl, Nat.le_refl _, fun _ _ _ => rfl⟩
theorem sortWorld_only (enc : α → Value) (w : World) (g m : Nat) (d : Array α) (os : Array Obj) : Only (fun i => i = g) w (sortWorld enc w g 0 m d os) :=
  (((ahead_only w m).weaken (fun _ _ => False.elim)).trans (put_only enc _ g d)).trans ((grow_only _ os).weaken (fun _ _ => False.elim))
theorem put_take (enc : α → Value) (d : Array α) (cur : Array Value) (h : d.size ≤ cur.size) : (putCells enc 0 d cur).toList.take d.size = d.toList.map enc := by
  apply List.ext_getElem?
  intro k
  rw [List.getElem?_take]
  by_cases hk : k < d.size
  · rw [if_pos hk, Array.getElem?_toList, putCells, Array.getElem?_mapIdx, Array.getElem?_eq_getElem (by omega), Option.map_some, if_pos ⟨by omega, by omega⟩, List.getElem?_map, Array.getElem?_toList, Array.getElem?_eq_getElem hk, Option.map_some,
      show k - 0 = k by omega, getElem!_pos d k hk]
  · rw [if_neg hk, List.getElem?_eq_none (by simp; omega)]
theorem size_putCells (enc : α → Value) (d : Array α) (cur : Array Value) : (putCells enc 0 d cur).size = cur.size := by simp [putCells]
/-- What an own row holds. -/
theorem row_holds (h : w.ownsRow base e 1 (.slice (some ⟨g, 0, none⟩) d.size cap) d.size (d.toList.map enc)) : Holds enc w g 0 d ∧ g < w.heap.size ∧ base ≤ g ∧ d.size ≤ cap ∧ cap ≤ maxLen := by
  rcases h.2 with ⟨h2, _⟩ | ⟨g', cap', cur, hv, hb, hg, hnc, hcm, hcs, ht⟩
  · cases h2
  · cases hv
    refine ⟨fun j hj => ⟨?_, free_at hg _⟩, lt_of_block hg, hb, hnc, hcm⟩
    have e1 : (d.toList.map enc)[j]? = some (enc d[j]!) := by rw [List.getElem?_map, Array.getElem?_toList, Array.getElem?_eq_getElem hj, getElem!_pos d j hj]; rfl
    rw [cell_at hg, ← Array.getElem?_toList, ← e1, ← ht, List.getElem?_take, if_pos (by omega), show 0 + j = j by omega]
theorem put_row (h : w.ownsRow base e 1 (.slice (some ⟨g, 0, none⟩) n cap) n (d.toList.map enc)) (hd : d.size = n) (d' : Array α) (hs : d'.size = d.size) (m : Nat) (hm : m ≤ d'.size) :
    (putRow enc w g 0 d').ownsRow base e 1 (.slice (some ⟨g, 0, none⟩) m cap) m ((d'.toList.take m).map enc) := by
  subst hd
  rcases h.2 with ⟨h2, _⟩ | ⟨g', cap', cur, hv, hb, hg, hnc, hcm, hcs, ht⟩
  · cases h2
  · cases hv
    refine ⟨by simp; omega, .inr ⟨g, cap, _, rfl, hb, put_block enc w g d' hg, by omega, hcm, by rw [size_putCells]; exact hcs, ?_⟩⟩
    rw [show m * 1 = m by omega]
    have := put_take enc d' cur (by omega)
    rw [List.map_take, ← this, List.take_take]
    congr 1
    omega
end
end Go.Proofs.Ytefadkmdfhjaeaa
/-! A clock's keys, sorted by when they are due. -/
namespace Go.Proofs.Ytefadkmdfhjaeaa
open Go.Conc Go.RowKit Go.Maps Go.Sort Go.Shelf

structure KeyB where
  val : ByteArray
  ok : val.size ≤ maxLen
instance : Inhabited KeyB := ⟨⟨⟨#[]⟩, Nat.zero_le _⟩⟩
def encK (k : KeyB) : Value := .string k.val
def cfK (L : List (ByteArray × (Int × Int))) (x y : KeyB) : Int := cfC L x.1 y.1
theorem keysB : ∀ (d : List ByteArray), (∀ x ∈ d, x.size ≤ maxLen) → ∃ dk : List KeyB, dk.map KeyB.val = d
  | [], _ => ⟨[], rfl⟩
  | x :: d, h => by
    obtain ⟨dk, hd⟩ := keysB d (fun y hy => h y (List.mem_cons_of_mem _ hy))
    exact ⟨⟨x, h x (by simp)⟩ :: dk, by rw [List.map_cons, hd]⟩
/-- Before: an earlier tick, of the same tick an earlier order. -/
def ltE (p q : Int × Int) : Prop := p.1 < q.1 ∨ (p.1 = q.1 ∧ p.2 < q.2)
instance (p q : Int × Int) : Decidable (ltE p q) := by unfold ltE; infer_instance
theorem cfC_neg (L : List (ByteArray × (Int × Int))) (x y : ByteArray) : cfC L x y < 0 ↔ ltE (entAt L x) (entAt L y) := by
  unfold cfC orZ cmpZ ltE
  generalize (entAt L x).1 = a
  generalize (entAt L x).2 = o
  generalize (entAt L y).1 = a2
  generalize (entAt L y).2 = o2
  by_cases h1 : a < a2 <;> by_cases h2 : a2 < a <;> by_cases h3 : o < o2 <;> by_cases h4 : o2 < o <;> simp [h1, h2, h3, h4] <;> omega
theorem cf_swo (L : List (ByteArray × (Int × Int))) : SWO (ltOf (cfK L)) where
  irrefl x := by
    have h : ¬ cfK L x x < 0 := by unfold cfK; rw [cfC_neg]; unfold ltE; omega
    simpa [ltOf] using h
  trans x y z h1 h2 := by
    have a : cfK L x y < 0 := by simpa [ltOf] using h1
    have b : cfK L y z < 0 := by simpa [ltOf] using h2
    have h : cfK L x z < 0 := by unfold cfK at *; rw [cfC_neg] at *; unfold ltE at *; omega
    simpa [ltOf] using h
  ntrans x y z h1 h2 := by
    have a : ¬ cfK L x y < 0 := by simpa [ltOf] using h1
    have b : ¬ cfK L y z < 0 := by simpa [ltOf] using h2
    have h : ¬ cfK L x z < 0 := by unfold cfK at *; rw [cfC_neg] at *; unfold ltE at *; omega
    simpa [ltOf] using h

/-- Sorted by when they are due. -/
def DueSorted (L : List (ByteArray × (Int × Int))) (d : List ByteArray) : Prop := d.Pairwise (fun x y => ¬ ltE (entAt L y) (entAt L x))
theorem strKeys_mapD (L : List (ByteArray × (Int × Int))) (hs : ∀ p ∈ L, p.1.size ≤ maxLen) : (strKeys (mapD Try.prog 9 Value.string entC L)).Perm (L.map (fun p => p.1.data.toList)) := by
  have h1 : ((L.map (entL Try.prog 9 Value.string entC)).foldr DataW.insert []).Perm (L.map (entL Try.prog 9 Value.string entC)) := WideShapes.sorted_perm _
  have h2 := h1.map (fun p => strOf p.1)
  refine h2.trans ?_
  rw [List.map_map]
  refine List.Perm.of_eq (List.map_congr_left (fun p hp => ?_))
  simp only [Function.comp_apply, entL]
  rw [keyL_of (WideMaps.keyOf_string_mk Try.underlying9 (hs p hp))]
  rfl
theorem enter_keys1 : ∀ args w, (callFunc 49 args).run Try.prog w = .ok (.enter 49 args) w := enters_of Try.func49 (by kernel_rfl) rfl
theorem enter_due1 : ∀ args w, (callFunc 37 args).run Try.prog w = .ok (.enter 37 args) w := enters_of Try.func37 (by kernel_rfl) rfl
theorem collect_clk (W : World) (Bm b : Nat) (L : List (ByteArray × (Int × Int))) (hm : CMap W b L) (hBm : W.cell? ⟨Bm, 0, none⟩ = some (.map (some b))) (hs : ∀ p ∈ L, p.1.size ≤ maxLen) (hL : L.length < 1000000) :
    Calls Try.prog 43 #[.func (.func 49) #[] #[.pointer (some ⟨Bm, 0, none⟩)]] W fun e w' => ∃ v d, e = .returned v ∧ d.Perm (L.map (·.1)) ∧ Only (fun _ => False) W w' ∧ w'.ownsRow W.heap.size 9 1 v d.length (d.map Value.string) ∧ (v = .slice none 0 0 ↔ d = []) := by
  have hseq := AnyZ.keys_gives (ρ := Try.keysS_ren) { Try.keysS with } Fence.wide 1 trivial rfl (by omega) Bm b L.length _ W (World.block_lt_of_cell? _ _ hBm) hBm hm.own
  have hcon := callsIn_wide.1 (AnyZ.collect_in Try.collectS Fence.wide 3 trivial trivial rfl (by omega) 49 #[.pointer (some ⟨Bm, 0, none⟩)] trivial enter_keys1 _ _ (by rw [size_mapD]; unfold maxLen; omega) (by rw [size_mapD]; omega) W hseq)
  refine hcon.mono ?_
  rintro e w' ⟨v, ss, rfl, hS, hrow, hnil, hb⟩
  have hp := hS.trans (strKeys_mapD L hs)
  have hp2 := hp.map (fun l : List UInt8 => (⟨l.toArray⟩ : ByteArray))
  rw [List.map_map] at hp2
  refine ⟨v, ss.map (fun l => ⟨l.toArray⟩), rfl, ?_, Only.of_below hb, ?_, ?_⟩
  · refine hp2.trans (List.Perm.of_eq (List.map_congr_left (fun p _ => ?_)))
    simp
  · rw [List.length_map, List.map_map]
    exact hrow
  · rw [hnil]; simp

set_option maxRecDepth 100000 in
set_option maxHeartbeats 2000000 in
theorem sorted_clk (W : World) (Bm B1 c b : Nat) (L : List (ByteArray × (Int × Int))) (hm : CMap W b L) (hBm : W.cell? ⟨Bm, 0, none⟩ = some (.map (some b))) (h1 : W.cell? ⟨B1, 0, none⟩ = some (.pointer (some ⟨c, 0, none⟩)))
    (hc : W.cell? ⟨c, 0, none⟩ = some (.map (some b))) (hs : ∀ p ∈ L, p.1.size ≤ maxLen) (hL : L.length < 1000000) :
    Calls Try.prog 35 #[.func (.func 49) #[] #[.pointer (some ⟨Bm, 0, none⟩)], .func (.func 37) #[] #[.pointer (some ⟨B1, 0, none⟩)]] W fun e w' => ∃ v d, e = .returned v ∧ d.Perm (L.map (·.1)) ∧ DueSorted L d ∧ Only (fun _ => False) W w' ∧ w'.ownsRow W.heap.size 9 1 v d.length (d.map Value.string) ∧ (v = .slice none 0 0 ↔ d = []) := by
  have hcol := collect_clk W Bm b L hm hBm hs hL
  go_enter Try.func35, Try.ntmps35
  go_wp2_with fail
  refine hcol.mono ?_
  rintro e w1 ⟨v, d, rfl, hp, ho, hrow, hnil⟩
  have hm1 := hm.kept ho id
  have g1 := ho.cell h1 id
  have gc := ho.cell hc id
  have hsort : Calls Try.prog 48 #[v, .func (.func 37) #[] #[.pointer (some ⟨B1, 0, none⟩)]] w1 fun e w' => e = .returned (.tuple #[]) ∧ ∃ d', d'.Perm (L.map (·.1)) ∧ DueSorted L d' ∧ Only (fun _ => False) W w' ∧ w'.ownsRow W.heap.size 9 1 v d'.length (d'.map Value.string) ∧ (v = .slice none 0 0 ↔ d' = []) := by
    by_cases hv : v = .slice none 0 0
    · have hd := hnil.1 hv
      subst hd hv
      refine (AnyF.slices_SortFunc_none { Try.sortFS with } none 0 _ w1).mono ?_
      rintro e w' ⟨rfl, rfl⟩
      exact ⟨rfl, [], hp, List.Pairwise.nil, ho, hrow, by simp⟩
    · have hsz : ∀ x ∈ d, x.size ≤ maxLen := fun x hx => by
        obtain ⟨p, hp', rfl⟩ := List.mem_map.1 (hp.mem_iff.1 hx)
        exact hs p hp'
      obtain ⟨dk, hdk⟩ := keysB d hsz
      subst hdk
      rcases hrow.2 with ⟨h2, _⟩ | ⟨g, cap, cur, rfl, hb, hg, hnc, hcm, hcs, ht⟩
      · exact absurd h2 hv
      have hrow2 : w1.ownsRow W.heap.size 9 1 (.slice (some ⟨g, 0, none⟩) dk.toArray.size cap) dk.toArray.size (dk.toArray.toList.map encK) := by
        have := hrow
        rw [List.length_map, List.map_map] at this
        exact this
      obtain ⟨hH, hgl, _⟩ := row_holds hrow2
      have hcmp : CmpLays1 Try.prog 37 #[.pointer (some ⟨B1, 0, none⟩)] encK (cfK L) g 0 dk.toArray.size w1 := by
        intro m os dk' _ x y
        have ho2 := sortWorld_only encK w1 g m dk' os
        have hne : ∀ k, k < W.heap.size → ¬ k = g := fun k hk e => by omega
        have n1 : ¬ B1 = g := hne _ (World.block_lt_of_cell? _ _ h1)
        have n2 : ¬ c = g := hne _ (World.block_lt_of_cell? _ _ hc)
        have n3 : ¬ b = g := hne _ hm.lt
        exact due1_any _ B1 c b L (ho2.cell g1 n1) (ho2.cell gc n2) (hm1.kept ho2 n3) x.1 y.1 x.2 y.2
      have hcon := Any.slices_SortFunc Try.sortFS encK (fun _ => rfl) (cfK L) (cf_swo L) 37 #[.pointer (some ⟨B1, 0, none⟩)] g 0 cap dk.toArray w1 enter_due1 hcmp hH hgl (by
        have := hp.length_eq
        simp at this ⊢
        omega)
      have e1 : ((dk.map KeyB.val).length) = dk.toArray.size := by simp
      rw [e1]
      refine hcon.mono ?_
      rintro e w' ⟨rfl, d', n, os, ⟨hsz', _, hperm⟩, hsorted, rfl⟩
      have hpl : d'.toList.Perm dk := by
        have := hperm
        simp only [Array.extract_size] at this
        rw [show (d'.extract 0 dk.toArray.size) = d' by rw [← hsz']; exact Array.extract_size] at this
        simpa using this
      refine ⟨rfl, d'.toList.map KeyB.val, (hpl.map _).trans hp, ?_, ?_, ?_, ?_⟩
      · unfold DueSorted
        rw [List.pairwise_map, List.pairwise_iff_getElem]
        intro i j hi hj hij
        have hi' : i < d'.size := by simpa using hi
        have hj' : j < d'.size := by simpa using hj
        have h := hsorted i j (Nat.zero_le _) hij (by omega)
        rw [getElem!_pos d' i hi', getElem!_pos d' j hj'] at h
        rw [← cfC_neg]
        have h' : ¬ cfK L d'[j] d'[i] < 0 := by simpa [ltOf] using h
        simpa [cfK] using h'
      · exact ho.tr (sortWorld_only encK w1 g n d' os) (fun i hi e => by omega)
      · have r1 := put_row (w := Sort.ahead w1 n) (enc := encK) hrow2 rfl d' hsz' d'.size (Nat.le_refl _)
        have r2 := owns_only r1 (grow_only _ os) (fun _ _ => id)
        rw [List.take_of_length_le (by simp)] at r2
        have e2 : (d'.toList.map KeyB.val).length = d'.size := by simp
        have e3 : ((d'.toList.map KeyB.val).map Value.string) = d'.toList.map encK := by rw [List.map_map]; rfl
        rw [e2, e3, ← hsz']
        exact r2
      · constructor
        · intro h; cases h
        · intro h
          have e2 : d'.toList = [] := List.map_eq_nil_iff.1 h
          rw [e2] at hpl
          cases hnil.2 (by rw [← List.Perm.nil_eq hpl]; rfl)
  go_wp2_with fail
  refine hsort.mono ?_
  rintro e w2 ⟨rfl, d', h1, h2, h3, h4, h5⟩
  go_wp2_with fail
  go_ret
  exact ⟨v, d', rfl, h1, h2, h3, h4, h5⟩
end Go.Proofs.Ytefadkmdfhjaeaa
/-! A clock's Due. -/
namespace Go.Proofs.Ytefadkmdfhjaeaa
open Go.Conc Go.RowKit Go.Maps Go.Sort Go.Shelf

theorem enter_due2 : ∀ args w, (callFunc 42 args).run Try.prog w = .ok (.enter 42 args) w := enters_of Try.func42 (by kernel_rfl) rfl
def late (L : List (ByteArray × (Int × Int))) (now : Int) (x : ByteArray) : Bool := decide (now < (entAt L x).1)
set_option maxRecDepth 100000 in
set_option maxHeartbeats 2000000 in
theorem del_clk (W : World) (base B1 B2 c b : Nat) (L : List (ByteArray × (Int × Int))) (now : Int) (hm : CMap W b L) (h1 : W.cell? ⟨B1, 0, none⟩ = some (.pointer (some ⟨c, 0, none⟩))) (h2 : W.cell? ⟨B2, 0, none⟩ = some (.int .i64 now))
    (hc : W.cell? ⟨c, 0, none⟩ = some (.map (some b))) (v : Value) (d : List ByteArray) (hs : ∀ x ∈ d, x.size ≤ maxLen) (hd : d.length < 1000000) (hrow : W.ownsRow base 9 1 v d.length (d.map Value.string))
    (n1 : B1 < base) (n2 : B2 < base) (n3 : c < base) (n4 : b < base) :
    Calls Try.prog 41 #[v, .func (.func 42) #[] #[.pointer (some ⟨B1, 0, none⟩), .pointer (some ⟨B2, 0, none⟩)]] W fun e w' => ∃ v', e = .returned v' ∧ Only (fun i => base ≤ i) W w' ∧
      w'.ownsRow base 9 1 v' (d.filter (fun x => !late L now x)).length ((d.filter (fun x => !late L now x)).map Value.string) := by
  rcases hrow.2 with ⟨h3, h4⟩ | ⟨g, cap, cur, rfl, hb, hg, hnc, hcm, hcs, ht⟩
  · subst h3
    have hd0 : d = [] := List.length_eq_zero_iff.1 h4
    subst hd0
    have hi := AnyE.slices_IndexFunc_empty (P := Try.prog) (ρ := Try.delFS_ren) { Try.delFS with } none 0 (.func (.func 42) #[] #[.pointer (some ⟨B1, 0, none⟩), .pointer (some ⟨B2, 0, none⟩)]) W
    change Calls Try.prog 52 _ _ _ at hi
    go_enter Try.func41, Try.ntmps41
    go_wp2_with (first | (go_at_call 52; refine hi.mono ?_; rintro e w1 ⟨rfl, rfl⟩))
    go_ret
    exact ⟨_, rfl, Only.refl _ _, hrow⟩
  obtain ⟨dk, hdk⟩ := keysB d hs
  subst hdk
  have hrow2 : W.ownsRow base 9 1 (.slice (some ⟨g, 0, none⟩) dk.toArray.size cap) dk.toArray.size (dk.toArray.toList.map encK) := by
    have := hrow
    rw [List.length_map, List.map_map] at this
    exact this
  obtain ⟨hH, hgl, _⟩ := row_holds hrow2
  have hp : PredAt Try.prog 42 #[.pointer (some ⟨B1, 0, none⟩), .pointer (some ⟨B2, 0, none⟩)] encK (fun x => late L now x.val) W := by
    intro W' x hb'
    have ho : Only (fun _ => False) W W' := Only.of_below hb'
    exact due2_any W' B1 B2 c b L now (ho.cell h1 id) (ho.cell h2 id) (ho.cell hc id) (hm.kept ho id) x.val x.ok
  have hpo : PredOver Try.prog 42 #[.pointer (some ⟨B1, 0, none⟩), .pointer (some ⟨B2, 0, none⟩)] encK (fun x => late L now x.val) g 0 dk.toArray.size W := by
    intro m os dk' x _
    have ho := sortWorld_only encK W g m dk' os
    exact due2_any _ B1 B2 c b L now (ho.cell h1 (by show ¬ B1 = g; omega)) (ho.cell h2 (by show ¬ B2 = g; omega)) (ho.cell hc (by show ¬ c = g; omega)) (hm.kept ho (by omega)) x.val x.ok
  have hcon := AnyE.slices_DeleteFunc Try.delFS encK (fun _ => rfl) (fun x => late L now x.val) 42 #[.pointer (some ⟨B1, 0, none⟩), .pointer (some ⟨B2, 0, none⟩)] enter_due2 ⟨⟨#[]⟩, Nat.zero_le _⟩ Try.zeroValue9 g 0 cap dk.toArray W hp hpo hH (by simp at hd ⊢; omega) (by simpa using hnc)
  have e1 : (dk.map KeyB.val).length = dk.toArray.size := by simp
  rw [e1]
  refine hcon.mono ?_
  rintro e w' ⟨rfl, q, rfl⟩
  have hfl : (dk.map KeyB.val).filter (fun x => !late L now x) = (dk.filter (fun x => !late L now x.val)).map KeyB.val := by rw [List.filter_map]; rfl
  refine ⟨_, rfl, ((ahead_only W q).weaken (fun _ _ => False.elim)).trans ((put_only encK _ g _).weaken (fun i _ e => by show base ≤ i; omega)), ?_⟩
  rw [hfl]
  generalize hK : dk.filter (fun x => !late L now x.val) = K
  have hKl : K.length ≤ dk.length := by rw [← hK]; exact List.length_filter_le _ _
  have r1 := put_row (w := Sort.ahead W q) (enc := encK) hrow2 rfl (K ++ List.replicate (dk.length - K.length) (⟨⟨#[]⟩, Nat.zero_le _⟩ : KeyB)).toArray (by simp; omega) K.length (by simp)
  rw [show ((K ++ List.replicate (dk.length - K.length) (⟨⟨#[]⟩, Nat.zero_le _⟩ : KeyB)).toArray.toList.take K.length) = K by simp] at r1
  have e2 : (K.map KeyB.val).length = K.length := by simp
  have e3 : (K.map KeyB.val).map Value.string = K.map encK := by rw [List.map_map]; rfl
  rw [e2, e3]
  exact r1

def dropAll (L : List (ByteArray × (Int × Int))) (ds : List ByteArray) : List (ByteArray × (Int × Int)) := ds.foldl dropL L
theorem dropAll_snoc (L : List (ByteArray × (Int × Int))) (ds : List ByteArray) (x : ByteArray) : dropAll L (ds ++ [x]) = dropL (dropAll L ds) x := by simp [dropAll]
theorem dropAll_filter : ∀ (ds : List ByteArray) (L : List (ByteArray × (Int × Int))), dropAll L ds = L.filter (fun p => !ds.any (fun y => decide (p.1 = y)))
  | [], L => (List.filter_eq_self.2 (by simp)).symm
  | x :: ds, L => by
    rw [dropAll, List.foldl_cons, ← dropAll, dropAll_filter ds, dropL, List.filter_filter]
    refine List.filter_congr (fun p _ => ?_)
    rw [List.any_cons, Bool.not_or, Bool.and_comm]
theorem any_iff (ds : List ByteArray) (x : ByteArray) : ds.any (fun y => decide (x = y)) = true ↔ x ∈ ds := by
  rw [List.any_eq_true]
  constructor
  · rintro ⟨y, hy, e⟩
    obtain rfl : x = y := by simpa using e
    exact hy
  · intro h
    exact ⟨x, h, by simp⟩
theorem late_mem {L : List (ByteArray × (Int × Int))} (ha : L.Pairwise (fun p q => p.1 ≠ q.1)) (now : Int) {p : ByteArray × (Int × Int)} (hp : p ∈ L) : late L now p.1 = decide (now < p.2.1) := by
  have : lookL L p.1 = some p.2 := lookL_of_mem ha hp
  simp [late, entAt, this]
theorem out_perm {L : List (ByteArray × (Int × Int))} (ha : L.Pairwise (fun p q => p.1 ≠ q.1)) (now : Int) {d out : List ByteArray} (hp : d.Perm (L.map (·.1))) (ho : d.filter (fun x => !late L now x) = out) :
    out.Perm ((L.filter (fun p => !decide (now < p.2.1))).map (·.1)) := by
  rw [← ho]
  refine (hp.filter _).trans (List.Perm.of_eq ?_)
  rw [List.filter_map]
  congr 1
  refine List.filter_congr (fun p hp => ?_)
  simp only [Function.comp_apply, late_mem ha now hp]
theorem dropAll_out {L : List (ByteArray × (Int × Int))} (ha : L.Pairwise (fun p q => p.1 ≠ q.1)) (now : Int) {out : List ByteArray} (hp : out.Perm ((L.filter (fun p => !decide (now < p.2.1))).map (·.1))) :
    dropAll L out = L.filter (fun p => decide (now < p.2.1)) := by
  rw [dropAll_filter]
  refine List.filter_congr (fun p hp' => ?_)
  have : p.1 ∈ out ↔ ¬ now < p.2.1 := by
    rw [hp.mem_iff, List.mem_map]
    constructor
    · rintro ⟨q, hq, e⟩
      obtain ⟨hq1, hq2⟩ := List.mem_filter.1 hq
      have h1 : lookL L q.1 = some q.2 := lookL_of_mem ha hq1
      have h2 : lookL L p.1 = some p.2 := lookL_of_mem ha hp'
      rw [e, h2] at h1
      have h3 : p.2 = q.2 := Option.some.inj h1
      rw [h3]
      simpa using hq2
    · intro hn
      exact ⟨p, List.mem_filter.2 ⟨hp', by simpa using hn⟩, rfl⟩
  rw [← any_iff] at this
  cases hA : out.any (fun y => decide (p.1 = y))
  · rw [hA] at this
    by_cases h : now < p.2.1
    · simp [h]
    · exact absurd (this.2 h) (by simp)
  · rw [hA] at this
    have h := this.1 rfl
    simp [h]
def DuePost (w : World) (c b : Nat) (most cnt : Int) (L : List (ByteArray × (Int × Int))) (now : Int) (e : Ending) (w' : World) : Prop :=
  ∃ v out, e = .returned v ∧ out.Perm ((L.filter (fun p => !decide (now < p.2.1))).map (·.1)) ∧ DueSorted L out ∧ w'.ownsRow w.heap.size 9 1 v out.length (out.map Value.string) ∧
    Only (fun i => i = b) w w' ∧ ClkIs w' c b most cnt (L.filter (fun p => decide (now < p.2.1)))
set_option maxRecDepth 100000 in
set_option maxHeartbeats 2000000 in
theorem due_clk (w : World) (c b : Nat) (most cnt : Int) (L : List (ByteArray × (Int × Int))) (now : Int) (h : ClkIs w c b most cnt L) (hs : ∀ p ∈ L, p.1.size ≤ maxLen) (hL : L.length < 1000000) :
    Calls Try.prog 23 #[.pointer (some ⟨c, 0, none⟩), .int .i64 now] w fun e w' => DuePost w c b most cnt L now e w' := by
  have hmf : ∀ (fn : Fn) (first cap : Array Value) (w : World), (Instr.makeFunc fn first cap).run Try.prog w = .ok (.func fn first cap) w := fun _ _ _ _ => rfl
  have H := Lib.hid h
  obtain ⟨W, hW⟩ : ∃ W, W = (w.alloc (.cells #[.pointer (some ⟨c, 0, none⟩)] 65)).alloc (.cells #[.int .i64 now] 2) := ⟨_, rfl⟩
  have ho : Only (fun _ => False) w W := by rw [hW]; exact ((Only.refl _ _).alloc _).alloc _
  have b1 : W.heap[w.heap.size]? = some (.cells #[.pointer (some ⟨c, 0, none⟩)] 65 (0, 0)) := by
    rw [hW]
    exact (Only.refl (fun _ => False) (w.alloc (.cells #[.pointer (some ⟨c, 0, none⟩)] 65))).alloc _ |>.new id
  have b2 : W.heap[w.heap.size + 1]? = some (.cells #[.int .i64 now] 2 (0, 0)) := by
    rw [hW, show w.heap.size + 1 = (w.alloc (.cells #[.pointer (some ⟨c, 0, none⟩)] 65)).heap.size by simp]
    exact heap_alloc_new _ _
  have hsz : W.heap.size = w.heap.size + 2 := by rw [hW]; simp
  have hc := h.kept ho id id
  have g1 : W.cell? ⟨w.heap.size, 0, none⟩ = some (.pointer (some ⟨c, 0, none⟩)) := cell_at b1 0
  have g2 : W.cell? ⟨w.heap.size + 1, 0, none⟩ = some (.int .i64 now) := cell_at b2 0
  have c0 : W.cell? ⟨c, 0, none⟩ = some (.map (some b)) := cell_at hc.blk 0
  have HC := Lib.hid hc
  have HO := Lib.hid ho
  have hlt : c < w.heap.size ∧ b < w.heap.size := ⟨lt_of_block h.blk, h.map.lt⟩
  have cK : Calls Try.prog 36 #[.map (some b)] W fun e w' => e = .returned (.func (.func 49) #[] #[.pointer (some ⟨W.heap.size, 0, none⟩)]) ∧ w' = W.alloc (.cells #[.map (some b)] 90) :=
    callsIn_wide.1 (AnyZ.keys_in Try.keysS Fence.wide 5 trivial rfl (some b) W)
  obtain ⟨W1, hW1⟩ : ∃ W1, W1 = W.alloc (.cells #[.map (some b)] 90) := ⟨_, rfl⟩
  have ho1 : Only (fun _ => False) W W1 := by rw [hW1]; exact (Only.refl _ _).alloc _
  have b3 : W1.heap[W.heap.size]? = some (.cells #[.map (some b)] 90 (0, 0)) := by rw [hW1]; exact heap_alloc_new _ _
  have cS := sorted_clk W1 W.heap.size w.heap.size c b L (hc.map.kept ho1 id) (cell_at b3 0) (ho1.cell g1 id) (ho1.cell c0 id) hs hL
  rw [← hW1, hsz] at cK
  rw [hsz] at cS
  have HSZ := Lib.hid hsz
  have HO1 := Lib.hid ho1
  have HSZ1 := Lib.hid (show W1.heap.size = w.heap.size + 3 by rw [hW1]; simp [hsz])
  clear h hW1 hc ho ho1 b1 b2 b3 hsz
  go_enter Try.func23, Try.ntmps23
  go_upto_region 3 with (fail)
  rw [← hW]
  clear hW
  go_wp2_with fail
  refine cK.mono ?_
  rintro e w1 ⟨rfl, rfl⟩
  go_wp2_with fail
  refine cS.mono ?_
  rintro e w2 ⟨v, d, rfl, hp, hds, ho2, hrow, hnil⟩
  have ho02 := (HO1.out.trans ho2)
  have hc2 := HC.out.kept ho02 id id
  have g1' := ho02.cell g1 id
  have g2' := ho02.cell g2 id
  have c0' : w2.cell? ⟨c, 0, none⟩ = some (.map (some b)) := cell_at hc2.blk 0
  have hds' : ∀ x ∈ d, x.size ≤ maxLen := fun x hx => by
    obtain ⟨p, hp', rfl⟩ := List.mem_map.1 (hp.mem_iff.1 hx)
    exact hs p hp'
  have hsz2 : w.heap.size + 2 < w1.heap.size := by
    have := HSZ1.out; omega
  have cD := del_clk w2 w1.heap.size w.heap.size (w.heap.size + 1) c b L now hc2.map g1' g2' c0' v d hds' (by have := hp.length_eq; simp at this; omega) hrow (by omega) (by omega) (by omega) (by omega)
  have HP := Lib.hid hp
  have HDS := Lib.hid hds
  have HO2 := Lib.hid ho02
  have HC2 := Lib.hid hc2
  clear g1 g2 c0 hp hds ho2 hrow hnil ho02 hc2 hds'
  go_wp2_with fail
  refine cD.mono ?_
  rintro e w3 ⟨v', rfl, ho3, hrow3⟩
  generalize hout : d.filter (fun x => !late L now x) = out at hrow3
  have ho03 : Only (fun i => w1.heap.size ≤ i) W w3 := (HO2.out.weaken (fun _ _ => False.elim)).trans ho3
  have hsl := Sl.of_owns hrow3
  obtain ⟨_, a, cap, rfl, hnc, hcm, hcells⟩ := hsl
  unfold maxLen at hcm
  have HR3 := Lib.hid hrow3
  have HCE := Lib.hid hcells
  have HOUT := Lib.hid hout
  have HO3 := Lib.hid ho03
  have hm3 := HC2.out.kept ho3 (by omega) (by omega)
  have c0 : w3.cell? ⟨c, 0, none⟩ = some (.map (some b)) := cell_at hm3.blk 0
  have HM3 := Lib.hid hm3
  have HG3 := Lib.hid (ho3.cell g1' (by show ¬ w1.heap.size ≤ w.heap.size; omega))
  clear hrow3 hcells hout ho03 ho3 hm3 cD cS cK g1' g2' c0'
  go_wp2_with fail
  go_loopg [22] out.length (fun g v22 wx => ∃ k : Nat, v22 = .int .i64 k ∧ k ≤ out.length ∧ Only (fun i => i = b) w3 wx ∧ CMap wx b (dropAll L (out.take k)) ∧ g = out.length - k)
  case atStart => exact ⟨0, rfl, Nat.zero_le _, Only.refl _ _, HM3.out.map, rfl⟩
  case round =>
    obtain ⟨k, rfl, hk, hox, hmx, hg⟩ := hrel
    have Hg := Lib.hid hg
    have HOX := Lib.hid hox
    have hcx : wr.cell? ⟨c, 0, none⟩ = some (.map (some b)) := hox.cell c0 HM3.out.ne
    have gr : wr.cell? ⟨w.heap.size, 0, none⟩ = some (.pointer (some ⟨c, 0, none⟩)) := hox.cell HG3.out (by show ¬ w.heap.size = b; omega)
    clear hg hox c0
    by_cases hlt : k < out.length
    · obtain ⟨b', off, ha, hcc⟩ := HCE.out.resolve_left (by omega)
      subst ha
      have hz : w3.cell? ⟨b', off + k, none⟩ = some (.string out[k]) := hcc k _ (by simp [hlt])
      have hz' := HOX.out.cell hz (fun e => by
        have e' : b' = b := e
        subst e'
        obtain ⟨es, clock, hbm, _⟩ := HM3.out.map.own
        simp [World.cell?, hbm] at hz)
      have hkk : (out[k]).size ≤ maxLen := by
        have h1 : out[k] ∈ d := by
          have h2 : out[k] ∈ d.filter (fun x => !late L now x) := by rw [HOUT.out]; exact List.getElem_mem hlt
          exact (List.mem_filter.1 h2).1
        obtain ⟨p, hp', e1⟩ := List.mem_map.1 (HP.out.mem_iff.1 h1)
        rw [← e1]
        exact hs p hp'
      have htk : out.take (k + 1) = out.take k ++ [out[k]] := by rw [List.take_add_one, List.getElem?_eq_getElem hlt]; rfl
      have HTK := Lib.hid htk
      generalize out[k] = x at *
      have hz2 : wr.cell? ⟨b', off + k, none⟩ = some (.string x) := hz'
      clear hz hz' hcc htk
      have hlt' : (k : Int) < (out.length : Int) := by omega
      go_wp2_with (first | (at_delete; refine wpList_mapDrop rfl _ _ _ rfl hmx strKeyed strInj Try.underlying90 rfl rfl (strOk hkk) ?_; intro w2' hm2' ho2'))
      go_roundg (out.length - (k + 1))
      case measure => rw [Hg.out]; omega
      case rel =>
        refine ⟨k + 1, by go_num, by omega, HOX.out.trans ho2', ?_, rfl⟩
        rw [HTK.out, dropAll_snoc]
        exact hm2'
    · have hke : k = out.length := by omega
      have hlt' : ¬ (k : Int) < (out.length : Int) := by omega
      rw [hke, List.take_length] at hmx
      have HMX := Lib.hid hmx
      clear hmx
      go_wp2_with fail
      go_ret
      have hap := H.out.map.apart
      have hpo := out_perm hap now HP.out HOUT.out
      have hbw : b < w.heap.size := H.out.map.lt
      refine ⟨_, out, rfl, hpo, ?_, ?_, ?_, ?_⟩
      · have := HDS.out.filter (fun x => !late L now x)
        rw [HOUT.out] at this
        exact this
      · have h1 := owns_kept HR3.out HOX.out (fun k hk e => by
          subst e
          have h2 := HR3.out
          rcases h2.2 with ⟨h3, _⟩ | ⟨g, cap', cur, h3, h4, h5, _⟩
          · rw [h3] at hk; simp [Value.ownBlock] at hk
          · rw [h3] at hk
            simp [Value.ownBlock] at hk
            omega)
        exact ownsRow_base_a h1 (by omega)
      · exact ((HO.out.weaken (fun _ _ => False.elim)).tr HO3.out (fun i hi e => by omega)).trans HOX.out
      · rw [← dropAll_out hap now hpo]
        exact ⟨HOX.out.old HM3.out.blk HM3.out.ne, HMX.out⟩
end Go.Proofs.Ytefadkmdfhjaeaa
/-! A clock's due things, plainly: the order is the only one. -/
namespace Go.Proofs.Ytefadkmdfhjaeaa
open Go.Conc Go.RowKit

theorem entAt_mem {L : List (ByteArray × (Int × Int))} (ha : L.Pairwise (fun p q => p.1 ≠ q.1)) {x : ByteArray} {v : Int × Int} (h : (x, v) ∈ L) : entAt L x = v := by
  simp [entAt, lookL_of_mem ha h]
/-- No two were set at once. -/
def Orders (L : List (ByteArray × (Int × Int))) : Prop := L.Pairwise (fun p q => p.2.2 < q.2.2)
theorem orders_inj {L : List (ByteArray × (Int × Int))} (ho : Orders L) {p q : ByteArray × (Int × Int)} (hp : p ∈ L) (hq : q ∈ L) (h : p.2.2 = q.2.2) : p = q := by
  induction L with
  | nil => cases hp
  | cons a L ih =>
    obtain ⟨h1, h2⟩ := List.pairwise_cons.1 ho
    rcases List.mem_cons.1 hp with e | m1 <;> rcases List.mem_cons.1 hq with e' | m2
    · rw [e, e']
    · have := h1 q m2; rw [← e] at this; omega
    · have := h1 p m1; rw [← e'] at this; omega
    · exact ih h2 m1 m2
theorem due_unique {L : List (ByteArray × (Int × Int))} (ha : L.Pairwise (fun p q => p.1 ≠ q.1)) (ho : Orders L) : ∀ {d1 d2 : List ByteArray}, d1.Perm d2 → (∀ x ∈ d1, ∃ v, (x, v) ∈ L) → DueSorted L d1 → DueSorted L d2 → d1 = d2
  | [], d2, hp, _, _, _ => (List.Perm.nil_eq hp)
  | x :: d1, [], hp, _, _, _ => absurd hp.symm (by simp)
  | x :: d1, y :: d2, hp, hm, h1, h2 => by
    obtain ⟨s1, t1⟩ := List.pairwise_cons.1 h1
    obtain ⟨s2, t2⟩ := List.pairwise_cons.1 h2
    have hx : x ∈ y :: d2 := hp.mem_iff.1 (by simp)
    have hy : y ∈ x :: d1 := hp.mem_iff.2 (by simp)
    obtain ⟨vx, mx⟩ := hm x (by simp)
    obtain ⟨vy, my⟩ := hm y hy
    have e : x = y := by
      by_cases hxy : x = y
      · exact hxy
      · have a1 : y ∈ d1 := (List.mem_cons.1 hy).resolve_left (fun e => hxy e.symm)
        have a2 : x ∈ d2 := (List.mem_cons.1 hx).resolve_left hxy
        have b1 := s1 y a1
        have b2 := s2 x a2
        rw [entAt_mem ha mx, entAt_mem ha my] at b1 b2
        have : vx.2 = vy.2 := by unfold ltE at b1 b2; omega
        have := orders_inj ho mx my this
        exact congrArg Prod.fst this
    subst e
    have hp' : d1.Perm d2 := (List.perm_cons x).1 hp
    rw [due_unique ha ho hp' (fun z hz => hm z (List.mem_cons_of_mem _ hz)) t1 t2]
theorem orders_drop {L : List (ByteArray × (Int × Int))} (h : Orders L) (x : ByteArray) : Orders (dropL L x) := h.filter _
theorem orders_put {L : List (ByteArray × (Int × Int))} {cnt : Int} (h : Orders L) (hc : ∀ p ∈ L, p.2.2 ≤ cnt) (x : ByteArray) (a : Int) : Orders (putL L x (a, cnt + 1)) ∧ ∀ p ∈ putL L x (a, cnt + 1), p.2.2 ≤ cnt + 1 := by
  constructor
  · refine List.pairwise_append.2 ⟨orders_drop h x, by simp, fun p hp q hq => ?_⟩
    obtain rfl : q = (x, (a, cnt + 1)) := by simpa using hq
    have := hc p (mem_dropL.1 hp).1
    show p.2.2 < cnt + 1
    omega
  · intro p hp
    rcases List.mem_append.1 hp with hp | hp
    · have := hc p (mem_dropL.1 hp).1; omega
    · obtain rfl : p = (x, (a, cnt + 1)) := by simpa using hp
      exact Int.le_refl _
/-- What is due at a tick, and then what is due at a later one. -/
theorem due_split {L : List (ByteArray × (Int × Int))} (ha : L.Pairwise (fun p q => p.1 ≠ q.1)) (ho : Orders L) {now later : Int} (hl : now ≤ later) {o1 o2 oall : List ByteArray}
    (p1 : o1.Perm ((L.filter (fun p => !decide (now < p.2.1))).map (·.1))) (s1 : DueSorted L o1)
    (p2 : o2.Perm (((L.filter (fun p => decide (now < p.2.1))).filter (fun p => !decide (later < p.2.1))).map (·.1))) (s2 : DueSorted (L.filter (fun p => decide (now < p.2.1))) o2)
    (p3 : oall.Perm ((L.filter (fun p => !decide (later < p.2.1))).map (·.1))) (s3 : DueSorted L oall) : o1 ++ o2 = oall := by
  have mem1 : ∀ x ∈ o1, ∃ v : Int × Int, (x, v) ∈ L ∧ v.1 ≤ now := fun x hx => by
    obtain ⟨p, hp, e⟩ := List.mem_map.1 (p1.mem_iff.1 hx)
    obtain ⟨h1, h2⟩ := List.mem_filter.1 hp
    refine ⟨p.2, by rw [← e]; exact h1, ?_⟩
    have : ¬ now < p.2.1 := by simpa using h2
    omega
  have mem2 : ∀ x ∈ o2, ∃ v : Int × Int, (x, v) ∈ L ∧ (x, v) ∈ L.filter (fun p => decide (now < p.2.1)) ∧ now < v.1 := fun x hx => by
    obtain ⟨p, hp, e⟩ := List.mem_map.1 (p2.mem_iff.1 hx)
    obtain ⟨h1, h2⟩ := List.mem_filter.1 hp
    obtain ⟨h3, h4⟩ := List.mem_filter.1 h1
    subst e
    exact ⟨p.2, h3, h1, by simpa using h4⟩
  refine due_unique ha ho ?_ ?_ ?_ s3
  · refine (p1.append p2).trans (List.Perm.trans ?_ p3.symm)
    rw [← List.map_append]
    refine List.Perm.map _ ?_
    have h1 := List.filter_append_perm (fun p : ByteArray × (Int × Int) => !decide (now < p.2.1)) (L.filter (fun p => !decide (later < p.2.1)))
    rw [List.filter_filter, List.filter_filter] at h1
    rw [List.filter_filter]
    have e1 : (L.filter fun p => (!decide (now < p.2.1)) && (!decide (later < p.2.1))) = L.filter (fun p => !decide (now < p.2.1)) := List.filter_congr (fun p _ => by
      by_cases h2 : now < p.2.1
      · simp [h2]
      · have : ¬ later < p.2.1 := by omega
        simp [h2, this])
    have e2 : (L.filter fun p => (!!decide (now < p.2.1)) && (!decide (later < p.2.1))) = L.filter (fun p => (!decide (later < p.2.1)) && decide (now < p.2.1)) := List.filter_congr (fun p _ => by rw [Bool.not_not, Bool.and_comm])
    rw [e1, e2] at h1
    exact h1
  · intro x hx
    rcases List.mem_append.1 hx with hx | hx
    · obtain ⟨v, h, _⟩ := mem1 x hx; exact ⟨v, h⟩
    · obtain ⟨v, h, _⟩ := mem2 x hx; exact ⟨v, h⟩
  · refine List.pairwise_append.2 ⟨s1, ?_, ?_⟩
    · refine List.Pairwise.imp_of_mem ?_ s2
      intro x y hx hy h
      obtain ⟨v, h1, h2, _⟩ := mem2 x hx
      obtain ⟨u, h3, h4, _⟩ := mem2 y hy
      have ha' := List.Pairwise.filter (fun p : ByteArray × (Int × Int) => decide (now < p.2.1)) ha
      rw [entAt_mem ha' h2, entAt_mem ha' h4] at h
      rwa [entAt_mem ha h1, entAt_mem ha h3]
    · intro x hx y hy
      obtain ⟨v, h1, h2⟩ := mem1 x hx
      obtain ⟨u, h3, _, h4⟩ := mem2 y hy
      rw [entAt_mem ha h1, entAt_mem ha h3]
      unfold ltE
      omega
end Go.Proofs.Ytefadkmdfhjaeaa
/-! A clock: what its steps leave. -/
namespace Go.Proofs.Ytefadkmdfhjaeaa
open Go.Conc Go.RowKit

theorem new_clk (w : World) (m : Int) : Calls Try.prog 18 #[.int .i64 m] w fun e w' => e = .returned (.pointer (some ⟨w.heap.size + 1, 0, none⟩)) ∧ Only (fun _ => False) w w' ∧ ClkIs w' (w.heap.size + 1) w.heap.size (min (max m 0) 64) 0 [] := by
  refine (newClock_any w m).mono ?_
  rintro e w' ⟨rfl, rfl⟩
  refine ⟨rfl, ((Only.refl _ _).alloc _).alloc _, ?_, ?_⟩
  · have := heap_alloc_new (w.alloc (.map #[] 0)) (.cells #[.map (some w.heap.size), .int .i64 (min (max m 0) 64), .int .i64 0] 92)
    simpa using this
  · refine MapIs.empty ?_
    exact ((Only.refl (fun _ => False) (w.alloc (.map #[] 0))).alloc _).old (heap_alloc_new w _) id
/-- What Set leaves. -/
structure SetDone (w : World) (c b : Nat) (most cnt : Int) (L : List (ByteArray × (Int × Int))) (w' : World) : Prop where
  only : Only (fun i => i = c ∨ i = b) w w'
  clk : ClkIs w' c b most cnt L
theorem set_yes {w : World} {c b : Nat} {most cnt : Int} {L : List (ByteArray × (Int × Int))} {k : ByteArray} {a : Int} {w' : World} (h : SetPost w c b most cnt L k a w') (hk : okSet most L k = true) : SetDone w c b most (cnt + 1) (putL L k (a, cnt + 1)) w' := by
  have := h.2
  rw [hk] at this
  exact ⟨h.1, this⟩
theorem set_no {w : World} {c b : Nat} {most cnt : Int} {L : List (ByteArray × (Int × Int))} {k : ByteArray} {a : Int} {w' : World} (h : SetPost w c b most cnt L k a w') (hk : okSet most L k = false) : SetDone w c b most cnt L w' := by
  have := h.2
  rw [hk] at this
  exact ⟨h.1, this⟩
theorem due_mem {L : List (ByteArray × (Int × Int))} {f : ByteArray × (Int × Int) → Bool} {out : List ByteArray} (hp : out.Perm ((L.filter f).map (·.1))) : ∀ x ∈ out, ∃ v, (x, v) ∈ L := by
  intro x hx
  obtain ⟨p, hp, e⟩ := List.mem_map.1 (hp.mem_iff.1 hx)
  exact ⟨p.2, by rw [← e]; exact (List.mem_filter.1 hp).1⟩
end Go.Proofs.Ytefadkmdfhjaeaa
