/- A clock: Set, When, Unset, Len. -/
import Derived.Test.YtefadkmdfhjaeaaClk3
import Derived.Test.YtefadkmdfhjaeaaMapl
import Derived.Test.YtefadkmdfhjaeaaByt1
import Derived.Deep.RegionWith
import Derived.Deep.RegionLaw
namespace Go.Proofs.Ytefadkmdfhjaeaa
open Go.Conc Go.RowKit Go.Maps

def entC (e : Int × Int) : Value := .agg #[.int .i64 e.1, .int .i64 e.2]
theorem strKeyed : Keyed Try.prog 9 := string_keyed Try.underlying9
theorem strInj : ∀ a b : ByteArray, Value.string a = Value.string b → a = b := fun _ _ h => Value.string.inj h
theorem strOk {s : ByteArray} (h : s.size ≤ maxLen) : KeyOk Try.prog 9 Value.string s := ⟨_, Go.WideMaps.keyOf_string_mk Try.underlying9 h⟩
theorem zeroC (w : World) : (zeroValue 94).run Try.prog w = .ok (entC (0, 0)) w := by kernel_rfl
abbrev CMap (w : World) (b : Nat) (L : List (ByteArray × (Int × Int))) : Prop := MapIs Try.prog 9 Value.string entC w b L
/-- A clock: its block c, its map's block b, its entries in the order in which they were set. -/
structure ClkIs (w : World) (c b : Nat) (most cnt : Int) (L : List (ByteArray × (Int × Int))) : Prop where
  blk : w.heap[c]? = some (.cells #[.map (some b), .int .i64 most, .int .i64 cnt] 92 (0, 0))
  map : CMap w b L
theorem ClkIs.ne {w : World} {c b : Nat} {most cnt : Int} {L : List (ByteArray × (Int × Int))} (h : ClkIs w c b most cnt L) : c ≠ b := by
  obtain ⟨es, clock, hb, _⟩ := h.map.own
  rintro rfl
  have := h.blk
  rw [hb] at this
  cases this
theorem ClkIs.kept {w w' : World} {c b : Nat} {most cnt : Int} {L : List (ByteArray × (Int × Int))} {S : Nat → Prop} (h : ClkIs w c b most cnt L) (ho : Only S w w') (h1 : ¬ S c) (h2 : ¬ S b) : ClkIs w' c b most cnt L :=
  ⟨ho.old h.blk h1, h.map.kept ho h2⟩
def okSet (most : Int) (L : List (ByteArray × (Int × Int))) (k : ByteArray) : Bool := (lookL L k).isSome || decide ((L.length : Int) < most)
def SetPost (w : World) (c b : Nat) (most cnt : Int) (L : List (ByteArray × (Int × Int))) (k : ByteArray) (a : Int) (w' : World) : Prop :=
  Only (fun i => i = c ∨ i = b) w w' ∧ if okSet most L k then ClkIs w' c b most (cnt + 1) (putL L k (a, cnt + 1)) else ClkIs w' c b most cnt L

set_option maxRecDepth 100000 in
theorem when_clk (w : World) (c b : Nat) (most cnt : Int) (L : List (ByteArray × (Int × Int))) (h : ClkIs w c b most cnt L) (k : ByteArray) (hk : k.size ≤ maxLen) : Calls Try.prog 56 #[.pointer (some ⟨c, 0, none⟩), .string k] w fun e w' => e = .returned (.tuple #[.int .i64 ((lookL L k).getD (0, 0)).1, .bool (lookL L k).isSome]) ∧ Only (fun _ => False) w w' := by
  have c0 : w.cell? ⟨c, 0, none⟩ = some (.map (some b)) := cell_at h.blk 0
  have hl0 := h.map.look strKeyed strInj Try.underlying90 (z := (0, 0)) (zeroC w) (strOk hk) true
  generalize lookL L k = r at *
  obtain ⟨a, o, ok, hl, ha, hb⟩ : ∃ a o ok, (Instr.lookup 90 (.map (some b)) (.string k) true).run Try.prog w = .ok (.tuple #[.agg #[.int .i64 a, .int .i64 o], .bool ok]) w ∧ (r.getD (0, 0)).1 = a ∧ r.isSome = ok := ⟨_, _, _, hl0, rfl, rfl⟩
  rw [ha, hb]
  clear hl0 ha hb
  go_enter Try.func56, Try.ntmps56
  go_wp2_with fail
  go_ret2
  exact ⟨rfl, (Only.refl _ _).alloc _⟩
def UnsetPost (w : World) (c b : Nat) (most cnt : Int) (L : List (ByteArray × (Int × Int))) (k : ByteArray) (w' : World) : Prop :=
  Only (fun i => i = b) w w' ∧ ClkIs w' c b most cnt (dropL L k)
set_option maxRecDepth 100000 in
theorem unset_clk (w : World) (c b : Nat) (most cnt : Int) (L : List (ByteArray × (Int × Int))) (h : ClkIs w c b most cnt L) (k : ByteArray) (hk : k.size ≤ maxLen) : Calls Try.prog 46 #[.pointer (some ⟨c, 0, none⟩), .string k] w fun e w' => e = .returned (.bool (lookL L k).isSome) ∧ UnsetPost w c b most cnt L k w' := by
  go_enter Try.func46, Try.ntmps46
  go_wp2_with fail
  refine (when_clk w c b most cnt L h k hk).mono ?_
  rintro e w1 ⟨rfl, ho⟩
  have h1 := h.kept ho id id
  have c0 : w1.cell? ⟨c, 0, none⟩ = some (.map (some b)) := cell_at h1.blk 0
  have hne := h.ne
  have HO := Lib.hid ho
  have H1 := Lib.hid h1
  clear ho h1
  cases hr : lookL L k with
  | none =>
    go_wp2_with fail
    go_ret
    refine ⟨by rw [hr]; rfl, HO.out.weaken (fun _ _ => False.elim), ?_⟩
    rw [dropL_of_none hr]
    exact H1.out
  | some r =>
    go_wp2_with (first | (at_delete; refine wpList_mapDrop rfl _ _ _ rfl H1.out.map strKeyed strInj Try.underlying90 rfl rfl (strOk hk) ?_; intro w2 hm2 ho2))
    go_ret
    exact ⟨by rw [hr]; rfl, (HO.out.weaken (fun _ _ => False.elim)).trans ho2, ho2.old H1.out.blk hne, hm2⟩
set_option maxRecDepth 100000 in
theorem set_clk (w : World) (c b : Nat) (most cnt : Int) (L : List (ByteArray × (Int × Int))) (h : ClkIs w c b most cnt L) (k : ByteArray) (hk : k.size ≤ maxLen) (a : Int) (hc0 : 0 ≤ cnt) (hc : cnt < 1000000) (hL : L.length < 1000000) : Calls Try.prog 19 #[.pointer (some ⟨c, 0, none⟩), .string k, .int .i64 a] w fun e w' => e = .returned (.bool (okSet most L k)) ∧ SetPost w c b most cnt L k a w' := by
  have c0 : w.cell? ⟨c, 0, none⟩ = some (.map (some b)) := cell_at h.blk 0
  have c1 : w.cell? ⟨c, 1, none⟩ = some (.int .i64 most) := cell_at h.blk 1
  have c2 : w.cell? ⟨c, 2, none⟩ = some (.int .i64 cnt) := cell_at h.blk 2
  have hf : ∀ i, w.frozen? ⟨c, i, none⟩ = false := free_at h.blk
  have hl0 := h.map.look strKeyed strInj Try.underlying90 (z := (0, 0)) (zeroC w) (strOk hk) true
  have hlen := h.map.len Try.underlying90
  have hne := h.ne
  have H := Lib.hid h
  clear h
  obtain ⟨x, o, ok, hl, hok⟩ : ∃ x o ok, (Instr.lookup 90 (.map (some b)) (.string k) true).run Try.prog w = .ok (.tuple #[.agg #[.int .i64 x, .int .i64 o], .bool ok]) w ∧ (lookL L k).isSome = ok := ⟨_, _, _, hl0, rfl⟩
  have HOK := Lib.hid hok
  have hNE := hne
  clear hl0 hok hne
  go_enter Try.func19, Try.ntmps19
  go_upto_region 4 with (fail)
  obtain ⟨W, hW⟩ : ∃ W, W = w.alloc (.cells #[.int .i64 x, .int .i64 o] 94) := ⟨_, rfl⟩
  have ho1 : Only (fun _ => False) w W := by rw [hW]; exact (Only.refl _ _).alloc _
  rw [← hW]
  have h1 := H.out.kept ho1 id id
  have HO1 := Lib.hid ho1
  have H1 := Lib.hid h1
  clear hW c0 c1 c2 hf hl hlen ho1 H
  have c0 : W.cell? ⟨c, 0, none⟩ = some (.map (some b)) := cell_at h1.blk 0
  have c1 : W.cell? ⟨c, 1, none⟩ = some (.int .i64 most) := cell_at h1.blk 1
  have hlen : ∀ n ty, (Builtin.len_ #[90] ty #[.map (some b)]).run Try.prog (W.drewN n) = .ok (.int .i64 (L.length : Nat)) (W.drewN n) := fun n ty => (h1.map.kept ((Only.refl (fun _ => False) W).drewN n) id).len Try.underlying90 ty
  clear h1
  go_cut [33] (fun v wx => v = .bool (!ok && decide (most ≤ (L.length : Int))) ∧ Only (fun _ => False) W wx)
  case first =>
    cases ok
    · go_quiet (fail)
      go_wp2_with fail
      all_goals
        go_meet
        refine ⟨?_, (Only.refl _ _).drewN _⟩
        first | rfl | simp
    · go_quiet (fail)
      go_wp2_with fail
      all_goals
        go_meet
        refine ⟨?_, (Only.refl _ _).drewN _⟩
        first | rfl | simp
  case rest =>
    obtain ⟨rfl, hcx⟩ := hcut
    have h1 := H1.out.kept hcx id id
    have ho := HO1.out.trans hcx
    have HO := Lib.hid ho
    have H2 := Lib.hid h1
    clear c0 c1 hlen hcx H1 HO1 ho
    cases hF : (!ok && decide (most ≤ (L.length : Int)))
    · have c0 : wc.cell? ⟨c, 0, none⟩ = some (.map (some b)) := cell_at h1.blk 0
      have c2 : wc.cell? ⟨c, 2, none⟩ = some (.int .i64 cnt) := cell_at h1.blk 2
      have hf : ∀ i, wc.frozen? ⟨c, i, none⟩ = false := free_at h1.blk
      have HF := Lib.hid hF
      clear hF h1
      go_upto_region 7 with (fail)
      obtain ⟨W2, hW⟩ : ∃ W2, W2 = wc.setCell ⟨c, 2, none⟩ (.int .i64 (cnt + 1)) := ⟨_, rfl⟩
      have ho2 : Only (fun i => i = c) wc W2 := by rw [hW]; exact (Only.refl _ _).setCell (S := fun i => i = c) (p := ⟨c, 2, none⟩) (.inr rfl) _
      have hb2 : W2.heap[c]? = some (.cells #[.map (some b), .int .i64 most, .int .i64 (cnt + 1)] 92 (0, 0)) := by rw [hW]; exact set_at H2.out.blk 2 _
      have hm2 := H2.out.map.kept ho2 (fun e => hNE e.symm)
      rw [← hW]
      have HM2 := Lib.hid hm2
      have HB2 := Lib.hid hb2
      have HO2 := Lib.hid ho2
      clear hW c0 c2 hf ho2 hm2
      have c0 : W2.cell? ⟨c, 0, none⟩ = some (.map (some b)) := cell_at hb2 0
      have c2 : W2.cell? ⟨c, 2, none⟩ = some (.int .i64 (cnt + 1)) := cell_at hb2 2
      clear hb2
      obtain ⟨w3, hst0, hm3, ho3⟩ := (HM2.out.kept ((Only.refl (fun _ => False) W2).drew) id).store strKeyed strInj Try.underlying90 (by unfold maxLen; omega) (strOk hk) (a, cnt + 1)
      have hst : (Instr.mapUpdate 90 (.map (some b)) (.string k) (.agg #[.int .i64 a, .int .i64 (cnt + 1)])).run Try.prog W2.drew = .ok () w3 := hst0
      have HM3 := Lib.hid hm3
      have HO3 := Lib.hid ho3
      clear hst0 hm3 ho3
      go_region
      go_wp2_with fail
      go_ret
      have hk2 : okSet most L k = true := by
        unfold okSet
        rw [HOK.out]
        have := HF.out
        revert this
        cases ok <;> simp
      refine ⟨by rw [hk2]; rfl, ?_, ?_⟩
      · have t1 : Only (fun i => i = c ∨ i = b) w W2 := (HO.out.weaken (fun _ _ => False.elim)).trans (HO2.out.weaken (fun _ _ e => .inl e))
        exact (t1.drew).trans (HO3.out.weaken (fun _ _ e => .inr e))
      · rw [hk2]
        exact ⟨HO3.out.old (w := W2.drew) HB2.out hNE, HM3.out⟩
    · go_wp2_with fail
      go_ret
      have hk2 : okSet most L k = false := by
        unfold okSet
        rw [HOK.out]
        revert hF
        cases ok <;> simp
      refine ⟨by rw [hk2]; rfl, HO.out.weaken (fun _ _ => False.elim), ?_⟩
      rw [hk2]
      exact H2.out
end Go.Proofs.Ytefadkmdfhjaeaa
