/- bellhoplaw18's speaks. -/
import Derived.Test.YtefadkmdfhjaeaaWD
/-! bellhoplaw18's speaks. -/
namespace Go.Proofs.Ytefadkmdfhjaeaa
open Go.Conc Go.RowKit Go.Maps

abbrev sK : ByteArray := ⟨#[107]⟩
theorem due_left {k : ByteArray} {t o now : Int} : [(k, (t, o))].filter (fun p => decide (now < p.2.1)) = if now < t then [(k, (t, o))] else [] := by
  by_cases h : now < t
  · rw [if_pos h, List.filter_cons_of_pos (by simpa using h)]; rfl
  · rw [if_neg h, List.filter_cons_of_neg (by simpa using h)]; rfl
/-- Asks in memory. -/
theorem asks_one {w : World} {base : Nat} {v : Value} {q : AskT} (h : w.ownsRow base 36 3 v 1 (askC q)) : ∃ g cap, v = .slice (some ⟨g, 0, none⟩) 1 cap ∧ base ≤ g ∧ w.cell? ⟨g, 0, none⟩ = some (.int .i64 q.whom) ∧ w.cell? ⟨g, 1, none⟩ = some (.string q.key) ∧ w.cell? ⟨g, 2, none⟩ = some (.int .u64 q.ver) := by
  obtain ⟨g, cap, cur, rfl, hb, hg, _, _, _, ht⟩ := row_form h (by simp [askC])
  have hc : ∀ j u, j < 3 → (askC q)[j]? = some u → w.cell? ⟨g, j, none⟩ = some u := fun j u hj hu => by
    rw [cell_at hg]
    rw [← ht, List.getElem?_take_of_lt (by omega)] at hu
    simpa using hu
  exact ⟨g, cap, rfl, hb, hc 0 _ (by omega) rfl, hc 1 _ (by omega) rfl, hc 2 _ (by omega) rfl⟩
set_option maxRecDepth 100000 in
set_option maxHeartbeats 4000000 in
theorem speaks18_any (w : World) : Calls Try.prog 6 #[] w fun e w' => e = .returned (.bool true) ∧ Only (fun _ => False) w w' := by
  go_enter Try.func6, Try.ntmps6
  go_wp2_with fail
  refine (wrun_new w 1).mono ?_
  rintro e w1 ⟨x, kb, c, cb, rfl, h1⟩
  rw [show min (max (1 : Int) 0) 1000 = 1 by decide] at h1
  obtain ⟨W, hW⟩ : ∃ W, W = w1.alloc (.cells #[.string sK, .int .u64 5] 29) := ⟨_, rfl⟩
  have hbW : W.heap[w1.heap.size]? = some (.cells #[.string sK, .int .u64 5] 29 (0, 0)) := by rw [hW]; exact heap_alloc_new w1 _
  have hoW : Only (fun _ => False) w1 W := by rw [hW]; exact (Only.refl _ _).alloc _
  have hsW : W.heap.size = w1.heap.size + 1 := by rw [hW]; simp
  have q0 : W.cell? ⟨w1.heap.size, 0, none⟩ = some (.string sK) := cell_at hbW 0
  have q1 : W.cell? ⟨w1.heap.size, 1, none⟩ = some (.int .u64 5) := cell_at hbW 1
  have h2 := h1.new hoW
  have HQ := Lib.hid (show ¬ footW kb c cb w1.heap.size from fun e9 => by
    have h8 := h1.at_.keys.lt
    have h7 := lt_of_block h1.at_.clk.blk
    have h6 := h1.at_.clk.map.lt
    rcases e9 with e9 | e9 | e9 <;> omega)
  have HH := Lib.hid (wrun_heard h2 sK (by decide) 5 2 0 (by decide) (by decide) (by decide) (by decide) (by decide) (by decide))
  have HW := Lib.hid hW
  have HBW := Lib.hid hbW
  clear h1 h2 hoW hbW hsW hW
  go_upto_region 3 with (fail)
  rw [← HW.out]
  go_wp2_with fail
  refine HH.out.mono ?_
  rintro e w2 hr
  obtain ⟨b, L', C', cnt', rfl, hs, hr2, hf2, _⟩ := hr.out
  obtain ⟨rfl, ⟨a1, c1, rfl⟩, rfl, rfl⟩ := hs.first (by decide) (by decide)
  have hb2 := hf2.old HBW.out HQ.out
  clear q0 q1
  have q0 : w2.cell? ⟨w1.heap.size, 0, none⟩ = some (.string sK) := cell_at hb2 0
  have q1 : w2.cell? ⟨w1.heap.size, 1, none⟩ = some (.int .u64 5) := cell_at hb2 1
  have HH2 := Lib.hid (wrun_heard hr2 sK (by decide) 5 3 0 (by decide) (by decide) (by decide) (by decide) (by decide) (by simp))
  have HB2 := Lib.hid hb2
  clear hb2
  clear hs hr2 hf2 hr HH
  go_wp2_with fail
  refine HH2.out.mono ?_
  rintro e w3 hr
  obtain ⟨b, L', C', cnt', rfl, hs, hr3, hf3, _⟩ := hr.out
  obtain ⟨rfl, rfl, rfl, hcase⟩ := HStep.again (e := ⟨sK, 5, [2], a1, c1⟩) hs (by decide) (by decide) (by simp)
  obtain ⟨_, a2, c2, rfl⟩ : (3 : Int) ∉ [(2 : Int)] ∧ ∃ a cap, L' = [⟨sK, 5, [2, 3], a, cap⟩] := by
    rcases hcase with ⟨h9, _⟩ | ⟨h9, h8⟩
    · simp at h9
    · exact ⟨h9, h8⟩
  have hb3 := hf3.old HB2.out HQ.out
  have HL3 := Lib.hid (show ∀ i, footW kb c cb i → i < w3.heap.size from fun i hi => by rcases hi with rfl | rfl | rfl; exact hr3.at_.keys.lt; exact lt_of_block hr3.at_.clk.blk; exact hr3.at_.clk.map.lt)
  have HD1 := Lib.hid (wrun_due hr3 1 (by decide) (by decide) (by decide) (by decide) (by decide) (by simp))
  have HB3 := Lib.hid hb3
  clear hb3
  clear hs hr3 hf3 hr HH2 hcase q0 q1
  go_wp2_with fail
  refine HD1.out.mono ?_
  rintro e w4 hr
  obtain ⟨v1, D1, A1, L1, C1, n1, rfl, hp1, hd1, hr4, hf4, hrow1⟩ := hr.out
  have eD := due_one hp1
  rw [if_neg (by decide)] at eD
  rw [due_left, if_neg (by decide)] at hd1
  obtain ⟨rfl, hc9⟩ := DRun.one (e := ⟨sK, 5, [2, 3], a2, c2⟩) hd1 eD rfl
  obtain ⟨_, ⟨a3, c3, rfl⟩, rfl, rfl⟩ : ([3] : List Int) ≠ [] ∧ (∃ a cap, L1 = [⟨sK, 5, [3], a, cap⟩]) ∧ C1 = [] ++ [(sK, (min 1 4611686018427387904 + 1, 0 + 1 + 1))] ∧ n1 = 0 + 1 + 1 := by
    rcases hc9 with ⟨h9, _⟩ | h9
    · cases h9
    · exact h9
  rw [List.nil_append] at hr4
  obtain ⟨g1, gc1, rfl, hg1, e10, e11, e12⟩ := asks_one hrow1
  have hb4 := hf4.old HB3.out HQ.out
  have HL4 := Lib.hid (show ∀ i, footW kb c cb i → i < w4.heap.size from fun i hi => by rcases hi with rfl | rfl | rfl; exact hr4.at_.keys.lt; exact lt_of_block hr4.at_.clk.blk; exact hr4.at_.clk.map.lt)
  have HD2 := Lib.hid (wrun_due hr4 2 (by decide) (by decide) (by decide) (by decide) (by decide) (by simp))
  have HB4 := Lib.hid hb4
  clear hb4
  clear hc9 hd1 eD hp1 hrow1 hr hf4 HD1
  go_wp2_with fail
  refine HD2.out.mono ?_
  rintro e w5 hr
  obtain ⟨v2, D2, A2, L2, C2, n2, rfl, hp2, hd2, hr5, hf5, hrow2⟩ := hr.out
  have eD := due_one hp2
  rw [if_neg (by decide)] at eD
  rw [due_left, if_neg (by decide)] at hd2
  obtain ⟨rfl, hc9⟩ := DRun.one (e := ⟨sK, 5, [3], a3, c3⟩) hd2 eD rfl
  obtain ⟨_, rfl, rfl, rfl⟩ : ([] : List Int) = [] ∧ L2 = [] ∧ C2 = [] ∧ n2 = 0 + 1 + 1 := by
    rcases hc9 with h9 | ⟨h9, _⟩
    · exact h9
    · exact absurd rfl h9
  obtain ⟨g2, gc2, rfl, hg2, e20, e21, e22⟩ := asks_one hrow2
  have HD3 := Lib.hid (wrun_due hr5 3 (by decide) (by decide) (by decide) (by decide) (by decide) (by simp))
  clear hc9 hd2 eD hp2 hrow2 hr HD2
  go_wp2_with fail
  refine HD3.out.mono ?_
  rintro e w6 hr
  obtain ⟨v3, D3, A3, L3, C3, n3, rfl, hp3, hd3, hr6, hf6, hrow3⟩ := hr.out
  have eD : D3 = [] := List.Perm.eq_nil hp3
  obtain ⟨rfl, rfl, rfl, rfl⟩ := hd3.none eD
  obtain ⟨_, sa, sc, rfl, _⟩ := Sl.of_owns hrow3
  have hb6 := hf6.old (hf5.old HB4.out HQ.out) HQ.out
  have ng1 : ¬ footW kb c cb g1 := fun e9 => by have := HL3.out _ e9; omega
  have ng2 : ¬ footW kb c cb g2 := fun e9 => by have := HL4.out _ e9; omega
  have r10 : w6.cell? ⟨g1, 0, none⟩ = some (.int .i64 2) := hf6.cell (hf5.cell e10 ng1) ng1
  have r11 : w6.cell? ⟨g1, 1, none⟩ = some (.string sK) := hf6.cell (hf5.cell e11 ng1) ng1
  have r12 : w6.cell? ⟨g1, 2, none⟩ = some (.int .u64 5) := hf6.cell (hf5.cell e12 ng1) ng1
  have r20 : w6.cell? ⟨g2, 0, none⟩ = some (.int .i64 3) := hf6.cell e20 ng2
  have q0 : w6.cell? ⟨w1.heap.size, 0, none⟩ = some (.string sK) := cell_at hb6 0
  have q1 : w6.cell? ⟨w1.heap.size, 1, none⟩ = some (.int .u64 5) := cell_at hb6 1
  have HID := Lib.hid (fun w' (ho : Only (fun _ => False) w6 w') => wrun_ids (hr6.new ho) (by simp))
  have HON := Lib.hid hr6.only
  clear hd3 eD hp3 hrow3 hr hr6 hr5 hr4 hf6 hf5 e10 e11 e12 e20 e21 e22 hb6 HD3
  have HCC := Lib.hid (show ∀ w', Only (fun _ => False) w6 w' → w'.cell? ⟨w1.heap.size, 0, none⟩ = some (.string sK) ∧ w'.cell? ⟨w1.heap.size, 1, none⟩ = some (.int .u64 5) ∧ w'.cell? ⟨g1, 0, none⟩ = some (.int .i64 2) ∧ w'.cell? ⟨g1, 1, none⟩ = some (.string sK) ∧ w'.cell? ⟨g1, 2, none⟩ = some (.int .u64 5) ∧ w'.cell? ⟨g2, 0, none⟩ = some (.int .i64 3) from fun w' ho => ⟨ho.cell q0 id, ho.cell q1 id, ho.cell r10 id, ho.cell r11 id, ho.cell r12 id, ho.cell r20 id⟩)
  go_upto_region 6 with (fail)
  go_region_held3 (fun w' => Only (fun _ => False) w6 w' ∧ w'.cell? ⟨w1.heap.size, 0, none⟩ = some (.string sK) ∧ w'.cell? ⟨w1.heap.size, 1, none⟩ = some (.int .u64 5) ∧ w'.cell? ⟨g1, 0, none⟩ = some (.int .i64 2) ∧ w'.cell? ⟨g1, 1, none⟩ = some (.string sK) ∧ w'.cell? ⟨g1, 2, none⟩ = some (.int .u64 5) ∧ w'.cell? ⟨g2, 0, none⟩ = some (.int .i64 3))
    (((refine heldO HCC.out ?_); (repeat (first | (with_reducible assumption) | (with_reducible exact Only.refl _ _) | (with_reducible refine Only.drew ?_) | (with_reducible refine Only.alloc ?_ _) | (with_reducible refine onlySet ?_ (by first | (with_reducible assumption) | omega) _) | (with_reducible refine Only.trans ?_ (by with_reducible assumption))))))
    (first | (go_at_call 10; (with_reducible refine (HID.out _ (by (repeat (first | (with_reducible assumption) | (with_reducible exact Only.refl _ _) | (with_reducible refine Only.drew ?_) | (with_reducible refine Only.alloc ?_ _) | (with_reducible refine onlySet ?_ (by first | (with_reducible assumption) | omega) _) | (with_reducible refine Only.trans ?_ (by with_reducible assumption)))))).mono ?_); rintro e9 w8 hir; (obtain ⟨v8, S8, rfl, hs8, ho8b, hr8, hrow8⟩ := hir.out); (obtain rfl : S8 = [] := List.Perm.eq_nil hs8.1); (obtain ⟨_, a8, c8, rfl, _⟩ := Sl.of_owns hrow8); have o8 : Only (fun _ => False) w6 w8 := (by (refine Only.trans (b := _) ?_ ho8b); (repeat (first | (with_reducible assumption) | (with_reducible exact Only.refl _ _) | (with_reducible refine Only.drew ?_) | (with_reducible refine Only.alloc ?_ _) | (with_reducible refine onlySet ?_ (by first | (with_reducible assumption) | omega) _) | (with_reducible refine Only.trans ?_ (by with_reducible assumption)))))))
  all_goals
    have hF := HON.out.trans o8
    clear q0 q1 r10 r11 r12 r20
    go_wp2_with fail
    go_ret
    exact ⟨rfl, hF⟩
end Go.Proofs.Ytefadkmdfhjaeaa
