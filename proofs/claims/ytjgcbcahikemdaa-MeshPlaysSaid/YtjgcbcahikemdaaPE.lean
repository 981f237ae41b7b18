/- The walk of MeshPlays. -/
import Derived.Test.YtjgcbcahikemdaaPD
import Derived.Test.YtjgcbcahikemdaaPC
import Derived.Deep.CutBlock
/-! The walk of MeshPlays: the goal behind its first loop. -/
namespace Go.Proofs.Ytjgcbcahikemdaa
open Go.Conc Go.RowKit Go.Maps

theorem tmod5 (x : Int) : -4 ≤ x.tmod 5 ∧ x.tmod 5 ≤ 4 := by
  rw [Int.tmod_eq_emod]
  split <;> omega
set_option maxRecDepth 100000 in
set_option maxHeartbeats 16000000 in
def goalR : Prop := by
  refine (?f : (T : Prop) → (Hid (Nat → ∀ P : Prop, P) → Hid T → ∀ (w : World) (v : Value) (l : List ActD) (h : Sl w 4 v l.length (l.flatMap actDC)) (hl : ∀ a ∈ l, rowP_sl_actsD a), Calls Try.prog 5 #[v] w fun e w' => e = .returned (.bool true) ∧ Only (fun _ => False) w w') → Prop) ?T ?p
  case f => exact fun T _ => T
  case p =>
  intro HNEVER hR w v l h hl
  obtain ⟨i0, hi0, iz0, iz1, iz2⟩ := info_parts infoIntS
  obtain ⟨j0, hj0, jz0, jz1, jz2⟩ := info_parts infoRItem
  obtain ⟨k0, hk0, kz0, kz1, kz2⟩ := info_parts infoPair
  obtain ⟨a, cap, rfl, c1, c2, c3⟩ := Sl.cells actDC_length h
  unfold maxLen at c2
  have HC := Lib.hid c3
  have HL := Lib.hid hl
  clear c3 hl
  clear h
  go_enter Try.func5, Try.ntmps5
  go_wp2_with fail
  refine (speaks08_any w).mono ?_
  rintro e w1 ⟨rfl, ho1⟩
  have HO1 := Lib.hid ho1
  clear ho1
  go_wp2_with fail
  refine (mrun_new w1).mono ?_
  rintro e w2 ⟨m, lb, pb, rfl, h2⟩
  have H2 := Lib.hid h2
  clear h2
  go_upto_block 0 with fail
  go_cut [4, 6] (fun v4 _ wx => PSt w1 wx m lb pb 0 v4 (.slice none 0 0))
  case first =>
    exact HNEVER.out 0 _
  case rest =>
  have H3 := Lib.hid hcut
  clear hcut
  clear H2
  go_upto_block 2 with fail
  rename_i zQ zK za
  revert w l a cap c1 c2 HC HL zQ w1 HO1 w2 m lb pb wc u4 u6 u28 u29 u30 u31 u32 u33 u34 u35 u36 u37 u38 H3 zK za
  exact hR.out
end Go.Proofs.Ytjgcbcahikemdaa
/-! The walk of MeshPlays. -/
namespace Go.Proofs.Ytjgcbcahikemdaa
open Go.Conc Go.RowKit Go.Maps

theorem tmod5a (x : Int) : -4 ≤ x.tmod 5 ∧ x.tmod 5 ≤ 4 := by
  rw [Int.tmod_eq_emod]
  split <;> omega
set_option maxRecDepth 100000 in
set_option maxHeartbeats 16000000 in
theorem plays08_of (hR : Hid goalR) (w : World) (v : Value) (l : List ActD) (h : Sl w 4 v l.length (l.flatMap actDC)) (hl : ∀ a ∈ l, rowP_sl_actsD a) : Calls Try.prog 5 #[v] w fun e w' => e = .returned (.bool true) ∧ Only (fun _ => False) w w' := by
  obtain ⟨i0, hi0, iz0, iz1, iz2⟩ := info_parts infoIntS
  obtain ⟨j0, hj0, jz0, jz1, jz2⟩ := info_parts infoRItem
  obtain ⟨k0, hk0, kz0, kz1, kz2⟩ := info_parts infoPair
  obtain ⟨a, cap, rfl, c1, c2, c3⟩ := Sl.cells actDC_length h
  unfold maxLen at c2
  have HC := Lib.hid c3
  have HL := Lib.hid hl
  clear c3 hl
  clear h
  go_enter Try.func5, Try.ntmps5
  go_wp2_with fail
  refine (speaks08_any w).mono ?_
  rintro e w1 ⟨rfl, ho1⟩
  have HO1 := Lib.hid ho1
  clear ho1
  go_wp2_with fail
  refine (mrun_new w1).mono ?_
  rintro e w2 ⟨m, lb, pb, rfl, h2⟩
  have H2 := Lib.hid h2
  clear h2
  go_upto_block 0 with fail
  go_cut [4, 6] (fun v4 _ wx => PSt w1 wx m lb pb 0 v4 (.slice none 0 0))
  case first =>
    go_wp2_with fail
    go_loopg [4, 6] 3 (fun gk v4 v6 wr => ∃ k : Nat, v6 = .int .i64 ((k : Int) + 1) ∧ k ≤ 3 ∧ MRun w1 wr m lb pb (lvN k) G0 0 ∧ wr.ownsRow w1.heap.size 3 1 v4 k (rowI (liveN k)) ∧ gk = 3 - k)
    case atStart => exact ⟨0, rfl, by omega, H2.out, World.ownsRow_nil _ _ _ _, rfl⟩
    case round =>
      obtain ⟨k, rfl, hk, hr, hrow, hg⟩ := hrel
      by_cases hlt : k < 3
      · have hlt' : (k : Int) + 1 ≤ 3 := by omega
        have hlen : (lvN k).length < 100000 := by
          rcases (show k = 0 ∨ k = 1 ∨ k = 2 by omega) with rfl | rfl | rfl <;> decide
        have HU := Lib.hid (mrun_up hr ((k : Int) + 1) (by omega) (by omega) hlen)
        have hw : IntKind.i64.wrap ((k : Int) + 1 + 1) = (k : Int) + 1 + 1 := by rw [IntKind.wrap_i64]; omega
        have Hg := Lib.hid hg
        clear hg
        have HRW := Lib.hid (fun w' (hc : CellsKept wr w') => owns_keptC hrow hc)
        have HSZ := Lib.hid hr.only.size
        obtain ⟨sa, sc, rfl⟩ : ∃ sa sc, u4 = .slice sa k sc := by obtain ⟨_, sa, sc, h, _⟩ := Sl.of_owns hrow; exact ⟨sa, sc, h⟩
        clear hr hlen hrow
        go_wp2_with fail
        refine HU.out.mono ?_
        rintro e w3 ⟨rfl, h3, hck⟩
        have h3 : MRun w1 w3 m lb pb (lvN (k + 1)) G0 0 := h3
        have hrow3 := HRW.out w3 hck
        have H3 := Lib.hid h3
        have HROW3 := Lib.hid hrow3
        clear h3 hrow3
        clear hck
        go_wp2_with (at_builtin; refine Wait.mk ?_)
        refine Wait.go (wpList_append_src _ rfl (.tmp 35) (.tmp 37) 46 46 rfl w1.heap.size 3 i0 _ 1 8 Try.underlying46 hi0 iz0 iz1 iz2 rfl _ k (rowI (liveN k)) rfl ?own4 _ 1 [.int .i64 ((k : Int) + 1)] rfl ?src4 ?m4 ?b4 ?base4 ?_)
        case own4 => exact HROW3.out.alloc _
        case src4 => exact Src.ofSlice _ Try.underlying46 _ _ _ _ rfl (news_new _ _ _) (by simp [Value.oneCell'])
        case m4 => unfold maxLen; omega
        case b4 => omega
        case base4 => have := H3.out.only.size; simp; omega
        intro v9 w9 own9 gr9 _
        have ho9 : Only (fun _ => False) w1 w9 := (H3.out.only.alloc _).own (HROW3.out.alloc _) (Nat.le_refl _) gr9
        have h9 : MRun w1 w9 m lb pb (lvN (k + 1)) G0 0 := (H3.out.new ((Only.refl (fun _ => False) w3).alloc _)).rowed (HROW3.out.alloc _) (by decide) (by decide) (Nat.le_refl _) gr9
        have hrow9 : w9.ownsRow w1.heap.size 3 1 v9 (k + 1) (rowI (liveN (k + 1))) := by
          rw [liveN_snoc, rowI_append]
          exact own9
        have H9 := Lib.hid h9
        have HROW9 := Lib.hid hrow9
        clear h9 hrow9
        clear gr9 own9 ho9
        go_wp2_with fail
        go_roundg (3 - (k + 1))
        case measure => rw [Hg.out]; omega
        case rel => exact ⟨k + 1, by go_num, by omega, H9.out, HROW9.out, rfl⟩
      · have hlt' : ¬ (k : Int) + 1 ≤ 3 := by omega
        obtain rfl : k = 3 := by omega
        have hF : PSt w1 wr m lb pb 0 u4 (.slice none 0 0) := ⟨_, _, _, [], play_start, hr.le (by omega), by rw [liveN_len]; exact Sl.of_owns hrow, RWs.nil _, by simp⟩
        have HF := Lib.hid hF
        clear hF
        clear hr hg hrow
        go_wp2_with fail
        go_meet
        exact HF.out
  case rest =>
  have H3 := Lib.hid hcut
  clear hcut
  clear H2
  go_upto_block 2 with fail
  rename_i zQ zK za
  revert w l a cap c1 c2 HC HL zQ w1 HO1 w2 m lb pb wc u4 u6 u28 u29 u30 u31 u32 u33 u34 u35 u36 u37 u38 H3 zK za
  exact hR.out
end Go.Proofs.Ytjgcbcahikemdaa
