/- A mesh: the walk of Down. -/
import Derived.Test.YtjgcbcahikemdaaMesh12
import Derived.Test.YtjgcbcahikemdaaHeld
namespace Go.Proofs.Ytjgcbcahikemdaa
open Go.Conc Go.RowKit Go.Maps

theorem CellsKept.cell {w w' : World} (h : CellsKept w w') {b i : Nat} {v : Value} (hc : w.cell? ⟨b, i, none⟩ = some v) : w'.cell? ⟨b, i, none⟩ = some v := by
  cases hb : w.heap[b]? with
  | none => simp [World.cell?, hb] at hc
  | some o =>
    cases o with
    | cells cs t f =>
      have h2 := h b cs t f hb
      rw [cell_at hb] at hc
      rw [cell_at h2]
      exact hc
    | _ => simp [World.cell?, hb] at hc
theorem CellsKept.trans {a b c : World} (h : CellsKept a b) (k : CellsKept b c) : CellsKept a c := fun q cs t f hq => k q cs t f (h q cs t f hq)
/-- Cells are kept where only the mesh's blocks were written. -/
theorem MPost.cells {w1 w2 : World} {m lb pb : Nat} {lv lv' : List Int} {L : PMap} {G : Ways} {k : Nat} (h1 : MeshAt w1 m lb pb lv' L) (hp : MPost w1 w2 m lb pb lv L G k) : CellsKept w1 w2 := fun q cs t f hq => by
  obtain ⟨L', k1, k2, k3, k4⟩ := hp.out
  exact k2.only.old hq (fun hf => h1.foot_cells hf hq)
def cellI (k : Int) : List Value := [.int .i64 k]
theorem cellI_length (k : Int) : (cellI k).length = 1 := rfl
set_option maxRecDepth 100000 in
set_option maxHeartbeats 4000000 in
theorem mdown_any (w : World) (m lb pb : Nat) (lv : List Int) (L : PMap) (h : MeshAt w m lb pb lv L) (n : Int) (hn : (Lit.int .i64 n).wf = true) (hv : n ∈ lv) (hlv : lv.length ≤ 1000) (hL : L.length < 900000) :
    Calls Try.prog 31 #[.pointer (some ⟨m, 0, none⟩), .int .i64 n] w fun e w' => e = .returned (.tuple #[]) ∧ MPost w w' m lb pb (outL lv n) L (downG lv (getM L) n) (2 * lv.length) := by
  obtain ⟨W, hW⟩ : ∃ W, W = w.alloc (.cells #[.int .i64 n] 3) := ⟨_, rfl⟩
  have hbW : W.heap[w.heap.size]? = some (.cells #[.int .i64 n] 3 (0, 0)) := by rw [hW]; exact heap_alloc_new w _
  have hoW : Only (fun _ => False) w W := by rw [hW]; exact (Only.refl _ _).alloc _
  have hsW : W.heap.size = w.heap.size + 1 := by rw [hW]; simp
  have h1 := h.new hoW
  have hQm : w.heap.size ≠ m := fun e => by have := lt_of_block h.blk; omega
  have HLV := Lib.hid (mlive_yes W m lb pb lv L h1 n hn hv)
  have x0 : W.cell? ⟨w.heap.size, 0, none⟩ = some (.int .i64 n) := cell_at hbW 0
  have c0 : W.cell? ⟨m, 0, none⟩ = some (.map (some lb)) := cell_at h1.blk 0
  have hl1 : lb ≠ w.heap.size := fun e => by have := h.live.lt; omega
  have hl2 : lb ≠ m := fun e => by
    obtain ⟨es, c, hb⟩ := map_not h.live
    rw [e, h.blk] at hb
    cases hb
  have HQl := Lib.hid (show lb ≠ w.heap.size ∧ lb ≠ m ∧ lb < w.heap.size from ⟨hl1, hl2, h.live.lt⟩)
  have HO := Lib.hid hoW
  have HW := Lib.hid hW
  have HB := Lib.hid hbW
  have H1 := Lib.hid h1
  have HN := Lib.hid hn
  clear hoW hW hbW h1 hn
  clear hsW hv hl1 hl2
  go_enter Try.func31, Try.ntmps31
  go_upto_region 1 with (fail)
  rw [← HW.out]
  go_wp2_with fail
  refine HLV.out.mono ?_
  rintro e w' ⟨rfl, rfl⟩
  go_upto_region 2 with (fail)
  go_cut [14] (fun _ wx => LMap wx lb (outL lv n) ∧ Only (fun i => i = lb) W wx)
  case first =>
    go_region_held3 (fun w' => w'.cell? ⟨w.heap.size, 0, none⟩ = some (.int .i64 n) ∧ w'.cell? ⟨m, 0, none⟩ = some (.map (some lb)))
      (first | exact ⟨x0, c0⟩ | exact ⟨ho2.cell x0 (fun e => HQl.out.1 (Eq.symm e)), ho2.cell c0 (fun e => HQl.out.2.1 (Eq.symm e))⟩)
      (first | (refine step_mapDrop rfl (.tmp 13) (.tmp 14) 102 rfl (H1.out.live.at rfl) intKeyed intInj Try.underlying102 rfl rfl (intOk HN.out) ?_; intro w2 hm2 ho2))
    all_goals
      go_wp2_with fail
      go_meet
      refine ⟨?_, ho2.os, ho2.tape, ho2.output, ho2.size, ho2.block⟩
      have h9 := hm2
      rw [out_drop] at h9
      exact h9
  case rest =>
    obtain ⟨hlm, hol⟩ := hcut
    have h2 : MeshAt wc m lb pb (outL lv n) L := H1.out.withLive hol hlm (fun k hk => H1.out.lives k (List.mem_filter.1 hk).1)
    have hbq := hol.old HB.out (fun e => HQl.out.1 (Eq.symm e))
    have hlo : (outL lv n).length ≤ lv.length := List.length_filter_le _ _
    have HND := Lib.hid (mnodes_any wc m lb pb (outL lv n) L h2 (by omega))
    have hol' : Only (foot lb pb L) w wc := (HO.out.weaken (fun _ _ => False.elim)).trans (hol.weaken (fun i _ e => .inl e))
    have H2 := Lib.hid h2
    have HBQ := Lib.hid hbq
    have HLO := Lib.hid hlo
    have HOL := Lib.hid hol'
    clear h2 hbq hlo hol'
    clear x0 c0 hol hlm
    go_wp2_with fail
    refine HND.out.mono ?_
    rintro e w3 ⟨v, ss, rfl, ho3, hpm, hrow⟩
    have hsl : Sl w3 1 v ss.length (ss.flatMap cellI) := by
      have := Sl.of_owns hrow
      rwa [show ss.map intV = ss.flatMap cellI by rw [List.map_eq_flatMap]; rfl] at this
    obtain ⟨sa, scap, rfl, s1, s2, hc⟩ := Sl.cells cellI_length hsl
    unfold maxLen at s2
    have hss : ss.length ≤ lv.length := by rw [hpm.length_eq]; exact HLO.out
    have hnod : True ∧ ∀ k ∈ ss, k ≠ n ∧ (Lit.int .i64 k).wf = true := ⟨trivial, fun k hk => by
      have h9 := hpm.mem_iff.1 hk
      have h10 := H2.out.lives k h9
      exact ⟨by simpa using (List.mem_filter.1 h9).2, wf64 (by omega) (by omega)⟩⟩
    have h3 := H2.out.new ho3
    have hb3 := ho3.old HBQ.out id
    have hP0 : MPost w w3 m lb pb (outL lv n) L (downJ (getM L) n (ss.take 0)) (2 * 0) := ⟨L, h3, ⟨(HOL.out.trans (ho3.weaken (fun _ _ => False.elim))), fun k hk => .inl hk⟩, fun x y => by rw [List.take_zero, downJ_nil], by omega⟩
    have HC := Lib.hid hc
    have HSS := Lib.hid hss
    have HNOD := Lib.hid hnod
    have H3 := Lib.hid h3
    have HB3 := Lib.hid hb3
    have HP0 := Lib.hid hP0
    have HPM := Lib.hid hpm
    clear hc hss hnod h3 hb3 hP0 hpm
    clear hsl hrow ho3
    go_wp2_with fail
    go_loopg [18] ss.length (fun gk v18 wr => ∃ j : Nat, v18 = .int .i64 j ∧ j ≤ ss.length ∧ MPost w wr m lb pb (outL lv n) L (downJ (getM L) n (ss.take j)) (2 * j) ∧ CellsKept w3 wr ∧ gk = ss.length - j)
    case atStart => exact ⟨0, rfl, Nat.zero_le _, HP0.out, CellsKept.refl _, rfl⟩
    case round =>
      obtain ⟨j, rfl, hj, hp, hck, hg⟩ := hrel
      by_cases hlt : j < ss.length
      · have hlt' : (j : Int) < (ss.length : Int) := by omega
        obtain ⟨bb, off, rfl, hcc⟩ := HC.out.at j hlt
        have hc3 : w3.cell? ⟨bb, off + j, none⟩ = some (.int .i64 ss[j]) := by
          have := hcc 0 _ rfl
          simpa using this
        have y0 := hck.cell hc3
        have q0 : wr.cell? ⟨w.heap.size, 0, none⟩ = some (.int .i64 n) := cell_at (hck _ _ _ _ HB3.out) 0
        obtain ⟨hkn, hkw⟩ := HNOD.out.2 ss[j] (List.getElem_mem hlt)
        have hstep : brk1 (setG (downJ (getM L) n (ss.take j)) ss[j] n []) n ss[j] = downJ (getM L) n (ss.take (j + 1)) := by
          rw [downJ_step _ _ _ _ hkn (fun h => (HNOD.out.2 n (List.mem_of_mem_take h)).1 rfl), List.take_add_one, List.getElem?_eq_getElem hlt]
          rfl
        obtain ⟨Lj, p1, p2, p3, p4⟩ := hp.out
        have hS := HSS.out
        have HPI := Lib.hid (mpipe_any wr m lb pb (outL lv n) Lj p1 ss[j] n hkw HN.out (by omega))
        have HPJ := Lib.hid (fun w' L' (h' : MeshAt w' m lb pb (outL lv n) L') (hn' : L'.length < 1000000) => mpipe_any w' m lb pb (outL lv n) L' h' n ss[j] HN.out hkw hn')
        generalize ss[j] = k at *
        have HST := Lib.hid hstep
        have Hg := Lib.hid hg
        have HCK := Lib.hid hck
        have P1 := Lib.hid p1
        have P2 := Lib.hid p2
        have P3 := Lib.hid p3
        have P4 := Lib.hid p4
        clear hstep hg hck p1 p2 p3 p4
        clear hc3 hcc hp hkw hkn
        go_wp2_with fail
        refine HPI.out.mono ?_
        rintro e w4 ⟨v, rfl, hv⟩
        unfold PipePost at hv
        obtain ⟨L1, d, rfl, k1, k2, k3, k4, k5, k6⟩ := hv
        obtain ⟨d', e1, k7, k8⟩ := k1.pipe _ (look_mem k3)
        cases e1
        have hk4 : CellsKept wr w4 := fun q cs t f hq => k2.only.old hq (fun hf => P1.out.foot_cells hf hq)
        have HP2 := Lib.hid (clear_any w4 d.p d.c d.l k7)
        have HK := Lib.hid (fun w2 ho hp => PipePost.upd (w2 := w2) k1 k2 k3 k5 k6 ho hp (show ([] : List (Bool × ByteArray)).length ≤ 64 by decide))
        have q1 := hk4.cell q0
        clear k1 k2 k3 k4 k5 k6 k7 k8 y0 q0
        go_wp2_with fail
        refine HP2.out.mono ?_
        rintro e w5 ⟨rfl, ho5, hp5⟩
        have hp1 := HK.out w5 ho5 hp5
        have hk5 := hp1.cells P1.out
        obtain ⟨L2, r1, r2, r3, r4⟩ := hp1.out
        have hP4 := P4.out
        have q2 : w5.cell? ⟨w.heap.size, 0, none⟩ = some (.int .i64 n) := cell_at ((HCK.out.trans hk5) _ _ _ _ HB3.out) 0
        have HPI2 := Lib.hid (HPJ.out w5 L2 r1 (by omega))
        have R1 := Lib.hid r1
        have R2 := Lib.hid r2
        have R3 := Lib.hid r3
        have R4 := Lib.hid r4
        have HK5 := Lib.hid hk5
        clear r1 r2 r3 r4 hk5
        clear q1 hp1 ho5 hp5 hk4
        go_wp2_with fail
        refine HPI2.out.mono ?_
        rintro e w6 ⟨v, rfl, hv⟩
        unfold PipePost at hv
        obtain ⟨L1, d, rfl, k1, k2, k3, k4, k5, k6⟩ := hv
        obtain ⟨d', e1, k7, k8⟩ := k1.pipe _ (look_mem k3)
        cases e1
        have HP6 := Lib.hid (break_any w6 d.p d.c d.l k7)
        have HK6 := Lib.hid (fun w2 ho hp => PipePost.upd (w2 := w2) k1 k2 k3 k5 k6 ho hp (show [(true, (⟨#[]⟩ : ByteArray))].length ≤ 64 by decide))
        clear k1 k2 k3 k4 k5 k6 k7 k8 q2
        go_wp2_with fail
        refine HP6.out.mono ?_
        rintro e w7 ⟨rfl, ho7, hp7⟩
        have hp2 := HK6.out w7 ho7 hp7
        have hk7 := HCK.out.trans (HK5.out.trans (hp2.cells R1.out))
        obtain ⟨L4, t1, t2, t3, t4⟩ := hp2.out
        have hF : MPost w w7 m lb pb (outL lv n) L (downJ (getM L) n (ss.take (j + 1))) (2 * (j + 1)) := by
          refine ⟨L4, t1, P2.out.trans (R2.out.trans t2), fun x y => ?_, by have := P4.out; have := R4.out; omega⟩
          rw [← HST.out, t3]
          unfold brk1 setG
          split
          · rfl
          · rw [R3.out]
            unfold setG
            rw [P3.out]
        have HF := Lib.hid hF
        have HK7 := Lib.hid hk7
        clear hF hk7
        clear ho7 hp7 hp2 t1 t2 t3 t4
        go_wp2_with fail
        go_roundg (ss.length - (j + 1))
        case measure => rw [Hg.out]; omega
        case rel => exact ⟨j + 1, by go_num, by omega, HF.out, HK7.out, rfl⟩
      · have hlt' : ¬ (j : Int) < (ss.length : Int) := by omega
        obtain rfl : j = ss.length := by omega
        rw [List.take_length] at hp
        obtain ⟨L1, p1, p2, p3, p4⟩ := hp.out
        have c1 : wr.cell? ⟨m, 1, none⟩ = some (.map (some pb)) := cell_at p1.blk 1
        have q0 : wr.cell? ⟨w.heap.size, 0, none⟩ = some (.int .i64 n) := cell_at (hck _ _ _ _ HB3.out) 0
        have hqp : w.heap.size ≠ pb := fun e => by have := h.pipes.lt; omega
        have HD := Lib.hid (delw_any wr pb L1 p1.pipes n w.heap.size q0 hqp)
        have P1 := Lib.hid p1
        have P2 := Lib.hid p2
        have P3 := Lib.hid p3
        have P4 := Lib.hid p4
        clear p1 p2 p3 p4
        clear hp hck hg q0 hlt hj
        go_wp2_with fail
        refine HD.out.mono ?_
        rintro e w8 ⟨rfl, hm8, ho8⟩
        have h8 := P1.out.strike _ ho8 hm8
        have H8 := Lib.hid h8
        have HO8 := Lib.hid ho8
        clear h8 ho8
        clear hm8 c1
        go_wp2_with fail
        go_end0
        refine ⟨rfl, _, H8.out, ⟨P2.out.only.tr HO8.out (fun i _ e => .inr (.inl e)), fun k hk => P2.out.next k ?_⟩, fun x y => ?_, ?_⟩
        · rcases hk with hk | hk | ⟨e, he, hk⟩
          · exact .inl hk
          · exact .inr (.inl hk)
          · exact .inr (.inr ⟨e, (List.mem_filter.1 he).1, hk⟩)
        · rw [get_strike, P3.out]
          exact down_end (getM L) n lv ss HPM.out x y
        · have h1 := List.length_filter_le (fun p : (Int × Int) × Option PipeD => !decide (p.1.2 = n)) L1
          have := P4.out
          have := HSS.out
          omega
end Go.Proofs.Ytjgcbcahikemdaa
