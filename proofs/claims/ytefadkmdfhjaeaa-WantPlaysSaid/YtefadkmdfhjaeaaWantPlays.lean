/- WantPlays is true of every input: for any sequence of operations on a Want, each result, the asks and the wanted keys are those of the reference; a nil Want. No condition. -/
import Derived.Test.YtefadkmdfhjaeaaWJ
import Derived.Deep.CutBlock
import Derived.Test.YtefadkmdfhjaeaaWA
/-! The walk of WantPlays. -/
namespace Go.Proofs.Ytefadkmdfhjaeaa
open Go.Conc Go.RowKit Go.Maps

structure ActW where
  what : Int
  key : ByteArray
  ver : Nat
  node : Int
  now : Int
def actWC (a : ActW) : List Value := [.int .i64 a.what, .string a.key, .int .u64 a.ver, .int .i64 a.node, .int .i64 a.now]
theorem actWC_length (a : ActW) : (actWC a).length = 5 := rfl
theorem askC_length (q : AskT) : (askC q).length = 3 := rfl
def ActOk (a : ActW) : Prop := a.key.size ≤ maxLen ∧ -9223372036854775808 ≤ a.now
set_option maxRecDepth 100000 in
set_option maxHeartbeats 8000000 in
theorem plays18_any (w : World) (m : Int) (v : Value) (l : List ActW) (h : Sl w 5 v l.length (l.flatMap actWC)) (hl : ∀ a ∈ l, ActOk a) : Calls Try.prog 4 #[.int .i64 m, v] w fun e w' => e = .returned (.bool true) ∧ Only (fun _ => False) w w' := by
  obtain ⟨a, cap, rfl, c1, c2, c3⟩ := Sl.cells actWC_length h
  unfold maxLen at c2
  have HC := Lib.hid c3
  have HL := Lib.hid hl
  clear c3 hl
  clear h
  go_enter Try.func4, Try.ntmps4
  go_wp2_with fail
  refine (speaks18_any w).mono ?_
  rintro e w1 ⟨rfl, ho1⟩
  have HO1 := Lib.hid ho1
  clear ho1
  go_wp2_with fail
  refine (wrun_new w1 m).mono ?_
  rintro e w2 ⟨x, kb, c, cb, rfl, h2⟩
  obtain ⟨wq, hwq, hq0, hq1⟩ : ∃ wq : Int, min (max m 0) 1000 = wq ∧ 0 ≤ wq ∧ wq ≤ 1000 := ⟨_, rfl, by omega, by omega⟩
  rw [hwq] at h2
  have HWQ := Lib.hid hwq
  obtain ⟨W, hW⟩ : ∃ W, W = w2.alloc (.cells #[.int .i64 wq, .slice none 0 0] 43) := ⟨_, rfl⟩
  have hbW : W.heap[w2.heap.size]? = some (.cells #[.int .i64 wq, .slice none 0 0] 43 (0, 0)) := by rw [hW]; exact heap_alloc_new w2 _
  have hoW : Only (fun _ => False) w2 W := by rw [hW]; exact (Only.refl _ _).alloc _
  have hsW : W.heap.size = w2.heap.size + 1 := by rw [hW]; simp
  have hst : PSt w1 W x kb c cb w2.heap.size wq 0 := ⟨[], [], 0, [], .slice none 0 0, ⟨h2.new hoW, hbW, REnts.nil _ _, WInv.start, by simp, by simp, fun i hi => by
    rcases hi with rfl | rfl | rfl
    · exact h2.at_.keys.lt
    · exact lt_of_block h2.at_.clk.blk
    · exact h2.at_.clk.map.lt, by omega⟩⟩
  have hlw : w1.heap.size ≤ w2.heap.size := h2.only.size
  have hoW1 := h2.only.trans hoW
  have HFT := Lib.hid (show ∀ i, footW kb c cb i → i < w2.heap.size from fun i hi => by
    rcases hi with rfl | rfl | rfl
    · exact h2.at_.keys.lt
    · exact lt_of_block h2.at_.clk.blk
    · exact h2.at_.clk.map.lt)
  have HFN := Lib.hid (show ∀ i, footW kb c cb i → w1.heap.size ≤ i from fun i hi => by
    obtain ⟨f1, f2, f3⟩ := h2.foot
    rcases hi with rfl | rfl | rfl <;> assumption)
  have HST := Lib.hid hst
  have HLW := Lib.hid hlw
  have HOW := Lib.hid hoW1
  have HW := Lib.hid hW
  have HBW := Lib.hid hbW
  clear hst hlw hoW1 hW hbW
  clear h2 hoW hsW
  go_upto_region 4 with (fail)
  go_cut [6] (fun v6 wx => v6 = .pointer (some ⟨w2.heap.size, 0, none⟩) ∧ wx = W)
  case first =>
    go_wp2_with fail
    all_goals
      go_meet
      refine ⟨rfl, ?_⟩
      first | exact HW.out.symm | (rw [HW.out]; have h9 := HWQ.out; congr 4; omega)
  case rest =>
    obtain ⟨rfl, rfl⟩ := hcut
    generalize hM : w2.heap.size = M at *
    have HME := Lib.hid hM
    clear hwq hM
    go_wp2_with fail
    go_loopg [7] 90 (fun gk v7 wr => ∃ i : Nat, v7 = .int .i64 i ∧ i ≤ l.length ∧ i ≤ 90 ∧ PSt w1 wr x kb c cb M wq i ∧ gk = 90 - i)
    case atStart => exact ⟨0, rfl, Nat.zero_le _, Nat.zero_le _, HST.out, rfl⟩
    case round =>
      obtain ⟨i, rfl, hi, hi90, hst, hg⟩ := hrel
      by_cases hlt : i < l.length ∧ i < 90
      · -- round
        obtain ⟨hlt, hlt90⟩ := hlt
        have hlt' : (i : Int) < (l.length : Int) := by omega
        have hlt90' : (i : Int) < 90 := by omega
        have hon : Only (fun _ => False) w1 wr := by
          obtain ⟨_, _, _, _, _, h9⟩ := hst.out
          exact h9.run.only
        have hMl : M < wr.heap.size := by
          obtain ⟨_, _, _, _, _, h9⟩ := hst.out
          exact h9.boxlt
        obtain ⟨b, off, rfl, hcc⟩ := HC.out.at i hlt
        have hc := fun j u hu => hon.cell (HO1.out.cell (hcc j u hu) id) id
        have p0 := hc 0 _ rfl
        have p1 := hc 1 _ rfl
        have p2 := hc 2 _ rfl
        have p3 := hc 3 _ rfl
        have p4 := hc 4 _ rfl
        simp only [Nat.add_zero] at p0
        have hok := HL.out l[i] (List.getElem_mem hlt)
        generalize l[i] = act at *
        obtain ⟨what, key0, ver, node, now⟩ := act
        obtain ⟨hk0, hnow⟩ := hok
        simp only at p0 p1 p2 p3 p4 hk0 hnow
        obtain ⟨VA, hVA⟩ : ∃ VA, VA = wr.alloc (.cells #[.int .i64 what, .string key0, .int .u64 ver, .int .i64 node, .int .i64 now] 45) := ⟨_, rfl⟩
        have hbVA : VA.heap[wr.heap.size]? = some (.cells #[.int .i64 what, .string key0, .int .u64 ver, .int .i64 node, .int .i64 now] 45 (0, 0)) := by rw [hVA]; exact heap_alloc_new wr _
        have hoVA : Only (fun _ => False) wr VA := by rw [hVA]; exact (Only.refl _ _).alloc _
        have hsVA : VA.heap.size = wr.heap.size + 1 := by rw [hVA]; simp
        have hstA := hst.new hoVA
        have Hg := Lib.hid hg
        have HSTA := Lib.hid hstA
        have HBA := Lib.hid hbVA
        have HK0 := Lib.hid hk0
        clear hg hstA hbVA hk0
        have hAB : wr.heap.size ≤ VA.heap.size := hoVA.size
        clear hcc hc hst hoVA hsVA
        go_upto_region 9 with (fail)
        rw [← hVA]
        clear hVA p0 p1 p2 p3 p4
        generalize hA : wr.heap.size = AD at *
        have x1 : VA.cell? ⟨AD, 1, none⟩ = some (.string key0) := cell_at HBA.out 1
        go_cut [9] (fun v9 wx => ∃ key, v9 = .string key ∧ key.size ≤ maxLen ∧ VA = wx)
        case first =>
          go_wp2_with fail
          all_goals
            go_meet
            refine ⟨_, rfl, ?_, rfl⟩
            have h9 := HK0.out
            simp only [ByteArray.size_extract]
            omega
        case rest =>
          obtain ⟨key, rfl, hks, rfl⟩ := hcut
          clear x1
          obtain ⟨VI, hVI⟩ : ∃ VI, VI = VA.alloc (.cells #[.string key, .int .u64 ver] 29) := ⟨_, rfl⟩
          have hbVI : VI.heap[VA.heap.size]? = some (.cells #[.string key, .int .u64 ver] 29 (0, 0)) := by rw [hVI]; exact heap_alloc_new VA _
          have hoVI : Only (fun _ => False) VA VI := by rw [hVI]; exact (Only.refl _ _).alloc _
          have hsVI : VI.heap.size = VA.heap.size + 1 := by rw [hVI]; simp
          have hba := hoVI.old HBA.out id
          have hstI := HSTA.out.new hoVI
          have x2 : VA.cell? ⟨AD, 2, none⟩ = some (.int .u64 ver) := cell_at HBA.out 2
          have HBI := Lib.hid hba
          have HSTI := Lib.hid hstI
          have HBID := Lib.hid hbVI
          clear hba hstI hbVI
          clear hoVI hsVI
          go_upto_region 11 with (fail)
          rw [← hVI]
          clear hVI x2
          generalize hB : VA.heap.size = BD at *
          have y0 : VI.cell? ⟨AD, 0, none⟩ = some (.int .i64 what) := cell_at HBI.out 0
          have y1 : VI.cell? ⟨AD, 1, none⟩ = some (.string key0) := cell_at HBI.out 1
          have y2 : VI.cell? ⟨AD, 2, none⟩ = some (.int .u64 ver) := cell_at HBI.out 2
          have y3 : VI.cell? ⟨AD, 3, none⟩ = some (.int .i64 node) := cell_at HBI.out 3
          have y4 : VI.cell? ⟨AD, 4, none⟩ = some (.int .i64 now) := cell_at HBI.out 4
          have i0 : VI.cell? ⟨BD, 0, none⟩ = some (.string key) := cell_at HBID.out 0
          have i1 : VI.cell? ⟨BD, 1, none⟩ = some (.int .u64 ver) := cell_at HBID.out 1
          go_upto_block 2 with fail
          generalize Int.tmod (wrap64 (Int.tmod what 6 + 6)) 6 = q
          have HQ3 := Lib.hid (p_got HSTI.out HLW.out (by omega) key hks ver)
          have HQ4 := Lib.hid (p_lost HSTI.out HLW.out (by omega) node)
          have HQ5 := Lib.hid (p_due HSTI.out HLW.out (by omega) hq0 hq1 now hnow)
          have HQ0 := Lib.hid (p_heard HSTI.out HLW.out (by omega) hq0 hq1 key hks ver node now hnow)
          have HNA := Lib.hid (show ∀ j, footW kb c cb j → ¬ AD = j ∧ ¬ BD = j from fun j hf => by
            have h9 := HFT.out j hf
            omega)
          go_cut [11, 12] (fun v11 v12 wx => ∃ bb, v11 = .bool bb ∧ v12 = .bool bb ∧ PSt w1 wx x kb c cb M wq (i + 1))
          case first =>
            by_cases q3 : q = 3
            · -- got
              subst q3
              go_upto_region 16 with (fail)
              go_wp2_with fail
              refine HQ3.out.mono ?_
              rintro e w5 hh
              obtain ⟨nb, vR, rfl, hb5, ho5, ⟨ra, rk, rc, rfl⟩, hnx⟩ := hh.out
              have ha5 := ho5.old HBI.out (fun hf => (HNA.out _ hf).1 rfl)
              have y2 : w5.cell? ⟨AD, 2, none⟩ = some (.int .u64 ver) := cell_at ha5 2
              have m0 : w5.cell? ⟨M, 0, none⟩ = some (.int .i64 wq) := cell_at hb5 0
              have m1 : w5.cell? ⟨M, 1, none⟩ = some (.slice ra rk rc) := cell_at hb5 1
              have HNX := Lib.hid (hnx _ (Only.refl _ _))
              have HB5 := Lib.hid hb5
              clear hb5
              clear y0 y1 y3 y4 i0 i1 hh ho5 ha5 hnx
              go_wp2_with fail
              refine HNX.out.mono ?_
              rintro e w6 ⟨v9, rfl, ho6, hpn⟩
              obtain ⟨⟨a9, k9, c9, rfl⟩, hout⟩ := hpn
              have hb6 := ho6.old HB5.out id
              have HOUT := Lib.hid hout
              have HB6 := Lib.hid hb6
              clear m0 m1 hout hb6 ho6
              have m0 : w6.cell? ⟨M, 0, none⟩ = some (.int .i64 wq) := cell_at HB6.out 0
              have m1 : w6.cell? ⟨M, 1, none⟩ = some (.slice ra rk rc) := cell_at HB6.out 1
              have mf : ∀ i, w6.frozen? ⟨M, i, none⟩ = false := free_at HB6.out
              go_wp2_with fail
              clear m0 m1 mf
              obtain ⟨s1, s2⟩ := lit_set HB6.out [.int .i64 wq, .slice a9 k9 c9] rfl
              rw [show World.setCells w6 M 0 [.int .i64 wq, .slice a9 k9 c9] = ((w6.setCell ⟨M, 0, none⟩ (.int .i64 wq)).setCell ⟨M, 1, none⟩ (.slice a9 k9 c9)) from rfl] at s1 s2
              generalize ((w6.setCell ⟨M, 0, none⟩ (.int .i64 wq)).setCell ⟨M, 1, none⟩ (.slice a9 k9 c9)) = wz at *
              have p0 : wz.cell? ⟨M, 0, none⟩ = some (.int .i64 wq) := cell_at s1 0
              have p1 : wz.cell? ⟨M, 1, none⟩ = some (.slice a9 k9 c9) := cell_at s1 1
              go_meet
              exact ⟨nb, rfl, rfl, HOUT.out _ s2 s1⟩
            by_cases q4 : q = 4
            · -- lost
              subst q4
              go_upto_region 19 with (fail)
              go_wp2_with fail
              refine HQ4.out.mono ?_
              rintro e w5 hh
              obtain ⟨vR, rfl, hb5, ho5, ⟨ra, rk, rc, rfl⟩, hnx⟩ := hh.out
              have ha5 := ho5.old HBI.out (fun hf => (HNA.out _ hf).1 rfl)
              have y3' : w5.cell? ⟨AD, 3, none⟩ = some (.int .i64 node) := cell_at ha5 3
              have m0 : w5.cell? ⟨M, 0, none⟩ = some (.int .i64 wq) := cell_at hb5 0
              have m1 : w5.cell? ⟨M, 1, none⟩ = some (.slice ra rk rc) := cell_at hb5 1
              have HNX := Lib.hid (hnx _ (Only.refl _ _))
              have HB5 := Lib.hid hb5
              clear hb5
              clear y0 y1 y2 y3 y4 i0 i1 hh ho5 ha5 hnx
              go_wp2_with fail
              refine HNX.out.mono ?_
              rintro e w6 ⟨v9, rfl, ho6, hpn⟩
              obtain ⟨⟨a9, k9, c9, rfl⟩, hout⟩ := hpn
              have hb6 := ho6.old HB5.out id
              have HOUT := Lib.hid hout
              have HB6 := Lib.hid hb6
              clear m0 m1 hout hb6 ho6
              have m0 : w6.cell? ⟨M, 0, none⟩ = some (.int .i64 wq) := cell_at HB6.out 0
              have m1 : w6.cell? ⟨M, 1, none⟩ = some (.slice ra rk rc) := cell_at HB6.out 1
              have mf : ∀ i, w6.frozen? ⟨M, i, none⟩ = false := free_at HB6.out
              go_wp2_with fail
              clear m0 m1 mf
              obtain ⟨s1, s2⟩ := lit_set HB6.out [.int .i64 wq, .slice a9 k9 c9] rfl
              rw [show World.setCells w6 M 0 [.int .i64 wq, .slice a9 k9 c9] = ((w6.setCell ⟨M, 0, none⟩ (.int .i64 wq)).setCell ⟨M, 1, none⟩ (.slice a9 k9 c9)) from rfl] at s1 s2
              generalize ((w6.setCell ⟨M, 0, none⟩ (.int .i64 wq)).setCell ⟨M, 1, none⟩ (.slice a9 k9 c9)) = wz at *
              have p0 : wz.cell? ⟨M, 0, none⟩ = some (.int .i64 wq) := cell_at s1 0
              have p1 : wz.cell? ⟨M, 1, none⟩ = some (.slice a9 k9 c9) := cell_at s1 1
              go_meet
              exact ⟨true, rfl, rfl, HOUT.out _ s2 s1⟩
            by_cases q5 : q = 5
            · -- due
              subst q5
              go_upto_region 22 with (fail)
              go_wp2_with fail
              refine HQ5.out.mono ?_
              rintro e w5 hh
              obtain ⟨v5, vR, A, rfl, hb5, ho5, ⟨ra, rk, rc, rfl⟩, hA64, hrow5, hnx⟩ := hh.out
              obtain ⟨g5, gc5, rfl, _, _, hg5⟩ := Sl.cells askC_length hrow5.sl
              have ha5 := ho5.old HBI.out (fun hf => (HNA.out _ hf).1 rfl)
              have y4' : w5.cell? ⟨AD, 4, none⟩ = some (.int .i64 now) := cell_at ha5 4
              have m0 : w5.cell? ⟨M, 0, none⟩ = some (.int .i64 wq) := cell_at hb5 0
              have m1 : w5.cell? ⟨M, 1, none⟩ = some (.slice ra rk rc) := cell_at hb5 1
              have HNX := Lib.hid (hnx _ (Only.refl _ _))
              have h5o : ∀ b5 off5, g5 = some ⟨b5, off5, none⟩ → M + 1 ≤ b5 := fun b5 off5 e9 => hrow5.own b5 (by rw [e9]; rfl)
              have HB5 := Lib.hid hb5
              have HG5 := Lib.hid hg5
              have H5O := Lib.hid h5o
              clear hb5 hg5 h5o
              clear y0 y1 y2 y3 y4 i0 i1 hh ho5 ha5 hnx hrow5
              go_wp2_with fail
              refine HNX.out.mono ?_
              rintro e w6 ⟨v9, va, rfl, ho6, hrow6, hpn⟩
              obtain ⟨⟨a9, k9, c9, rfl⟩, hout⟩ := hpn
              obtain ⟨g6, gc6, rfl, _, _, hg6⟩ := Sl.cells askC_length hrow6.sl
              obtain ⟨WN, hWN⟩ : ∃ WN, WN = w6.alloc (.cells #[.int .i64 wq, .slice a9 k9 c9] 43) := ⟨_, rfl⟩
              have hbWN : WN.heap[w6.heap.size]? = some (.cells #[.int .i64 wq, .slice a9 k9 c9] 43 (0, 0)) := by rw [hWN]; exact heap_alloc_new w6 _
              have hoWN : Only (fun _ => False) w6 WN := by rw [hWN]; exact (Only.refl _ _).alloc _
              have hsWN : WN.heap.size = w6.heap.size + 1 := by rw [hWN]; simp
              have hb6 := hoWN.old (ho6.old HB5.out id) id
              have hg5 := (HG5.out.new ho6 (fun _ _ _ => id)).new hoWN (fun _ _ _ => id)
              have hg6' := hg6.new hoWN (fun _ _ _ => id)
              have HOUT := Lib.hid hout
              have HB6 := Lib.hid hb6
              have HG56 := Lib.hid hg5
              have HG6 := Lib.hid hg6'
              have HOWN := Lib.hid hoWN
              have HBN := Lib.hid hbWN
              clear hb6 hg5 hg6' hoWN hbWN
              have h6o : ∀ b5 off5, g6 = some ⟨b5, off5, none⟩ → M + 1 ≤ b5 := fun b5 off5 e9 => hrow6.own b5 (by rw [e9]; rfl)
              have H6O := Lib.hid h6o
              clear m0 m1 hout ho6 hg6 hrow6 hsWN h6o
              go_upto_region 24 with (fail)
              rw [← hWN]
              clear hWN
              generalize hNB : w6.heap.size = NB at *
              have m0 : WN.cell? ⟨M, 0, none⟩ = some (.int .i64 wq) := cell_at HB6.out 0
              have m1 : WN.cell? ⟨M, 1, none⟩ = some (.slice ra rk rc) := cell_at HB6.out 1
              have mf : ∀ i, WN.frozen? ⟨M, i, none⟩ = false := free_at HB6.out
              have n0 : WN.cell? ⟨NB, 0, none⟩ = some (.int .i64 wq) := cell_at HBN.out 0
              have n1 : WN.cell? ⟨NB, 1, none⟩ = some (.slice a9 k9 c9) := cell_at HBN.out 1
              go_upto_region 25 with (fail)
              clear m0 m1 mf n0 n1
              obtain ⟨s1, s2⟩ := lit_set HB6.out [.int .i64 wq, .slice a9 k9 c9] rfl
              rw [show World.setCells WN M 0 [.int .i64 wq, .slice a9 k9 c9] = ((WN.setCell ⟨M, 0, none⟩ (.int .i64 wq)).setCell ⟨M, 1, none⟩ (.slice a9 k9 c9)) from rfl] at s1 s2
              generalize ((WN.setCell ⟨M, 0, none⟩ (.int .i64 wq)).setCell ⟨M, 1, none⟩ (.slice a9 k9 c9)) = wz at *
              have p0 : wz.cell? ⟨M, 0, none⟩ = some (.int .i64 wq) := cell_at s1 0
              have p1 : wz.cell? ⟨M, 1, none⟩ = some (.slice a9 k9 c9) := cell_at s1 1
              have hps := HOUT.out _ ((HOWN.out.weaken (fun _ _ => False.elim)).trans s2) s1
              have HS2 := Lib.hid s2
              have HPS := Lib.hid hps
              clear hps
              clear s1 s2 p0 p1
              go_wp2_with fail
              go_loopg [16] A.length (fun gk v16 wx => ∃ k : Nat, v16 = .int .i64 k ∧ k ≤ A.length ∧ Only (fun _ => False) wz wx ∧ gk = A.length - k)
              case atStart => exact ⟨0, rfl, Nat.zero_le _, Only.refl _ _, rfl⟩
              case round =>
                obtain ⟨k, rfl, hk, hox, hgk⟩ := hrel
                have Hgk := Lib.hid hgk
                have HOX := Lib.hid hox
                clear hgk hox
                by_cases hkl : k < A.length
                · -- cmp
                  have hkl' : (k : Int) < (A.length : Int) := by omega
                  obtain ⟨b5, off5, rfl, hc5⟩ := HG56.out.at k hkl
                  obtain ⟨b6, off6, rfl, hc6⟩ := HG6.out.at k hkl
                  have hn5 : ¬ b5 = M := fun e9 => by have := H5O.out b5 off5 rfl; omega
                  have hn6 : ¬ b6 = M := fun e9 => by have := H6O.out b6 off6 rfl; omega
                  generalize A[k] = ak at *
                  obtain ⟨wh, ky, vr⟩ := ak
                  have q0 := HOX.out.cell (HS2.out.cell (hc5 0 _ rfl) hn5) id
                  have q1 := HOX.out.cell (HS2.out.cell (hc5 1 _ rfl) hn5) id
                  have q2 := HOX.out.cell (HS2.out.cell (hc5 2 _ rfl) hn5) id
                  have r0 := HOX.out.cell (HS2.out.cell (hc6 0 _ rfl) hn6) id
                  have r1 := HOX.out.cell (HS2.out.cell (hc6 1 _ rfl) hn6) id
                  have r2 := HOX.out.cell (HS2.out.cell (hc6 2 _ rfl) hn6) id
                  simp only [Nat.add_zero] at q0 r0
                  clear hc5 hc6 hn5 hn6
                  go_upto_region 30 with (fail)
                  go_quiet (fail)
                  go_wp2_with fail
                  go_roundg (A.length - (k + 1))
                  case measure => rw [Hgk.out]; omega
                  case rel => exact ⟨k + 1, by go_num, by omega, HOX.out.drewN _, rfl⟩
                · have hkl' : ¬ (k : Int) < (A.length : Int) := by omega
                  have hfin := HPS.out.new HOX.out
                  clear hk hkl
                  go_wp2_with fail
                  go_meet
                  exact ⟨true, rfl, rfl, hfin⟩
            · -- heard
              go_upto_region 13 with (fail)
              go_wp2_with fail
              refine HQ0.out.mono ?_
              rintro e w5 hh
              obtain ⟨nb, vR, rfl, hb5, ho5, ⟨ra, rk, rc, rfl⟩, hnx⟩ := hh.out
              have ha5 := ho5.old HBI.out (fun hf => (HNA.out _ hf).1 rfl)
              clear y0 y1 y2 y3 y4 i0 i1
              have y2 : w5.cell? ⟨AD, 2, none⟩ = some (.int .u64 ver) := cell_at ha5 2
              have y3 : w5.cell? ⟨AD, 3, none⟩ = some (.int .i64 node) := cell_at ha5 3
              have y4 : w5.cell? ⟨AD, 4, none⟩ = some (.int .i64 now) := cell_at ha5 4
              have m0 : w5.cell? ⟨M, 0, none⟩ = some (.int .i64 wq) := cell_at hb5 0
              have m1 : w5.cell? ⟨M, 1, none⟩ = some (.slice ra rk rc) := cell_at hb5 1
              have HNX := Lib.hid (hnx _ (Only.refl _ _))
              have HB5 := Lib.hid hb5
              clear hb5
              clear hh ho5 ha5 hnx
              go_wp2_with fail
              refine HNX.out.mono ?_
              rintro e w6 ⟨v9, rfl, ho6, hpn⟩
              obtain ⟨⟨a9, k9, c9, rfl⟩, hout⟩ := hpn
              have hb6 := ho6.old HB5.out id
              have HOUT := Lib.hid hout
              have HB6 := Lib.hid hb6
              clear m0 m1 hout hb6 ho6
              have m0 : w6.cell? ⟨M, 0, none⟩ = some (.int .i64 wq) := cell_at HB6.out 0
              have m1 : w6.cell? ⟨M, 1, none⟩ = some (.slice ra rk rc) := cell_at HB6.out 1
              have mf : ∀ i, w6.frozen? ⟨M, i, none⟩ = false := free_at HB6.out
              go_wp2_with fail
              clear m0 m1 mf
              obtain ⟨s1, s2⟩ := lit_set HB6.out [.int .i64 wq, .slice a9 k9 c9] rfl
              rw [show World.setCells w6 M 0 [.int .i64 wq, .slice a9 k9 c9] = ((w6.setCell ⟨M, 0, none⟩ (.int .i64 wq)).setCell ⟨M, 1, none⟩ (.slice a9 k9 c9)) from rfl] at s1 s2
              generalize ((w6.setCell ⟨M, 0, none⟩ (.int .i64 wq)).setCell ⟨M, 1, none⟩ (.slice a9 k9 c9)) = wz at *
              have p0 : wz.cell? ⟨M, 0, none⟩ = some (.int .i64 wq) := cell_at s1 0
              have p1 : wz.cell? ⟨M, 1, none⟩ = some (.slice a9 k9 c9) := cell_at s1 1
              go_meet
              exact ⟨nb, rfl, rfl, HOUT.out _ s2 s1⟩
          case rest =>
            obtain ⟨bb, rfl, rfl, hps⟩ := hcut
            generalize hw5 : wc = w5 at *
            clear hw5 i0 i1 y0 y1 y2 y3 y4 HQ0 HQ3 HQ4 HQ5
            obtain ⟨vR, hbx⟩ : ∃ vR, w5.heap[M]? = some (.cells #[.int .i64 wq, vR] 43 (0, 0)) := by
              obtain ⟨_, _, _, _, vR, h9⟩ := hps.out
              exact ⟨vR, h9.box⟩
            have m1 : w5.cell? ⟨M, 1, none⟩ = some vR := cell_at hbx 1
            have HID := Lib.hid (fun w' (ho : Only (fun _ => False) w5 w') => p_ids (hps.new ho))
            have HBX := Lib.hid (fun w' (ho : Only (fun _ => False) w5 w') => ho.old hbx id)
            have HCC := Lib.hid (fun w' (ho : Only (fun _ => False) w5 w') => ho.cell m1 id)
            have HPS := Lib.hid hps
            clear hps
            clear hbx
            cases bb
            all_goals
              go_upto_region 32 with (fail)
              go_region_held3 (fun w' => Only (fun _ => False) w5 w' ∧ w'.cell? ⟨M, 1, none⟩ = some vR)
                (((refine heldO HCC.out ?_); (repeat (first | (with_reducible assumption) | (with_reducible exact Only.refl _ _) | (with_reducible refine Only.drew ?_) | (with_reducible refine Only.alloc ?_ _) | (with_reducible refine onlySet ?_ (by first | (with_reducible assumption) | omega) _) | (with_reducible refine Only.trans ?_ (by with_reducible assumption))))))
                (first
                  | (go_at_call 10; (with_reducible refine (HID.out _ (by (repeat (first | (with_reducible assumption) | (with_reducible exact Only.refl _ _) | (with_reducible refine Only.drew ?_) | (with_reducible refine Only.alloc ?_ _) | (with_reducible refine onlySet ?_ (by first | (with_reducible assumption) | omega) _) | (with_reducible refine Only.trans ?_ (by with_reducible assumption)))))).mono ?_); rintro e9 w8 hid8; (obtain ⟨v8, rfl, ho8b, hsm⟩ := hid8.out); have o8 : Only (fun _ => False) w5 w8 := (by (refine Only.trans (b := _) ?_ ho8b); (repeat (first | (with_reducible assumption) | (with_reducible exact Only.refl _ _) | (with_reducible refine Only.drew ?_) | (with_reducible refine Only.alloc ?_ _) | (with_reducible refine onlySet ?_ (by first | (with_reducible assumption) | omega) _) | (with_reducible refine Only.trans ?_ (by with_reducible assumption))))))
                  | (go_at_call 17; (with_reducible refine (hsm _ vR (by (repeat (first | (with_reducible assumption) | (with_reducible exact Only.refl _ _) | (with_reducible refine Only.drew ?_) | (with_reducible refine Only.alloc ?_ _) | (with_reducible refine onlySet ?_ (by first | (with_reducible assumption) | omega) _) | (with_reducible refine Only.trans ?_ (by with_reducible assumption))))) (HBX.out _ (by (repeat (first | (with_reducible assumption) | (with_reducible exact Only.refl _ _) | (with_reducible refine Only.drew ?_) | (with_reducible refine Only.alloc ?_ _) | (with_reducible refine onlySet ?_ (by first | (with_reducible assumption) | omega) _) | (with_reducible refine Only.trans ?_ (by with_reducible assumption))))))).mono ?_); rintro e9 w9 ⟨rfl, ho9⟩; have o9 : Only (fun _ => False) w5 w9 := (by (refine Only.trans (b := _) ?_ ho9); (repeat (first | (with_reducible assumption) | (with_reducible exact Only.refl _ _) | (with_reducible refine Only.drew ?_) | (with_reducible refine Only.alloc ?_ _) | (with_reducible refine onlySet ?_ (by first | (with_reducible assumption) | omega) _) | (with_reducible refine Only.trans ?_ (by with_reducible assumption)))))))
              all_goals
                have hfin := HPS.out.new o9
                clear m1
                go_wp2_with fail
                go_roundg (90 - (i + 1))
                case measure => rw [Hg.out]; omega
                case rel => exact ⟨i + 1, by go_num, by omega, by omega, hfin, rfl⟩
      · -- stop
        have hon : Only (fun _ => False) w1 wr := by
          obtain ⟨_, _, _, _, _, h9⟩ := hst.out
          exact h9.run.only
        have HON := Lib.hid (HO1.out.trans hon)
        have hcase : (¬ (i : Int) < (l.length : Int)) ∨ ((i : Int) < (l.length : Int) ∧ ¬ (i : Int) < 90) := by omega
        clear hlt hg hst hon
        rcases hcase with h1 | ⟨h1, h2⟩
        all_goals
          go_wp2_with (first
            | (go_at_call 13; refine (wlost_nil _ _).mono ?_; rintro e wa ⟨rfl, hoa⟩)
            | (go_at_call 8; refine (wheard_nil _ _ 0 _ _).mono ?_; rintro e wb ⟨rfl, hob⟩)
            | (go_at_call 11; refine (wgot_nil _ _ 0).mono ?_; rintro e wc ⟨rfl, hoc⟩)
            | (go_at_call 9; refine (wdue_nil _ _).mono ?_; rintro e wd ⟨rfl, rfl⟩)
            | (go_at_call 10; refine (wids_nil _).mono ?_; rintro e we ⟨rfl, rfl⟩))
          go_ret
          exact ⟨rfl, ((HON.out.trans hoa).trans hob).trans hoc⟩
end Go.Proofs.Ytefadkmdfhjaeaa
/-! A slice of structs that came in (bellhop/bellhoplaw18.Act), as a list. -/
namespace Go.Proofs.Ytefadkmdfhjaeaa
open Go.Conc Go.RowKit Go.ChangeShapes Go.WideShapes Go.ChangeAt Go.WideMaps Go.WideElems

/-- What is known of an element that came in. -/
def rowP_acts18 (a : ActW) : Prop := (Lit.int .i64 a.what).wf = true ∧ a.key.size ≤ maxLen ∧ a.ver < 18446744073709551616 ∧ (Lit.int .i64 a.node).wf = true ∧ (Lit.int .i64 a.now).wf = true
theorem rows_acts18 : ∀ rows : List (List Value), (∀ r ∈ rows, r.length = 5 ∧ ∃ a : ActW, r = actWC a ∧ rowP_acts18 a) →
    ∃ l : List ActW, rows.length = l.length ∧ rows.flatten = l.flatMap actWC ∧ ∀ a ∈ l, rowP_acts18 a
  | [], _ => ⟨[], rfl, rfl, by simp⟩
  | r :: rows, h => by
    obtain ⟨l, h1, h2, h3⟩ := rows_acts18 rows (fun r' h' => h r' (by simp [h']))
    obtain ⟨_, a, rfl, h4⟩ := h r (by simp)
    refine ⟨a :: l, by simp [h1], by simp [h2], fun b hb => ?_⟩
    rcases List.mem_cons.1 hb with rfl | hb
    · exact h4
    · exact h3 b hb
set_option maxRecDepth 100000 in
theorem acts18 {H : Type} {enc : TypeId × Value → H} {w : World} {base : Nat} {held : Bool} {v : Value} {d : DataW H} {ps : List MemPlace} (hok : Value.okWide Try.prog w .any base 40 v) (h : DataW.Trod enc Try.prog w 0 (fun _ => true) held 40 v d ps) :
    ∃ l : List ActW, Sl w 5 v l.length (l.flatMap actWC) ∧ ∀ a ∈ l, rowP_acts18 a := by
  have hc : Try.prog.cellsOf 45 = 5 := by kernel_rfl
  have ci64 : Try.prog.cellsOf 2 = 1 := by kernel_rfl
  have cint : Try.prog.cellsOf 3 = 1 := by kernel_rfl
  have cstr : Try.prog.cellsOf 9 = 1 := by kernel_rfl
  have cu64 : Try.prog.cellsOf 27 = 1 := by kernel_rfl
  obtain ⟨rows, h1, h2⟩ := sl_structs (Q := fun r => ∃ a : ActW, r = actWC a ∧ rowP_acts18 a) Try.underlying40 hc (by decide) hok h (fun n cs x hx => by
    obtain ⟨xs, m, _, _, hl, hlen, hel⟩ := DataW.trod_struct Try.underlying45 hx
    rw [hc] at hl
    match cs, hl with
    | [k0, k1, k2, k3, k4], _ =>
      match xs, hlen with
      | [y0, y1, y2, y3, y4], _ =>
        have e0 : DataW.trod enc Try.prog w 0 (fun _ => true) held m 3 ((([k0, k1, k2, k3, k4] : List Value).drop 0).take (Try.prog.cellsOf 3)) = some y0 := hel 0 _ rfl
        rw [cint] at e0
        have f0 : DataW.trod enc Try.prog w 0 (fun _ => true) held m 3 [k0] = some y0 := e0
        have e1 : DataW.trod enc Try.prog w 0 (fun _ => true) held m 9 ((([k0, k1, k2, k3, k4] : List Value).drop 1).take (Try.prog.cellsOf 9)) = some y1 := hel 1 _ rfl
        rw [cstr] at e1
        have f1 : DataW.trod enc Try.prog w 0 (fun _ => true) held m 9 [k1] = some y1 := e1
        have e2 : DataW.trod enc Try.prog w 0 (fun _ => true) held m 27 ((([k0, k1, k2, k3, k4] : List Value).drop 2).take (Try.prog.cellsOf 27)) = some y2 := hel 2 _ rfl
        rw [cu64] at e2
        have f2 : DataW.trod enc Try.prog w 0 (fun _ => true) held m 27 [k2] = some y2 := e2
        have e3 : DataW.trod enc Try.prog w 0 (fun _ => true) held m 3 ((([k0, k1, k2, k3, k4] : List Value).drop 3).take (Try.prog.cellsOf 3)) = some y3 := hel 3 _ rfl
        rw [cint] at e3
        have f3 : DataW.trod enc Try.prog w 0 (fun _ => true) held m 3 [k3] = some y3 := e3
        have e4 : DataW.trod enc Try.prog w 0 (fun _ => true) held m 2 ((([k0, k1, k2, k3, k4] : List Value).drop 4).take (Try.prog.cellsOf 2)) = some y4 := hel 4 _ rfl
        rw [ci64] at e4
        have f4 : DataW.trod enc Try.prog w 0 (fun _ => true) held m 2 [k4] = some y4 := e4
        obtain ⟨z0, g0, _, w0⟩ := DataW.trod_int Try.underlying3 f0
        obtain ⟨z1, g1, _, w1⟩ := DataW.trod_string Try.underlying9 f1
        obtain ⟨z2, g2, _, w2⟩ := DataW.trod_int Try.underlying27 f2
        obtain ⟨z3, g3, _, w3⟩ := DataW.trod_int Try.underlying3 f3
        obtain ⟨z4, g4, _, w4⟩ := DataW.trod_int Try.underlying2 f4
        cases g0
        cases g1
        cases g2
        cases g3
        cases g4
        obtain ⟨z2, rfl, q2⟩ := nat_u64 w2
        exact ⟨⟨z0, z1, z2, z3, z4⟩, rfl, ⟨w0, w1, q2, w3, w4⟩⟩)
  obtain ⟨l, e1, e2, e3⟩ := rows_acts18 rows h2
  rw [e1, e2] at h1
  exact ⟨l, h1, e3⟩
end Go.Proofs.Ytefadkmdfhjaeaa
/-! WantPlays' walk at acts as they came in. -/
namespace Go.Proofs.Ytefadkmdfhjaeaa
open Go.Conc Go.RowKit

theorem low_i64 {z : Int} (h : (Lit.int .i64 z).wf = true) : -9223372036854775808 ≤ z := by
  simp [Lit.wf, IntKind.min, IntKind.max, IntKind.signed, IntKind.bits] at h
  omega
theorem plays18_in (w : World) (m : Int) (v : Value) (l : List ActW) (_ : (Lit.int .i64 m).wf = true) (h : Sl w 5 v l.length (l.flatMap actWC)) (hl : ∀ a ∈ l, rowP_acts18 a) : Calls Try.prog 4 #[.int .i64 m, v] w fun e w' => e = .returned (.bool true) ∧ Only (fun _ => False) w w' :=
  plays18_any w m v l h (fun a ha => ⟨(hl a ha).2.1, low_i64 (hl a ha).2.2.2.2⟩)
end Go.Proofs.Ytefadkmdfhjaeaa
/-! WantPlays is true of every input: for any sequence of operations on a Want, each result, the asks and the wanted keys are those of the reference; a nil Want. No condition. -/
namespace Go.Proofs.Ytefadkmdfhjaeaa.playsLaw18
open Go.Conc Go.RowKit Go.ChangeShapes Go.WideShapes Go.ChangeAt

theorem own : ownKnob Try.prog.godebug = none := by kernel_rfl
theorem laidOut : laidOutB Try.prog = true := by kernel_rfl
theorem reads : ∀ t ∈ Try.f4.params.toList, Try.prog.readableRec t = true ∧ t < Try.prog.types.size := by
  intro t ht
  have h1 : ([3, 40].all fun u => Try.prog.readableRec u && decide (u < Try.prog.types.size)) = true := by kernel_rfl
  rw [Try.params4] at ht
  have := List.all_eq_true.1 h1 t ht
  simpa using this
set_option maxRecDepth 100000 in
theorem lifted (os : Os) (started : os.Started) (H : Type) (enc : TypeId × Value → H) :
    ReturnsInHanded {} Try.checked os 4 .any (Rows.wantPlaysSpec.pre6 enc Try.prog Try.f4 Rows.wantPlaysRow.domain false) (Rows.wantPlaysSpec.post enc Try.prog Try.f4 false true false false) := by
  refine returnsInHanded_of_change (C := Try.checked) own started (by kernel_rfl) Try.func4
    (ChangeSpec.witness6 (enc := enc) (C := Try.checked) false ⟨#[], #[.int .i64 0, .slice none 0 0], []⟩ 8 (by kernel_rfl) (by kernel_rfl) (by kernel_rfl) (by kernel_rfl)) ?_
  intro W base args ds gs before hval0 hW _ _
  have hval : ∀ (j : Nat) t v, Try.f4.params[j]? = some t → args[j]? = some v → Value.okWide Try.prog W .any base t v := hval0
  have hW' := hW
  obtain ⟨p, q, hA0, hV, rfl, _, _⟩ := hW
  have hA : DataW.TrodAll enc Try.prog W 0 (fun _ => true) true Try.f4.params.toList args.toList ds p := hA0
  rw [Try.params4] at hA hval
  obtain ⟨v0, vs0, d0, ds0, p0, q0, hargs, rfl, rfl, h0, r0⟩ := trodAll_cons hA
  obtain ⟨v1, vs1, d1, ds1, p1, q1, rfl, rfl, rfl, h1, r1⟩ := trodAll_cons r0
  obtain ⟨rfl, rfl, rfl⟩ := trodAll_nil r1
  obtain rfl : args = #[v0, v1] := by cases args; simp_all
  obtain ⟨x0, rfl, rfl, rfl, b0⟩ := open_int Try.underlying3 (hval 0 3 v0 rfl rfl) h0
  obtain ⟨x1, s1, b1⟩ := acts18 (hval 1 40 v1 rfl rfl) h1
  obtain ⟨rfl, rfl⟩ := trodVars_none hV
  refine (plays18_in W x0 v1 x1 b0 s1 b1).mono fun e W' ⟨he, ho⟩ => ?_
  subst he
  exact ⟨_, rfl, law_post hW' (ho.below (Nat.le_refl _) (fun _ _ => id)) laidOut reads rfl Try.underlying4 rfl rfl rfl rfl⟩

theorem holds : Rows.WantPlaysSaid :=
  OpenClaim.holds_of_wide 4 Try.f4 rfl rfl rfl rfl rfl rfl rfl ⟨rfl, rfl, rfl, rfl, rfl⟩ rfl rfl rfl rfl rfl (by kernel_rfl) Try.func4 (by kernel_rfl)
    (of_decide_eq_true (by kernel_rfl)) (by unfold Func.isWrapper; first | (rw [if_pos (by decide +kernel)]; kernel_rfl) | (rw [if_neg (by decide +kernel)]; exact ⟨rfl, rfl⟩))
    (fun os started H enc _ => lifted os started H enc)
#print axioms holds
end Go.Proofs.Ytefadkmdfhjaeaa.playsLaw18
