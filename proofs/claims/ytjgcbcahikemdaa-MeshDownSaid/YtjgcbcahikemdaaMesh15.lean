/- The walk of MeshDown. -/
import Derived.Test.YtjgcbcahikemdaaMesh14
import Derived.Test.YtjgcbcahikemdaaMshRow
import Derived.Deep.CutBlock
namespace Go.Proofs.Ytjgcbcahikemdaa
open Go.Conc Go.RowKit Go.Maps

theorem lvN_step (k : Nat) : upL (lvN k) ((k : Int) + 1) = lvN (k + 1) := rfl
set_option maxRecDepth 100000 in
set_option maxHeartbeats 8000000 in
theorem down08_any (w : World) (v : Value) (l : List ActD) (h : Sl w 4 v l.length (l.flatMap actDC)) (hl : ∀ a ∈ l, rowP_sl_actsD a) (nn : Nat) (hnn : nn < 256) : Calls Try.prog 7 #[v, .int .u8 nn] w fun e w' => e = .returned (.bool true) ∧ Only (fun _ => False) w w' := by
  obtain ⟨a, cap, rfl, c1, c2, c3⟩ := Sl.cells actDC_length h
  unfold maxLen at c2
  have HC := Lib.hid c3
  have HL := Lib.hid hl
  clear c3 hl
  clear h
  go_enter Try.func7, Try.ntmps7
  go_wp2_with fail
  refine (speaks08_any w).mono ?_
  rintro e w1 ⟨rfl, ho1⟩
  have HO1 := Lib.hid ho1
  clear ho1
  go_wp2_with fail
  refine (mrun_new w1).mono ?_
  rintro e w2 ⟨m, lb, pb, rfl, h2⟩
  have H2 := Lib.hid h2
  clear h2
  go_upto_block 0 with fail
  go_cut [6] (fun _ wx => MRun w1 wx m lb pb [1, 2, 3, 4] G0 0)
  case first =>
    go_wp2_with fail
    go_loopg [6] 4 (fun gk v6 wr => ∃ k : Nat, v6 = .int .i64 ((k : Int) + 1) ∧ k ≤ 4 ∧ MRun w1 wr m lb pb (lvN k) G0 0 ∧ gk = 4 - k)
    case atStart => exact ⟨0, rfl, by omega, H2.out, rfl⟩
    case round =>
      obtain ⟨k, rfl, hk, hr, hg⟩ := hrel
      by_cases hlt : k < 4
      · have hlt' : (k : Int) + 1 ≤ 4 := by omega
        have hlen : (lvN k).length < 100000 := by
          rcases (show k = 0 ∨ k = 1 ∨ k = 2 ∨ k = 3 by omega) with rfl | rfl | rfl | rfl <;> decide
        have HU := Lib.hid (mrun_up hr ((k : Int) + 1) (by omega) (by omega) hlen)
        have hw : IntKind.i64.wrap ((k : Int) + 1 + 1) = (k : Int) + 1 + 1 := by rw [IntKind.wrap_i64]; omega
        have Hg := Lib.hid hg
        clear hg
        clear hr hlen
        go_wp2_with fail
        refine HU.out.mono ?_
        rintro e w3 ⟨rfl, h3, _⟩
        rw [lvN_step] at h3
        have H3 := Lib.hid h3
        clear h3
        go_wp2_with fail
        go_roundg (4 - (k + 1))
        case measure => rw [Hg.out]; omega
        case rel => exact ⟨k + 1, by go_num, by omega, H3.out, rfl⟩
      · have hlt' : ¬ (k : Int) + 1 ≤ 4 := by omega
        obtain rfl : k = 4 := by omega
        have hF := hr
        rw [lvN_four] at hF
        have HF := Lib.hid hF
        clear hF
        clear hr hg
        go_wp2_with fail
        go_meet
        exact HF.out
  case rest =>
  have H3 := Lib.hid hcut
  clear hcut
  clear H2
  go_upto_block 2 with fail
  go_cut [7] (fun _ wx => ∃ (G : Ways) (n : Nat), n ≤ 180 ∧ MRun w1 wx m lb pb [1, 2, 3, 4] G n)
  case first =>
    go_wp2_with fail
    go_loopg [7] 60 (fun gk v7 wr => ∃ (i : Nat) (G : Ways), v7 = .int .i64 i ∧ i ≤ l.length ∧ i ≤ 60 ∧ MRun w1 wr m lb pb [1, 2, 3, 4] G (3 * i) ∧ gk = 60 - i)
    case atStart => exact ⟨0, _, rfl, Nat.zero_le _, Nat.zero_le _, H3.out, rfl⟩
    case round =>
      obtain ⟨i, G, rfl, hi, hi60, hr, hg⟩ := hrel
      by_cases hlt : i < l.length ∧ i < 60
      · obtain ⟨hlt, hlt60⟩ := hlt
        have hlt' : (i : Int) < (l.length : Int) := by omega
        have hlt60' : (i : Int) < 60 := by omega
        obtain ⟨bb, off, rfl, hcc⟩ := HC.out.at i hlt
        have hcz : ∀ j u, (actDC l[i])[j]? = some u → w1.cell? ⟨bb, off + i * 4 + j, none⟩ = some u := fun j u hu => HO1.out.cell (hcc j u hu) id
        have hcr : ∀ j u, (actDC l[i])[j]? = some u → wr.cell? ⟨bb, off + i * 4 + j, none⟩ = some u := fun j u hu => hr.only.cell (HO1.out.cell (hcc j u hu) id) id
        have hP := HL.out l[i] (List.getElem_mem hlt)
        generalize l[i] = y at *
        obtain ⟨what, na, nb, tx⟩ := y
        have y1 := hcr 1 _ rfl
        have y2 := hcr 2 _ rfl
        have y3 := hcr 3 _ rfl
        have z1 := hcz 1 _ rfl
        have z2 := hcz 2 _ rfl
        have z3 := hcz 3 _ rfl
        simp only at y1 y2 y3 z1 z2 z3
        have Z1 := Lib.hid z1
        have Z2 := Lib.hid z2
        have Z3 := Lib.hid z3
        clear z1 z2 z3
        unfold rowP_sl_actsD at hP
        simp only at hP
        have hA1 : (0 : Int) ≤ min (tx.size : Int) 4 := by omega
        have hA2 : min (tx.size : Int) 4 ≤ (tx.size : Int) := by omega
        have hb1 : bits BinOp.and IntKind.i64 na 3 = na % 4 := and3_i64 na
        have hb2 : bits BinOp.and IntKind.i64 nb 3 = nb % 4 := and3_i64 nb
        have hw1 : IntKind.i64.wrap (1 + na % 4) = 1 + na % 4 := by rw [IntKind.wrap_i64]; omega
        have hw2 : IntKind.i64.wrap (1 + nb % 4) = 1 + nb % 4 := by rw [IntKind.wrap_i64]; omega
        have HSE := Lib.hid (fun w' (ho : Only (fun _ => False) wr w') s => mrun_send (hr.new ho) (1 + na % 4) (1 + nb % 4) s (wf64 (by omega) (by omega)) (wf64 (by omega) (by omega)) (by omega))
        have Hg := Lib.hid hg
        clear hg
        clear hr hcr hcz hcc hP
        go_upto_region 11 with (fail)
        go_region_held3 (fun w' => w'.cell? ⟨bb, off + i * 4 + 1, none⟩ = some (.int .i64 na) ∧ w'.cell? ⟨bb, off + i * 4 + 2, none⟩ = some (.int .i64 nb) ∧ w'.cell? ⟨bb, off + i * 4 + 3, none⟩ = some (.string tx))
          (first | exact ⟨y1, y2, y3⟩ | exact ⟨h8.only.cell Z1.out id, h8.only.cell Z2.out id, h8.only.cell Z3.out id⟩)
          (first | (go_at_call 32; (with_reducible refine (HSE.out _ (by (repeat (first | (with_reducible assumption) | (with_reducible exact Only.refl _ _) | (with_reducible refine Only.drew ?_) | (with_reducible refine Only.alloc ?_ _) | (with_reducible refine onlySet ?_ (by first | (with_reducible assumption) | omega) _) | (with_reducible refine Only.trans ?_ (by with_reducible assumption))))) _).mono ?_); rintro e w8 ⟨rfl, h8, _⟩))
        all_goals
          clear y1 y2 y3 hA1 hA2 hb1 hb2 hw1 hw2
          have H8 := Lib.hid h8
          clear h8
          go_wp2_with fail
          go_roundg (60 - (i + 1))
          case measure => rw [Hg.out]; omega
          case rel => exact ⟨i + 1, _, by go_num, by omega, by omega, H8.out, rfl⟩
      · have hF : ∃ (G : Ways) (n : Nat), n ≤ 180 ∧ MRun w1 wr m lb pb [1, 2, 3, 4] G n := ⟨G, 3 * i, by omega, hr⟩
        have HF := Lib.hid hF
        clear hF
        clear hr
        by_cases hlt1 : i < l.length
        · have hlt' : (i : Int) < (l.length : Int) := by omega
          have hlt2' : ¬ (i : Int) < 60 := by omega
          go_wp2_with fail
          go_meet
          exact HF.out
        · have hlt' : ¬ (i : Int) < (l.length : Int) := by omega
          go_wp2_with fail
          go_meet
          exact HF.out
  case rest =>
  obtain ⟨G, n, hn180, hr⟩ := hcut
  have hb : bits BinOp.and IntKind.u8 (nn : Int) 3 = ((nn % 4 : Nat) : Int) := and3_u8 nn hnn
  obtain ⟨q, hq⟩ : ∃ q : Nat, q = nn % 4 := ⟨_, rfl⟩
  rw [← hq] at hb
  have hq3 : q ≤ 3 := by omega
  have hw1 : IntKind.i64.wrap (q : Int) = q := by rw [IntKind.wrap_i64]; omega
  have hw2 : IntKind.i64.wrap (1 + (q : Int)) = 1 + (q : Int) := by rw [IntKind.wrap_i64]; omega
  have hwf := wf64 (n := 1 + (q : Int)) (by omega) (by omega)
  have hmem : (1 + (q : Int)) ∈ [(1 : Int), 2, 3, 4] := by simp; omega
  have HDN := Lib.hid (mrun_down hr (1 + (q : Int)) hwf hmem (by decide) (by omega))
  clear hq hr HC HL
  go_wp2_with fail
  refine HDN.out.mono ?_
  rintro e w5 ⟨rfl, h5, _⟩
  clear hb hw1 HDN
  have hOF : ∀ k : Nat, 1 ≤ k → k ≤ 4 → (k : Int) ≠ 1 + (q : Int) → downG [1, 2, 3, 4] G (1 + q) k (1 + q) = [] ∧ downG [1, 2, 3, 4] G (1 + q) (1 + q) k = [(true, ⟨#[]⟩)] ∧ (k : Int) ∈ outL [1, 2, 3, 4] (1 + q) := fun k h1 h4 hne => by
    have hk : (k : Int) ∈ [(1 : Int), 2, 3, 4] := by simp; omega
    exact ⟨down_to _ _ _ _, down_from _ _ _ _ hk hne, List.mem_filter.2 ⟨hk, by simpa using hne⟩⟩
  have hnd : (1 + (q : Int)) ∉ outL [1, 2, 3, 4] (1 + q) := fun h => by
    have := (List.mem_filter.1 h).2
    simp at this
  have hlv : ∀ k : Int, k ∈ upL (outL [1, 2, 3, 4] (1 + q)) (1 + q) ↔ k ∈ [(1 : Int), 2, 3, 4] := fun k => by
    rw [mem_upL]
    unfold outL
    rw [List.mem_filter]
    constructor
    · rintro (h | rfl)
      · exact h.1
      · exact hmem
    · intro h
      by_cases e : k = 1 + (q : Int)
      · exact .inr e
      · exact .inl ⟨h, by simpa using e⟩
  have hl4 : (upL (outL [1, 2, 3, 4] (1 + q)) (1 + q)).length = 4 := by
    rcases (show q = 0 ∨ q = 1 ∨ q = 2 ∨ q = 3 by omega) with rfl | rfl | rfl | rfl <;> decide
  have hld : (outL [1, 2, 3, 4] (1 + (q : Int))).length ≤ 4 := List.length_filter_le _ _
  generalize hd : (1 : Int) + (q : Int) = d at *
  generalize downG [1, 2, 3, 4] G d = GD at *
  generalize outL [1, 2, 3, 4] d = lvd at *
  have hd14 : 1 ≤ d ∧ d ≤ 4 := by omega
  clear hd
  have HLD := Lib.hid hld
  have H5 := Lib.hid h5
  have HOF := Lib.hid hOF
  have HND := Lib.hid hnd
  have HLV := Lib.hid hlv
  have HL4 := Lib.hid hl4
  have HWF := Lib.hid hwf
  clear hld h5 hOF hnd hlv hl4 hwf
  clear hmem hw2
  go_upto_block 4 with fail
  go_cut [9] (fun _ wx => ∃ n : Nat, n ≤ 300 ∧ MRun w1 wx m lb pb lvd GD n)
  case first =>
    go_wp2_with fail
    go_loopg [9] 4 (fun gk v9 wr => ∃ k : Nat, v9 = .int .i64 ((k : Int) + 1) ∧ k ≤ 4 ∧ MRun w1 wr m lb pb lvd GD (200 + 5 * k) ∧ gk = 4 - k)
    case atStart =>
      refine ⟨0, rfl, by omega, ?_, rfl⟩
      obtain ⟨L, z1, z2, z3, z4, z5, z6⟩ := H5.out.out
      exact ⟨L, z1, z2, z3, z4, by simp at z5; omega, z6⟩
    case round =>
      obtain ⟨k, rfl, hk, hr, hg⟩ := hrel
      by_cases hlt : k < 4
      · have hlt' : (k : Int) + 1 ≤ 4 := by omega
        have hw : IntKind.i64.wrap ((k : Int) + 1 + 1) = (k : Int) + 1 + 1 := by rw [IntKind.wrap_i64]; omega
        have Hg := Lib.hid hg
        clear hg
        by_cases hkd : (k : Int) + 1 = d
        · have hN := hr
          have HN := Lib.hid hN
          clear hN
          clear hr
          go_wp2_with fail
          go_roundg (4 - (k + 1))
          case measure => rw [Hg.out]; omega
          case rel =>
            obtain ⟨L, z1, z2, z3, z4, z5, z6⟩ := HN.out.out
            exact ⟨k + 1, by go_num, by omega, ⟨L, z1, z2, z3, z4, by omega, z6⟩, rfl⟩
        · obtain ⟨f1, f2, f3⟩ := HOF.out (k + 1) (by omega) (by omega) (by omega)
          rw [show ((k + 1 : Nat) : Int) = (k : Int) + 1 by omega] at f1 f2 f3
          have hkw := wf64 (n := (k : Int) + 1) (by omega) (by omega)
          have HL1 := mrun_len hr ((k : Int) + 1) d hkw HWF.out
          have HL2 := mrun_len hr d ((k : Int) + 1) HWF.out hkw
          rw [f1] at HL1
          rw [f2] at HL2
          have HLA := Lib.hid HL1
          have HLB := Lib.hid HL2
          have HSE := mrun_send hr ((k : Int) + 1) d sLost hkw HWF.out (by omega)
          rw [send_lost sLost f3 HND.out hkd f2] at HSE
          have HSS := Lib.hid HSE
          have hkd9 : ((k : Int) + 1 == d) = false := by simpa using hkd
          have HKD := Lib.hid hkd
          clear hkd
          have HF1 := Lib.hid f1
          have HF2 := Lib.hid f2
          have HF3 := Lib.hid f3
          have HKW := Lib.hid hkw
          clear f1 f2 f3 hkw
          clear HL1 HL2 HSE hr
          go_wp2_with fail
          refine HLA.out.mono ?_
          rintro e w' ⟨rfl, rfl⟩
          go_wp2_with fail
          refine HLB.out.mono ?_
          rintro e w' ⟨rfl, rfl⟩
          go_wp2_with fail
          refine HSS.out.mono ?_
          rintro e w6 ⟨rfl, h6, _⟩
          have HBK := mrun_break h6 ((k : Int) + 1) d HKW.out HWF.out (by omega)
          rw [break_lost HND.out] at HBK
          have HBB := Lib.hid HBK
          clear HBK h6 HSS HLA HLB
          go_wp2_with fail
          refine HBB.out.mono ?_
          rintro e w7 ⟨rfl, h7, _⟩
          have HL1 := mrun_len h7 ((k : Int) + 1) d HKW.out HWF.out
          have HL2 := mrun_len h7 d ((k : Int) + 1) HWF.out HKW.out
          rw [HF1.out] at HL1
          rw [HF2.out] at HL2
          have HLA := Lib.hid HL1
          have HLB := Lib.hid HL2
          have H7 := Lib.hid h7
          clear h7
          clear HL1 HL2 HBB
          go_wp2_with fail
          refine HLA.out.mono ?_
          rintro e w' ⟨rfl, rfl⟩
          go_wp2_with fail
          refine HLB.out.mono ?_
          rintro e w' ⟨rfl, rfl⟩
          go_wp2_with fail
          go_roundg (4 - (k + 1))
          case measure => rw [Hg.out]; omega
          case rel =>
            refine ⟨k + 1, by go_num, by omega, ?_, rfl⟩
            obtain ⟨L, z1, z2, z3, z4, z5, z6⟩ := H7.out.out
            exact ⟨L, z1, z2, z3, z4, by omega, z6⟩
      · have hlt' : ¬ (k : Int) + 1 ≤ 4 := by omega
        have hF : ∃ n : Nat, n ≤ 300 ∧ MRun w1 wr m lb pb lvd GD n := ⟨_, by omega, hr⟩
        have HF := Lib.hid hF
        clear hF
        clear hr hg
        go_wp2_with fail
        go_meet
        exact HF.out
  case rest =>
  obtain ⟨n5, hn5, hr⟩ := hcut
  have HUP := Lib.hid (mrun_up hr d (by omega) (by omega) (by have := HLD.out; omega))
  clear hr
  go_wp2_with fail
  refine HUP.out.mono ?_
  rintro e w6 ⟨rfl, h6, _⟩
  generalize upL lvd d = lv5 at *
  have H6 := Lib.hid h6
  clear h6
  clear HUP H5
  have hn5' : n5 ≤ 300 + 10 * 0 := by omega
  go_upto_block 6 with fail
  go_cut [10] (fun _ wx => ∃ (n : Nat) (G : Ways), n ≤ 400 ∧ MRun w1 wx m lb pb lv5 G n)
  case first =>
    go_wp2_with fail
    go_loopg [10] 4 (fun gk v10 wr => ∃ (k n : Nat) (G : Ways), v10 = .int .i64 ((k : Int) + 1) ∧ k ≤ 4 ∧ n ≤ 300 + 10 * k ∧ Fresh G d (k + 1) ∧ MRun w1 wr m lb pb lv5 G n ∧ gk = 4 - k)
    case atStart => exact ⟨0, _, GD, rfl, by omega, hn5', fun k _ h1 h4 hne => ⟨(HOF.out k h1 h4 hne).2.1, (HOF.out k h1 h4 hne).1⟩, H6.out, rfl⟩
    case round =>
      obtain ⟨k, n, G, rfl, hk, hn, hfr, hr, hg⟩ := hrel
      by_cases hlt : k < 4
      · have hlt' : (k : Int) + 1 ≤ 4 := by omega
        have hw : IntKind.i64.wrap ((k : Int) + 1 + 1) = (k : Int) + 1 + 1 := by rw [IntKind.wrap_i64]; omega
        have Hg := Lib.hid hg
        clear hg
        by_cases hkd : (k : Int) + 1 = d
        · have hN := hr
          have hfr2 : Fresh G d (k + 1 + 1) := fun j h1 h2 h3 h4 => hfr j (by omega) h2 h3 h4
          have HN := Lib.hid hN
          have HFR := Lib.hid hfr2
          clear hN hfr2
          clear hr hfr
          go_wp2_with fail
          go_roundg (4 - (k + 1))
          case measure => rw [Hg.out]; omega
          case rel => exact ⟨k + 1, _, _, by go_num, by omega, by omega, HFR.out, HN.out, rfl⟩
        · obtain ⟨f1, f2⟩ := hfr (k + 1) (by omega) (by omega) (by omega) (by omega)
          rw [show ((k + 1 : Nat) : Int) = (k : Int) + 1 by omega] at f1 f2
          have hkw := wf64 (n := (k : Int) + 1) (by omega) (by omega)
          have hkm : (k : Int) + 1 ∈ lv5 := (HLV.out _).2 (by simp; omega)
          have hdm : d ∈ lv5 := (HLV.out _).2 (by simp; omega)
          have hdk : d ≠ (k : Int) + 1 := fun e => hkd e.symm
          have e1 : sendG lv5 G d ((k : Int) + 1) sNew = setG G d ((k : Int) + 1) [(true, ⟨#[]⟩), (false, sNew)] := by
            unfold sendG
            rw [if_pos ⟨hdm, hdk⟩, if_pos hkm, f1, if_pos (by decide)]
            rfl
          obtain ⟨G1, hG1⟩ : ∃ G1, G1 = setG G d ((k : Int) + 1) [(true, ⟨#[]⟩), (false, sNew)] := ⟨_, rfl⟩
          have g1 : G1 d ((k : Int) + 1) = [(true, ⟨#[]⟩), (false, sNew)] := by rw [hG1]; exact if_pos ⟨rfl, rfl⟩
          have g2 : G1 ((k : Int) + 1) d = [] := by rw [hG1]; unfold setG; rw [if_neg (fun e => hkd e.1)]; exact f2
          have e2 : sendG lv5 G1 ((k : Int) + 1) d sBk = setG G1 ((k : Int) + 1) d [(false, sBk)] := by
            unfold sendG
            rw [if_pos ⟨hkm, hkd⟩, if_pos hdm, g2, if_pos (by decide)]
            rfl
          obtain ⟨G2, hG2⟩ : ∃ G2, G2 = setG G1 ((k : Int) + 1) d [(false, sBk)] := ⟨_, rfl⟩
          have g3 : G2 d ((k : Int) + 1) = [(true, ⟨#[]⟩), (false, sNew)] := by rw [hG2]; unfold setG; rw [if_neg (fun e => hdk e.1)]; exact g1
          have g4 : G2 ((k : Int) + 1) d = [(false, sBk)] := by rw [hG2]; exact if_pos ⟨rfl, rfl⟩
          have g5 : ∀ j : Int, j ≠ (k : Int) + 1 → G2 d j = G d j ∧ G2 j d = G j d := fun j hj => by
            rw [hG2, hG1]
            unfold setG
            constructor
            · rw [if_neg (fun e => hdk e.1), if_neg (fun e => hj e.2)]
            · rw [if_neg (fun e => hj e.1), if_neg (fun e => hdk e.2)]
          have HS1 := mrun_send hr d ((k : Int) + 1) sNew HWF.out hkw (by omega)
          rw [e1, ← hG1] at HS1
          have HSA := Lib.hid HS1
          have HKD := Lib.hid hkd
          have HDK := Lib.hid hdk
          have hkd9 : ((k : Int) + 1 == d) = false := by simpa using hkd
          rw [← hG2] at e2
          have HE2 := Lib.hid e2
          have HG3 := Lib.hid g3
          have HG4 := Lib.hid g4
          have HG5 := Lib.hid g5
          have HKW := Lib.hid hkw
          have HFR := Lib.hid hfr
          clear e2 g3 g4 g5 hkw hfr
          clear HS1 hr hkm hdm hdk hkd e1 hG1 hG2 g1 g2 f1 f2
          go_wp2_with fail
          refine HSA.out.mono ?_
          rintro e w7 ⟨rfl, h7, _⟩
          have HS2 := mrun_send h7 ((k : Int) + 1) d sBk HKW.out HWF.out (by omega)
          rw [HE2.out] at HS2
          have HSB := Lib.hid HS2
          clear HS2 h7 HSA
          go_wp2_with fail
          refine HSB.out.mono ?_
          rintro e w8 ⟨rfl, h8, _⟩
          have HT := mrun_take h8 d ((k : Int) + 1) HWF.out HKW.out
          rw [HG3.out] at HT
          have HTA := Lib.hid HT
          clear HT h8 HSB
          go_wp2_with fail
          refine HTA.out.mono ?_
          rintro e w9 ⟨x, y, ok, rest, rfl, hT, h9, _⟩
          obtain ⟨rfl, rfl, rfl, rfl⟩ := took_one hT
          obtain ⟨A1, hA1⟩ : ∃ A1, A1 = w9.alloc (.cells #[.bool true, .string ⟨#[]⟩] 58) := ⟨_, rfl⟩
          have hbA1 : A1.heap[w9.heap.size]? = some (.cells #[.bool true, .string ⟨#[]⟩] 58 (0, 0)) := by rw [hA1]; exact heap_alloc_new w9 _
          have hoA1 : Only (fun _ => False) w9 A1 := by rw [hA1]; exact (Only.refl _ _).alloc _
          have hsA1 : A1.heap.size = w9.heap.size + 1 := by rw [hA1]; simp
          have h10 := h9.new hoA1
          have HT := mrun_take h10 d ((k : Int) + 1) HWF.out HKW.out
          rw [show setG G2 d ((k : Int) + 1) [(false, sNew)] d ((k : Int) + 1) = [(false, sNew)] from if_pos ⟨rfl, rfl⟩] at HT
          have HTB := Lib.hid HT
          have HA1 := Lib.hid hA1
          have HBA := Lib.hid hbA1
          clear HT h9 h10 hT HTA hoA1 hsA1 hbA1
          go_upto_region 32 with (fail)
          rw [← HA1.out]
          clear hA1
          go_wp2_with fail
          refine HTB.out.mono ?_
          rintro e w10 ⟨x, y, ok, rest, rfl, hT, h11, hck1⟩
          obtain ⟨rfl, rfl, rfl, rfl⟩ := took_one hT
          have hbK2 := hck1 _ _ _ _ HBA.out
          obtain ⟨A2, hA2⟩ : ∃ A2, A2 = w10.alloc (.cells #[.bool false, .string sNew] 58) := ⟨_, rfl⟩
          have hbA2 : A2.heap[w10.heap.size]? = some (.cells #[.bool false, .string sNew] 58 (0, 0)) := by rw [hA2]; exact heap_alloc_new w10 _
          have hoA2 : Only (fun _ => False) w10 A2 := by rw [hA2]; exact (Only.refl _ _).alloc _
          have hsA2 : A2.heap.size = w10.heap.size + 1 := by rw [hA2]; simp
          have h12 := h11.new hoA2
          have hbK3 := hoA2.old hbK2 id
          have HT := mrun_take h12 ((k : Int) + 1) d HKW.out HWF.out
          rw [show setG (setG G2 d ((k : Int) + 1) [(false, sNew)]) d ((k : Int) + 1) [] ((k : Int) + 1) d = [(false, sBk)] by unfold setG; rw [if_neg (fun e => HDK.out e.1.symm), if_neg (fun e => HDK.out e.1.symm)]; exact HG4.out] at HT
          have HTC := Lib.hid HT
          have HA2 := Lib.hid hA2
          have HBB := Lib.hid hbA2
          have HBA3 := Lib.hid hbK3
          clear hbK3
          clear HT h11 h12 hT HTB hoA2 hsA2 hbK2 hck1 hbA2
          go_upto_region 33 with (fail)
          rw [← HA2.out]
          clear hA2
          go_wp2_with fail
          refine HTC.out.mono ?_
          rintro e w11 ⟨x, y, ok, rest, rfl, hT, h13, hck2⟩
          obtain ⟨rfl, rfl, rfl, rfl⟩ := took_one hT
          have hbL1 := hck2 _ _ _ _ HBA3.out
          have hbL2 := hck2 _ _ _ _ HBB.out
          obtain ⟨A3, hA3⟩ : ∃ A3, A3 = w11.alloc (.cells #[.bool false, .string sBk] 58) := ⟨_, rfl⟩
          have hbA3 : A3.heap[w11.heap.size]? = some (.cells #[.bool false, .string sBk] 58 (0, 0)) := by rw [hA3]; exact heap_alloc_new w11 _
          have hoA3 : Only (fun _ => False) w11 A3 := by rw [hA3]; exact (Only.refl _ _).alloc _
          have hsA3 : A3.heap.size = w11.heap.size + 1 := by rw [hA3]; simp
          have h14 := h13.new hoA3
          have b1 := hoA3.old hbL1 id
          have b2 := hoA3.old hbL2 id
          have x0 : A3.cell? ⟨w9.heap.size, 0, none⟩ = some (.bool true) := cell_at b1 0
          have y0 : A3.cell? ⟨w10.heap.size, 0, none⟩ = some (.bool false) := cell_at b2 0
          have y1 : A3.cell? ⟨w10.heap.size, 1, none⟩ = some (.string sNew) := cell_at b2 1
          have z1 : A3.cell? ⟨w11.heap.size, 1, none⟩ = some (.string sBk) := cell_at hbA3 1
          have HL1 := mrun_len h14 d ((k : Int) + 1) HWF.out HKW.out
          have HL2 := mrun_len h14 ((k : Int) + 1) d HKW.out HWF.out
          have l1 : setG (setG (setG G2 d ((k : Int) + 1) [(false, sNew)]) d ((k : Int) + 1) []) ((k : Int) + 1) d [] d ((k : Int) + 1) = [] := by
            unfold setG
            rw [if_neg (fun e => HDK.out e.1), if_pos ⟨rfl, rfl⟩]
          have l2 : setG (setG (setG G2 d ((k : Int) + 1) [(false, sNew)]) d ((k : Int) + 1) []) ((k : Int) + 1) d [] ((k : Int) + 1) d = [] := if_pos ⟨rfl, rfl⟩
          rw [l1] at HL1
          rw [l2] at HL2
          have hfr4 : Fresh (setG (setG (setG G2 d ((k : Int) + 1) [(false, sNew)]) d ((k : Int) + 1) []) ((k : Int) + 1) d []) d (k + 1 + 1) := fun j h1 h2 h3 h4 => by
            have hj : (j : Int) ≠ (k : Int) + 1 := by omega
            obtain ⟨q1, q2⟩ := HG5.out j hj
            obtain ⟨q3, q4⟩ := HFR.out j (by omega) h2 h3 h4
            unfold setG
            constructor
            · rw [if_neg (fun e => HDK.out e.1), if_neg (fun e => hj e.2), if_neg (fun e => hj e.2), q1, q3]
            · rw [if_neg (fun e => hj e.1), if_neg (fun e => HDK.out e.2), if_neg (fun e => HDK.out e.2), q2, q4]
          have HLA := Lib.hid HL1
          have HLB := Lib.hid HL2
          have HA3 := Lib.hid hA3
          have H14 := Lib.hid h14
          have HFF := Lib.hid hfr4
          clear h14 hfr4
          clear HL1 HL2 l1 l2 hT HTC h13 hbL1 hbL2 hoA3 hsA3 b1 b2 hbA3 hck2
          go_upto_region 34 with (fail)
          rw [← HA3.out]
          clear hA3
          go_wp2_with fail
          refine HLA.out.mono ?_
          rintro e w' ⟨rfl, rfl⟩
          go_wp2_with fail
          refine HLB.out.mono ?_
          rintro e w' ⟨rfl, rfl⟩
          clear x0 y0 y1 z1
          go_wp2_with fail
          go_roundg (4 - (k + 1))
          case measure => rw [Hg.out]; omega
          case rel => exact ⟨k + 1, _, _, by go_num, by omega, by omega, HFF.out, H14.out, rfl⟩
      · have hlt' : ¬ (k : Int) + 1 ≤ 4 := by omega
        have hF : ∃ (n : Nat) (G : Ways), n ≤ 400 ∧ MRun w1 wr m lb pb lv5 G n := ⟨_, G, by omega, hr⟩
        have HF := Lib.hid hF
        clear hF
        clear hr hg hfr
        go_wp2_with fail
        go_meet
        exact HF.out
  case rest =>
  obtain ⟨n6, G6, hn6, hr⟩ := hcut
  have hND := mrun_nodes hr (by have := HL4.out; omega)
  rw [HL4.out] at hND
  have HNDS := Lib.hid hND
  have HOR := Lib.hid hr.only
  clear hND hr
  go_wp2_with fail
  refine HNDS.out.mono ?_
  rintro e w9 ⟨sa, scap, rfl, ho9⟩
  go_wp2_with fail
  go_ret
  exact ⟨rfl, HO1.out.trans (HOR.out.trans ho9)⟩
theorem down08_int (w : World) (v : Value) (l : List ActD) (x : Int) (h : Sl w 4 v l.length (l.flatMap actDC)) (hl : ∀ a ∈ l, rowP_sl_actsD a) (hx : (Lit.int .u8 x).wf = true) : Calls Try.prog 7 #[v, .int .u8 x] w fun e w' => e = .returned (.bool true) ∧ Only (fun _ => False) w w' := by
  have h8 : 0 ≤ x ∧ x ≤ 255 := by
    have h1 : (decide (_ ≤ x) && decide (x ≤ _)) = true := hx
    rw [Bool.and_eq_true] at h1
    exact ⟨of_decide_eq_true h1.1, of_decide_eq_true h1.2⟩
  obtain ⟨k, rfl⟩ : ∃ k : Nat, x = k := ⟨x.toNat, by omega⟩
  exact down08_any w v l h hl k (by omega)
end Go.Proofs.Ytjgcbcahikemdaa
