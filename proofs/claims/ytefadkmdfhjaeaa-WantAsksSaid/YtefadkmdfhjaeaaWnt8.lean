/- What is wanted: Due. -/
import Derived.Test.YtefadkmdfhjaeaaWnt7
import Derived.Test.YtefadkmdfhjaeaaStep
namespace Go.Proofs.Ytefadkmdfhjaeaa
open Go.Conc Go.RowKit Go.Maps

theorem infoAskW : (Try.prog.info? 36).map (fun i => (i.zero, i.size, i.bytes)) = some (some (.agg #[.int .i64 0, .string ⟨#[]⟩, .int .u64 0]), 3, 32) := by kernel_rfl
theorem wdue_nil (w : World) (now : Int) : Calls Try.prog 9 #[.pointer none, .int .i64 now] w fun e w' => e = .returned (.slice none 0 0) ∧ w = w' := by
  go_enter Try.func9, Try.ntmps9
  go_wp2_with fail
  go_ret
  exact ⟨rfl, rfl⟩
def keyS (k : ByteArray) : List Value := [.string k]
theorem keyS_length (k : ByteArray) : (keyS k).length = 1 := rfl
theorem own_kind {w : World} {base : Nat} {e : TypeId} {size n : Nat} {v : Value} {xs : List Value} (h : w.ownsRow base e size v n xs) {k : Nat} (hk : v.ownBlock = some k) : k < w.heap.size ∧ ∃ cs f, w.heap[k]? = some (.cells cs e f) := by
  rcases h.2 with ⟨h2, _⟩ | ⟨g, cap, cur, rfl, hb, hg, _⟩
  · rw [h2] at hk; cases hk
  · have : g = k := by simpa [Value.ownBlock] using hk
    subst this
    exact ⟨lt_of_block hg, _, _, hg⟩
/-- Asks alone have been written. -/
theorem WantMid.asks {w w' : World} {x kb c cb : Nat} {wait cnt : Int} {L : List EntW} {C : List (ByteArray × (Int × Int))} {S : Nat → Prop} (h : WantMid w x kb c cb wait cnt L C) (ho : Only S w w') (hS : ∀ k, S k → ∃ cs f, w.heap[k]? = some (.cells cs 36 f)) : WantMid w' x kb c cb wait cnt L C := by
  have hm : ∀ k, S k → ∀ es q, w.heap[k]? ≠ some (.map es q) := fun k hk es q e => by
    obtain ⟨cs, f, h9⟩ := hS k hk
    rw [e] at h9
    cases h9
  refine ⟨ho.old h.blk (fun hs => ?_), h.keys.kept ho (fun hs => ?_), fun e he => row_kept (h.rows e he) ho (fun k hs cs f e9 => ?_), h.clk.kept ho (fun hs => ?_) (fun hs => ?_), h.ne, h.small⟩
  · obtain ⟨cs, f, h9⟩ := hS _ hs
    rw [h.blk] at h9
    cases h9
  · obtain ⟨es, q, hb⟩ := mapW_not h.keys
    exact hm _ hs _ _ hb
  · obtain ⟨cs', f', h9⟩ := hS k hs
    rw [e9] at h9
    cases h9
  · obtain ⟨cs, f, h9⟩ := hS _ hs
    rw [h.clk.blk] at h9
    cases h9
  · obtain ⟨es, q, hb⟩ := mapW_not h.clk.map
    exact hm _ hs _ _ hb
theorem drop_keys {L : List EntW} (ha : L.Pairwise (fun p q => p.key ≠ q.key)) {y : ByteArray} {e : EntW} (hf : findW L y = some e) : (L.map (·.key)).Perm (y :: (dropW L y).map (·.key)) := by
  obtain ⟨_, hk⟩ := findW_some hf
  subst hk
  have h1 := putW_keys ha (e := e) hf
  unfold putW at h1
  rw [List.map_append] at h1
  exact h1.symm.trans (List.perm_append_comm)
theorem sync_drop {K : List ByteArray} {y : ByteArray} {R M M' : List ByteArray} (h : (K ++ y :: R).Perm M) (hM : M.Perm (y :: M')) : (K ++ R).Perm M' := (List.perm_cons y).1 ((List.perm_middle.symm.trans h).trans hM)
set_option maxRecDepth 100000 in
theorem wlater_cell (w : World) (x : Nat) (wait : Int) (c2 : w.cell? ⟨x, 2, none⟩ = some (.int .i64 wait)) (now : Int) (hw0 : 0 ≤ wait) (hw : wait ≤ 1000) (hnow : -9223372036854775808 ≤ now) :
    Calls Try.prog 20 #[.pointer (some ⟨x, 0, none⟩), .int .i64 now] w fun e w' => e = .returned (.int .i64 (min now 4611686018427387904 + wait)) ∧ w = w' := by
  have hwr : IntKind.i64.wrap (min now 4611686018427387904 + wait) = min now 4611686018427387904 + wait := by rw [IntKind.wrap_i64]; omega
  go_enter Try.func20, Try.ntmps20
  go_wp2_with fail
  go_ret
  exact ⟨rfl, rfl⟩
/-- The key that comes is in the clock no more. -/
theorem sync_not {L : List EntW} {C : List (ByteArray × (Int × Int))} {y : ByteArray} {R : List ByteArray} (ha : L.Pairwise (fun p q => p.key ≠ q.key)) (h : (C.map (·.1) ++ y :: R).Perm (L.map (·.key))) : lookL C y = none ∧ C.length + 1 + R.length = L.length := by
  have hnd : (L.map (·.key)).Pairwise (· ≠ ·) := by
    rw [List.pairwise_map]
    exact ha
  have hnd2 := (h.pairwise_iff (fun {_ _} h9 => Ne.symm h9)).2 hnd
  refine ⟨lookL_of_none (fun p hp e => ?_), by have := h.length_eq; simp at this; omega⟩
  have h1 := (List.pairwise_append.1 hnd2).2.2 p.1 (List.mem_map.2 ⟨p, hp, rfl⟩) y (by simp)
  exact h1 e
structure WDuePost (w : World) (x kb c cb : Nat) (wait cnt : Int) (L : List EntW) (C : List (ByteArray × (Int × Int))) (now at_ : Int) (v : Value) (w' : World) : Prop where
  out : ∃ D A L' C' cnt', D.Perm ((C.filter (fun p => !decide (now < p.2.1))).map (·.1)) ∧ DueSorted C D ∧ DRun at_ L (C.filter (fun p => decide (now < p.2.1))) cnt D A L' C' cnt' ∧ WantAt w' x kb c cb wait cnt' L' C' ∧ Only (footW kb c cb) w w' ∧ w'.ownsRow w.heap.size 36 3 v A.length (A.flatMap askC)
def WDueRes (w : World) (x kb c cb : Nat) (wait cnt : Int) (L : List EntW) (C : List (ByteArray × (Int × Int))) (now at_ : Int) (e : Ending) (w' : World) : Prop := ∃ v, e = .returned v ∧ WDuePost w x kb c cb wait cnt L C now at_ v w'
set_option maxRecDepth 100000 in
set_option maxHeartbeats 8000000 in
theorem wdue_any (w : World) (x kb c cb : Nat) (wait cnt : Int) (L : List EntW) (C : List (ByteArray × (Int × Int))) (h : WantAt w x kb c cb wait cnt L C) (now : Int) (hw0 : 0 ≤ wait) (hw1 : wait ≤ 1000) (hnow : -9223372036854775808 ≤ now) (hcnt0 : 0 ≤ cnt) (hcnt : cnt < 900000) (hL : L.length ≤ 64) :
    Calls Try.prog 9 #[.pointer (some ⟨x, 0, none⟩), .int .i64 now] w fun e w' => WDueRes w x kb c cb wait cnt L C now (min now 4611686018427387904 + wait) e w' := by
  have hCL : C.length = L.length := by have := h.sync.length_eq; simpa using this
  have hCs : ∀ p ∈ C, p.1.size ≤ maxLen := fun p hp => by
    have h1 : p.1 ∈ L.map (·.key) := h.sync.mem_iff.1 (List.mem_map.2 ⟨p, hp, rfl⟩)
    obtain ⟨q, hq, e2⟩ := List.mem_map.1 h1
    rw [← e2]
    exact (h.small q hq).1
  have HDU := Lib.hid (due_clk w c cb 64 cnt C now h.clk hCs (by omega))
  have c1 : w.cell? ⟨x, 1, none⟩ = some (.pointer (some ⟨c, 0, none⟩)) := cell_at h.blk 1
  have H := Lib.hid h
  clear h
  go_enter Try.func9, Try.ntmps9
  go_wp2_with fail
  refine HDU.out.mono ?_
  rintro e w1 hdp
  unfold DuePost at hdp
  obtain ⟨v, D, rfl, hDp, hDs, hrow, ho1, hc1⟩ := hdp
  have hm1 := (H.out.mid.clkd (ho1.weaken (fun i _ e => .inr e)) hc1).1
  have hf1 : Only (footW kb c cb) w w1 := ho1.weaken (fun i _ e => .inr (.inr e))
  have hlt3 : kb < w.heap.size ∧ c < w.heap.size ∧ cb < w.heap.size := ⟨H.out.keys.lt, lt_of_block H.out.clk.blk, H.out.clk.map.lt⟩
  have hsl : Sl w1 1 v D.length (D.flatMap keyS) := by
    have h9 := Sl.of_owns hrow
    rwa [show D.map Value.string = D.flatMap keyS by rw [List.map_eq_flatMap]; rfl] at h9
  obtain ⟨ka, kcap, rfl, k1, k2, k3⟩ := Sl.cells keyS_length hsl
  unfold maxLen at k2
  have hsplit : ((C.filter (fun p => decide (now < p.2.1))).map (·.1) ++ D).Perm (L.map (·.key)) := by
    refine List.Perm.trans ?_ H.out.sync
    refine (List.Perm.append_left _ hDp).trans ?_
    rw [← List.map_append]
    refine List.Perm.map _ ?_
    exact List.filter_append_perm (fun p => decide (now < p.2.1)) C
  have hDl : D.length ≤ 64 := by
    have := hsplit.length_eq
    simp at this
    omega
  have hP0 : DRun (min now 4611686018427387904 + wait) L (C.filter (fun p => decide (now < p.2.1))) cnt (D.take 0) [] L (C.filter (fun p => decide (now < p.2.1))) cnt := by rw [List.take_zero]; exact .nil
  have HK := Lib.hid k3
  have HM1 := Lib.hid hm1
  have HF1 := Lib.hid hf1
  have HLT := Lib.hid hlt3
  have HSP := Lib.hid hsplit
  have HDL := Lib.hid hDl
  have HP0 := Lib.hid hP0
  have HDP := Lib.hid hDp
  have HDS := Lib.hid hDs
  clear k3 hm1 hf1 hlt3 hsplit hDl hP0 hDp hDs
  clear hrow hsl hc1 ho1 HDU c1
  generalize hCf : C.filter (fun p => decide (now < p.2.1)) = Cf at *
  go_wp2_with fail
  go_loopg [18, 5] D.length (fun gk v18 v5 wr => ∃ (j : Nat) (A : List AskT) (Lj : List EntW) (Cj : List (ByteArray × (Int × Int))) (cntj : Int), v18 = .int .i64 j ∧ j ≤ D.length ∧ DRun (min now 4611686018427387904 + wait) L Cf cnt (D.take j) A Lj Cj cntj ∧ WantMid wr x kb c cb wait cntj Lj Cj ∧ (Cj.map (·.1) ++ D.drop j).Perm (Lj.map (·.key)) ∧ Only (footW kb c cb) w1 wr ∧ wr.ownsRow w1.heap.size 36 3 v5 A.length (A.flatMap askC) ∧ A.length = j ∧ Lj.length ≤ 64 ∧ cnt ≤ cntj ∧ cntj ≤ cnt + j ∧ gk = D.length - j)
  case atStart => exact ⟨0, [], L, Cf, cnt, rfl, Nat.zero_le _, HP0.out, HM1.out, by rw [List.drop_zero]; exact HSP.out, Only.refl _ _, World.ownsRow_nil w1 _ _ _, rfl, hL, Int.le_refl _, by omega, rfl⟩
  case round =>
    obtain ⟨j, A, Lj, Cj, cntj, rfl, hj, hrun, hmid, hsync, hof, hrowA, hAl, hLj, hc0, hc1, hg⟩ := hrel
    by_cases hlt : j < D.length
    · -- one
      have hlt' : (j : Int) < (D.length : Int) := by omega
      obtain ⟨bb, off, rfl, hcc⟩ := HK.out.at j hlt
      have hyc : w1.cell? ⟨bb, off + j, none⟩ = some (.string D[j]) := by
        have h9 := hcc 0 _ rfl
        simpa using h9
      have y0 : wr.cell? ⟨bb, off + j, none⟩ = some (.string D[j]) := hof.cell hyc (fun hk => HM1.out.noStr _ hk _ _ hyc)
      have htk : D.take (j + 1) = D.take j ++ [D[j]] := by rw [List.take_add_one, List.getElem?_eq_getElem hlt]; rfl
      have hdr : D.drop j = D[j] :: D.drop (j + 1) := List.drop_eq_getElem_cons hlt
      generalize D[j] = y at *
      have hyL : y ∈ Lj.map (·.key) := hsync.mem_iff.1 (by rw [hdr]; simp)
      obtain ⟨e0, he0, hek⟩ := List.mem_map.1 hyL
      have hfind : findW Lj y = some e0 := by rw [← hek]; exact findW_mem hmid.apart he0
      obtain ⟨hks, h64, hne⟩ := hmid.small e0 he0
      have hye : e0.key = y := hek
      rw [hye] at hks
      have hlk := hmid.keys.look strKeyed strInj Try.underlying64 (z := Value.agg #[.int .u64 0, .slice none 0 0]) (zeroW wr) (strOk hks) false
      rw [look_prsW, hfind] at hlk
      obtain ⟨h0, t, hht⟩ := List.exists_cons_of_ne_nil hne
      have hrow0 := hmid.rows e0 he0
      obtain ⟨g, gcap, hgs, hgc⟩ := row_cells hrow0 hne
      have hlk2 : (Instr.lookup 64 (.map (some kb)) (.string y) false).run Try.prog wr = .ok (.agg #[.int .u64 e0.ver, .slice (some ⟨g, 0, none⟩) e0.has.length gcap]) wr := by
        have h9 : Value.agg #[.int .u64 e0.ver, .slice (some ⟨g, 0, none⟩) e0.has.length gcap] = e0.v := by unfold EntW.v; rw [hgs]
        rw [h9]
        exact hlk
      have x0 : wr.cell? ⟨x, 0, none⟩ = some (.map (some kb)) := cell_at hmid.blk 0
      obtain ⟨W, hW⟩ : ∃ W, W = wr.alloc (.cells #[.int .u64 e0.ver, .slice (some ⟨g, 0, none⟩) e0.has.length gcap] 70) := ⟨_, rfl⟩
      have hbW : W.heap[wr.heap.size]? = some (.cells #[.int .u64 e0.ver, .slice (some ⟨g, 0, none⟩) e0.has.length gcap] 70 (0, 0)) := by rw [hW]; exact heap_alloc_new wr _
      have hoW : Only (fun _ => False) wr W := by rw [hW]; exact (Only.refl _ _).alloc _
      have hsW : W.heap.size = wr.heap.size + 1 := by rw [hW]; simp
      have hlen0 : 0 < e0.has.length := by rw [hht]; simp
      have q0 : W.cell? ⟨wr.heap.size, 0, none⟩ = some (.int .u64 e0.ver) := cell_at hbW 0
      have q1 : W.cell? ⟨wr.heap.size, 1, none⟩ = some (.slice (some ⟨g, 0, none⟩) e0.has.length gcap) := cell_at hbW 1
      have g0 : W.cell? ⟨g, 0, none⟩ = some (.int .i64 h0) := by
        have h9 := hoW.cell (hgc 0 hlen0) id
        rw [hht] at h9
        simpa using h9
      have hmW := hmid.new hoW
      have HGS := Lib.hid hgs
      have HGC := Lib.hid hgc
      have Hg := Lib.hid hg
      have HW := Lib.hid hW
      have HOW := Lib.hid hoW
      have HBW := Lib.hid hbW
      have HMW := Lib.hid hmW
      have HTK := Lib.hid htk
      have HDR := Lib.hid hdr
      have HFD := Lib.hid hfind
      have HHT := Lib.hid hht
      have HR0 := Lib.hid hrow0
      have HRUN := Lib.hid hrun
      have HSYN := Lib.hid hsync
      have HOF := Lib.hid hof
      have HRA := Lib.hid hrowA
      have HKS := Lib.hid hks
      clear hgs hgc hg hW hoW hbW hmW htk hdr hfind hht hrow0 hrun hsync hof hrowA hks
      clear hlk hcc hyc hyL hsW hmid
      go_upto_region 8 with (fail)
      rw [← HW.out]
      obtain ⟨i0, hi0, iz0, iz1, iz2⟩ := info_parts infoAskW
      have hra : W.ownsRow w1.heap.size 36 3 u5 A.length (A.flatMap askC) := owns_only HRA.out HOW.out (fun _ _ => id)
      have hg1 : ∃ cs f, W.heap[g]? = some (.cells cs 3 f) := by
        obtain ⟨g', gc', cur, e9, _, hgg, _⟩ := row_form HR0.out (fun e9 => by unfold rowI at e9; rw [HHT.out] at e9; simp at e9)
        have : g' = g := by
          have h9 := HGS.out.symm.trans e9
          simp at h9
          exact h9.1.symm
        subst this
        exact ⟨_, _, HOW.out.old hgg id⟩
      have hnq : ¬ u5.ownBlock = some wr.heap.size := fun e9 => by have := (own_kind HRA.out e9).1; omega
      have hng : ¬ u5.ownBlock = some g := fun e9 => by
        obtain ⟨_, cs, f, h9⟩ := own_kind hra e9
        obtain ⟨cs', f', h8⟩ := hg1
        rw [h9] at h8
        cases h8
      have hszW : w1.heap.size ≤ W.heap.size := Nat.le_trans HOF.out.size HOW.out.size
      have HCC := Lib.hid (show ∀ w', Only (fun k => u5.ownBlock = some k) W w' → w'.cell? ⟨wr.heap.size, 0, none⟩ = some (.int .u64 e0.ver) ∧ w'.cell? ⟨wr.heap.size, 1, none⟩ = some (.slice (some ⟨g, 0, none⟩) e0.has.length gcap) ∧ w'.cell? ⟨g, 0, none⟩ = some (.int .i64 h0) from fun w' ho => ⟨ho.cell q0 hnq, ho.cell q1 hnq, ho.cell g0 hng⟩)
      clear hg1 q0 q1 g0 x0 hlk2 y0
      generalize u5 = uo at *
      go_cut [5] (fun v5 wx => Only (fun k => uo.ownBlock = some k) W wx ∧ wx.ownsRow w1.heap.size 36 3 v5 (A.length + 1) (A.flatMap askC ++ askC ⟨h0, y, e0.ver⟩))
      case first =>
        go_region_held3 (fun w' => w'.cell? ⟨wr.heap.size, 0, none⟩ = some (.int .u64 e0.ver) ∧ w'.cell? ⟨wr.heap.size, 1, none⟩ = some (.slice (some ⟨g, 0, none⟩) e0.has.length gcap) ∧ w'.cell? ⟨g, 0, none⟩ = some (.int .i64 h0))
          (((refine HCC.out _ ?_); (repeat (first | (with_reducible assumption) | (with_reducible exact Only.refl _ _) | (with_reducible refine Only.drew ?_) | (with_reducible refine Only.alloc ?_ _) | (with_reducible refine onlySet ?_ (by first | (with_reducible assumption) | omega) _) | (with_reducible refine Only.trans ?_ (by with_reducible assumption))))))
          (first
            | (refine step_append_src rfl (.tmp 28) (.tmp 38) 33 33 rfl w1.heap.size 36 i0 _ 3 32 Try.underlying33 hi0 iz0 iz1 iz2 rfl uo A.length (A.flatMap askC) rfl ?_ _ 1 (askC ⟨h0, y, e0.ver⟩) rfl (Src.ofSlice _ Try.underlying33 _ _ _ _ rfl (news_at (e := 36) ?_) (askC_one _)) ?_ ?_ ?_ ?_
               · exact hra.alloc _
               · (apply Eq.trans; (case h₁ => repeat (first | (with_reducible assumption) | (with_reducible exact heap_alloc_new _ _) | (with_reducible apply blk_new; (repeat (first | (with_reducible rfl) | (with_reducible apply sz_set) | (with_reducible apply sz_alloc) | (with_reducible apply sz_drew))); done) | (with_reducible apply blk_same) | (with_reducible apply blk_ne; case hn => (first | assumption | omega)) | (with_reducible apply blk_old) | (with_reducible apply blk_drew))); (case h₂ => rfl))
               · have := HDL.out; unfold maxLen; omega
               · have := HDL.out; omega
               · first | assumption | (simp; omega)
               intro v8 w8 own8 gr8 hv8
               have hO8 : Only (fun k => uo.ownBlock = some k) W w8 := by (refine Only.grown ?_ gr8 (fun k e => .inr e); (repeat (first | (with_reducible assumption) | (with_reducible exact Only.refl _ _) | (with_reducible refine Only.drew ?_) | (with_reducible refine Only.alloc ?_ _) | (with_reducible refine onlySet ?_ (by first | (with_reducible assumption) | omega) _) | (with_reducible refine Only.trans ?_ (by with_reducible assumption)))))))
        all_goals
          go_wp2_with fail
          go_meet
          exact ⟨hO8, own8⟩
      case rest =>
        obtain ⟨ho8, own8⟩ := hcut
        obtain ⟨q0, q1, g0⟩ := HCC.out wc ho8
        have hmcA : WantMid wc x kb c cb wait cntj Lj Cj := HMW.out.asks ho8 (fun k hk => (own_kind hra hk).2)
        have hof8 : Only (footW kb c cb) w1 wc := (HOF.out.trans (HOW.out.weaken (fun _ _ => False.elim))).tr ho8 (fun i hi e9 => absurd (hra.lt i e9).1 (by omega))
        have hAA : (A ++ [AskT.mk h0 y e0.ver]).length = A.length + 1 ∧ (A ++ [AskT.mk h0 y e0.ver]).flatMap askC = A.flatMap askC ++ askC ⟨h0, y, e0.ver⟩ := ⟨by simp, by rw [List.flatMap_append]; simp⟩
        have hrow8 : wc.ownsRow w1.heap.size 36 3 u5 (A ++ [AskT.mk h0 y e0.ver]).length ((A ++ [AskT.mk h0 y e0.ver]).flatMap askC) := by rw [hAA.1, hAA.2]; exact own8
        have HOF8 := Lib.hid hof8
        have HROW8 := Lib.hid hrow8
        have HMC := Lib.hid hmcA
        clear hof8 hrow8 hmcA
        clear own8 hAA
        by_cases hone : t = []
        · -- last
          have hl1 : e0.has.length = 1 := by rw [HHT.out, hone]; rfl
          have hmc := HMC.out
          have x0 : wc.cell? ⟨x, 0, none⟩ = some (.map (some kb)) := cell_at hmc.blk 0
          have hkm := hmc.keys
          rw [hl1] at q1
          clear hlen0
          go_wp2_with (first | (at_delete; refine wpList_mapDrop rfl _ _ _ rfl hkm strKeyed strInj Try.underlying64 rfl rfl (strOk HKS.out) ?_; intro w9 hm9 ho9) | fail)
          obtain ⟨p1, p2⟩ := HMC.out.drop y ho9 hm9
          have hsy := HSYN.out
          rw [HDR.out] at hsy
          have hsy2 := sync_drop hsy (drop_keys HMC.out.apart HFD.out)
          have hrn : DRun (min now 4611686018427387904 + wait) L Cf cnt (D.take (j + 1)) (A ++ [AskT.mk h0 y e0.ver]) (dropW Lj y) Cj cntj := by
            rw [HTK.out]
            exact .drop HRUN.out HFD.out (by rw [HHT.out, hone])
          have hL9 : (dropW Lj y).length ≤ 64 := Nat.le_trans (List.length_filter_le _ _) hLj
          have hrow9 := owns_only HROW8.out ho9 (fun k hk e9 => by have h9 : k = kb := e9; have := HLT.out; have := HF1.out.size; omega)
          have hof9 := HOF8.out.trans (ho9.weaken (T := footW kb c cb) (fun i _ e9 => .inl e9))
          have P1 := Lib.hid p1
          have HSY2 := Lib.hid hsy2
          have HRN := Lib.hid hrn
          have HL9 := Lib.hid hL9
          have HROW9 := Lib.hid hrow9
          have HOF9 := Lib.hid hof9
          clear p1 hsy2 hrn hL9 hrow9 hof9
          clear p2 hsy hm9 ho9 x0 hkm hmc q0 q1 g0
          go_roundg (D.length - (j + 1))
          case measure => rw [Hg.out]; omega
          case rel => exact ⟨j + 1, _, _, _, _, by go_num, by omega, HRN.out, P1.out, HSY2.out, HOF9.out, HROW9.out, by simp [hAl], HL9.out, hc0, by omega, rfl⟩
        · -- more
          have ht1 : 0 < t.length := List.length_pos_iff.2 hone
          have hl2 : e0.has.length = t.length + 1 := by rw [HHT.out]; rfl
          have hcap : t.length + 1 ≤ gcap := by
            obtain ⟨g', gc', cur, e9, _, hgg, h9, _⟩ := row_form HR0.out (fun e9 => by unfold rowI at e9; rw [HHT.out] at e9; simp at e9)
            have h8 := HGS.out.symm.trans e9
            simp at h8
            omega
          have hl1 : ¬ e0.has.length = 1 := by omega
          have hl1' : ¬ ((t.length : Int) + 1 = 1) := by omega
          have x0 : wc.cell? ⟨x, 0, none⟩ = some (.map (some kb)) := cell_at HMC.out.blk 0
          rw [hl2] at q1
          have HX0 := Lib.hid (show ∀ w', Only (fun _ => False) wc w' → w'.cell? ⟨x, 0, none⟩ = some (.map (some kb)) ∧ w'.cell? ⟨wr.heap.size, 0, none⟩ = some (.int .u64 e0.ver) ∧ w'.cell? ⟨wr.heap.size, 1, none⟩ = some (.slice (some ⟨g, 0, none⟩) (t.length + 1) gcap) from fun w' ho => ⟨ho.cell x0 id, ho.cell q0 id, ho.cell q1 id⟩)
          have HL2 := Lib.hid hl2
          have hs2 : (1 : Int) ≤ (t.length : Int) + 1 := by omega
          have hs3 : (t.length : Int) + 1 ≤ (gcap : Int) := by omega
          have hs4 : ¬ gcap = 1 := by omega
          have hgw : ∀ j, j < t.length → wc.cell? ⟨g, 1 + j, none⟩ = some (.int .i64 (t.getD j 0)) := fun j hj => by
            have h9 := ho8.cell (HOW.out.cell (HGC.out (j + 1) (by rw [hl2]; omega)) id) hng
            rw [HHT.out] at h9
            rw [show 1 + j = 0 + (j + 1) by omega]
            simpa using h9
          have ht64 : t.length ≤ 64 := by omega
          have HCL := Lib.hid (show ∀ w', Only (fun _ => False) wc w' → Calls Try.prog 22 #[.slice (some ⟨g, 1, none⟩) t.length (gcap - 1)] w' fun e w2 => ∃ v', e = .returned v' ∧ w2.ownsRow w'.heap.size 3 1 v' t.length (rowI t) ∧ Only (fun _ => False) w' w2 from fun w' ho => (Try.slices_Clone_int g 1 t.length (gcap - 1) t w' (Nat.le_refl _) (by omega) (fun j hj => ho.cell (hgw j hj) id)).mono (by
            rintro e9 w2 ⟨v', rfl, h1, _, h3⟩
            rw [List.take_length] at h1
            exact ⟨v', rfl, h1, Only.of_below h3⟩))
          have HKM := Lib.hid (fun w' (ho : Only (fun _ => False) wc w') => HMC.out.keys.kept ho id)
          have hLm : (prsW Lj).length < maxLen := by unfold prsW maxLen; rw [List.length_map]; omega
          have HLM := Lib.hid hLm
          clear hlen0 hl1 hl2 hgw hLm
          go_upto_region 11 with (fail)
          have hkx : x ≠ kb ∧ wr.heap.size ≠ kb := ⟨fun e9 => HMC.out.nes.1 (.inl e9), fun e9 => by have := HLT.out; have := HF1.out.size; have := HOF.out.size; omega⟩
          have HKX := Lib.hid hkx
          clear hkx
          go_region_held3 (fun w' => w'.cell? ⟨x, 0, none⟩ = some (.map (some kb)) ∧ w'.cell? ⟨wr.heap.size, 0, none⟩ = some (.int .u64 e0.ver) ∧ w'.cell? ⟨wr.heap.size, 1, none⟩ = some (.slice (some ⟨g, 0, none⟩) (t.length + 1) gcap))
            (first | (refine HX0.out _ ?_; (repeat (first | (with_reducible assumption) | (with_reducible exact Only.refl _ _) | (with_reducible refine Only.drew ?_) | (with_reducible refine Only.alloc ?_ _) | (with_reducible refine onlySet ?_ (by first | (with_reducible assumption) | omega) _) | (with_reducible refine Only.trans ?_ (by with_reducible assumption)))); done) | exact ⟨ho9.cell (HX0.out _ o8).1 HKX.out.1, ho9.cell (HX0.out _ o8).2.1 HKX.out.2, ho9.cell (HX0.out _ o8).2.2 HKX.out.2⟩)
            (first | (go_at_call 22; (with_reducible refine (HCL.out _ (by (repeat (first | (with_reducible assumption) | (with_reducible exact Only.refl _ _) | (with_reducible refine Only.drew ?_) | (with_reducible refine Only.alloc ?_ _) | (with_reducible refine onlySet ?_ (by first | (with_reducible assumption) | omega) _) | (with_reducible refine Only.trans ?_ (by with_reducible assumption)))))).mono ?_); rintro e9 w8 ⟨v8, rfl, own8, ho8b⟩; (obtain ⟨_, a8, c8, rfl, _⟩ := Sl.of_owns own8); have o8 : Only (fun _ => False) wc w8 := (by (refine Only.trans (b := _) ?_ ho8b); (repeat (first | (with_reducible assumption) | (with_reducible exact Only.refl _ _) | (with_reducible refine Only.drew ?_) | (with_reducible refine Only.alloc ?_ _) | (with_reducible refine onlySet ?_ (by first | (with_reducible assumption) | omega) _) | (with_reducible refine Only.trans ?_ (by with_reducible assumption))))); (obtain ⟨w9, hst9, hm9, ho9⟩ := (HKM.out w8 o8).store strKeyed strInj Try.underlying64 HLM.out (strOk HKS.out) (Value.agg #[.int .u64 e0.ver, .slice a8 t.length c8])); have hst : (Instr.mapUpdate 64 (.map (some kb)) (.string y) (.agg #[.int .u64 e0.ver, .slice a8 t.length c8])).run Try.prog w8 = .ok () w9 := hst9))
          all_goals
            have hrow8b : w8.ownsRow 0 3 1 (.slice a8 t.length c8) t.length (rowI t) := ownsRow_base_a own8 (Nat.zero_le _)
            have hm8 := HMC.out.new o8
            obtain ⟨p1, p2⟩ := hm8.put ⟨y, e0.ver, t, a8, c8⟩ ho9 hm9 hrow8b ⟨HKS.out, ht64, hone⟩
            have hof9 := HOF8.out.trans ((o8.weaken (fun _ _ => False.elim)).trans p2)
            have hrow9 := owns_only (owns_only HROW8.out o8 (fun _ _ => id)) ho9 (fun k hk e9 => by have h9 : k = kb := e9; have := HLT.out; have := HF1.out.size; omega)
            have P1 := Lib.hid p1
            have HOF9 := Lib.hid hof9
            have HROW9 := Lib.hid hrow9
            clear p1 hof9 hrow9
            clear p2 hm8 hrow8b hm9 ho9 hst9 hst own8 ho8b o8 x0 q0 q1 g0 hs2 hs3 hs4
            have hsy := HSYN.out
            rw [HDR.out] at hsy
            obtain ⟨hn9, hlen9⟩ := sync_not HMC.out.apart hsy
            have hok : okSet 64 Cj y = true := by
              unfold okSet
              rw [hn9]
              have : (Cj.length : Int) < 64 := by omega
              simp [this]
            have hDl9 := HDL.out
            have hst := fun w' (ho : Only (fun _ => False) w9 w') => set_clk w' c cb 64 cntj Cj ((P1.out.new ho).clk) y HKS.out (min now 4611686018427387904 + wait) (by omega) (by omega) (by omega)
            rw [hok] at hst
            have x1 : w9.cell? ⟨x, 1, none⟩ = some (.pointer (some ⟨c, 0, none⟩)) := cell_at P1.out.blk 1
            have x2 : w9.cell? ⟨x, 2, none⟩ = some (.int .i64 wait) := cell_at P1.out.blk 2
            have hlt := fun w' (ho : Only (fun _ => False) w9 w') => wlater_cell w' x wait (ho.cell x2 id) now hw0 hw1 hnow
            have hxc : x ≠ c ∧ x ≠ cb := ⟨fun e9 => P1.out.nes.1 (.inr (.inl e9)), fun e9 => P1.out.nes.1 (.inr (.inr e9))⟩
            have HST := Lib.hid hst
            have HLA := Lib.hid hlt
            have HXC := Lib.hid hxc
            have HN9 := Lib.hid hn9
            have HSY := Lib.hid hsy
            have HLE9 := Lib.hid hlen9
            have HOK := Lib.hid hok
            clear hst hlt hxc hn9 hsy hlen9 hok
            clear x2 hDl9
            go_upto_region 12 with (fail)
            go_region_held3 (fun w' => w'.cell? ⟨x, 1, none⟩ = some (.pointer (some ⟨c, 0, none⟩)))
              (first | exact x1 | exact hs9.1.cell x1 (fun e9 => e9.elim HXC.out.1 HXC.out.2))
              (first
                | (go_at_call 20; (with_reducible refine (HLA.out _ (by (repeat (first | (with_reducible assumption) | (with_reducible exact Only.refl _ _) | (with_reducible refine Only.drew ?_) | (with_reducible refine Only.alloc ?_ _) | (with_reducible refine onlySet ?_ (by first | (with_reducible assumption) | omega) _) | (with_reducible refine Only.trans ?_ (by with_reducible assumption)))))).mono ?_); rintro e9 wl ⟨rfl, rfl⟩)
                | (go_at_call 19; (with_reducible refine (HST.out _ (by (repeat (first | (with_reducible assumption) | (with_reducible exact Only.refl _ _) | (with_reducible refine Only.drew ?_) | (with_reducible refine Only.alloc ?_ _) | (with_reducible refine onlySet ?_ (by first | (with_reducible assumption) | omega) _) | (with_reducible refine Only.trans ?_ (by with_reducible assumption)))))).mono ?_); rintro e9 wz ⟨rfl, hs9⟩))
            all_goals
              have hz1 : Only (fun i => i = c ∨ i = cb) w9 wz := ⟨hs9.1.os, hs9.1.tape, hs9.1.output, hs9.1.size, hs9.1.block⟩
              have hz2 := hs9.2
              rw [HOK.out, if_pos rfl] at hz2
              have hCp : putL Cj y (min now 4611686018427387904 + wait, cntj + 1) = Cj ++ [(y, (min now 4611686018427387904 + wait, cntj + 1))] := by
                unfold putL
                rw [dropL_of_none HN9.out]
              rw [hCp] at hz2
              obtain ⟨r1, r2⟩ := P1.out.clkd hz1 hz2
              have hkk := putW_keys HMC.out.apart (e := ⟨y, e0.ver, t, a8, c8⟩) HFD.out
              have hrn : DRun (min now 4611686018427387904 + wait) L Cf cnt (D.take (j + 1)) (A ++ [AskT.mk h0 y e0.ver]) (putW Lj ⟨y, e0.ver, t, a8, c8⟩) (Cj ++ [(y, (min now 4611686018427387904 + wait, cntj + 1))]) (cntj + 1) := by
                rw [HTK.out]
                exact .keep HRUN.out HFD.out HHT.out hone
              have hsyn2 : ((Cj ++ [(y, (min now 4611686018427387904 + wait, cntj + 1))]).map (·.1) ++ D.drop (j + 1)).Perm ((putW Lj ⟨y, e0.ver, t, a8, c8⟩).map (·.key)) := by
                rw [List.map_append, List.append_assoc]
                exact HSY.out.trans hkk.symm
              have hL9 : (putW Lj ⟨y, e0.ver, t, a8, c8⟩).length ≤ 64 := by
                have h9 := hkk.length_eq
                rw [List.length_map, List.length_map] at h9
                omega
              have hrowz := owns_only HROW9.out hz1 (fun k hk e9 => by have h9 : k = c ∨ k = cb := e9; have := HLT.out; have := HF1.out.size; omega)
              have hofz := HOF9.out.trans r2
              have R1 := Lib.hid r1
              have HRN := Lib.hid hrn
              have HSY2 := Lib.hid hsyn2
              have HL9 := Lib.hid hL9
              have HROWZ := Lib.hid hrowz
              have HOFZ := Lib.hid hofz
              clear r1 hrn hsyn2 hL9 hrowz hofz
              clear hz1 hz2 hCp r2 hkk x1 hs9
              go_wp2_with fail
              go_roundg (D.length - (j + 1))
              case measure => rw [Hg.out]; omega
              case rel => exact ⟨j + 1, _, _, _, _, by go_num, by omega, HRN.out, R1.out, HSY2.out, HOFZ.out, HROWZ.out, by simp [hAl], HL9.out, by omega, by omega, rfl⟩
    · have hlt' : ¬ (j : Int) < (D.length : Int) := by omega
      have hjj : j = D.length := by omega
      rw [hjj, List.take_length] at hrun
      rw [hjj, List.drop_length, List.append_nil] at hsync
      have hWF := hmid.full hsync
      have HF := Lib.hid (show WDuePost w x kb c cb wait cnt L C now (min now 4611686018427387904 + wait) u5 wr from ⟨D, A, Lj, Cj, cntj, HDP.out, HDS.out, by rw [hCf]; exact hrun, hWF, HF1.out.trans hof, ownsRow_base_a hrowA HF1.out.size⟩)
      clear hrun hsync hWF hmid hof hrowA hAl hLj hc0 hc1 hg hjj hCf
      go_wp2_with fail
      go_ret
      exact ⟨_, rfl, HF.out⟩
end Go.Proofs.Ytefadkmdfhjaeaa
