/- The walk of bellhoplaw15.StorePlays. -/
import Derived.Test.YtianboachknfmaaDoorStoRow
import Derived.Test.YtianboachknfmaaDoorSto16
import Derived.Deep.CutBlock
namespace Go.Proofs.YtianboachknfmaaDoor
open Go.Conc Go.RowKit Go.Maps

theorem ttl_one (w : World) (s b : Nat) (most ttl r : Int) (L : List RecT) (h : StoreAt w s b most ttl r L) : Calls Tryd.prog 38 #[.pointer (some ⟨s, 0, none⟩)] w fun e w' => e = .returned (.int .i64 ttl) ∧ w = w' := sttl_any w s b most ttl r L h
/-- What Get and Find answer. -/
def GetF (L : List RecT) (y : RecT) (ok : Bool) (at_ : Int) : Prop := (ok = false ∧ at_ = -1 ∧ y = zeroR) ∨ (ok = true ∧ ∃ i, ∃ hi : i < L.length, at_ = (i : Nat) ∧ L[i] = y)
theorem get_both (w : World) (s b : Nat) (most ttl r : Int) (L : List RecT) (h : StoreAt w s b most ttl r L) (k : ByteArray) (hk : k.size ≤ 1000000) (v : Value) : ∃ (y : RecT) (ok : Bool) (at_ : Int), GetF L y ok at_ ∧
    (Calls Tryd.prog 17 #[.pointer (some ⟨s, 0, none⟩), .string k] w fun e w' => e = .returned (.tuple #[.agg #[.string y.key, .int .u64 y.ver, .int .i64 y.o, .int .i64 y.age, .bool y.gone, .string y.data], .bool ok]) ∧ Only (fun _ => False) w w') ∧
    ∀ w, RSl w v L → Calls Tryd.prog 40 #[.agg #[.int .i64 most, .int .i64 ttl, v, .int .i64 r], .string k] w fun e w' => e = .returned (.int .i64 at_) ∧ Only (fun _ => False) w w' := by
  refine ⟨findV L k, (findS L k).isSome, findI L k, ?_, sget_any w s b most ttl r L h k (by unfold maxLen; omega), fun w hv => rfind_any w most ttl r v L k hv⟩
  cases hf : findS L k with
  | none => exact .inl ⟨rfl, findI_none hf, by unfold findV; rw [hf]; rfl⟩
  | some y =>
    obtain ⟨i, hi, h1, h2, _⟩ := findI_some hf
    exact .inr ⟨rfl, i, hi, h1, by unfold findV; rw [hf]; exact h2⟩
theorem Sl.rec1 {w : World} {B : Nat} {y : RecT} {t : TypeId} (h : w.heap[B]? = some (.cells (recC y).toArray t)) : RSl w (.slice (some ⟨B, 0, none⟩) 1 1) [y] := by
  refine ⟨rfl, _, _, rfl, Nat.le_refl _, by unfold maxLen; omega, .inr ⟨B, 0, rfl, fun j u hu => ?_⟩⟩
  rw [cell_at h]
  simpa using hu
theorem Sl.recAt {w : World} {g off cap : Nat} {L : List RecT} (h : RSl w (.slice (some ⟨g, off, none⟩) L.length cap) L) (i : Nat) (hi : i < L.length) : RSl w (.slice (some ⟨g, off + i * 6, none⟩) 1 (cap - i)) [L[i]] := by
  obtain ⟨a, cap', he, h1, h2, hc⟩ := Sl.cells recC_length h
  cases he
  obtain ⟨b, o, he, hd⟩ := hc.at i hi
  cases he
  refine ⟨rfl, _, _, rfl, by show 1 ≤ _; omega, by omega, .inr ⟨_, _, rfl, fun j u hu => ?_⟩⟩
  exact hd j u (by simpa using hu)
theorem named_both (s b : Nat) (most ttl r : Int) (L : List RecT) (N : ByteArray) (v : Value) (hL : L.length ≤ 1000000) (hg : ∀ x ∈ L, 2 ≤ x.key.size ∧ x.key.size ≤ 1000000 ∧ splitS x.key = x.key.extract 2 x.key.size) : ∃ LN : List RecT,
    (∀ (w : World) (m : Int), StoreAt w s b most ttl r L → w.cell? ⟨0, 0, none⟩ = some (.int .i64 m) → Calls Tryd.prog 42 #[.pointer (some ⟨s, 0, none⟩), .string N] w fun e w' => ∃ v, e = .returned v ∧ Only (fun _ => False) w w' ∧ RSl w' v LN) ∧
    (∀ w, RSl w v L → Calls Tryd.prog 44 #[.agg #[.int .i64 most, .int .i64 ttl, v, .int .i64 r], .string N] w fun e w' => ∃ v', e = .returned v' ∧ Only (fun _ => False) w w' ∧ RSl w' v' LN) :=
  ⟨L.filter (fun x => !unnamed N x), fun w m h hm => (snamed_any w s b most ttl r L h N m hm).mono (fun _ _ ⟨v, h1, h2, h3⟩ => ⟨v, h1, h2, Sl.of_owns h3⟩), fun w hv => rnamedR_any w most ttl r v L N hv hL hg⟩
theorem StoreOk.young {most ttl : Int} {L : List RecT} (h : StoreOk most ttl L) : ∀ x ∈ L, 0 ≤ x.age ∧ x.age < 1000000 := fun x hx => by
  obtain ⟨h1, h2⟩ := h.goods x hx
  have h3 := h.ttlB
  unfold goodR goodP at h1
  simp only [Bool.and_eq_true, decide_eq_true_eq] at h1
  have h4 := h1.1.1.2
  omega
theorem tick_both (w : World) (s b : Nat) (most ttl r : Int) (L : List RecT) (h : StoreAt w s b most ttl r L) (v : Value) : ∃ (cnt : Int) (L2 : List RecT),
    (Calls Tryd.prog 18 #[.pointer (some ⟨s, 0, none⟩)] w fun e w' => e = .returned (.int .i64 cnt) ∧ Only (fun i => i = b) w w' ∧ StoreAt w' s b most ttl r L2) ∧
    ∀ w, RSl w v L → Calls Tryd.prog 39 #[.agg #[.int .i64 most, .int .i64 ttl, v, .int .i64 r]] w fun e w' => ∃ v', e = .returned (.tuple #[.agg #[.int .i64 most, .int .i64 ttl, v', .int .i64 r], .int .i64 cnt]) ∧ Only (fun _ => False) w w' ∧ RSl w' v' L2 :=
  ⟨_, _, stick_any w s b most ttl r L h, fun w hv => rtick_any w most ttl r v L hv (by have := h.ok.len; omega) h.ok.young⟩
set_option maxRecDepth 100000 in
set_option maxHeartbeats 8000000 in
theorem plays15_any (w : World) (m : Int) (hm : w.cell? ⟨0, 0, none⟩ = some (.int .i64 m)) (most ttl : Int) (v : Value) (l : List ActT) (_h0 : (Lit.int .i64 most).wf = true) (_h1 : (Lit.int .i64 ttl).wf = true) (h : Sl w 8 v l.length (l.flatMap actC)) (hl : ∀ a ∈ l, rowP_sl_acts15 a) :
    Calls Tryd.prog 7 #[.agg #[.int .i64 most, .int .i64 ttl], v] w fun e w' => e = .returned (.bool true) ∧ Only (fun _ => False) w w' := by
  obtain ⟨a, cap, rfl, c1, c2, c3⟩ := Sl.cells actC_length h
  unfold maxLen at c2
  obtain ⟨W, hW⟩ : ∃ W, W = w.alloc (.cells #[.int .i64 most, .int .i64 ttl] 93) := ⟨_, rfl⟩
  have hbW : W.heap[w.heap.size]? = some (.cells #[.int .i64 most, .int .i64 ttl] 93 (0, 0)) := by rw [hW]; exact heap_alloc_new w _
  have hoW : Only (fun _ => False) w W := by rw [hW]; exact (Only.refl _ _).alloc _
  have hsW : W.heap.size = w.heap.size + 1 := by rw [hW]; simp
  have hmW := hoW.cell hm id
  have HC := Lib.hid c3
  have HL := Lib.hid hl
  have HM := Lib.hid hmW
  have HOW := Lib.hid hoW
  have HBW := Lib.hid hbW
  clear c3 hl hmW hoW hbW
  clear h hm hsW _h0 _h1
  go_enter Tryd.func7, Tryd.ntmps7
  go_upto_region 1 with (fail)
  rw [← hW]
  clear hW
  go_wp2_with fail
  refine (speaks15_any W m HM.out).mono ?_
  rintro e w1 ⟨rfl, ho1⟩
  have hb1 := ho1.old HBW.out id
  have x0 : w1.cell? ⟨w.heap.size, 0, none⟩ = some (.int .i64 most) := cell_at hb1 0
  have x1 : w1.cell? ⟨w.heap.size, 1, none⟩ = some (.int .i64 ttl) := cell_at hb1 1
  have hoA := HOW.out.trans ho1
  have hm1 := ho1.cell HM.out id
  have HOA := Lib.hid hoA
  have HM1 := Lib.hid hm1
  have HB1 := Lib.hid hb1
  clear hoA hm1 hb1
  clear ho1
  by_cases hok : 1 ≤ most ∧ most ≤ 48 ∧ 1 ≤ ttl ∧ ttl ≤ 65535
  · obtain ⟨q1, q2, q3, q4⟩ := hok
    go_wp2_with fail
    refine (snew_ok w1 most ttl q1 q2 q3 q4).mono ?_
    rintro e w3 ⟨rfl, ho3, hs3⟩
    have hB : w1.heap.size + 1 < w3.heap.size := hs3.lt.1
    have hm3 := ho3.cell HM1.out id
    have hoC := HOA.out.trans ho3
    have hwb : w.heap.size < w1.heap.size := lt_of_block HB1.out
    have h0b : 0 < w1.heap.size := World.block_lt_of_cell? _ _ HM1.out
    have hb3 := ho3.old HB1.out id
    have x0 : w3.cell? ⟨w.heap.size, 0, none⟩ = some (.int .i64 most) := cell_at hb3 0
    have x1 : w3.cell? ⟨w.heap.size, 1, none⟩ = some (.int .i64 ttl) := cell_at hb3 1
    have HTT := Lib.hid (fun n => ttl_one (w3.drewN n) (w1.heap.size + 1) w1.heap.size most ttl 0 [] (hs3.new ((Only.refl _ _).drewN n)))
    generalize hb : w1.heap.size = b at *
    have HM3 := Lib.hid hm3
    have HOC := Lib.hid hoC
    have HS3 := Lib.hid hs3
    have HBB := Lib.hid hb
    have HB3 := Lib.hid hb3
    clear hm3 hoC hs3 hb hb3
    clear ho3 HM1 HOA
    have g1 : ¬ most < 1 := by omega
    have g2 : ¬ 48 < most := by omega
    have g3 : ¬ ttl < 1 := by omega
    have g4 : ¬ 65535 < ttl := by omega
    go_upto_region 6 with (fail)
    go_quiet ((go_at_call 38; exact quiet_id (HTT.out _)))
    obtain ⟨w4, hw4⟩ : ∃ w4, w4 = w3.drewN nq := ⟨_, rfl⟩
    have ho4 : Only (fun _ => False) w3 w4 := by rw [hw4]; exact (Only.refl _ _).drewN _
    rw [← hw4]
    clear hw4 x0 x1
    have hb4 := ho4.old HB3.out id
    have x0 : w4.cell? ⟨w.heap.size, 0, none⟩ = some (.int .i64 most) := cell_at hb4 0
    have x1 : w4.cell? ⟨w.heap.size, 1, none⟩ = some (.int .i64 ttl) := cell_at hb4 1
    obtain ⟨W5, hW5⟩ : ∃ W5, W5 = w4.alloc (.cells #[.int .i64 most, .int .i64 ttl, .slice none 0 0, .int .i64 0] 95) := ⟨_, rfl⟩
    have hbW5 : W5.heap[w4.heap.size]? = some (.cells #[.int .i64 most, .int .i64 ttl, .slice none 0 0, .int .i64 0] 95 (0, 0)) := by rw [hW5]; exact heap_alloc_new w4 _
    have hoW5 : Only (fun _ => False) w4 W5 := by rw [hW5]; exact (Only.refl _ _).alloc _
    have hsW5 : W5.heap.size = w4.heap.size + 1 := by rw [hW5]; simp
    have hoD := ho4.trans hoW5
    have hs5 := HS3.out.new hoD
    have hm5 := hoD.cell HM3.out id
    have hbM : b + 1 < w4.heap.size := Nat.lt_of_lt_of_le hB ho4.size
    have hwM : w.heap.size < w4.heap.size := Nat.lt_of_lt_of_le (Nat.lt_of_lt_of_le hwb (by omega)) ho4.size
    go_upto_region 9 with (fail)
    rw [← hW5]
    generalize hM : w4.heap.size = M at *
    have HOD := Lib.hid hoD
    have HS5 := Lib.hid hs5
    have HM5 := Lib.hid hm5
    have HBM := Lib.hid hbW5
    have HMM := Lib.hid hM
    have HSW := Lib.hid hsW5
    clear hoD hs5 hm5 hbW5 hM hsW5
    clear hW5 ho4 hb4 hoW5 x0 x1 HM3 HS3
    go_wp2_with fail
    go_loopg [8] 70 (fun gk v8 wr => ∃ (k : Nat) (L : List RecT) (r : Int) (v : Value), v8 = .int .i64 k ∧ k ≤ l.length ∧ k ≤ 70 ∧ Only (fun i => i = b + 1 ∨ i = b ∨ i = M) W5 wr ∧ StoreAt wr (b + 1) b most ttl r L ∧ wr.heap[M]? = some (.cells #[.int .i64 most, .int .i64 ttl, v, .int .i64 r] 95 (0, 0)) ∧ RSl wr v L ∧ 0 ≤ r ∧ r ≤ k ∧ gk = 70 - k)
    case atStart => exact ⟨0, [], 0, .slice none 0 0, rfl, Nat.zero_le _, Nat.zero_le _, Only.refl _ _, HS5.out, HBM.out, Sl.nil _ _, Int.le_refl _, Int.le_refl _, rfl⟩
    case round =>
      obtain ⟨k, L, r, v, rfl, hk, hk70, ho, hst, hbm, hrs, hr0, hrk, hg⟩ := hrel
      have Hg := Lib.hid hg
      have HO := Lib.hid ho
      have HST := Lib.hid hst
      have HBR := Lib.hid hbm
      have HRS := Lib.hid hrs
      clear hg ho hst hbm hrs
      by_cases hlt : k < l.length ∧ k < 70
      · obtain ⟨hlt, hlt70⟩ := hlt
        have hlt' : (k : Int) < (l.length : Int) := by omega
        have hlt70' : (k : Int) < 70 := by omega
        obtain ⟨bb, off, ha, hcc⟩ := HC.out.at k hlt
        subst ha
        have hcr : ∀ i u, (actC l[k])[i]? = some u → wr.cell? ⟨bb, off + k * 8 + i, none⟩ = some u := fun i u hu => by
          have h1 := hcc i u hu
          have h2 : bb < w.heap.size := World.block_lt_of_cell? _ _ h1
          exact HO.out.cell (HOD.out.cell (HOC.out.cell h1 id) id) (fun e => by rcases e with e | e | e <;> (simp only at e; omega))
        have hP := HL.out l[k] (List.getElem_mem hlt)
        have hm6 := HO.out.cell HM5.out (fun e => by rcases e with e | e | e <;> (simp only at e; omega))
        have HP := Lib.hid hP
        have HM6 := Lib.hid hm6
        clear hP hm6
        clear hcc
        generalize l[k] = x at *
        have HREC := Lib.hid (fun w => rec_any w x HP.out.2.2.1 HP.out.2.2.2.1 HP.out.2.2.2.2.1)
        have HNM := Lib.hid (fun w => name_any w x.nm HP.out.2.2.1)
        have hxv : (recOf x).ver < 2 ^ 64 ∧ (recOf x).key.size ≤ 1000000 := by
          obtain ⟨what, org, nm, life, cnt, age, gone, bad⟩ := x
          refine ⟨?_, ?_⟩
          · have h5 : cnt < 256 := HP.out.2.2.2.2.1
            have h6 : life % 4 < 4 := Nat.mod_lt _ (by omega)
            show life % 4 * 2 ^ 32 + cnt < 2 ^ 64
            omega
          · show (keyB _ (nameB (nm % 4))).size ≤ 1000000
            rw [keyB_size]
            have : (nameB (nm % 4)).size ≤ 10 := by
              have : nm % 4 < 4 := Nat.mod_lt _ (by omega)
              generalize nm % 4 = z at *
              rcases (by omega : z = 0 ∨ z = 1 ∨ z = 2 ∨ z = 3) with rfl | rfl | rfl | rfl <;> decide
            omega
        obtain ⟨what, org, nm, life, cnt, age, gone, bad⟩ := x
        have y0 : wr.cell? ⟨bb, off + k * 8, none⟩ = some (.int .i64 what) := hcr 0 _ rfl
        have y1 := hcr 1 _ rfl
        have y2 := hcr 2 _ rfl
        have y3 := hcr 3 _ rfl
        have y4 := hcr 4 _ rfl
        have y5 := hcr 5 _ rfl
        have y6 := hcr 6 _ rfl
        have y7 := hcr 7 _ rfl
        simp only at y1 y2 y3 y4 y5 y6 y7
        clear hcr
        have HRC := Lib.hid (HREC.out wr)
        unfold actV at HRC
        simp only at HRC HNM
        generalize recOf ⟨what, org, nm, life, cnt, age, gone, bad⟩ = x at *
        obtain ⟨xk, xv, xo, xa, xg, xd⟩ := x
        simp only at hxv
        unfold recT at HRC
        simp only at HRC
        have HXV := Lib.hid hxv
        clear hxv
        clear HREC HP
        go_wp2_with fail
        refine HRC.out.mono ?_
        rintro e w5 ⟨rfl, ho5⟩
        obtain ⟨W6, hW6⟩ : ∃ W6, W6 = w5.alloc (.cells #[.string xk, .int .u64 xv, .int .i64 xo, .int .i64 xa, .bool xg, .string xd] 33) := ⟨_, rfl⟩
        have hbW6 : W6.heap[w5.heap.size]? = some (.cells #[.string xk, .int .u64 xv, .int .i64 xo, .int .i64 xa, .bool xg, .string xd] 33 (0, 0)) := by rw [hW6]; exact heap_alloc_new w5 _
        have hoW6 : Only (fun _ => False) w5 W6 := by rw [hW6]; exact (Only.refl _ _).alloc _
        have hsW6 : W6.heap.size = w5.heap.size + 1 := by rw [hW6]; simp
        obtain ⟨W7, hW7⟩ : ∃ W7, W7 = W6.alloc (.cells #[.string xk, .int .u64 xv, .int .i64 xo, .int .i64 xa, .bool xg, .string xd] 35) := ⟨_, rfl⟩
        have hbW7 : W7.heap[W6.heap.size]? = some (.cells #[.string xk, .int .u64 xv, .int .i64 xo, .int .i64 xa, .bool xg, .string xd] 35 (0, 0)) := by rw [hW7]; exact heap_alloc_new W6 _
        have hoW7 : Only (fun _ => False) W6 W7 := by rw [hW7]; exact (Only.refl _ _).alloc _
        have hsW7 : W7.heap.size = W6.heap.size + 1 := by rw [hW7]; simp
        have ho7 := ho5.trans (hoW6.trans hoW7)
        have hbx := hoW7.old hbW6 id
        rw [hsW6] at hbW7
        have y0' := ho7.cell y0 id
        have y2' := ho7.cell y2 id
        have hst7 := HST.out.new ho7
        have hrs7 := HRS.out.new ho7
        have hbr7 := ho7.old HBR.out id
        have hoE := HO.out.trans (ho7.weaken (T := fun i => i = b + 1 ∨ i = b ∨ i = M) (fun _ _ => False.elim))
        have hm7 := ho7.cell HM6.out id
        have hMx : M < w5.heap.size := Nat.lt_of_lt_of_le (lt_of_block HBR.out) ho5.size
        have HO7 := Lib.hid ho7
        have HST7 := Lib.hid hst7
        have HOE := Lib.hid hoE
        have HM7 := Lib.hid hm7
        have HRS7 := Lib.hid hrs7
        have HBR7 := Lib.hid hbr7
        have HBX := Lib.hid hbx
        have HBY := Lib.hid hbW7
        clear ho7 hst7 hoE hm7 hrs7 hbr7 hbx hbW7
        clear y0 y1 y2 y3 y4 y5 y6 y7 hoW6 hoW7 hsW6 hsW7 hbW6 ho5 HRC
        go_upto_region 13 with (fail)
        rw [← hW6, ← hW7]
        clear hW6 hW7
        generalize hX5 : w5.heap.size = X at *
        have HX5 := Lib.hid hX5
        clear hX5
        go_cut [93] (fun v93 wx => W7 = wx ∧ ∃ q, v93 = .int .i64 q)
        case first =>
          go_wp2_with fail
          go_meet
          exact ⟨rfl, _, rfl⟩
        case rest =>
        obtain ⟨rfl, q, rfl⟩ := hcut
        obtain ⟨va, vcap, rfl, v1, v2, _⟩ := Sl.cells recC_length HRS7.out
        unfold maxLen at v2
        have hLr := HST7.out.ok.len
        clear y0'
        go_upto_block 2 with fail
        go_cut [8] (fun v8 wx => v8 = .int .i64 k ∧ ∃ L2 r2 v2, StoreAt wx (b + 1) b most ttl r2 L2 ∧ wx.heap[M]? = some (.cells #[.int .i64 most, .int .i64 ttl, v2, .int .i64 r2] 95 (0, 0)) ∧ RSl wx v2 L2 ∧ 0 ≤ r2 ∧ r2 ≤ (k : Int) + 1 ∧ Only (fun i => i = b + 1 ∨ i = b ∨ i = M) W7 wx)
        case first =>
          by_cases hq3 : q = 3
          · -- tick
            have hqb : (q == 3) = true := by rw [hq3]; rfl
            obtain ⟨cnt, L2, hTK, hRT⟩ := tick_both W7 (b + 1) b most ttl r L HST7.out (.slice va L.length vcap)
            have HTK := Lib.hid hTK
            have HRTF := Lib.hid hRT
            clear hTK hRT
            have HQ3 := Lib.hid hq3
            clear hq3
            clear y2'
            go_wp2_with fail
            refine HTK.out.mono ?_
            rintro e w8 ⟨rfl, ho8, hs8⟩
            have hrs8 := rsl_kept HRS7.out ho8 (fun g hg => by subst hg; obtain ⟨es, c, hbb, _⟩ := HST7.out.map.own; intro i s e; simp [World.cell?, hbb] at e)
            have hbr8 := ho8.old HBR7.out (by omega)
            have HRT := Lib.hid (HRTF.out w8 hrs8)
            have z0 : w8.cell? ⟨M, 0, none⟩ = some (.int .i64 most) := cell_at hbr8 0
            have z1 : w8.cell? ⟨M, 1, none⟩ = some (.int .i64 ttl) := cell_at hbr8 1
            have z2 : w8.cell? ⟨M, 2, none⟩ = some (.slice va L.length vcap) := cell_at hbr8 2
            have z3 : w8.cell? ⟨M, 3, none⟩ = some (.int .i64 r) := cell_at hbr8 3
            have HO8 := Lib.hid ho8
            have HS8 := Lib.hid hs8
            have HBR8 := Lib.hid hbr8
            clear ho8 hs8 hbr8
            clear hrs8 HRTF
            go_wp2_with fail
            refine HRT.out.mono ?_
            rintro e w9 ⟨v9, rfl, ho9, hrs9⟩
            obtain ⟨na, ncap, rfl, _, _, _⟩ := Sl.cells recC_length hrs9
            have hbr9 := ho9.old HBR8.out id
            have hs9 := HS8.out.new ho9
            have zf : ∀ i, w9.frozen? ⟨M, i, none⟩ = false := free_at hbr9
            clear z0 z1 z2 z3
            have z0 : w9.cell? ⟨M, 0, none⟩ = some (.int .i64 most) := cell_at hbr9 0
            have z1 : w9.cell? ⟨M, 1, none⟩ = some (.int .i64 ttl) := cell_at hbr9 1
            have z2 : w9.cell? ⟨M, 2, none⟩ = some (.slice va L.length vcap) := cell_at hbr9 2
            have z3 : w9.cell? ⟨M, 3, none⟩ = some (.int .i64 r) := cell_at hbr9 3
            have HRS9 := Lib.hid hrs9
            have HBR9 := Lib.hid hbr9
            have HS9 := Lib.hid hs9
            have HO9 := Lib.hid ho9
            clear hrs9 hbr9 hs9 ho9
            go_wp2_with fail
            obtain ⟨s1, s2⟩ := lit_set HBR9.out [.int .i64 most, .int .i64 ttl, .slice na L2.length ncap, .int .i64 r] rfl
            rw [show World.setCells w9 M 0 [.int .i64 most, .int .i64 ttl, .slice na L2.length ncap, .int .i64 r] = ((((w9.setCell ⟨M, 0, none⟩ (.int .i64 most)).setCell ⟨M, 1, none⟩ (.int .i64 ttl)).setCell ⟨M, 2, none⟩ (.slice na L2.length ncap)).setCell ⟨M, 3, none⟩ (.int .i64 r)) from rfl] at s1 s2
            generalize ((((w9.setCell ⟨M, 0, none⟩ (.int .i64 most)).setCell ⟨M, 1, none⟩ (.int .i64 ttl)).setCell ⟨M, 2, none⟩ (.slice na L2.length ncap)).setCell ⟨M, 3, none⟩ (.int .i64 r)) = wz at *
            have p0 : wz.cell? ⟨M, 0, none⟩ = some (.int .i64 most) := cell_at s1 0
            have p1 : wz.cell? ⟨M, 1, none⟩ = some (.int .i64 ttl) := cell_at s1 1
            have p2 : wz.cell? ⟨M, 2, none⟩ = some (.slice na L2.length ncap) := cell_at s1 2
            have p3 : wz.cell? ⟨M, 3, none⟩ = some (.int .i64 r) := cell_at s1 3
            go_meet
            refine ⟨rfl, L2, r, .slice na L2.length ncap, HS9.out.kept s2 (by omega) (by omega), s1, ?_, hr0, by omega, ?_⟩
            · exact rsl_kept HRS9.out s2 (fun g hg => by subst hg; exact no_str HBR9.out (fun u hu s => by simp at hu; rcases hu with rfl | rfl | rfl | rfl <;> simp))
            · exact ((HO8.out.weaken (fun _ _ e => .inr (.inl e))).trans (HO9.out.weaken (fun _ _ => False.elim))).trans (s2.weaken (fun _ _ e => .inr (.inr e)))
          · have hqb : (q == 3) = false := by simpa using hq3
            have HQ3 := Lib.hid hq3
            clear hq3
            by_cases hq4 : q = 4
            · -- get
              have hqb4 : (q == 4) = true := by rw [hq4]; rfl
              obtain ⟨y, ok, at_, hgf, hGT, hRF⟩ := get_both W7 (b + 1) b most ttl r L HST7.out xk HXV.out.2 (.slice va L.length vcap)
              have HGT := Lib.hid hGT
              have HRF := Lib.hid hRF
              have x0 : W7.cell? ⟨X, 0, none⟩ = some (.string xk) := cell_at HBX.out 0
              have HQ4 := Lib.hid hq4
              have HGF := Lib.hid hgf
              clear hq4 hgf
              clear hGT hRF y2'
              go_wp2_with fail
              refine HGT.out.mono ?_
              rintro e w8 ⟨rfl, ho8⟩
              obtain ⟨W9, hW9⟩ : ∃ W9, W9 = w8.alloc (.cells #[.string y.key, .int .u64 y.ver, .int .i64 y.o, .int .i64 y.age, .bool y.gone, .string y.data] 33) := ⟨_, rfl⟩
              have hbW9 : W9.heap[w8.heap.size]? = some (.cells #[.string y.key, .int .u64 y.ver, .int .i64 y.o, .int .i64 y.age, .bool y.gone, .string y.data] 33 (0, 0)) := by rw [hW9]; exact heap_alloc_new w8 _
              have hoW9 : Only (fun _ => False) w8 W9 := by rw [hW9]; exact (Only.refl _ _).alloc _
              have hsW9 : W9.heap.size = w8.heap.size + 1 := by rw [hW9]; simp
              have ho9 := ho8.trans hoW9
              have hbr9 := ho9.old HBR7.out id
              have hby9 := ho9.old HBY.out id
              have hrs9 := HRS7.out.new ho9
              have hrf := HRF.out W9 hrs9
              have z0 : W9.cell? ⟨M, 0, none⟩ = some (.int .i64 most) := cell_at hbr9 0
              have z1 : W9.cell? ⟨M, 1, none⟩ = some (.int .i64 ttl) := cell_at hbr9 1
              have z2 : W9.cell? ⟨M, 2, none⟩ = some (.slice va L.length vcap) := cell_at hbr9 2
              have z3 : W9.cell? ⟨M, 3, none⟩ = some (.int .i64 r) := cell_at hbr9 3
              have x0' : W9.cell? ⟨X + 1, 0, none⟩ = some (.string xk) := cell_at hby9 0
              have hMl : M < w8.heap.size := Nat.lt_of_lt_of_le (lt_of_block HBR7.out) ho8.size
              have HO9 := Lib.hid ho9
              have HBR9 := Lib.hid hbr9
              have HRS9 := Lib.hid hrs9
              have HRFF := Lib.hid hrf
              have HBW9 := Lib.hid hbW9
              clear ho9 hbr9 hrs9 hrf hbW9
              clear ho8 hoW9 hsW9 hby9 HGT HRF x0
              go_upto_region 25 with (fail)
              rw [← hW9]
              clear hW9
              go_wp2_with fail
              refine HRFF.out.mono ?_
              rintro e w10 ⟨rfl, ho10⟩
              have hbr10 := ho10.old HBR9.out id
              have hb10 := ho10.old HBW9.out id
              have hrs10 := HRS9.out.new ho10
              have hoz := HO9.out.trans ho10
              clear z0 z1 z2 z3 x0'
              generalize w8.heap.size = B at *
              have p0 : w10.cell? ⟨B, 0, none⟩ = some (.string y.key) := cell_at hb10 0
              have p1 : w10.cell? ⟨B, 1, none⟩ = some (.int .u64 y.ver) := cell_at hb10 1
              have p2 : w10.cell? ⟨B, 2, none⟩ = some (.int .i64 y.o) := cell_at hb10 2
              have p3 : w10.cell? ⟨B, 3, none⟩ = some (.int .i64 y.age) := cell_at hb10 3
              have p4 : w10.cell? ⟨B, 4, none⟩ = some (.bool y.gone) := cell_at hb10 4
              have p5 : w10.cell? ⟨B, 5, none⟩ = some (.string y.data) := cell_at hb10 5
              have z2 : w10.cell? ⟨M, 2, none⟩ = some (.slice va L.length vcap) := cell_at hbr10 2
              have hs10 := HST7.out.new hoz
              have hb10' := hb10
              have HBR10 := Lib.hid hbr10
              have HRS10 := Lib.hid hrs10
              have HOZ := Lib.hid hoz
              have HS10 := Lib.hid hs10
              have HB10 := Lib.hid hb10'
              clear hbr10 hrs10 hoz hs10 hb10'
              clear ho10
              rcases HGF.out with ⟨rfl, rfl, rfl⟩ | ⟨rfl, i, hi, rfl, hLi⟩
              · -- gnone
                have hne : ∀ w, (binOp BinOp.neq 33 (.agg #[.string ⟨#[]⟩, .int .u64 0, .int .i64 0, .int .i64 0, .bool false, .string ⟨#[]⟩]) (.agg #[.string ⟨#[]⟩, .int .u64 0, .int .i64 0, .int .i64 0, .bool false, .string ⟨#[]⟩])).run Tryd.prog w = .ok (.bool false) w := fun w => by
                  rw [neR]
                  simp
                have p0' : w10.cell? ⟨B, 0, none⟩ = some (.string ⟨#[]⟩) := p0
                have p1' : w10.cell? ⟨B, 1, none⟩ = some (.int .u64 0) := p1
                have p2' : w10.cell? ⟨B, 2, none⟩ = some (.int .i64 0) := p2
                have p3' : w10.cell? ⟨B, 3, none⟩ = some (.int .i64 0) := p3
                have p4' : w10.cell? ⟨B, 4, none⟩ = some (.bool false) := p4
                have p5' : w10.cell? ⟨B, 5, none⟩ = some (.string ⟨#[]⟩) := p5
                clear p0 p1 p2 p3 p4 p5
                go_upto_region 26 with (fail)
                go_quiet (fail)
                go_wp2_with fail
                go_meet
                exact ⟨rfl, L, r, _, HS10.out.new ((Only.refl _ _).drewN _), HBR10.out, HRS10.out.new ((Only.refl _ _).drewN _), hr0, by omega, (HOZ.out.drewN _).weaken (fun _ _ => False.elim)⟩
              · -- gsome
                obtain ⟨_, _, hve, _, _, hcs⟩ := Sl.cells recC_length HRS10.out
                cases hve
                obtain ⟨g, goff, rfl, _⟩ := hcs.at i hi
                have hR := Sl.recAt HRS10.out i hi
                rw [hLi] at hR
                have hHC : ∀ w', Only (fun _ => False) w10 w' → w'.cell? ⟨B, 0, none⟩ = some (.string y.key) ∧ w'.cell? ⟨B, 1, none⟩ = some (.int .u64 y.ver) ∧ w'.cell? ⟨B, 2, none⟩ = some (.int .i64 y.o) ∧ w'.cell? ⟨B, 3, none⟩ = some (.int .i64 y.age) ∧ w'.cell? ⟨B, 4, none⟩ = some (.bool y.gone) ∧ w'.cell? ⟨B, 5, none⟩ = some (.string y.data) ∧ w'.cell? ⟨M, 2, none⟩ = some (.slice (some ⟨g, goff, none⟩) L.length vcap) := fun w' h => ⟨h.cell p0 id, h.cell p1 id, h.cell p2 id, h.cell p3 id, h.cell p4 id, h.cell p5 id, h.cell z2 id⟩
                have i1 : (0 : Int) ≤ (i : Int) := by omega
                have i2 : (i : Int) < (L.length : Int) := by omega
                have i3 : (i : Int) + 1 ≤ (vcap : Int) := by omega
                have i4 : IntKind.i64.wrap ((i : Int) + 1) = (i : Int) + 1 := IntWalk.i64_in _ (by omega)
                have i5 : ((i : Int) + 1).toNat = i + 1 := by omega
                have i6 : i + 1 ≤ vcap := by omega
                have i7 : ¬ vcap = i := by omega
                have i8 : (0 : Int) ≤ (i : Int) + 1 := by omega
                have HR := Lib.hid hR
                have HHC := Lib.hid hHC
                have HLI := Lib.hid hLi
                clear hR hHC hLi
                clear hcs
                go_upto_region 26 with (fail)
                have iM : M < w10.heap.size := lt_of_block HBR10.out
                have iB : B < w10.heap.size := lt_of_block HB10.out
                refine wp_region_held_drew (S := (fun w' => Only (fun _ => False) w10 w' ∧ w'.cell? ⟨B, 0, none⟩ = some (.string y.key) ∧ w'.cell? ⟨B, 1, none⟩ = some (.int .u64 y.ver) ∧ w'.cell? ⟨B, 2, none⟩ = some (.int .i64 y.o) ∧ w'.cell? ⟨B, 3, none⟩ = some (.int .i64 y.age) ∧ w'.cell? ⟨B, 4, none⟩ = some (.bool y.gone) ∧ w'.cell? ⟨B, 5, none⟩ = some (.string y.data) ∧ w'.cell? ⟨M, 2, none⟩ = some (.slice (some ⟨g, goff, none⟩) L.length vcap))) (by kernel_rfl) (heldO HHC.out ((Only.refl _ _).drew)) (fun hHeld => ?_)
                refine wpAnyH_take (i := 0) (oi := _) (v := ?v0) rfl (by kernel_rfl) (by kernel_rfl) (by kernel_rfl) (fun _ _ _ h => h) (Or.inl ⟨by rfl, ?hy0⟩) hHeld ?rest0
                case hy0 =>
                  intro w hSw
                  try dsimp only at hSw
                  go_simp
                  try with_reducible rfl
                try simp only [Act.put, List.setIfInBounds_toArray, List.set_cons_zero, List.set_cons_succ, List.getElem_toArray, List.getElem_cons_zero]
                refine wpAnyH_take (i := 1) (oi := _) (v := ?v1) rfl (by kernel_rfl) (by kernel_rfl) (by kernel_rfl) (fun _ _ _ h => h) (Or.inl ⟨by rfl, ?hy1⟩) hHeld ?rest1
                case hy1 =>
                  intro w hSw
                  try dsimp only at hSw
                  go_simp
                  try with_reducible rfl
                try simp only [Act.put, List.setIfInBounds_toArray, List.set_cons_zero, List.set_cons_succ, List.getElem_toArray, List.getElem_cons_zero, List.getElem_cons_succ]
                refine wpAnyH_take (i := 2) (oi := _) (v := ?v2) rfl (by kernel_rfl) (by kernel_rfl) (by kernel_rfl) (fun _ _ _ h => h) (Or.inl ⟨by rfl, ?hy2⟩) hHeld ?rest2
                case hy2 =>
                  intro w hSw
                  try dsimp only at hSw
                  go_simp
                  try with_reducible rfl
                try simp only [Act.put, List.setIfInBounds_toArray, List.set_cons_zero, List.set_cons_succ, List.getElem_toArray, List.getElem_cons_zero, List.getElem_cons_succ]
                refine wpAnyH_take (i := 3) (oi := _) (v := ?v3) rfl (by kernel_rfl) (by kernel_rfl) (by kernel_rfl) (fun _ _ _ h => h) (Or.inl ⟨by rfl, ?hy3⟩) hHeld ?rest3
                case hy3 =>
                  intro w hSw
                  try dsimp only at hSw
                  go_simp
                  try with_reducible rfl
                try simp only [Act.put, List.setIfInBounds_toArray, List.set_cons_zero, List.set_cons_succ, List.getElem_toArray, List.getElem_cons_zero, List.getElem_cons_succ]
                refine wpAnyH_take (i := 4) (oi := _) (v := ?v4) rfl (by kernel_rfl) (by kernel_rfl) (by kernel_rfl) (fun _ _ _ h => h) (Or.inl ⟨by rfl, ?hy4⟩) hHeld ?rest4
                case hy4 =>
                  intro w hSw
                  try dsimp only at hSw
                  go_simp
                  try with_reducible rfl
                try simp only [Act.put, List.setIfInBounds_toArray, List.set_cons_zero, List.set_cons_succ, List.getElem_toArray, List.getElem_cons_zero, List.getElem_cons_succ]
                refine wpAnyH_take (i := 5) (oi := _) (v := ?v5) rfl (by kernel_rfl) (by kernel_rfl) (by kernel_rfl) (fun _ _ _ h => h) (Or.inl ⟨by rfl, ?hy5⟩) hHeld ?rest5
                case hy5 =>
                  intro w hSw
                  try dsimp only at hSw
                  go_simp
                  try with_reducible rfl
                try simp only [Act.put, List.setIfInBounds_toArray, List.set_cons_zero, List.set_cons_succ, List.getElem_toArray, List.getElem_cons_zero, List.getElem_cons_succ]
                refine wpAnyH_take (i := 6) (oi := _) (v := ?v6) rfl (by kernel_rfl) (by kernel_rfl) (by kernel_rfl) (fun _ _ _ h => h) (Or.inl ⟨by rfl, ?hy6⟩) hHeld ?rest6
                case hy6 =>
                  intro w hSw
                  try dsimp only at hSw
                  go_simp
                  try with_reducible rfl
                try simp only [Act.put, List.setIfInBounds_toArray, List.set_cons_zero, List.set_cons_succ, List.getElem_toArray, List.getElem_cons_zero, List.getElem_cons_succ]
                refine wpAnyH_take (i := 7) (oi := _) (v := ?v7) rfl (by kernel_rfl) (by kernel_rfl) (by kernel_rfl) (fun _ _ _ h => h) (Or.inl ⟨by rfl, ?hy7⟩) hHeld ?rest7
                case hy7 =>
                  intro w hSw
                  try dsimp only at hSw
                  go_simp
                  try with_reducible rfl
                try simp only [Act.put, List.setIfInBounds_toArray, List.set_cons_zero, List.set_cons_succ, List.getElem_toArray, List.getElem_cons_zero, List.getElem_cons_succ]
                refine wpAnyH_take (i := 9) (oi := _) (v := ?v9) rfl (by kernel_rfl) (by kernel_rfl) (by kernel_rfl) (fun _ _ _ h => h) (Or.inl ⟨by rfl, ?hy9⟩) hHeld ?rest9
                case hy9 =>
                  intro w hSw
                  try dsimp only at hSw
                  go_simp
                  try with_reducible rfl
                try simp only [Act.put, List.setIfInBounds_toArray, List.set_cons_zero, List.set_cons_succ, List.getElem_toArray, List.getElem_cons_zero, List.getElem_cons_succ]
                refine wpAnyH_take (i := 10) (oi := _) (v := ?v10) rfl (by kernel_rfl) (by kernel_rfl) (by kernel_rfl) (fun _ _ _ h => h) (Or.inl ⟨by rfl, ?hy10⟩) hHeld ?rest10
                case hy10 =>
                  intro w hSw
                  try dsimp only at hSw
                  go_simp
                  try with_reducible rfl
                try simp only [Act.put, List.setIfInBounds_toArray, List.set_cons_zero, List.set_cons_succ, List.getElem_toArray, List.getElem_cons_zero, List.getElem_cons_succ]
                refine wpAnyH_take (i := 11) (oi := _) (v := ?v11) rfl (by kernel_rfl) (by kernel_rfl) (by kernel_rfl) (fun _ _ _ h => h) (Or.inl ⟨by rfl, ?hy11⟩) hHeld ?rest11
                case hy11 =>
                  intro w hSw
                  try dsimp only at hSw
                  go_simp
                  try with_reducible rfl
                try simp only [Act.put, List.setIfInBounds_toArray, List.set_cons_zero, List.set_cons_succ, List.getElem_toArray, List.getElem_cons_zero, List.getElem_cons_succ]
                refine wpAnyH_take (i := 12) (oi := _) (v := ?v12) rfl (by kernel_rfl) (by kernel_rfl) (by kernel_rfl) (fun _ _ _ h => h) (Or.inl ⟨by rfl, ?hy12⟩) hHeld ?rest12
                case hy12 =>
                  intro w hSw
                  try dsimp only at hSw
                  go_simp
                  try with_reducible rfl
                try simp only [Act.put, List.setIfInBounds_toArray, List.set_cons_zero, List.set_cons_succ, List.getElem_toArray, List.getElem_cons_zero, List.getElem_cons_succ]
                refine wpAnyH_take (i := 13) (oi := _) (v := ?v13) rfl (by kernel_rfl) (by kernel_rfl) (by kernel_rfl) (fun _ _ _ h => h) (Or.inl ⟨by rfl, ?hy13⟩) hHeld ?rest13
                case hy13 =>
                  intro w hSw
                  try dsimp only at hSw
                  go_simp
                  try with_reducible rfl
                try simp only [Act.put, List.setIfInBounds_toArray, List.set_cons_zero, List.set_cons_succ, List.getElem_toArray, List.getElem_cons_zero, List.getElem_cons_succ]
                refine wpAnyH_take (i := 14) (oi := _) (v := ?v14) rfl (by kernel_rfl) (by kernel_rfl) (by kernel_rfl) (fun _ _ _ h => h) (Or.inl ⟨by rfl, ?hy14⟩) hHeld ?rest14
                case hy14 =>
                  intro w hSw
                  try dsimp only at hSw
                  go_simp
                  try with_reducible rfl
                try simp only [Act.put, List.setIfInBounds_toArray, List.set_cons_zero, List.set_cons_succ, List.getElem_toArray, List.getElem_cons_zero, List.getElem_cons_succ]
                refine wpAnyH_ready (rs := [8]) (by kernel_rfl) (by simp) ?_
                refine AllReadyH.cons (o := _) rfl (fun K hK => ?_) AllReadyH.nil
                go_simp
                refine hK.out _ _ (heldO HHC.out (((Only.refl _ _).alloc _).drew)) (fun hNew => ?_)
                clear hK K hHeld
                have hHeld := hNew
                clear hNew
                try simp only [Act.put, List.setIfInBounds_toArray, List.set_cons_zero, List.set_cons_succ, List.getElem_toArray, List.getElem_cons_zero, List.getElem_cons_succ]
                refine wpAnyH_ready (rs := [15]) (by kernel_rfl) (by simp) ?_
                refine AllReadyH.cons (o := _) rfl (fun K hK => ?_) AllReadyH.nil
                go_simp
                refine (same15_any _ _ _ [y] (Sl.rec1 (heapA w10 _ _ rfl)) (Sl.new HR.out ((Only.refl _ _).alloc _).drew)).mono ?_
                rintro e w11 ⟨rfl, ho11⟩
                try go_wp2_with fail
                refine hK.out _ _ (heldO HHC.out (hHeld.1.trans ho11)) (fun hNew => ?_)
                clear hK K hHeld
                have hHeld := hNew
                clear hNew
                try simp only [Act.put, List.setIfInBounds_toArray, List.set_cons_zero, List.set_cons_succ, List.getElem_toArray, List.getElem_cons_zero, List.getElem_cons_succ]
                refine wpAnyH_take (i := 16) (oi := _) (v := ?v16) rfl (by kernel_rfl) (by kernel_rfl) (by kernel_rfl) (fun _ _ _ h => h) (Or.inl ⟨by rfl, ?hy16⟩) hHeld ?rest16
                case hy16 =>
                  intro w hSw
                  try dsimp only at hSw
                  go_simp
                  try with_reducible rfl
                try simp only [Act.put, List.setIfInBounds_toArray, List.set_cons_zero, List.set_cons_succ, List.getElem_toArray, List.getElem_cons_zero, List.getElem_cons_succ]
                refine wpAnyH_take (i := 17) (oi := _) (v := ?v17) rfl (by kernel_rfl) (by kernel_rfl) (by kernel_rfl) (fun _ _ _ h => h) (Or.inl ⟨by rfl, ?hy17⟩) hHeld ?rest17
                case hy17 =>
                  intro w hSw
                  try dsimp only at hSw
                  go_simp
                  try with_reducible rfl
                try simp only [Act.put, List.setIfInBounds_toArray, List.set_cons_zero, List.set_cons_succ, List.getElem_toArray, List.getElem_cons_zero, List.getElem_cons_succ]
                refine wpAnyH_take (i := 18) (oi := _) (v := ?v18) rfl (by kernel_rfl) (by kernel_rfl) (by kernel_rfl) (fun _ _ _ h => h) (Or.inl ⟨by rfl, ?hy18⟩) hHeld ?rest18
                case hy18 =>
                  intro w hSw
                  try dsimp only at hSw
                  go_simp
                  try with_reducible rfl
                try simp only [Act.put, List.setIfInBounds_toArray, List.set_cons_zero, List.set_cons_succ, List.getElem_toArray, List.getElem_cons_zero, List.getElem_cons_succ]
                refine wpAnyH_take (i := 19) (oi := _) (v := ?v19) rfl (by kernel_rfl) (by kernel_rfl) (by kernel_rfl) (fun _ _ _ h => h) (Or.inl ⟨by rfl, ?hy19⟩) hHeld ?rest19
                case hy19 =>
                  intro w hSw
                  try dsimp only at hSw
                  go_simp
                  try with_reducible rfl
                try simp only [Act.put, List.setIfInBounds_toArray, List.set_cons_zero, List.set_cons_succ, List.getElem_toArray, List.getElem_cons_zero, List.getElem_cons_succ]
                refine wpAnyH_take (i := 20) (oi := _) (v := ?v20) rfl (by kernel_rfl) (by kernel_rfl) (by kernel_rfl) (fun _ _ _ h => h) (Or.inl ⟨by rfl, ?hy20⟩) hHeld ?rest20
                case hy20 =>
                  intro w hSw
                  try dsimp only at hSw
                  go_simp
                  try with_reducible rfl
                try simp only [Act.put, List.setIfInBounds_toArray, List.set_cons_zero, List.set_cons_succ, List.getElem_toArray, List.getElem_cons_zero, List.getElem_cons_succ]
                refine wpAnyH_take (i := 21) (oi := _) (v := ?v21) rfl (by kernel_rfl) (by kernel_rfl) (by kernel_rfl) (fun _ _ _ h => h) (Or.inl ⟨by rfl, ?hy21⟩) hHeld ?rest21
                case hy21 =>
                  intro w hSw
                  try dsimp only at hSw
                  go_simp
                  try with_reducible rfl
                try simp only [Act.put, List.setIfInBounds_toArray, List.set_cons_zero, List.set_cons_succ, List.getElem_toArray, List.getElem_cons_zero, List.getElem_cons_succ]
                refine wpAnyH_take (i := 22) (oi := _) (v := ?v22) rfl (by kernel_rfl) (by kernel_rfl) (by kernel_rfl) (fun _ _ _ h => h) (Or.inl ⟨by rfl, ?hy22⟩) hHeld ?rest22
                case hy22 =>
                  intro w hSw
                  try dsimp only at hSw
                  go_simp
                  try with_reducible rfl
                try simp only [Act.put, List.setIfInBounds_toArray, List.set_cons_zero, List.set_cons_succ, List.getElem_toArray, List.getElem_cons_zero, List.getElem_cons_succ]
                refine wpAnyH_take (i := 23) (oi := _) (v := undef) rfl (by kernel_rfl) (by kernel_rfl) (by kernel_rfl) (fun _ _ _ h => h) (Or.inr ⟨by rfl, rfl⟩) hHeld ?_
                try simp only [Act.put, List.setIfInBounds_toArray, List.set_cons_zero, List.set_cons_succ, List.getElem_toArray, List.getElem_cons_zero, List.getElem_cons_succ]
                refine wpAnyH_take (i := 24) (oi := _) (v := undef) rfl (by kernel_rfl) (by kernel_rfl) (by kernel_rfl) (fun _ _ _ h => h) (Or.inr ⟨by rfl, rfl⟩) hHeld ?_
                try simp only [Act.put, List.setIfInBounds_toArray, List.set_cons_zero, List.set_cons_succ, List.getElem_toArray, List.getElem_cons_zero, List.getElem_cons_succ]
                refine wpAnyH_take (i := 25) (oi := _) (v := undef) rfl (by kernel_rfl) (by kernel_rfl) (by kernel_rfl) (fun _ _ _ h => h) (Or.inr ⟨by rfl, rfl⟩) hHeld ?_
                try simp only [Act.put, List.setIfInBounds_toArray, List.set_cons_zero, List.set_cons_succ, List.getElem_toArray, List.getElem_cons_zero, List.getElem_cons_succ]
                refine wpAnyH_take (i := 26) (oi := _) (v := ?v26) rfl (by kernel_rfl) (by kernel_rfl) (by kernel_rfl) (fun _ _ _ h => h) (Or.inl ⟨by rfl, ?hy26⟩) hHeld ?rest26
                case hy26 =>
                  intro w hSw
                  try dsimp only at hSw
                  go_simp
                  try with_reducible rfl
                try simp only [Act.put, List.setIfInBounds_toArray, List.set_cons_zero, List.set_cons_succ, List.getElem_toArray, List.getElem_cons_zero, List.getElem_cons_succ]
                refine wpAnyH_take (i := 27) (oi := _) (v := ?v27) rfl (by kernel_rfl) (by kernel_rfl) (by kernel_rfl) (fun _ _ _ h => h) (Or.inl ⟨by rfl, ?hy27⟩) hHeld ?rest27
                case hy27 =>
                  intro w hSw
                  try dsimp only at hSw
                  go_simp
                  try with_reducible rfl
                try simp only [Act.put, List.setIfInBounds_toArray, List.set_cons_zero, List.set_cons_succ, List.getElem_toArray, List.getElem_cons_zero, List.getElem_cons_succ]
                refine wpAnyH_done (by kernel_rfl) ?_ _
                have ho12 := hHeld.1
                clear hHeld
                have HO12 := Lib.hid ho12
                clear ho12
                go_wp2_with fail
                go_meet
                exact ⟨rfl, L, r, _, HS10.out.new HO12.out, HO12.out.old HBR10.out id, HRS10.out.new HO12.out, hr0, by omega, (HOZ.out.trans HO12.out).weaken (fun _ _ => False.elim)⟩
            · have hqb4 : (q == 4) = false := by simpa using hq4
              have HQ4 := Lib.hid hq4
              clear hq4
              by_cases hq5 : q = 5
              · -- named
                as_aux_lemma =>
                have hqb5 : (q == 5) = true := by rw [hq5]; rfl
                have hHC : ∀ w', Only (fun _ => False) W7 w' → w'.cell? ⟨bb, off + k * 8 + 2, none⟩ = some (.int .u8 nm) ∧ w'.cell? ⟨M, 0, none⟩ = some (.int .i64 most) ∧ w'.cell? ⟨M, 1, none⟩ = some (.int .i64 ttl) ∧ w'.cell? ⟨M, 2, none⟩ = some (.slice va L.length vcap) ∧ w'.cell? ⟨M, 3, none⟩ = some (.int .i64 r) := fun w' h => ⟨h.cell y2' id, cell_at (h.old HBR7.out id) 0, cell_at (h.old HBR7.out id) 1, cell_at (h.old HBR7.out id) 2, cell_at (h.old HBR7.out id) 3⟩
                have hgs : ∀ x ∈ L, 2 ≤ x.key.size ∧ x.key.size ≤ 1000000 ∧ splitS x.key = x.key.extract 2 x.key.size := fun x hx => good_split (HST7.out.ok.goods x hx).1
                generalize nameB (nm % 4) = N at HNM
                obtain ⟨LN, hSN, hRN⟩ := named_both (b + 1) b most ttl r L N (.slice va L.length vcap) (by omega) hgs
                have HQ5 := Lib.hid hq5
                have HHC := Lib.hid hHC
                have HSN := Lib.hid hSN
                have HRN := Lib.hid hRN
                clear hq5 hHC hSN hRN
                clear hgs
                have z0 : W7.cell? ⟨M, 0, none⟩ = some (.int .i64 most) := cell_at HBR7.out 0
                have z1 : W7.cell? ⟨M, 1, none⟩ = some (.int .i64 ttl) := cell_at HBR7.out 1
                have z2 : W7.cell? ⟨M, 2, none⟩ = some (.slice va L.length vcap) := cell_at HBR7.out 2
                have z3 : W7.cell? ⟨M, 3, none⟩ = some (.int .i64 r) := cell_at HBR7.out 3
                go_upto_region 29 with (fail)
                go_region_held3 (fun w' => Only (fun _ => False) W7 w' ∧ w'.cell? ⟨bb, off + k * 8 + 2, none⟩ = some (.int .u8 nm) ∧ w'.cell? ⟨M, 0, none⟩ = some (.int .i64 most) ∧ w'.cell? ⟨M, 1, none⟩ = some (.int .i64 ttl) ∧ w'.cell? ⟨M, 2, none⟩ = some (.slice va L.length vcap) ∧ w'.cell? ⟨M, 3, none⟩ = some (.int .i64 r))
                  ((go_split_ands; (refine heldO HHC.out ?_); (repeat (first | (with_reducible assumption) | (with_reducible exact Only.refl _ _) | (with_reducible refine Only.drew ?_) | (with_reducible refine Only.alloc ?_ _) | (with_reducible refine onlySet ?_ (by first | (with_reducible assumption) | omega) _) | (with_reducible refine Only.trans ?_ (by with_reducible assumption))))))
                  (first
                    | (go_at_call 43; (with_reducible refine (HNM.out _).mono ?_); rintro e w8 ⟨rfl, hd8⟩; (try have hra := Sl.new hra hd8); (try have hrb := Sl.new hrb hd8))
                    | (go_at_call 42; go_split_ands; (with_reducible refine (HSN.out _ m (HST7.out.new (by first | with_reducible assumption | exact (Only.refl _ _).drew)) (Only.cell (by first | with_reducible assumption | exact (Only.refl _ _).drew) HM7.out id)).mono ?_); rintro e w9 ⟨v9, rfl, hd9, hrow9⟩; have hra := hrow9; (try have hrb := Sl.new hrb hd9))
                    | (go_at_call 44; go_split_ands; (with_reducible refine (HRN.out _ (HRS7.out.new (by first | with_reducible assumption | exact (Only.refl _ _).drew))).mono ?_); rintro e w10 ⟨v10, rfl, hd10, hrow10⟩; have hrb := hrow10; (try have hra := Sl.new hra hd10))
                    | (go_at_call 41; (with_reducible refine (same15_any _ _ _ _ hra hrb).mono ?_); rintro e w11 ⟨rfl, hd11⟩))
                all_goals
                  go_split_ands
                  go_wp2_with fail
                  go_meet
                  have hoz : Only (fun _ => False) W7 w11 := by with_reducible assumption
                  exact ⟨rfl, L, r, _, HST7.out.new hoz, hoz.old HBR7.out id, HRS7.out.new hoz, hr0, by omega, hoz.weaken (fun _ _ => False.elim)⟩
              · -- put
                have hqb5 : (q == 5) = false := by simpa using hq5
                have HQ5 := Lib.hid hq5
                clear hq5
                clear y2'
                have HPT := Lib.hid (sput_any W7 (b + 1) b most ttl r L HST7.out ⟨xk, xv, xo, xa, xg, xd⟩ m HM7.out HXV.out.1 HXV.out.2 hr0 (by omega))
                unfold recT at HPT
                simp only at HPT
                have x0 : W7.cell? ⟨X, 0, none⟩ = some (.string xk) := cell_at HBX.out 0
                have x1 : W7.cell? ⟨X, 1, none⟩ = some (.int .u64 xv) := cell_at HBX.out 1
                have x2 : W7.cell? ⟨X, 2, none⟩ = some (.int .i64 xo) := cell_at HBX.out 2
                have x3 : W7.cell? ⟨X, 3, none⟩ = some (.int .i64 xa) := cell_at HBX.out 3
                have x4 : W7.cell? ⟨X, 4, none⟩ = some (.bool xg) := cell_at HBX.out 4
                have x5 : W7.cell? ⟨X, 5, none⟩ = some (.string xd) := cell_at HBX.out 5
                go_wp2_with fail
                refine HPT.out.mono ?_
                rintro e w8 ⟨rfl, ho8, hs8⟩
                have hno : ∀ g, (g = b + 1 ∨ g = b) → ∀ i s, W7.cell? ⟨g, i, none⟩ ≠ some (.string s) := fun g hg => by
                  rcases hg with rfl | rfl
                  · exact no_str HST7.out.blk (fun u hu s => by simp at hu; rcases hu with rfl | rfl | rfl | rfl <;> simp)
                  · obtain ⟨es, c, hbb, _⟩ := HST7.out.map.own
                    intro i s e
                    simp [World.cell?, hbb] at e
                have hrs8 := rsl_kept HRS7.out ho8 hno
                have hbr8 := ho8.old HBR7.out (by omega)
                have hby8 := ho8.old HBY.out (by omega)
                have HRT := Lib.hid (rput_any w8 most ttl r (.slice va L.length vcap) L hrs8 (by omega) HST7.out.ok.rises ⟨xk, xv, xo, xa, xg, xd⟩ HXV.out.2 hr0 (by omega))
                unfold rstV recT at HRT
                simp only at HRT
                clear x0 x1 x2 x3 x4 x5
                have z0 : w8.cell? ⟨M, 0, none⟩ = some (.int .i64 most) := cell_at hbr8 0
                have z1 : w8.cell? ⟨M, 1, none⟩ = some (.int .i64 ttl) := cell_at hbr8 1
                have z2 : w8.cell? ⟨M, 2, none⟩ = some (.slice va L.length vcap) := cell_at hbr8 2
                have z3 : w8.cell? ⟨M, 3, none⟩ = some (.int .i64 r) := cell_at hbr8 3
                have x0 : w8.cell? ⟨(X + 1), 0, none⟩ = some (.string xk) := cell_at hby8 0
                have x1 : w8.cell? ⟨(X + 1), 1, none⟩ = some (.int .u64 xv) := cell_at hby8 1
                have x2 : w8.cell? ⟨(X + 1), 2, none⟩ = some (.int .i64 xo) := cell_at hby8 2
                have x3 : w8.cell? ⟨(X + 1), 3, none⟩ = some (.int .i64 xa) := cell_at hby8 3
                have x4 : w8.cell? ⟨(X + 1), 4, none⟩ = some (.bool xg) := cell_at hby8 4
                have x5 : w8.cell? ⟨(X + 1), 5, none⟩ = some (.string xd) := cell_at hby8 5
                have HO8 := Lib.hid ho8
                have HS8 := Lib.hid hs8
                have HBR8 := Lib.hid hbr8
                clear ho8 hs8 hbr8
                clear hrs8 hby8 hno
                go_wp2_with fail
                refine HRT.out.mono ?_
                rintro e w9 ⟨v9, rfl, ho9, hrs9⟩
                unfold rstV
                obtain ⟨na, ncap, rfl, _, _, _⟩ := Sl.cells recC_length hrs9
                have hbr9 := ho9.old HBR8.out id
                have hs9 := HS8.out.new ho9
                have hr5 : 0 ≤ putR most ttl L ⟨xk, xv, xo, xa, xg, xd⟩ r ∧ putR most ttl L ⟨xk, xv, xo, xa, xg, xd⟩ r ≤ (k : Int) + 1 := by unfold putR; split <;> omega
                generalize putR most ttl L ⟨xk, xv, xo, xa, xg, xd⟩ r = r2 at *
                generalize putS most ttl L ⟨xk, xv, xo, xa, xg, xd⟩ = L2 at *
                generalize putE most ttl L ⟨xk, xv, xo, xa, xg, xd⟩ = E at *
                have zf : ∀ i, w9.frozen? ⟨M, i, none⟩ = false := free_at hbr9
                clear z0 z1 z2 z3 x0 x1 x2 x3 x4 x5
                have z0 : w9.cell? ⟨M, 0, none⟩ = some (.int .i64 most) := cell_at hbr9 0
                have z1 : w9.cell? ⟨M, 1, none⟩ = some (.int .i64 ttl) := cell_at hbr9 1
                have z2 : w9.cell? ⟨M, 2, none⟩ = some (.slice va L.length vcap) := cell_at hbr9 2
                have z3 : w9.cell? ⟨M, 3, none⟩ = some (.int .i64 r) := cell_at hbr9 3
                have HRS9 := Lib.hid hrs9
                have HBR9 := Lib.hid hbr9
                have HS9 := Lib.hid hs9
                have HO9 := Lib.hid ho9
                clear hrs9 hbr9 hs9 ho9
                go_wp2_with fail
                obtain ⟨s1, s2⟩ := lit_set HBR9.out [.int .i64 most, .int .i64 ttl, .slice na L2.length ncap, .int .i64 r2] rfl
                rw [show World.setCells w9 M 0 [.int .i64 most, .int .i64 ttl, .slice na L2.length ncap, .int .i64 r2] = ((((w9.setCell ⟨M, 0, none⟩ (.int .i64 most)).setCell ⟨M, 1, none⟩ (.int .i64 ttl)).setCell ⟨M, 2, none⟩ (.slice na L2.length ncap)).setCell ⟨M, 3, none⟩ (.int .i64 r2)) from rfl] at s1 s2
                generalize ((((w9.setCell ⟨M, 0, none⟩ (.int .i64 most)).setCell ⟨M, 1, none⟩ (.int .i64 ttl)).setCell ⟨M, 2, none⟩ (.slice na L2.length ncap)).setCell ⟨M, 3, none⟩ (.int .i64 r2)) = wz at *
                have p0 : wz.cell? ⟨M, 0, none⟩ = some (.int .i64 most) := cell_at s1 0
                have p1 : wz.cell? ⟨M, 1, none⟩ = some (.int .i64 ttl) := cell_at s1 1
                have p2 : wz.cell? ⟨M, 2, none⟩ = some (.slice na L2.length ncap) := cell_at s1 2
                have p3 : wz.cell? ⟨M, 3, none⟩ = some (.int .i64 r2) := cell_at s1 3
                go_meet
                refine ⟨rfl, L2, r2, .slice na L2.length ncap, HS9.out.kept s2 (by omega) (by omega), s1, ?_, hr5.1, hr5.2, ?_⟩
                · exact rsl_kept HRS9.out s2 (fun g hg => by subst hg; exact no_str HBR9.out (fun u hu s => by simp at hu; rcases hu with rfl | rfl | rfl | rfl <;> simp))
                · exact ((HO8.out.weaken (fun _ _ e => e.elim .inl (fun e => .inr (.inl e)))).trans (HO9.out.weaken (fun _ _ => False.elim))).trans (s2.weaken (fun _ _ e => .inr (.inr e)))
        case rest =>
        as_aux_lemma =>
        obtain ⟨rfl, L2, r2, v2, hs8, hb8, hr8, hr20, hr2k, ho8⟩ := hcut
        have hoF := HOE.out.trans ho8
        have hLr2 := hs8.ok.len
        obtain ⟨ua, ucap, rfl, u1, u2, u3⟩ := Sl.cells recC_length hr8
        unfold maxLen at u2
        have HS8 := Lib.hid hs8
        have HB8 := Lib.hid hb8
        have HR8 := Lib.hid hr8
        have HOF := Lib.hid hoF
        clear hs8 hb8 hr8 hoF
        clear ho8 y2' u3
        go_wp2_with fail
        refine (sids_any wc (b + 1) b most ttl r2 L2 HS8.out).mono ?_
        rintro e w9 ⟨v9, rfl, ho9, hrow9⟩
        obtain ⟨ia, icap, rfl, j1, j2, j3⟩ := Sl.cells idC_length (Sl.of_owns hrow9)
        unfold maxLen at j2
        have hs9 := HS8.out.new ho9
        have hb9 := ho9.old HB8.out id
        have hr9 := HR8.out.new ho9
        have hoG := HOF.out.trans (ho9.weaken (T := fun i => i = b + 1 ∨ i = b ∨ i = M) (fun _ _ => False.elim))
        have hHC : ∀ w', Only (fun _ => False) w9 w' → w'.cell? ⟨M, 2, none⟩ = some (.slice ua L2.length ucap) ∧ w'.cell? ⟨M, 3, none⟩ = some (.int .i64 r2) := fun w' h => ⟨cell_at (h.old hb9 id) 2, cell_at (h.old hb9 id) 3⟩
        have z2 : w9.cell? ⟨M, 2, none⟩ = some (.slice ua L2.length ucap) := cell_at hb9 2
        have z3 : w9.cell? ⟨M, 3, none⟩ = some (.int .i64 r2) := cell_at hb9 3
        have HS9 := Lib.hid hs9
        have HB9 := Lib.hid hb9
        have HR9 := Lib.hid hr9
        have HOG := Lib.hid hoG
        have HHC := Lib.hid hHC
        have HJ := Lib.hid j3
        clear hs9 hb9 hr9 hoG hHC j3
        clear ho9 hrow9
        go_upto_region 32 with (fail)
        go_region_held3 (fun w' => Only (fun _ => False) w9 w' ∧ w'.cell? ⟨M, 2, none⟩ = some (.slice ua L2.length ucap) ∧ w'.cell? ⟨M, 3, none⟩ = some (.int .i64 r2))
          ((go_split_ands; (refine heldO HHC.out ?_); (repeat (first | (with_reducible assumption) | (with_reducible exact Only.refl _ _) | (with_reducible refine Only.drew ?_) | (with_reducible refine Only.alloc ?_ _) | (with_reducible refine onlySet ?_ (by first | (with_reducible assumption) | omega) _) | (with_reducible refine Only.trans ?_ (by with_reducible assumption))))))
          (first
            | (go_at_call 16; go_split_ands; (with_reducible refine (sall_any _ (b + 1) b most ttl r2 L2 (HS9.out.new (by first | with_reducible assumption | exact (Only.refl _ _).drew))).mono ?_); rintro e w10 ⟨v10, rfl, hd10, hrow10⟩; have hra := Sl.of_owns hrow10)
            | (go_at_call 41; go_split_ands; (with_reducible refine (same15_any _ _ _ _ hra (HR9.out.new (by with_reducible assumption))).mono ?_); rintro e w11 ⟨rfl, hd11⟩)
            | (go_at_call 19; go_split_ands; (with_reducible refine (slen_any _ (b + 1) b most ttl r2 L2 (HS9.out.new (by with_reducible assumption))).mono ?_); rintro e w12 ⟨rfl, rfl⟩)
            | (go_at_call 47; go_split_ands; (with_reducible refine (sref_any _ (b + 1) b most ttl r2 L2 (HS9.out.new (by with_reducible assumption))).mono ?_); rintro e w13 ⟨rfl, rfl⟩))
        go_split_ands
        have hoz : Only (fun _ => False) w9 w11 := by with_reducible assumption
        have hbz := hoz.old HB9.out id
        have hCz := (Sl.cells recC_length (HR9.out.new hoz))
        obtain ⟨_, _, hve, _, _, u3⟩ := hCz
        cases hve
        have hjz := HJ.out.new hoz (fun _ _ _ => id)
        have hsz := HS9.out.new hoz
        have hrz := HR9.out.new hoz
        have hoH := HOG.out.trans (hoz.weaken (T := fun i => i = b + 1 ∨ i = b ∨ i = M) (fun _ _ => False.elim))
        have HBZ := Lib.hid hbz
        have HCZ := Lib.hid u3
        have HJZ := Lib.hid hjz
        have HSZ := Lib.hid hsz
        have HRZ := Lib.hid hrz
        have HOH := Lib.hid hoH
        clear hbz u3 hjz hsz hrz hoH
        clear hoz z2 z3
        go_wp2_with fail
        go_loopg [19] L2.length (fun g v19 wx => ∃ j : Nat, v19 = .int .i64 j ∧ j ≤ L2.length ∧ Only (fun _ => False) w11 wx ∧ g = L2.length - j)
        case atStart => exact ⟨0, rfl, Nat.zero_le _, Only.refl _ _, rfl⟩
        case round =>
          obtain ⟨j, rfl, hj, hox, hg⟩ := hrel
          have Hg2 := Lib.hid hg
          have HOX := Lib.hid hox
          clear hg hox
          by_cases hlt2 : j < L2.length
          · obtain ⟨ib, ioff, he, hc⟩ := HJZ.out.at j hlt2
            subst he
            obtain ⟨ub, uoff, he, hd⟩ := HCZ.out.at j hlt2
            subst he
            have p0 := HOX.out.cell (hc 0 _ rfl) id
            have p1 := HOX.out.cell (hc 1 _ rfl) id
            have q0 := HOX.out.cell (hd 0 _ rfl) id
            have q1 := HOX.out.cell (hd 1 _ rfl) id
            simp only [Nat.add_zero] at p0 q0
            have z2 : wr.cell? ⟨M, 2, none⟩ = some (.slice (some ⟨ub, uoff, none⟩) L2.length ucap) := cell_at (HOX.out.old HBZ.out id) 2
            generalize L2[j].key = kk at *
            generalize L2[j].ver = kv at *
            have hlt2' : (j : Int) < (L2.length : Int) := by omega
            have hj0 : (0 : Int) ≤ (j : Int) := by omega
            clear hc hd
            go_wp2_with fail
            go_quiet (fail)
            go_wp2_with fail
            go_roundg (L2.length - (j + 1))
            case measure => rw [Hg2.out]; omega
            case rel => exact ⟨j + 1, by go_num, by omega, HOX.out.drewN _, rfl⟩
          · have hlt2' : ¬ (j : Int) < (L2.length : Int) := by omega
            have hsx := HSZ.out.new HOX.out
            have hbx := HOX.out.old HBZ.out id
            have hrx := HRZ.out.new HOX.out
            have hoI := HOH.out.trans (HOX.out.weaken (T := fun i => i = b + 1 ∨ i = b ∨ i = M) (fun _ _ => False.elim))
            have HSX := Lib.hid hsx
            have HBX2 := Lib.hid hbx
            have HRX := Lib.hid hrx
            have HOI := Lib.hid hoI
            clear hsx hbx hrx hoI
            go_wp2_with fail
            go_roundg (70 - (k + 1))
            case measure => rw [Hg.out]; omega
            case rel => exact ⟨k + 1, L2, r2, _, by go_num, by omega, by omega, HOI.out, HSX.out, HBX2.out, HRX.out, hr20, by omega, rfl⟩
      · -- fin
        have HLT := Lib.hid hlt
        clear hlt
        have HE := Lib.hid ((HOC.out.trans HOD.out).tr HO.out (S := fun _ => False) (fun i hi e => by omega))
        rcases (by have := HLT.out; omega : (¬ (k : Int) < (l.length : Int)) ∨ ((k : Int) < (l.length : Int) ∧ ¬ (k : Int) < 70)) with e1 | ⟨e1, e2⟩
        all_goals
          go_wp2_with fail
          go_ret
          exact ⟨rfl, HE.out⟩
  · -- bad
    have HN := Lib.hid (snew_no w1 most ttl hok)
    by_cases h1 : most < 1 <;> by_cases h2 : most > 48 <;> by_cases h3 : ttl < 1 <;> by_cases h4 : ttl > 65535
    all_goals first
      | (exfalso; omega)
      | (clear hok
         go_wp2_with fail
         refine HN.out.mono ?_
         rintro e w3 ⟨rfl, rfl⟩
         go_wp2_with fail
         go_ret
         exact ⟨rfl, HOA.out⟩)
end Go.Proofs.YtianboachknfmaaDoor
