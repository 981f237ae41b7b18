/- The walk of bellhoplaw15.StoreRises. -/
import Derived.Test.YtianboachknfmaaDoorStoRow
import Derived.Test.YtianboachknfmaaDoorSto10
namespace Go.Proofs.YtianboachknfmaaDoor
open Go.Conc Go.RowKit Go.Maps

/-- No version falls, there is one more at most. -/
structure Rise (L M : List RecT) : Prop where
  len : M.length ≤ L.length + 1
  vers : ∀ z ∈ L, ∀ y ∈ M, z.key = y.key → z.ver ≤ y.ver
theorem rise_put {most ttl : Int} {L : List RecT} (h : StoreOk most ttl L) (x : RecT) : Rise L (putS most ttl L x) := by
  unfold putS
  split
  · rename_i e
    have h1 := putE_zero e
    refine ⟨?_, fun z hz y hy hk => ?_⟩
    · have := length_ins x h.rises
      split at this <;> omega
    · rcases (mem_insS h.rises).1 hy with rfl | ⟨hy, _⟩
      · have hf := findS_mem h.rises hz
        rw [hk] at hf
        unfold putE at e
        rw [h1.1, if_neg (by decide), if_neg (by have := h1.2.1; omega), hf] at e
        unfold putFE at e
        simp only at e
        split at e
        · cases e
        · omega
      · have e1 := findS_mem h.rises hz
        have e2 := findS_mem h.rises hy
        rw [hk, e2] at e1
        cases e1
        exact Nat.le_refl _
  · refine ⟨by omega, fun z hz y hy hk => ?_⟩
    have e1 := findS_mem h.rises hz
    have e2 := findS_mem h.rises hy
    rw [hk, e2] at e1
    cases e1
    exact Nat.le_refl _
theorem rise_tick {most ttl : Int} {L : List RecT} (h : StoreOk most ttl L) : Rise L (tickS ttl L) := by
  refine ⟨by have := length_tick_le ttl L; omega, fun z hz y hy hk => ?_⟩
  obtain ⟨x, hx, rfl, _⟩ := mem_tick.1 hy
  have e1 := findS_mem h.rises hz
  have e2 := findS_mem h.rises hx
  have hk' : z.key = x.key := hk
  rw [hk', e2] at e1
  cases e1
  exact Nat.le_refl _
theorem StoreOk.ages {most ttl : Int} {L : List RecT} (h : StoreOk most ttl L) : ∀ x ∈ L, 0 ≤ x.age ∧ x.age < ttl := fun x hx => by
  obtain ⟨h1, h2⟩ := h.goods x hx
  unfold goodR goodP at h1
  simp only [Bool.and_eq_true, decide_eq_true_eq] at h1
  exact ⟨h1.1.1.2, h2⟩
theorem sget_nil' (w : World) (k : ByteArray) : Calls Tryd.prog 17 #[.pointer none, .string k] w fun e w' => e = .returned (.tuple #[.agg #[.string ⟨#[]⟩, .int .u64 0, .int .i64 0, .int .i64 0, .bool false, .string ⟨#[]⟩], .bool false]) ∧ Only (fun _ => False) w w' := sget_nil w k
theorem sput_nil' (w : World) : Calls Tryd.prog 15 #[.pointer none, .agg #[.string ⟨#[]⟩, .int .u64 0, .int .i64 0, .int .i64 0, .bool false, .string ⟨#[]⟩]] w fun e w' => e = .returned (.int .i64 1) ∧ Only (fun _ => False) w w' := sput_nil w zeroR
theorem snamed_nil' (w : World) (name : ByteArray) : Calls Tryd.prog 42 #[.pointer none, .string name] w fun e w' => ∃ a cap, e = .returned (.slice a 0 cap) ∧ Only (fun _ => False) w w' := by
  refine (snamed_nil w name).mono ?_
  rintro e w' ⟨v, rfl, ho, hr⟩
  obtain ⟨a, cap, rfl, _⟩ := Sl.cells recC_length (Sl.of_owns hr)
  exact ⟨a, cap, rfl, ho⟩
theorem actC_get {w : World} {b off : Nat} {a : ActT} (h : ∀ i u, (actC a)[i]? = some u → w.cell? ⟨b, off + i, none⟩ = some u) : w.cell? ⟨b, off, none⟩ = some (.int .i64 a.what) := h 0 _ rfl
set_option maxRecDepth 100000 in
set_option maxHeartbeats 8000000 in
theorem rises15_any (w : World) (m : Int) (hm : w.cell? ⟨0, 0, none⟩ = some (.int .i64 m)) (s0 s1 : Nat) (v : Value) (l : List ActT) (hs0 : s0 < 256) (hs1 : s1 < 256) (h : Sl w 8 v l.length (l.flatMap actC)) (hl : ∀ a ∈ l, rowP_sl_acts15 a) :
    Calls Tryd.prog 8 #[.agg #[.int .u8 s0, .int .u8 s1], v] w fun e w' => e = .returned (.bool true) ∧ Only (fun _ => False) w w' := by
  obtain ⟨a, cap, rfl, c1, c2, c3⟩ := Sl.cells actC_length h
  unfold maxLen at c2
  obtain ⟨W, hW⟩ : ∃ W, W = w.alloc (.cells #[.int .u8 s0, .int .u8 s1] 106) := ⟨_, rfl⟩
  have hbW : W.heap[w.heap.size]? = some (.cells #[.int .u8 s0, .int .u8 s1] 106 (0, 0)) := by rw [hW]; exact heap_alloc_new w _
  have hoW : Only (fun _ => False) w W := by rw [hW]; exact (Only.refl _ _).alloc _
  have hsW : W.heap.size = w.heap.size + 1 := by rw [hW]; simp
  have hmW := hoW.cell hm id
  have HC := Lib.hid c3
  have HL := Lib.hid hl
  have HM := Lib.hid hmW
  have HOW := Lib.hid hoW
  have HBW := Lib.hid hbW
  clear c3 hl hmW hoW hbW
  clear h hm hsW
  go_enter Tryd.func8, Tryd.ntmps8
  go_upto_region 1 with (fail)
  rw [← hW]
  clear hW
  go_wp2_with fail
  refine (speaks15_any W m HM.out).mono ?_
  rintro e w1 ⟨rfl, ho1⟩
  have hb1 := ho1.old HBW.out id
  have x0 : w1.cell? ⟨w.heap.size, 0, none⟩ = some (.int .u8 s0) := cell_at hb1 0
  have x1 : w1.cell? ⟨w.heap.size, 1, none⟩ = some (.int .u8 s1) := cell_at hb1 1
  have hoA := HOW.out.trans ho1
  have hm1 := ho1.cell HM.out id
  have HOA := Lib.hid hoA
  have HM1 := Lib.hid hm1
  clear hoA hm1
  clear ho1 hb1
  go_upto_region 3 with (fail)
  go_cut [5, 6] (fun v5 v6 wx => v5 = .int .i64 (1 + (s0 : Int) % 48) ∧ v6 = .int .i64 (1 + (s1 : Int)) ∧ Only (fun _ => False) w1 wx)
  case first =>
    go_quiet (fail)
    go_wp2_with fail
    go_meet
    refine ⟨?_, ?_, (Only.refl _ _).drewN _⟩
    · rfl
    · rfl
  case rest =>
  obtain ⟨rfl, rfl, hoc⟩ := hcut
  have hT : 1 ≤ 1 + (s1 : Int) ∧ 1 + (s1 : Int) ≤ 256 := by omega
  have hM : 1 ≤ 1 + (s0 : Int) % 48 ∧ 1 + (s0 : Int) % 48 ≤ 48 := by omega
  generalize 1 + (s1 : Int) = ttl at *
  generalize 1 + (s0 : Int) % 48 = most at *
  obtain ⟨hT1, hT2⟩ := hT
  obtain ⟨hM1, hM2⟩ := hM
  have hoB := HOA.out.trans hoc
  have hm2 := hoc.cell HM1.out id
  have HOB := Lib.hid hoB
  have HM2 := Lib.hid hm2
  clear hoB hm2
  clear hoc x0 x1 HOA HM1
  go_wp2_with fail
  refine (snew_ok wc most ttl hM1 hM2 hT1 (by omega)).mono ?_
  rintro e w3 ⟨rfl, ho3, hs3⟩
  have hB : wc.heap.size + 1 < w3.heap.size := hs3.lt.1
  have hm3 := ho3.cell HM2.out id
  have hoC := HOB.out.trans ho3
  have hwb : w.heap.size ≤ wc.heap.size := HOB.out.size
  have hb0 : 0 < wc.heap.size := World.block_lt_of_cell? _ _ HM2.out
  have HC3 := Lib.hid (HC.out.new hoC (fun _ _ _ => id))
  have hlow : ∀ p u, w.cell? p = some u → p.block < w.heap.size := fun p u h => World.block_lt_of_cell? _ _ h
  have HCW := Lib.hid HC.out
  generalize hb : wc.heap.size = b at *
  have HM3 := Lib.hid hm3
  have HOC := Lib.hid hoC
  have HS3 := Lib.hid hs3
  have HWB := Lib.hid hwb
  have HBB := Lib.hid hb
  have HLOW := Lib.hid hlow
  have HB0 := Lib.hid hb0
  clear hm3 hoC hs3 hwb hb hlow hb0
  clear ho3 HM2 HOB HC
  go_wp2_with fail
  go_loopg [9] 70 (fun gk v9 wr => ∃ (k : Nat) (L : List RecT) (r : Int), v9 = .int .i64 k ∧ k ≤ l.length ∧ k ≤ 70 ∧ Only (fun i => i = b + 1 ∨ i = b) w3 wr ∧ StoreAt wr (b + 1) b most ttl r L ∧ 0 ≤ r ∧ r ≤ k ∧ gk = 70 - k)
  case atStart => exact ⟨0, [], 0, rfl, Nat.zero_le _, Nat.zero_le _, Only.refl _ _, HS3.out, Int.le_refl _, Int.le_refl _, rfl⟩
  case round =>
    obtain ⟨k, L, r, rfl, hk, hk70, ho, hst, hr0, hrk, hg⟩ := hrel
    have Hg := Lib.hid hg
    have HO := Lib.hid ho
    have HST := Lib.hid hst
    clear hg ho hst
    by_cases hlt : k < l.length ∧ k < 70
    · obtain ⟨hlt, hlt70⟩ := hlt
      have hlt' : (k : Int) < (l.length : Int) := by omega
      have hlt70' : (k : Int) < 70 := by omega
      go_wp2_with fail
      refine (sall_any wr (b + 1) b most ttl r L HST.out).mono ?_
      rintro e w4 ⟨va, rfl, ho4, hrow4⟩
      have hst4 := HST.out.new ho4
      have hoD : Only (fun i => i = b + 1 ∨ i = b) w3 w4 := HO.out.trans (ho4.weaken (fun _ _ => False.elim))
      obtain ⟨bb, off, ha, hcc⟩ := HCW.out.at k hlt
      subst ha
      have hcr : ∀ i u, (actC l[k])[i]? = some u → w4.cell? ⟨bb, off + k * 8 + i, none⟩ = some u := fun i u hu => by
        have h1 := hcc i u hu
        have h2 : bb < w.heap.size := HLOW.out _ _ h1
        exact hoD.cell (HOC.out.cell h1 id) (fun e => by have := HWB.out; rcases e with e | e <;> (simp only at e; omega))
      have hP := HL.out l[k] (List.getElem_mem hlt)
      obtain ⟨aa, cap4, rfl, e1, e2, e3⟩ := Sl.cells recC_length (Sl.of_owns hrow4)
      unfold maxLen at e2
      have HST4 := Lib.hid hst4
      have HOD := Lib.hid hoD
      have HROW4 := Lib.hid hrow4
      have HP := Lib.hid hP
      have HE3 := Lib.hid e3
      clear hst4 hoD hrow4 hP e3
      clear ho4 hcc
      generalize l[k] = x at *
      have HREC := Lib.hid (fun w => rec_any w x HP.out.2.2.1 HP.out.2.2.2.1 HP.out.2.2.2.2.1)
      obtain ⟨what, org, nm, life, cnt, age, gone, bad⟩ := x
      have y0 : w4.cell? ⟨bb, off + k * 8, none⟩ = some (.int .i64 what) := hcr 0 _ rfl
      have y1 := hcr 1 _ rfl
      have y2 := hcr 2 _ rfl
      have y3 := hcr 3 _ rfl
      have y4 := hcr 4 _ rfl
      have y5 := hcr 5 _ rfl
      have y6 := hcr 6 _ rfl
      have y7 := hcr 7 _ rfl
      simp only at y1 y2 y3 y4 y5 y6 y7
      clear hcr
      have hxv : (recOf ⟨what, org, nm, life, cnt, age, gone, bad⟩).ver < 2 ^ 64 ∧ (recOf ⟨what, org, nm, life, cnt, age, gone, bad⟩).key.size ≤ 1000000 := by
        refine ⟨?_, ?_⟩
        · have h5 : cnt < 256 := HP.out.2.2.2.2.1
          have h6 : life % 4 < 4 := Nat.mod_lt _ (by omega)
          show life % 4 * 2 ^ 32 + cnt < 2 ^ 64
          omega
        · show (keyB _ (nameB (nm % 4))).size ≤ 1000000
          rw [keyB_size]
          have : (nameB (nm % 4)).size ≤ 10 := by
            have : nm % 4 < 4 := Nat.mod_lt _ (by omega)
            generalize nm % 4 = z at *
            rcases (by omega : z = 0 ∨ z = 1 ∨ z = 2 ∨ z = 3) with rfl | rfl | rfl | rfl <;> decide
          omega
      have HRC := Lib.hid (HREC.out w4)
      unfold actV at HRC
      simp only at HRC
      generalize recOf ⟨what, org, nm, life, cnt, age, gone, bad⟩ = x at *
      obtain ⟨k1, v1, o1, a1, g1, d1⟩ := x
      simp only at hxv
      unfold recT at HRC
      simp only at HRC
      have HXV := Lib.hid hxv
      clear hxv
      clear HREC HP
      go_wp2_with fail
      refine HRC.out.mono ?_
      rintro e w5 ⟨rfl, ho5⟩
      obtain ⟨W6, hW6⟩ : ∃ W6, W6 = w5.alloc (.cells #[.string k1, .int .u64 v1, .int .i64 o1, .int .i64 a1, .bool g1, .string d1] 33) := ⟨_, rfl⟩
      have hbW6 : W6.heap[w5.heap.size]? = some (.cells #[.string k1, .int .u64 v1, .int .i64 o1, .int .i64 a1, .bool g1, .string d1] 33 (0, 0)) := by rw [hW6]; exact heap_alloc_new w5 _
      have hoW6 : Only (fun _ => False) w5 W6 := by rw [hW6]; exact (Only.refl _ _).alloc _
      have hsW6 : W6.heap.size = w5.heap.size + 1 := by rw [hW6]; simp
      obtain ⟨W7, hW7⟩ : ∃ W7, W7 = W6.alloc (.cells #[.string k1, .int .u64 v1, .int .i64 o1, .int .i64 a1, .bool g1, .string d1] 35) := ⟨_, rfl⟩
      have hbW7 : W7.heap[W6.heap.size]? = some (.cells #[.string k1, .int .u64 v1, .int .i64 o1, .int .i64 a1, .bool g1, .string d1] 35 (0, 0)) := by rw [hW7]; exact heap_alloc_new W6 _
      have hoW7 : Only (fun _ => False) W6 W7 := by rw [hW7]; exact (Only.refl _ _).alloc _
      have hsW7 : W7.heap.size = W6.heap.size + 1 := by rw [hW7]; simp
      have ho7 := ho5.trans (hoW6.trans hoW7)
      have hbx := hoW7.old hbW6 id
      have y0' := ho7.cell y0 id
      have hst7 := HST4.out.new ho7
      have hoE := HOD.out.trans (ho7.weaken (fun _ _ => False.elim))
      have hm7 := hoE.cell HM3.out (fun e => by have := HB0.out; rcases e with e | e <;> (simp only at e; omega))
      have x0 : W7.cell? ⟨w5.heap.size, 0, none⟩ = some (.string k1) := cell_at hbx 0
      have x1 : W7.cell? ⟨w5.heap.size, 1, none⟩ = some (.int .u64 v1) := cell_at hbx 1
      have x2 : W7.cell? ⟨w5.heap.size, 2, none⟩ = some (.int .i64 o1) := cell_at hbx 2
      have x3 : W7.cell? ⟨w5.heap.size, 3, none⟩ = some (.int .i64 a1) := cell_at hbx 3
      have x4 : W7.cell? ⟨w5.heap.size, 4, none⟩ = some (.bool g1) := cell_at hbx 4
      have x5 : W7.cell? ⟨w5.heap.size, 5, none⟩ = some (.string d1) := cell_at hbx 5
      have HO7 := Lib.hid ho7
      have HST7 := Lib.hid hst7
      have HOE := Lib.hid hoE
      have HM7 := Lib.hid hm7
      clear ho7 hst7 hoE hm7
      clear y0 y1 y2 y3 y4 y5 y6 y7 hoW6 hoW7 hsW6 hsW7 hbW6 hbW7 hbx ho5 HRC
      go_upto_region 12 with (fail)
      rw [← hW6, ← hW7]
      clear hW6 hW7
      generalize hqq : bits BinOp.and IntKind.i64 what 3 = q
      go_upto_if 64 with (fail)
      go_cut [9] (fun v9 wx => v9 = .int .i64 k ∧ ∃ L2 r2, StoreAt wx (b + 1) b most ttl r2 L2 ∧ Rise L L2 ∧ 0 ≤ r2 ∧ r2 ≤ (k : Int) + 1 ∧ Only (fun i => i = b + 1 ∨ i = b) W7 wx)
      case first =>
        by_cases hq : q = 3
        · have HTK := Lib.hid (stick_any W7 (b + 1) b most ttl r L HST7.out)
          have hqb : (q == 3) = true := by rw [hq]; rfl
          have HQ := Lib.hid hq
          clear hq
          clear x0 x1 x2 x3 x4 x5
          go_wp2_with fail
          refine HTK.out.mono ?_
          rintro e w8 ⟨rfl, ho8, hs8⟩
          go_wp2_with fail
          go_meet
          exact ⟨rfl, _, r, hs8, rise_tick HST7.out.ok, hr0, by omega, ho8.weaken (fun _ _ e => .inr e)⟩
        · have HPT := Lib.hid (sput_any W7 (b + 1) b most ttl r L HST7.out ⟨k1, v1, o1, a1, g1, d1⟩ m HM7.out HXV.out.1 HXV.out.2 hr0 (by omega))
          have hqb : (q == 3) = false := by simpa using hq
          have HQ := Lib.hid hq
          clear hq
          go_wp2_with fail
          refine HPT.out.mono ?_
          rintro e w8 ⟨rfl, ho8, hs8⟩
          go_wp2_with fail
          go_meet
          have hr5 : 0 ≤ putR most ttl L ⟨k1, v1, o1, a1, g1, d1⟩ r ∧ putR most ttl L ⟨k1, v1, o1, a1, g1, d1⟩ r ≤ (k : Int) + 1 := by unfold putR; split <;> omega
          exact ⟨rfl, _, _, hs8, rise_put HST7.out.ok _, hr5.1, hr5.2, ho8⟩
      case rest =>
      obtain ⟨rfl, L2, r2, hs8, hrise, hr20, hr2k, ho8⟩ := hcut
      have hoF := HOE.out.trans ho8
      have hszr : b + 1 < wr.heap.size := by have := HO.out.size; omega
      have hrow8 := owns_only (owns_only HROW4.out HO7.out (fun _ _ => id)) ho8 (fun k hk e => by omega)
      have HS8 := Lib.hid hs8
      have HRI := Lib.hid hrise
      have HOF := Lib.hid hoF
      have HROW8 := Lib.hid hrow8
      clear hs8 hrise hoF hrow8
      clear ho8
      clear x0 x1 x2 x3 x4 x5 y0'
      go_wp2_with fail
      refine (sall_any wc (b + 1) b most ttl r2 L2 HS8.out).mono ?_
      rintro e w9 ⟨vn, rfl, ho9, hrow9⟩
      have hs9 := HS8.out.new ho9
      have hoG : Only (fun i => i = b + 1 ∨ i = b) w3 w9 := HOF.out.trans (ho9.weaken (fun _ _ => False.elim))
      obtain ⟨na, ncap, rfl, n1, n2, n3⟩ := Sl.cells recC_length (Sl.of_owns hrow9)
      unfold maxLen at n2
      have hages := hs9.ok.ages
      have hroom := hs9.ok.room
      have hlen2 := HRI.out.len
      have hrow9' := owns_only HROW8.out ho9 (fun _ _ => id)
      obtain ⟨aa', cap4', hv4, _, _, f3⟩ := Sl.cells recC_length (Sl.of_owns hrow9')
      cases hv4
      have hm1 : ¬ most < (L2.length : Int) := by omega
      have hm2 : ¬ (L.length : Int) + 1 < (L2.length : Int) := by omega
      have hm3 : (L.length : Int) ≤ 48 := by have h1 := HST4.out.ok.room; omega
      have HS9 := Lib.hid hs9
      have HOG := Lib.hid hoG
      have HN3 := Lib.hid n3
      have HF3 := Lib.hid f3
      have HAG := Lib.hid hages
      clear hs9 hoG n3 f3 hages
      clear ho9 hrow9 hrow9' hroom HROW4 HROW8 HE3
      go_wp2_with fail
      clear hm1 hm2
      go_loopg [14] L2.length (fun g2 v14 wx => ∃ j2 : Nat, v14 = .int .i64 j2 ∧ j2 ≤ L2.length ∧ Only (fun _ => False) w9 wx ∧ g2 = L2.length - j2)
      case atStart => exact ⟨0, rfl, Nat.zero_le _, Only.refl _ _, rfl⟩
      case round =>
        obtain ⟨j2, rfl, hj2, hox, hg2⟩ := hrel
        have Hg2 := Lib.hid hg2
        have HOX := Lib.hid hox
        clear hg2 hox
        by_cases hlt2 : j2 < L2.length
        · obtain ⟨nb, noff, hna, hnc⟩ := HN3.out.at j2 hlt2
          subst hna
          have hnr : ∀ i u, (recC L2[j2])[i]? = some u → _ := fun i u hu => HOX.out.cell (hnc i u hu) id
          have hmem := List.getElem_mem hlt2
          have hag := HAG.out _ hmem
          have hver := fun z hz => HRI.out.vers z hz _ hmem
          generalize L2[j2] = y at *
          obtain ⟨k3, v3, o3, a3, g3, d3⟩ := y
          have z3 := hnr 3 _ rfl
          simp only at z3 hag hver
          obtain ⟨hag1, hag2⟩ := hag
          have hag3 : ¬ a3 < 0 := by omega
          have hag4 : ¬ ttl ≤ a3 := by omega
          have hlt2' : (j2 : Int) < (L2.length : Int) := by omega
          have HVER := Lib.hid hver
          have HNC := Lib.hid hnc
          have HMEM := Lib.hid hmem
          clear hver hnc hmem
          clear hnr
          go_wp2_with fail
          clear hag1 hag2 hag3 hag4 z3
          go_loopg [15] L.length (fun g4 v15 wy => ∃ j3 : Nat, v15 = .int .i64 j3 ∧ j3 ≤ L.length ∧ Only (fun _ => False) w9 wy ∧ g4 = L.length - j3)
          case atStart => exact ⟨0, rfl, Nat.zero_le _, HOX.out, rfl⟩
          case round =>
            obtain ⟨j3, rfl, hj3, hoy, hg4⟩ := hrel
            have Hg4 := Lib.hid hg4
            have HOY := Lib.hid hoy
            clear hg4 hoy
            by_cases hlt3 : j3 < L.length
            · obtain ⟨wb, woff, hwa, hwc⟩ := HF3.out.at j3 hlt3
              subst hwa
              have hmem3 := List.getElem_mem hlt3
              have hv3 := HVER.out _ hmem3
              have p0 := HOY.out.cell (hwc 0 _ rfl) id
              have p1 := HOY.out.cell (hwc 1 _ rfl) id
              have q0 := HOY.out.cell (HNC.out 0 _ rfl) id
              have q1 := HOY.out.cell (HNC.out 1 _ rfl) id
              simp only [Nat.add_zero] at p0 q0
              generalize L[j3].key = k4 at *
              generalize L[j3].ver = v4 at *
              have hlt3' : (j3 : Int) < (L.length : Int) := by omega
              have HV3 := Lib.hid hv3
              clear hv3 hwc hmem3
              by_cases hkk : k4 = k3
              · have hxb := str_eq hkk
                have hvv : v4 ≤ v3 := HV3.out hkk
                have hdd : decide (v3 < v4) = false := decide_eq_false (by omega)
                have HKK := Lib.hid hkk
                clear hkk
                go_wp2_with fail
                go_quiet (fail)
                go_wp2_with fail
                go_roundg (L.length - (j3 + 1))
                case measure => rw [Hg4.out]; omega
                case rel => exact ⟨j3 + 1, by go_num, by omega, HOY.out.drewN _, rfl⟩
              · have hxb := str_ne hkk
                have HKK := Lib.hid hkk
                clear hkk
                go_wp2_with fail
                go_quiet (fail)
                go_wp2_with fail
                go_roundg (L.length - (j3 + 1))
                case measure => rw [Hg4.out]; omega
                case rel => exact ⟨j3 + 1, by go_num, by omega, HOY.out.drewN _, rfl⟩
            · have hlt3' : ¬ (j3 : Int) < (L.length : Int) := by omega
              go_wp2_with fail
              go_roundg (L2.length - (j2 + 1))
              case measure => rw [Hg2.out]; omega
              case rel => exact ⟨j2 + 1, by go_num, by omega, HOY.out, rfl⟩
        · have hlt2' : ¬ (j2 : Int) < (L2.length : Int) := by omega
          have HS10 := Lib.hid (HS9.out.new HOX.out)
          go_wp2_with fail
          go_roundg (70 - (k + 1))
          case measure => rw [Hg.out]; omega
          case rel => exact ⟨k + 1, L2, r2, by go_num, by omega, by omega, HOG.out.trans (HOX.out.weaken (fun _ _ => False.elim)), HS10.out, hr20, by omega, rfl⟩
    · --< end
      have HLT := Lib.hid hlt
      clear hlt
      have HE := Lib.hid (HOC.out.tr HO.out (S := fun _ => False) (fun i hi e => by have := HWB.out; omega))
      rcases (by have := HLT.out; omega : (¬ (k : Int) < (l.length : Int)) ∨ ((k : Int) < (l.length : Int) ∧ ¬ (k : Int) < 70)) with e1 | ⟨e1, e2⟩
      all_goals
        go_wp2_with fail
        refine (sget_nil' _ _).mono ?_
        rintro e w5 ⟨rfl, ho5⟩
        go_wp2_with (first
          | (go_at_call 15; refine (sput_nil' _).mono ?_; rintro e w6 ⟨rfl, ho6⟩)
          | (go_at_call 18; refine (stick_nil _).mono ?_; rintro e w7 ⟨rfl, rfl⟩)
          | (go_at_call 19; refine (slen_nil _).mono ?_; rintro e w7 ⟨rfl, rfl⟩)
          | (go_at_call 47; refine (sref_nil _).mono ?_; rintro e w7 ⟨rfl, rfl⟩)
          | (go_at_call 38; refine (sttl_nil _).mono ?_; rintro e w7 ⟨rfl, rfl⟩)
          | (go_at_call 16; refine (sall_nil _).mono ?_; rintro e w7 ⟨rfl, rfl⟩)
          | (go_at_call 46; refine (sids_nil _).mono ?_; rintro e w7 ⟨rfl, rfl⟩)
          | (go_at_call 42; refine (snamed_nil' _ _).mono ?_; rintro e w8 ⟨a8, cap8, rfl, ho8⟩))
        go_ret
        exact ⟨rfl, ((HE.out.trans ho5).alloc _).trans (ho6.trans ho8)⟩
end Go.Proofs.YtianboachknfmaaDoor
