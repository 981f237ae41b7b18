/- The walk of bellhoplaw26.ServicePlays, but for what region 23 does. -/
import Derived.Test.YtianboachknfmaaDoorSH
/-! The walk of bellhoplaw26.ServicePlays, but for what region 23 does. -/
namespace Go.Proofs.YtianboachknfmaaDoor
open Go.Conc Go.RowKit Go.Maps

set_option maxRecDepth 100000 in
set_option maxHeartbeats 8000000 in
theorem plays26_of (h23 : Hid goal23) (w : World) (m : Int) (hm : w.cell? ⟨0, 0, none⟩ = some (.int .i64 m)) (self : Int) (n0 n1 n2 : Nat) (v : Value) (l : List ActV) (_hs : (Lit.int .i64 self).wf = true) (w0 : n0 < 4294967296) (w1 : n1 < 4294967296) (w2 : n2 < 4294967296) (h : Sl w 7 v l.length (l.flatMap actVC)) (hl : ∀ a ∈ l, actVOk a) :
    Calls Tryd.prog 6 #[.int .i64 self, .agg #[.int .u32 n0, .int .u32 n1, .int .u32 n2], v] w fun e w' => e = .returned (.bool true) ∧ Only (fun _ => False) w w' := by
  obtain ⟨a, cap, rfl, c1, c2, c3⟩ := Sl.cells actVC_length h
  unfold maxLen at c2
  obtain ⟨W, hW⟩ : ∃ W, W = w.alloc (.cells #[.int .u32 n0, .int .u32 n1, .int .u32 n2] 65) := ⟨_, rfl⟩
  have hbW : W.heap[w.heap.size]? = some (.cells #[.int .u32 n0, .int .u32 n1, .int .u32 n2] 65 (0, 0)) := by rw [hW]; exact heap_alloc_new w _
  have hoW : Only (fun _ => False) w W := by rw [hW]; exact (Only.refl _ _).alloc _
  have hsW : W.heap.size = w.heap.size + 1 := by rw [hW]; simp
  have hmW := hoW.cell hm id
  have HC := Lib.hid c3
  have HL := Lib.hid hl
  have HM := Lib.hid hmW
  have HOW := Lib.hid hoW
  have HBW := Lib.hid hbW
  clear c3 hl hmW hoW hbW
  clear h hm hsW _hs
  go_enter Tryd.func6, Tryd.ntmps6
  go_upto_region 1 with (fail)
  rw [← hW]
  clear hW
  go_wp2_with fail
  refine (speaks26_any W m HM.out).mono ?_
  rintro e u1 ⟨rfl, ho1⟩
  have hb1 := ho1.old HBW.out id
  have p0 : u1.cell? ⟨w.heap.size, 0, none⟩ = some (.int .u32 n0) := cell_at hb1 0
  have p1 : u1.cell? ⟨w.heap.size, 1, none⟩ = some (.int .u32 n1) := cell_at hb1 1
  have p2 : u1.cell? ⟨w.heap.size, 2, none⟩ = some (.int .u32 n2) := cell_at hb1 2
  have hoA := HOW.out.trans ho1
  have hm1 := ho1.cell HM.out id
  have HOA := Lib.hid hoA
  have HM1 := Lib.hid hm1
  have HB1 := Lib.hid hb1
  clear hoA hm1 hb1
  clear ho1 HOW HBW HM
  by_cases hok : newOk self n0 n2
  · obtain ⟨q1, q2, q3, q4, q5⟩ := hok
    have q4' : ¬ (n2 : Int) < 1 := by omega
    have q5' : ¬ (n2 : Int) > 1000 := by omega
    have q3' : ¬ n0 = 0 := by omega
    have q3'' : ((n0 : Int) == 0) = false := by simp; omega
    have HKN := Lib.hid (knew_ok u1 self n0 n1 n2 q1 q2 q3 w0 w1 q4 q5)
    go_wp2_with fail
    refine HKN.out.mono ?_
    rintro e u3 ⟨rfl, ho3, hk3⟩
    have hm3 := ho3.cell HM1.out id
    have hb3 := ho3.old HB1.out id
    have hoC := HOA.out.trans ho3
    have hxb := hk3.lt
    have hwu : w.heap.size < u1.heap.size := lt_of_block HB1.out
    have h0b : 0 < u1.heap.size := World.block_lt_of_cell? _ _ HM1.out
    have r0 : u3.cell? ⟨w.heap.size, 0, none⟩ = some (.int .u32 n0) := cell_at hb3 0
    have r1 : u3.cell? ⟨w.heap.size, 1, none⟩ = some (.int .u32 n1) := cell_at hb3 1
    have r2 : u3.cell? ⟨w.heap.size, 2, none⟩ = some (.int .u32 n2) := cell_at hb3 2
    have hmx : ¬ self > 65535 := by omega
    have hm0 : ¬ self < 1 := by omega
    clear p0 p1 p2
    obtain ⟨V, hV⟩ : ∃ V, V = u3.alloc (.cells #[.int .i64 self, .int .u64 n0, .int .u64 n1, .int .i64 n2, .int .i64 0, .slice none 0 0] 72) := ⟨_, rfl⟩
    have hbV : V.heap[u3.heap.size]? = some (.cells #[.int .i64 self, .int .u64 n0, .int .u64 n1, .int .i64 n2, .int .i64 0, .slice none 0 0] 72 (0, 0)) := by rw [hV]; exact heap_alloc_new u3 _
    have hoV : Only (fun _ => False) u3 V := by rw [hV]; exact (Only.refl _ _).alloc _
    have hsV : V.heap.size = u3.heap.size + 1 := by rw [hV]; simp
    have hkV := hk3.new hoV
    have hmV := hoV.cell hm3 id
    have hoD := hoC.trans hoV
    have hmat : MAt V u3.heap.size ⟨self, n0, n1, n2, 0, []⟩ 0 (.slice none 0 0) := ⟨hbV, Sl.nil _ _⟩
    have hpat : PAt V (u1.heap.size + 1) u1.heap.size u3.heap.size ⟨self, n0, n1, n2, 0, []⟩ 0 (.slice none 0 0) := ⟨hkV, hmat, by simp⟩
    have hord : w.heap.size < u1.heap.size ∧ u1.heap.size + 1 < u3.heap.size ∧ u3.heap.size < V.heap.size := by omega
    have HMV := Lib.hid hmV
    have HOD := Lib.hid hoD
    have HPAT := Lib.hid hpat
    have HORD := Lib.hid hord
    clear hmV hoD hpat hord
    clear hbV hkV hk3 ho3 hmat hb3 hm3 hoC HKN HOA HM1 HB1
    go_upto_region 10 with (fail)
    rw [← hV]
    clear hV hoV r0 r1 r2 hxb hsV
    generalize u3.heap.size = M at *
    generalize hX : u1.heap.size = b at *
    generalize hXX : b + 1 = x at *
    have h0x : x ≠ 0 ∧ b ≠ 0 := by omega
    have HX := Lib.hid (show b = u1.heap.size ∧ b < x ∧ x < M ∧ M < V.heap.size ∧ w.heap.size < b by have := HORD.out; omega)
    clear hX hXX hwu h0b
    go_upto_block 0 with fail
    go_cut [8] (fun v8 wx => Only (fun j => j = x ∨ j = b ∨ j = M) V wx)
    case first =>
      go_wp2_with fail
      go_loopg [11] 60 (fun gk v11 wr => ∃ (i now : Nat) (k : KeepT) (v' : Value), v11 = .int .i64 i ∧ i ≤ l.length ∧ i ≤ 60 ∧ now ≤ i ∧ Only (fun j => j = x ∨ j = b ∨ j = M) V wr ∧ PAt wr x b M k now v' ∧ gk = 60 - i)
      case atStart => exact ⟨0, 0, _, _, rfl, Nat.zero_le _, Nat.zero_le _, Nat.le_refl _, Only.refl _ _, HPAT.out, rfl⟩
      case round =>
        obtain ⟨i, now, k, v', rfl, hi, hi60, hnow, ho, hat, hg⟩ := hrel
        obtain ⟨_, va, vcap, rfl, _⟩ := id hat.m.sl
        have Hg := Lib.hid hg
        have HO := Lib.hid ho
        have HAT := Lib.hid hat
        clear hg ho hat
        by_cases hlt : i < l.length ∧ i < 60
        · -- round
          obtain ⟨hlt, hlt60⟩ := hlt
          have hlt' : (i : Int) < (l.length : Int) := by omega
          have hlt60' : (i : Int) < 60 := by omega
          obtain ⟨bb, off, rfl, hcc⟩ := HC.out.at i hlt
          have hcr : ∀ j u, (actVC l[i])[j]? = some u → wr.cell? ⟨bb, off + i * 7 + j, none⟩ = some u := fun j u hu => by
            have h1 := hcc j u hu
            have h2 : bb < w.heap.size := World.block_lt_of_cell? _ _ h1
            exact HO.out.cell (HOD.out.cell h1 id) (fun e => by have h9 : bb = x ∨ bb = b ∨ bb = M := e; have := HX.out; omega)
          have hP := HL.out l[i] (List.getElem_mem hlt)
          have hmr := HO.out.cell HMV.out (fun e => by have h9 : 0 = x ∨ 0 = b ∨ 0 = M := e; have := HX.out; omega)
          generalize l[i] = y at *
          obtain ⟨what, nm, a0, a1, a2, a3, p⟩ := y
          have y0 := hcr 0 _ rfl
          have y1 := hcr 1 _ rfl
          have y2 := hcr 2 _ rfl
          have y3 := hcr 3 _ rfl
          have y4 := hcr 4 _ rfl
          have y5 := hcr 5 _ rfl
          have y6 := hcr 6 _ rfl
          simp only [Nat.add_zero] at y0
          simp only at y0 y1 y2 y3 y4 y5 y6
          unfold actVOk at hP
          simp only at hP
          obtain ⟨U, hU⟩ : ∃ U, U = wr.alloc (.cells #[.int .i64 what, .string nm, .int .u8 a0, .int .u8 a1, .int .u8 a2, .int .u8 a3, .int .u16 p] 75) := ⟨_, rfl⟩
          have hbU : U.heap[wr.heap.size]? = some (.cells #[.int .i64 what, .string nm, .int .u8 a0, .int .u8 a1, .int .u8 a2, .int .u8 a3, .int .u16 p] 75 (0, 0)) := by rw [hU]; exact heap_alloc_new wr _
          have hoU : Only (fun _ => False) wr U := by rw [hU]; exact (Only.refl _ _).alloc _
          have hsU : U.heap.size = wr.heap.size + 1 := by rw [hU]; simp
          have hatU : PAt U x b M k now (.slice va k.own.length vcap) := ⟨HAT.out.keep.new hoU, HAT.out.m.new hoU, HAT.out.tick⟩
          have hoUV : Only (fun j => j = x ∨ j = b ∨ j = M) V U := HO.out.trans (hoU.weaken (fun _ _ => False.elim))
          have hmU := hoU.cell hmr id
          have HA := Lib.hid (show M < wr.heap.size ∧ V.heap.size ≤ wr.heap.size by have h1 := HO.out.size; have := HX.out; omega)
          have z0 : U.cell? ⟨wr.heap.size, 0, none⟩ = some (.int .i64 what) := cell_at hbU 0
          have z1 : U.cell? ⟨wr.heap.size, 1, none⟩ = some (.string nm) := cell_at hbU 1
          have z2 : U.cell? ⟨wr.heap.size, 2, none⟩ = some (.int .u8 a0) := cell_at hbU 2
          have z3 : U.cell? ⟨wr.heap.size, 3, none⟩ = some (.int .u8 a1) := cell_at hbU 3
          have z4 : U.cell? ⟨wr.heap.size, 4, none⟩ = some (.int .u8 a2) := cell_at hbU 4
          have z5 : U.cell? ⟨wr.heap.size, 5, none⟩ = some (.int .u8 a3) := cell_at hbU 5
          have z6 : U.cell? ⟨wr.heap.size, 6, none⟩ = some (.int .u16 p) := cell_at hbU 6
          have HATU := Lib.hid hatU
          have HOUV := Lib.hid hoUV
          have HMU := Lib.hid hmU
          have HBU := Lib.hid hbU
          have HP := Lib.hid hP
          clear hatU hoUV hmU hbU hP
          clear hcc hcr hmr
          go_upto_region 14 with (fail)
          rw [← hU]
          clear hU hoU y0 y1 y2 y3 y4 y5 y6 hlt' hlt60'
          clear hsU
          generalize wr.heap.size = A at *
          go_cut [104] (fun v wx => ∃ q : Int, v = .int .i64 q ∧ U = wx)
          case first =>
            go_wp2_with fail
            go_meet
            exact ⟨_, rfl, rfl⟩
          case rest =>
          obtain ⟨q, rfl, rfl⟩ := hcut
          clear z0 z1 z2 z3 z4 z5 z6
          go_upto_block 2 with fail
          go_cut [11] (fun v11 wx => v11 = .int .i64 i ∧ ∃ (now' : Nat) (k' : KeepT) (w' : Value), now' ≤ i + 1 ∧ Only (fun j => j = x ∨ j = b ∨ j = M) U wx ∧ PAt wx x b M k' now' w')
          case first =>
            by_cases hq2 : q = 2
            · -- wdr
              subst hq2
              have z0 : U.cell? ⟨A, 0, none⟩ = some (.int .i64 what) := cell_at HBU.out 0
              have z1 : U.cell? ⟨A, 1, none⟩ = some (.string nm) := cell_at HBU.out 1
              have z2 : U.cell? ⟨A, 2, none⟩ = some (.int .u8 a0) := cell_at HBU.out 2
              have z3 : U.cell? ⟨A, 3, none⟩ = some (.int .u8 a1) := cell_at HBU.out 3
              have z4 : U.cell? ⟨A, 4, none⟩ = some (.int .u8 a2) := cell_at HBU.out 4
              have z5 : U.cell? ⟨A, 5, none⟩ = some (.int .u8 a3) := cell_at HBU.out 5
              have z6 : U.cell? ⟨A, 6, none⟩ = some (.int .u16 p) := cell_at HBU.out 6
              have HNM := Lib.hid (fun w => name26_any w ⟨what, nm, a0, a1, a2, a3, p⟩ HP.out.2.1)
              dsimp only at HNM
              have hn64 := cut64_size nm
              generalize cut64 nm = nn at *
              have HW := Lib.hid (fun w' (ho : Only (fun _ => False) U w') => kwdr_any w' x b k (HATU.out.keep.new ho) h0x m (ho.cell HMU.out id) nn hn64)
              have HRW := Lib.hid (show ∀ w', VSl w' (.slice va k.own.length vcap) k.own → Calls Tryd.prog 31 #[.agg #[.int .i64 k.self, .int .u64 k.life, .int .u64 k.count, .int .i64 k.every, .int .i64 now, .slice va k.own.length vcap], .string nn] w' fun e w2 => ∃ v2, e = .returned (.tuple #[.agg #[.int .i64 k.self, .int .u64 k.life, .int .u64 (wdrK k nn).count, .int .i64 k.every, .int .i64 now, v2], recT (wdrR k nn), .int .i64 (wdrE k nn)]) ∧ Only (fun _ => False) w' w2 ∧ VSl w2 v2 (wdrK k nn).own from fun w' hv => rwdr_any w' k HATU.out.keep.ok now _ hv nn hn64)
              have HSK := Lib.hid (wdrK_same k nn)
              generalize wdrK k nn = K2 at *
              generalize wdrE k nn = E at *
              have HTD := Lib.hid (fun w => told26_any w (wdrR k nn))
              generalize wdrR k nn = R at *
              obtain ⟨k2, v2, o2, t2, g2, D2⟩ := R
              unfold recT at HW HRW HTD
              simp only at HW HRW HTD
              go_wp2_with fail
              refine (HNM.out _).mono ?_
              rintro e u4 ⟨rfl, ho4⟩
              have HO4 := Lib.hid ho4
              clear ho4
              go_wp2_with fail
              refine (HW.out u4 HO4.out).mono ?_
              rintro e u5 ⟨rfl, ho5, hk5⟩
              obtain ⟨U6, hU6⟩ : ∃ U6, U6 = u5.alloc (.cells #[.string k2, .int .u64 v2, .int .i64 o2, .int .i64 t2, .bool g2, .string D2] 33) := ⟨_, rfl⟩
              have hbU6 : U6.heap[u5.heap.size]? = some (.cells #[.string k2, .int .u64 v2, .int .i64 o2, .int .i64 t2, .bool g2, .string D2] 33 (0, 0)) := by rw [hU6]; exact heap_alloc_new u5 _
              have hoU6 : Only (fun _ => False) u5 U6 := by rw [hU6]; exact (Only.refl _ _).alloc _
              have hsU6 : U6.heap.size = u5.heap.size + 1 := by rw [hU6]; simp
              have hxX := HX.out
              have hAA := HA.out
              have hu4 := HO4.out.size
              have hu5 := ho5.size
              have hAU := lt_of_block HBU.out
              have hk6 := hk5.new hoU6
              have hm6 := ((HATU.out.m.new HO4.out).kept (HATU.out.keep.new HO4.out) ho5 (by omega) (by omega)).new hoU6
              have hbA := hoU6.old (ho5.old (HO4.out.old HBU.out id) (fun e => by have h9 : A = x ∨ A = b := e; omega)) id
              have hoZ : Only (fun j => j = x ∨ j = b ∨ j = M) U U6 := (HO4.out.weaken (fun _ _ => False.elim)).trans ((ho5.weaken (fun j _ e => by have h9 : j = x ∨ j = b := e; show j = x ∨ j = b ∨ j = M; omega)).trans (hoU6.weaken (fun _ _ => False.elim)))
              have hbM := hm6.blk
              have hsl6 := hm6.sl
              have hU6s : u5.heap.size < U6.heap.size := by omega
              have HCA := Lib.hid (show U.heap.size ≤ u5.heap.size ∧ M < u5.heap.size ∧ A < u5.heap.size by omega)
              have HK6 := Lib.hid hk6
              have HM6 := Lib.hid hm6
              have HBA := Lib.hid hbA
              have HOZ := Lib.hid hoZ
              have HBR := Lib.hid hbU6
              have HSL := Lib.hid hsl6
              clear hk6 hm6 hbA hoZ hbU6 hsl6
              clear ho5 hk5 z0 z1 z2 z3 z4 z5 z6 hxX hAA hu4 hu5 hAU hsU6
              go_upto_region 23 with (fail)
              rw [← hU6]
              clear hU6 hoU6
              generalize u5.heap.size = C at *
              have x0 : U6.cell? ⟨M, 0, none⟩ = some (.int .i64 k.self) := cell_at HM6.out.blk 0
              have x1 : U6.cell? ⟨M, 1, none⟩ = some (.int .u64 k.life) := cell_at HM6.out.blk 1
              have x2 : U6.cell? ⟨M, 2, none⟩ = some (.int .u64 k.count) := cell_at HM6.out.blk 2
              have x3 : U6.cell? ⟨M, 3, none⟩ = some (.int .i64 k.every) := cell_at HM6.out.blk 3
              have x4 : U6.cell? ⟨M, 4, none⟩ = some (.int .i64 now) := cell_at HM6.out.blk 4
              have x5 : U6.cell? ⟨M, 5, none⟩ = some (.slice va k.own.length vcap) := cell_at HM6.out.blk 5
              have z0 : U6.cell? ⟨A, 0, none⟩ = some (.int .i64 what) := cell_at HBA.out 0
              have z1 : U6.cell? ⟨A, 1, none⟩ = some (.string nm) := cell_at HBA.out 1
              have z2 : U6.cell? ⟨A, 2, none⟩ = some (.int .u8 a0) := cell_at HBA.out 2
              have z3 : U6.cell? ⟨A, 3, none⟩ = some (.int .u8 a1) := cell_at HBA.out 3
              have z4 : U6.cell? ⟨A, 4, none⟩ = some (.int .u8 a2) := cell_at HBA.out 4
              have z5 : U6.cell? ⟨A, 5, none⟩ = some (.int .u8 a3) := cell_at HBA.out 5
              have z6 : U6.cell? ⟨A, 6, none⟩ = some (.int .u16 p) := cell_at HBA.out 6
              have HCC := Lib.hid (show ∀ w', Only (fun _ => False) U6 w' → w'.cell? ⟨M, 0, none⟩ = some (.int .i64 k.self) ∧ w'.cell? ⟨M, 1, none⟩ = some (.int .u64 k.life) ∧ w'.cell? ⟨M, 2, none⟩ = some (.int .u64 k.count) ∧ w'.cell? ⟨M, 3, none⟩ = some (.int .i64 k.every) ∧ w'.cell? ⟨M, 4, none⟩ = some (.int .i64 now) ∧ w'.cell? ⟨M, 5, none⟩ = some (.slice va k.own.length vcap) ∧ w'.cell? ⟨A, 0, none⟩ = some (.int .i64 what) ∧ w'.cell? ⟨A, 1, none⟩ = some (.string nm) ∧ w'.cell? ⟨A, 2, none⟩ = some (.int .u8 a0) ∧ w'.cell? ⟨A, 3, none⟩ = some (.int .u8 a1) ∧ w'.cell? ⟨A, 4, none⟩ = some (.int .u8 a2) ∧ w'.cell? ⟨A, 5, none⟩ = some (.int .u8 a3) ∧ w'.cell? ⟨A, 6, none⟩ = some (.int .u16 p) from fun w' h => ⟨h.cell x0 id, h.cell x1 id, h.cell x2 id, h.cell x3 id, h.cell x4 id, h.cell x5 id, h.cell z0 id, h.cell z1 id, h.cell z2 id, h.cell z3 id, h.cell z4 id, h.cell z5 id, h.cell z6 id⟩)
              clear x0 x1 x2 x3 x4 x5 z0 z1 z2 z3 z4 z5 z6 hbM
              go_cut [15, 16, 17] (fun v15 v16 v17 wx => v17 = .int .i64 E ∧ ∃ KB RB a9 c9, v15 = .pointer (some ⟨KB, 0, none⟩) ∧ v16 = .pointer (some ⟨RB, 0, none⟩) ∧ wx.heap[KB]? = some (.cells #[.int .i64 k.self, .int .u64 k.life, .int .u64 K2.count, .int .i64 k.every, .int .i64 now, .slice a9 K2.own.length c9] 72 (0, 0)) ∧ wx.heap[RB]? = some (.cells #[.string k2, .int .u64 v2, .int .i64 o2, .int .i64 t2, .bool g2, .string D2] 35 (0, 0)) ∧ VSl wx (.slice a9 K2.own.length c9) K2.own ∧ Only (fun _ => False) U6 wx ∧ U6.heap.size ≤ KB ∧ U6.heap.size ≤ RB)
              case first =>
                clear HW HTD HSK HK6 HM6 HBA HOZ HBR HP HATU HOUV HMU HBU HA HCA HO4 HX HAT HO Hg HORD HPAT HMV HOD HC HL h0x hlt hlt60 hi hi60 hnow
                rename_i zQp0 zh0 zK0 za0 zJ0 zKp0 za1 zu860 zu870 zu880 zu890 zu900 zu910 zu920 zu930 zu940 zu950 zu960 zu970 zu980 zu990 zu1000 zu1010 zu1020 zu1030 zu1050 zu1060 zu1070 zu1080 zu1090 zu1100 zu1110 zu1120 zu1130 zu1140 zu1150
                  zu1160 zu1170 zu1180 zu1190 zu1200 zu1210 zu1220 zu1230 zu1240 zu1250 zu1260 zu1270 zu1280 zu1290 zu1300 zu1310 zu1320 zu1330 zu1340 zu1350 zu1360 zu1370 zu1380 zu1390 zu1400 zu1420 zu1430 zu1440 zu1450 zu1460 zu1470 zu1480
                  zu1490 zu1500 zu1510 zu1520 zu1530 zu1540 zu1550 zu1560 zu1570 zu1580 zu1590 zu1600 zu1610 zu1620 zu1630 zu1640 zu1650 zu1660 zu1670 zu1690 zu1700 zu1710 zu1720 zu1730 zu1740 zu1750 zu1760 zu1770 zu1780 zu1790 zu1800 zu1810
                  zu1820 zu1830 zu1840 zu1850 zu1860 zu1870 zu1880 zu1890 zu1900 zu1910 zu1920 zu1930 zu1940 zu1950 zu1960 zu1970 zu1980 zu1990 zu2000 zu2010 zu2020 zu2030 zu2040 zu2050 zu2060 zu2070 zu2080 zu2090 zu2100 zu2110 zu2120 zu2130
                  zu2140 zu2150 zu2160 zu2170 zu2180 zu2190 zu2200 zu2210 zu2220 zJ1 zK1 za2 zleft0 zright0 za3 za4 zK2 za5 zK3 za6 zJ2 zKp1 za7 za8 zK4 za9 zJ3 zKp2 za10 za11
                revert w m self n0 n1 n2 l w0 w1 w2 cap c1 c2 W zQp0 u1 q1 q2 q3 q4 q5 q3' q3'' q4' q5' u3 V hmx hm0 zh0 zK0 za0 M b x zJ0 zKp0 za1 gk wr u6 u12 u13 u14 u15 u16 u17 u18 u19 u20 u21 u22 u23 u24 u25 u26 u27 u28 u29 zu860 zu870 zu880
                  zu890 zu900 zu910 zu920 zu930 zu940 zu950 zu960 zu970 zu980 zu990 zu1000 zu1010 zu1020 zu1030 u104 zu1050 zu1060 zu1070 zu1080 zu1090 zu1100 zu1110 zu1120 zu1130 zu1140 zu1150 zu1160 zu1170 zu1180 zu1190 zu1200 zu1210 zu1220
                  zu1230 zu1240 zu1250 zu1260 zu1270 zu1280 zu1290 zu1300 zu1310 zu1320 zu1330 zu1340 zu1350 zu1360 zu1370 zu1380 zu1390 zu1400 u141 zu1420 zu1430 zu1440 zu1450 zu1460 zu1470 zu1480 zu1490 zu1500 zu1510 zu1520 zu1530 zu1540 zu1550
                  zu1560 zu1570 zu1580 zu1590 zu1600 zu1610 zu1620 zu1630 zu1640 zu1650 zu1660 zu1670 u168 zu1690 zu1700 zu1710 zu1720 zu1730 zu1740 zu1750 zu1760 zu1770 zu1780 zu1790 zu1800 zu1810 zu1820 zu1830 zu1840 zu1850 zu1860 zu1870 zu1880
                  zu1890 zu1900 zu1910 zu1920 zu1930 zu1940 zu1950 zu1960 zu1970 zu1980 zu1990 zu2000 zu2010 zu2020 zu2030 zu2040 zu2050 zu2060 zu2070 zu2080 zu2090 zu2100 zu2110 zu2120 zu2130 zu2140 zu2150 zu2160 zu2170 zu2180 zu2190 zu2200
                  zu2210 zu2220 zJ1 zK1 za2 i now k zleft0 va vcap zright0 bb off za3 za4 what nm a0 a1 a2 a3 p U zK2 za5 zK3 za6 A u86 u87 u88 u89 u90 u91 u92 u93 u94 u95 u96 u97 u98 u99 u100 u101 u102 u103 u105 u106 u107 u108 u109 u110 u111
                  u112 u113 u114 u115 u116 u117 u118 u119 u120 u121 u122 u123 u124 u125 u126 u127 u128 u129 u130 u131 u132 u133 u134 u135 u136 u137 u138 u139 u140 u142 u143 u144 u145 u146 u147 u148 u149 u150 u151 u152 u153 u154 u155 u156 u157
                  u158 u159 u160 u161 u162 u163 u164 u165 u166 u167 u169 u170 u171 u172 u173 u174 u175 u176 u177 u178 u179 u180 u181 u182 u183 u184 u185 u186 u187 u188 u189 u190 u191 u192 u193 u194 u195 u196 u197 u198 u199 u200 u201 u202 u203
                  u204 u205 u206 u207 u208 u209 u210 u211 u212 u213 u214 u215 u216 u217 u218 u219 u220 u221 u222 zJ2 zKp1 za7 za8 nn HNM hn64 K2 E k2 v2 o2 t2 g2 D2 HRW u4 u5 U6 HSL zK4 za9 C hU6s HCC zJ3 zKp2 za10 za11
                exact h23.out
              case rest =>
              obtain ⟨rfl, KB, RB, a9, c9, rfl, rfl, hKb, hRb, hvs, ho9, hKs, hRs⟩ := hcut
              have hb9 := ho9.old HM6.out.blk id
              have hbC := ho9.old HBR.out id
              have hMl : M < U6.heap.size := lt_of_block HM6.out.blk
              have kk0 : wc.cell? ⟨KB, 0, none⟩ = some (.int .i64 k.self) := cell_at hKb 0
              have kk1 : wc.cell? ⟨KB, 1, none⟩ = some (.int .u64 k.life) := cell_at hKb 1
              have kk2 : wc.cell? ⟨KB, 2, none⟩ = some (.int .u64 K2.count) := cell_at hKb 2
              have kk3 : wc.cell? ⟨KB, 3, none⟩ = some (.int .i64 k.every) := cell_at hKb 3
              have kk4 : wc.cell? ⟨KB, 4, none⟩ = some (.int .i64 now) := cell_at hKb 4
              have kk5 : wc.cell? ⟨KB, 5, none⟩ = some (.slice a9 K2.own.length c9) := cell_at hKb 5
              have x0 : wc.cell? ⟨M, 0, none⟩ = some (.int .i64 k.self) := cell_at hb9 0
              have x1 : wc.cell? ⟨M, 1, none⟩ = some (.int .u64 k.life) := cell_at hb9 1
              have x2 : wc.cell? ⟨M, 2, none⟩ = some (.int .u64 k.count) := cell_at hb9 2
              have x3 : wc.cell? ⟨M, 3, none⟩ = some (.int .i64 k.every) := cell_at hb9 3
              have x4 : wc.cell? ⟨M, 4, none⟩ = some (.int .i64 now) := cell_at hb9 4
              have x5 : wc.cell? ⟨M, 5, none⟩ = some (.slice va k.own.length vcap) := cell_at hb9 5
              have xf : ∀ i, wc.frozen? ⟨M, i, none⟩ = false := free_at hb9
              have hm9 := HM6.out.new ho9
              have hk9 := HK6.out.new ho9
              have HB9 := Lib.hid hb9
              have HBC := Lib.hid hbC
              have HRB := Lib.hid hRb
              have HVS := Lib.hid hvs
              have HM9 := Lib.hid hm9
              have HK9 := Lib.hid hk9
              have HO9 := Lib.hid ho9
              clear hb9 hbC hRb hvs hm9 hk9 ho9
              clear hKb
              go_upto_region 25 with (fail)
              obtain ⟨s1, s2⟩ := lit_set HB9.out [.int .i64 k.self, .int .u64 k.life, .int .u64 K2.count, .int .i64 k.every, .int .i64 now, .slice a9 K2.own.length c9] rfl
              rw [show World.setCells wc M 0 [.int .i64 k.self, .int .u64 k.life, .int .u64 K2.count, .int .i64 k.every, .int .i64 now, .slice a9 K2.own.length c9] = ((((((wc.setCell ⟨M, 0, none⟩ (.int .i64 k.self)).setCell ⟨M, 1, none⟩ (.int .u64 k.life)).setCell ⟨M, 2, none⟩ (.int .u64 K2.count)).setCell ⟨M, 3, none⟩ (.int .i64 k.every)).setCell ⟨M, 4, none⟩ (.int .i64 now)).setCell ⟨M, 5, none⟩ (.slice a9 K2.own.length c9)) from rfl] at s1 s2
              generalize ((((((wc.setCell ⟨M, 0, none⟩ (.int .i64 k.self)).setCell ⟨M, 1, none⟩ (.int .u64 k.life)).setCell ⟨M, 2, none⟩ (.int .u64 K2.count)).setCell ⟨M, 3, none⟩ (.int .i64 k.every)).setCell ⟨M, 4, none⟩ (.int .i64 now)).setCell ⟨M, 5, none⟩ (.slice a9 K2.own.length c9)) = wz at *
              have p0 : wz.cell? ⟨M, 0, none⟩ = some (.int .i64 k.self) := cell_at s1 0
              have p1 : wz.cell? ⟨M, 1, none⟩ = some (.int .u64 k.life) := cell_at s1 1
              have p2 : wz.cell? ⟨M, 2, none⟩ = some (.int .u64 K2.count) := cell_at s1 2
              have p3 : wz.cell? ⟨M, 3, none⟩ = some (.int .i64 k.every) := cell_at s1 3
              have p4 : wz.cell? ⟨M, 4, none⟩ = some (.int .i64 now) := cell_at s1 4
              have p5 : wz.cell? ⟨M, 5, none⟩ = some (.slice a9 K2.own.length c9) := cell_at s1 5
              clear p0 p1 p2 p3 p4 p5 kk0 kk1 kk2 kk3 kk4 kk5 x0 x1 x2 x3 x4 x5 xf
              have hMC := HCA.out
              have hCl := lt_of_block HBR.out
              have hnC : ¬ C = M := by omega
              have hnR : ¬ RB = M := by omega
              have hbC := s2.old HBC.out hnC
              have hRb := s2.old HRB.out hnR
              have e9 : (E != E) = false := by simp
              obtain ⟨e1, e2, e3, e4⟩ := HSK.out
              have hmz : MAt wz M K2 now (.slice a9 K2.own.length c9) := HM9.out.put (by rw [e1, e2, e3]; exact s1) s2 HVS.out
              have hkz : KeepAt wz x b K2 := HK9.out.kept s2 (fun e => by have h9 : x = M := e; have := HX.out; omega) (fun e => by have h9 : b = M := e; have := HX.out; omega)
              have hoz : Only (fun j => j = x ∨ j = b ∨ j = M) U wz := HOZ.out.trans ((HO9.out.weaken (fun _ _ => False.elim)).trans (s2.weaken (fun _ _ e => .inr (.inr e))))
              have hpat : PAt wz x b M K2 now (.slice a9 K2.own.length c9) := ⟨hkz, hmz, by rw [e4, e3]; exact HATU.out.tick⟩
              have c0 : wz.cell? ⟨C, 0, none⟩ = some (.string k2) := cell_at hbC 0
              have c1 : wz.cell? ⟨C, 1, none⟩ = some (.int .u64 v2) := cell_at hbC 1
              have c2 : wz.cell? ⟨C, 2, none⟩ = some (.int .i64 o2) := cell_at hbC 2
              have c3 : wz.cell? ⟨C, 3, none⟩ = some (.int .i64 t2) := cell_at hbC 3
              have c4 : wz.cell? ⟨C, 4, none⟩ = some (.bool g2) := cell_at hbC 4
              have c5 : wz.cell? ⟨C, 5, none⟩ = some (.string D2) := cell_at hbC 5
              have r0 : wz.cell? ⟨RB, 0, none⟩ = some (.string k2) := cell_at hRb 0
              have r1 : wz.cell? ⟨RB, 1, none⟩ = some (.int .u64 v2) := cell_at hRb 1
              have r2 : wz.cell? ⟨RB, 2, none⟩ = some (.int .i64 o2) := cell_at hRb 2
              have r3 : wz.cell? ⟨RB, 3, none⟩ = some (.int .i64 t2) := cell_at hRb 3
              have r4 : wz.cell? ⟨RB, 4, none⟩ = some (.bool g2) := cell_at hRb 4
              have r5 : wz.cell? ⟨RB, 5, none⟩ = some (.string D2) := cell_at hRb 5
              have HPZ := Lib.hid hpat
              have HOZZ := Lib.hid hoz
              clear hpat hoz
              clear s1 s2 hmz hkz hbC hRb hMC hCl
              go_wp2_with fail
              refine (HTD.out _).mono ?_
              rintro e u7 ⟨rfl, ho7⟩
              have hF := (show PAt u7 x b M K2 now (.slice a9 K2.own.length c9) from ⟨HPZ.out.keep.new ho7, HPZ.out.m.new ho7, HPZ.out.tick⟩)
              have hOF := HOZZ.out.trans (ho7.weaken (T := fun j => j = x ∨ j = b ∨ j = M) (fun _ _ => False.elim))
              have HF := Lib.hid hF
              have HOF := Lib.hid hOF
              clear hF hOF
              clear ho7
              go_wp2_with fail
              go_meet
              exact ⟨rfl, now, K2, _, by omega, HOF.out, HF.out⟩
            · have hq2b : (q == 2) = false := by simpa using hq2
              have HQ2 := Lib.hid hq2
              clear hq2
              by_cases hq3 : q = 3
              · -- tick
                subst hq3
                have HKT := Lib.hid (ktick_any U x b k HATU.out.keep h0x m HMU.out)
                have HRT := Lib.hid (show ∀ w', VSl w' (.slice va k.own.length vcap) k.own → Calls Tryd.prog 34 #[.agg #[.int .i64 k.self, .int .u64 k.life, .int .u64 k.count, .int .i64 k.every, .int .i64 now, .slice va k.own.length vcap]] w' fun e w2 => ∃ vr, e = .returned (.tuple #[.agg #[.int .i64 k.self, .int .u64 k.life, .int .u64 (tickK k).count, .int .i64 k.every, .int .i64 ((now : Int) + 1), .slice va k.own.length vcap], vr]) ∧ Only (fun _ => False) w' w2 ∧ RRow w2 w'.heap.size vr (tickL k) from fun w' hv => rtickW_any w' k HATU.out.keep.ok now _ hv (by omega) (by omega) HATU.out.tick)
                have HTE := Lib.hid (show (tickK k).tick = ((now : Int) + 1) % k.every by
                  show (k.tick + 1) % k.every = _
                  rw [HATU.out.tick, Int.emod_add_emod])
                have HTE2 := Lib.hid (show (tickK k).self = k.self ∧ (tickK k).life = k.life ∧ (tickK k).every = k.every ∧ (tickK k).own = k.own from ⟨rfl, rfl, rfl, rfl⟩)
                generalize tickK k = K2 at *
                generalize tickL k = T at *
                have hT : ∃ cnt : Nat, K2.count = cnt := ⟨_, rfl⟩
                obtain ⟨cnt, hcnt⟩ := hT
                rw [hcnt] at HRT
                have HCNT := Lib.hid hcnt
                clear hcnt
                go_wp2_with fail
                refine HKT.out.mono ?_
                rintro e u4 ⟨v4, rfl, ho4, hk4, hr4⟩
                have hxX := HX.out
                have hAA := HA.out
                have hAU := lt_of_block HBU.out
                have hm4 := HATU.out.m.kept HATU.out.keep (ho4.weaken (T := fun i => i = x ∨ i = b) (fun _ _ e => .inl e)) (by omega) (by omega)
                obtain ⟨ta, tcap, rfl, tl, tm, _⟩ := Sl.cells recC_length (Sl.of_owns hr4)
                unfold maxLen at tm
                have hu4 := ho4.size
                have hoZ : Only (fun j => j = x ∨ j = b ∨ j = M) U u4 := ho4.weaken (fun _ _ e => .inl e)
                have x0 : u4.cell? ⟨M, 0, none⟩ = some (.int .i64 k.self) := cell_at hm4.blk 0
                have x1 : u4.cell? ⟨M, 1, none⟩ = some (.int .u64 k.life) := cell_at hm4.blk 1
                have x2 : u4.cell? ⟨M, 2, none⟩ = some (.int .u64 k.count) := cell_at hm4.blk 2
                have x3 : u4.cell? ⟨M, 3, none⟩ = some (.int .i64 k.every) := cell_at hm4.blk 3
                have x4 : u4.cell? ⟨M, 4, none⟩ = some (.int .i64 now) := cell_at hm4.blk 4
                have x5 : u4.cell? ⟨M, 5, none⟩ = some (.slice va k.own.length vcap) := cell_at hm4.blk 5
                have hUM : M < U.heap.size ∧ U.heap.size ≤ u4.heap.size := by omega
                have HK4 := Lib.hid hk4
                have HM4 := Lib.hid hm4
                have HR4 := Lib.hid hr4
                have HOZ := Lib.hid hoZ
                have HUM := Lib.hid hUM
                clear hk4 hm4 hr4 hoZ hUM
                clear ho4 hxX hAA hAU hu4
                go_wp2_with fail
                refine (HRT.out u4 HM4.out.sl).mono ?_
                rintro e u5 ⟨v5, rfl, ho5, hr5⟩
                obtain ⟨ra, rcap, rfl, rl, rm, _⟩ := Sl.cells recC_length (Sl.of_owns hr5)
                unfold maxLen at rm
                have hm5 := HM4.out.new ho5
                have hk5 := HK4.out.new ho5
                have hr45 := owns_only HR4.out ho5 (fun _ _ => id)
                have hoZ5 := HOZ.out.trans (ho5.weaken (T := fun j => j = x ∨ j = b ∨ j = M) (fun _ _ => False.elim))
                clear x0 x1 x2 x3 x4 x5
                obtain ⟨U6, hU6⟩ : ∃ U6, U6 = u5.alloc (.cells #[.int .i64 k.self, .int .u64 k.life, .int .u64 cnt, .int .i64 k.every, .int .i64 ((now : Int) + 1), .slice va k.own.length vcap] 72) := ⟨_, rfl⟩
                have hbU6 : U6.heap[u5.heap.size]? = some (.cells #[.int .i64 k.self, .int .u64 k.life, .int .u64 cnt, .int .i64 k.every, .int .i64 ((now : Int) + 1), .slice va k.own.length vcap] 72 (0, 0)) := by rw [hU6]; exact heap_alloc_new u5 _
                have hoU6 : Only (fun _ => False) u5 U6 := by rw [hU6]; exact (Only.refl _ _).alloc _
                have hsU6 : U6.heap.size = u5.heap.size + 1 := by rw [hU6]; simp
                have hm6 := hm5.new hoU6
                have hk6 := hk5.new hoU6
                have hu5 := ho5.size
                have hMl5 := lt_of_block hm5.blk
                have hr46 := owns_only hr45 hoU6 (fun _ _ => id)
                have hr56 := owns_only hr5 hoU6 (fun _ _ => id)
                have hoZ6 := hoZ5.trans (hoU6.weaken (T := fun j => j = x ∨ j = b ∨ j = M) (fun _ _ => False.elim))
                have hnM : ¬ u5.heap.size = M := by have := HUM.out; omega
                have x0 : U6.cell? ⟨M, 0, none⟩ = some (.int .i64 k.self) := cell_at hm6.blk 0
                have x1 : U6.cell? ⟨M, 1, none⟩ = some (.int .u64 k.life) := cell_at hm6.blk 1
                have x2 : U6.cell? ⟨M, 2, none⟩ = some (.int .u64 k.count) := cell_at hm6.blk 2
                have x3 : U6.cell? ⟨M, 3, none⟩ = some (.int .i64 k.every) := cell_at hm6.blk 3
                have x4 : U6.cell? ⟨M, 4, none⟩ = some (.int .i64 now) := cell_at hm6.blk 4
                have x5 : U6.cell? ⟨M, 5, none⟩ = some (.slice va k.own.length vcap) := cell_at hm6.blk 5
                have y0 : U6.cell? ⟨u5.heap.size, 0, none⟩ = some (.int .i64 k.self) := cell_at hbU6 0
                have y1 : U6.cell? ⟨u5.heap.size, 1, none⟩ = some (.int .u64 k.life) := cell_at hbU6 1
                have y2 : U6.cell? ⟨u5.heap.size, 2, none⟩ = some (.int .u64 cnt) := cell_at hbU6 2
                have y3 : U6.cell? ⟨u5.heap.size, 3, none⟩ = some (.int .i64 k.every) := cell_at hbU6 3
                have y4 : U6.cell? ⟨u5.heap.size, 4, none⟩ = some (.int .i64 ((now : Int) + 1)) := cell_at hbU6 4
                have y5 : U6.cell? ⟨u5.heap.size, 5, none⟩ = some (.slice va k.own.length vcap) := cell_at hbU6 5
                have xf : ∀ i, U6.frozen? ⟨M, i, none⟩ = false := free_at hm6.blk
                have HU5 := Lib.hid (show U.heap.size ≤ u4.heap.size ∧ u4.heap.size ≤ u5.heap.size ∧ M < U.heap.size by have := HUM.out; omega)
                have HM6 := Lib.hid hm6
                have HK6 := Lib.hid hk6
                have HR46 := Lib.hid hr46
                have HR56 := Lib.hid hr56
                have HOZ6 := Lib.hid hoZ6
                clear hm6 hk6 hr46 hr56 hoZ6
                clear hm5 hk5 hr45 hr5 ho5 hoZ5 hsU6 hu5 hMl5
                go_upto_region 30 with (fail)
                rw [← hU6]
                clear hU6 hoU6 hbU6
                generalize u5.heap.size = C at *
                go_upto_region 31 with (fail)
                obtain ⟨s1, s2⟩ := lit_set HM6.out.blk [.int .i64 k.self, .int .u64 k.life, .int .u64 cnt, .int .i64 k.every, .int .i64 ((now : Int) + 1), .slice va k.own.length vcap] rfl
                rw [show World.setCells U6 M 0 [.int .i64 k.self, .int .u64 k.life, .int .u64 cnt, .int .i64 k.every, .int .i64 ((now : Int) + 1), .slice va k.own.length vcap] = ((((((U6.setCell ⟨M, 0, none⟩ (.int .i64 k.self)).setCell ⟨M, 1, none⟩ (.int .u64 k.life)).setCell ⟨M, 2, none⟩ (.int .u64 cnt)).setCell ⟨M, 3, none⟩ (.int .i64 k.every)).setCell ⟨M, 4, none⟩ (.int .i64 ((now : Int) + 1))).setCell ⟨M, 5, none⟩ (.slice va k.own.length vcap)) from rfl] at s1 s2
                generalize ((((((U6.setCell ⟨M, 0, none⟩ (.int .i64 k.self)).setCell ⟨M, 1, none⟩ (.int .u64 k.life)).setCell ⟨M, 2, none⟩ (.int .u64 cnt)).setCell ⟨M, 3, none⟩ (.int .i64 k.every)).setCell ⟨M, 4, none⟩ (.int .i64 ((now : Int) + 1))).setCell ⟨M, 5, none⟩ (.slice va k.own.length vcap)) = wz at *
                have p0 : wz.cell? ⟨M, 0, none⟩ = some (.int .i64 k.self) := cell_at s1 0
                have p1 : wz.cell? ⟨M, 1, none⟩ = some (.int .u64 k.life) := cell_at s1 1
                have p2 : wz.cell? ⟨M, 2, none⟩ = some (.int .u64 cnt) := cell_at s1 2
                have p3 : wz.cell? ⟨M, 3, none⟩ = some (.int .i64 k.every) := cell_at s1 3
                have p4 : wz.cell? ⟨M, 4, none⟩ = some (.int .i64 ((now : Int) + 1)) := cell_at s1 4
                have p5 : wz.cell? ⟨M, 5, none⟩ = some (.slice va k.own.length vcap) := cell_at s1 5
                clear p0 p1 p2 p3 p4 p5 x0 x1 x2 x3 x4 x5 y0 y1 y2 y3 y4 y5 xf
                obtain ⟨e1, e2, e3, e4⟩ := HTE2.out
                have hmz : MAt wz M K2 (((now + 1 : Nat)) : Int) (.slice va k.own.length vcap) := HM6.out.put (by rw [e1, e2, e3, HCNT.out]; exact s1) s2 (by rw [e4]; exact HM6.out.sl)
                have hkz : KeepAt wz x b K2 := HK6.out.kept s2 (fun e => by have h9 : x = M := e; have := HX.out; omega) (fun e => by have h9 : b = M := e; have := HX.out; omega)
                have hoz : Only (fun j => j = x ∨ j = b ∨ j = M) U wz := HOZ6.out.trans (s2.weaken (fun _ _ e => .inr (.inr e)))
                have hpat : PAt wz x b M K2 (((now + 1 : Nat)) : Int) (.slice va k.own.length vcap) := ⟨hkz, hmz, by rw [e3]; exact HTE.out⟩
                have hrz4 := owns_only HR46.out s2 (fun i hi e => by have := HU5.out; omega)
                have hrz5 := owns_only HR56.out s2 (fun i hi e => by have := HU5.out; omega)
                obtain ⟨_, _, he4, _, _, hc4⟩ := Sl.cells recC_length (Sl.of_owns hrz4)
                cases he4
                obtain ⟨_, _, he5, _, _, hc5⟩ := Sl.cells recC_length (Sl.of_owns hrz5)
                cases he5
                have hTl : T.length ≤ 2 ^ 63 - 1 := by omega
                have HPZ := Lib.hid hpat
                have HOZZ := Lib.hid hoz
                have HC4 := Lib.hid hc4
                have HC5 := Lib.hid hc5
                clear hpat hoz hc4 hc5
                clear s1 s2 hmz hkz hrz4 hrz5 e1 e2 e3 e4
                go_wp2_with fail
                go_loopg [21] T.length (fun gk v21 wr2 => ∃ j : Nat, v21 = .int .i64 j ∧ j ≤ T.length ∧ Only (fun _ => False) wz wr2 ∧ gk = T.length - j)
                case atStart => exact ⟨0, rfl, Nat.zero_le _, Only.refl _ _, rfl⟩
                case round =>
                  obtain ⟨j, rfl, hj, hoj, hgj⟩ := hrel
                  have Hgj := Lib.hid hgj
                  have HOJ := Lib.hid hoj
                  clear hgj hoj
                  by_cases hjl : j < T.length
                  · -- tcmp
                    obtain ⟨b1, f1, he1, hc1⟩ := HC4.out.at j hjl
                    subst he1
                    obtain ⟨b2, f2, he2, hc2⟩ := HC5.out.at j hjl
                    subst he2
                    have hcx : ∀ i u, (recC T[j])[i]? = some u → _ := fun i u hu => HOJ.out.cell (hc1 i u hu) id
                    have hcy : ∀ i u, (recC T[j])[i]? = some u → _ := fun i u hu => HOJ.out.cell (hc2 i u hu) id
                    generalize T[j] = z at *
                    have HTD := Lib.hid (fun w => told26_any w z)
                    unfold recT at HTD
                    have p0 := hcx 0 _ rfl
                    have p1 := hcx 1 _ rfl
                    have p2 := hcx 2 _ rfl
                    have p3 := hcx 3 _ rfl
                    have p4 := hcx 4 _ rfl
                    have p5 := hcx 5 _ rfl
                    have q0 := hcy 0 _ rfl
                    have q1 := hcy 1 _ rfl
                    have q2 := hcy 2 _ rfl
                    have q3 := hcy 3 _ rfl
                    have q4 := hcy 4 _ rfl
                    have q5 := hcy 5 _ rfl
                    simp only [Nat.add_zero] at p0 q0
                    have hjl' : (j : Int) < (T.length : Int) := by omega
                    have hj0 : (0 : Int) ≤ (j : Int) := by omega
                    clear hcx hcy hc1 hc2
                    go_upto_region 36 with (fail)
                    go_region_held3 (fun w' => w'.cell? ⟨b1, f1 + j * 6, none⟩ = some (.string z.key) ∧ w'.cell? ⟨b1, f1 + j * 6 + 1, none⟩ = some (.int .u64 z.ver) ∧ w'.cell? ⟨b1, f1 + j * 6 + 2, none⟩ = some (.int .i64 z.o) ∧ w'.cell? ⟨b1, f1 + j * 6 + 3, none⟩ = some (.int .i64 z.age) ∧ w'.cell? ⟨b1, f1 + j * 6 + 4, none⟩ = some (.bool z.gone) ∧ w'.cell? ⟨b1, f1 + j * 6 + 5, none⟩ = some (.string z.data) ∧ w'.cell? ⟨b2, f2 + j * 6, none⟩ = some (.string z.key) ∧ w'.cell? ⟨b2, f2 + j * 6 + 1, none⟩ = some (.int .u64 z.ver) ∧ w'.cell? ⟨b2, f2 + j * 6 + 2, none⟩ = some (.int .i64 z.o) ∧ w'.cell? ⟨b2, f2 + j * 6 + 3, none⟩ = some (.int .i64 z.age) ∧ w'.cell? ⟨b2, f2 + j * 6 + 4, none⟩ = some (.bool z.gone) ∧ w'.cell? ⟨b2, f2 + j * 6 + 5, none⟩ = some (.string z.data))
                      ((go_split_ands; (repeat' apply And.intro); all_goals (repeat (first | (with_reducible assumption) | (with_reducible apply keepDv) | (with_reducible exact Only.cell hd9 (by with_reducible assumption) id)))))
                      (first
                        | (go_at_call 32; (with_reducible refine (HTD.out _).mono ?_); rintro e w9 ⟨rfl, hd9⟩; have o9 : Only (fun _ => False) wr w9 := (by (refine Only.trans (b := _) ?_ hd9); (repeat (first | (with_reducible assumption) | (with_reducible exact Only.refl _ _) | (with_reducible refine Only.drew ?_) | (with_reducible refine Only.alloc ?_ _) | (with_reducible refine onlySet ?_ (by first | (with_reducible assumption) | omega) _) | (with_reducible refine Only.trans ?_ (by with_reducible assumption)))))))
                    all_goals
                      go_split_ands
                      have hOJ9 := HOJ.out.trans o9
                      have HOJ9 := Lib.hid hOJ9
                      clear hOJ9
                      clear o9
                      go_wp2_with fail
                      go_roundg (T.length - (j + 1))
                      case measure => rw [Hgj.out]; omega
                      case rel => exact ⟨j + 1, by go_num, by omega, HOJ9.out, rfl⟩
                  · -- tend
                    have hjl' : ¬ (j : Int) < (T.length : Int) := by omega
                    go_wp2_with fail
                    go_meet
                    exact ⟨rfl, now + 1, K2, _, by omega, HOZZ.out.trans (HOJ.out.weaken (fun _ _ => False.elim)), ⟨HPZ.out.keep.new HOJ.out, HPZ.out.m.new HOJ.out, HPZ.out.tick⟩⟩
              · -- reg
                have hq3b : (q == 3) = false := by simpa using hq3
                have HQ3 := Lib.hid hq3
                clear hq3
                have z0 : U.cell? ⟨A, 0, none⟩ = some (.int .i64 what) := cell_at HBU.out 0
                have z1 : U.cell? ⟨A, 1, none⟩ = some (.string nm) := cell_at HBU.out 1
                have z2 : U.cell? ⟨A, 2, none⟩ = some (.int .u8 a0) := cell_at HBU.out 2
                have z3 : U.cell? ⟨A, 3, none⟩ = some (.int .u8 a1) := cell_at HBU.out 3
                have z4 : U.cell? ⟨A, 4, none⟩ = some (.int .u8 a2) := cell_at HBU.out 4
                have z5 : U.cell? ⟨A, 5, none⟩ = some (.int .u8 a3) := cell_at HBU.out 5
                have z6 : U.cell? ⟨A, 6, none⟩ = some (.int .u16 p) := cell_at HBU.out 6
                have HNM := Lib.hid (fun w => name26_any w ⟨what, nm, a0, a1, a2, a3, p⟩ HP.out.2.1)
                dsimp only at HNM
                have hn64 := cut64_size nm
                generalize cut64 nm = nn at *
                have hpb : p < 65536 := HP.out.2.2.2.2.2.2
                have hd2 : (p : Int) / 2 = ((p / 2 : Nat) : Int) := by omega
                have hd3 : (p : Int) / 3 = ((p / 3 : Nat) : Int) := by omega
                have hd2' : (p : Int).tdiv 2 = ((p / 2 : Nat) : Int) := by rw [Int.tdiv_eq_ediv_of_nonneg (by omega)]; exact hd2
                have hd3' : (p : Int).tdiv 3 = ((p / 3 : Nat) : Int) := by rw [Int.tdiv_eq_ediv_of_nonneg (by omega)]; exact hd3
                have hp2 : p / 2 < 65536 := by omega
                have hp3 : p / 3 < 65536 := by omega
                generalize p / 2 = p2 at *
                generalize p / 3 = p3 at *
                have hsv : svcOk ⟨nn, a0, a1, a2, a3, p, p2, p3⟩ := ⟨hn64, HP.out.2.2.1, HP.out.2.2.2.1, HP.out.2.2.2.2.1, HP.out.2.2.2.2.2.1, hpb, hp2, hp3⟩
                have HW := Lib.hid (fun w' (ho : Only (fun _ => False) U w') => kreg_any w' x b k (HATU.out.keep.new ho) h0x m (ho.cell HMU.out id) ⟨nn, a0, a1, a2, a3, p, p2, p3⟩ hsv)
                have HRW := Lib.hid (show ∀ w', VSl w' (.slice va k.own.length vcap) k.own → Calls Tryd.prog 36 #[.agg #[.int .i64 k.self, .int .u64 k.life, .int .u64 k.count, .int .i64 k.every, .int .i64 now, .slice va k.own.length vcap], .agg #[.string nn, .int .u8 a0, .int .u8 a1, .int .u8 a2, .int .u8 a3, .int .u16 p, .int .u16 p2, .int .u16 p3]] w' fun e w2 => ∃ v2, e = .returned (.tuple #[.agg #[.int .i64 k.self, .int .u64 k.life, .int .u64 (regK k ⟨nn, a0, a1, a2, a3, p, p2, p3⟩).count, .int .i64 k.every, .int .i64 now, v2], recT (regR k ⟨nn, a0, a1, a2, a3, p, p2, p3⟩), .int .i64 (regE k ⟨nn, a0, a1, a2, a3, p, p2, p3⟩)]) ∧ Only (fun _ => False) w' w2 ∧ VSl w2 v2 (regK k ⟨nn, a0, a1, a2, a3, p, p2, p3⟩).own from fun w' hv => rreg_any w' k HATU.out.keep.ok now _ hv _ hsv)
                have HSK := Lib.hid (regK_same k ⟨nn, a0, a1, a2, a3, p, p2, p3⟩)
                unfold svcT at HW
                simp only at HW
                generalize regK k ⟨nn, a0, a1, a2, a3, p, p2, p3⟩ = K2 at *
                generalize regE k ⟨nn, a0, a1, a2, a3, p, p2, p3⟩ = E at *
                have HTD := Lib.hid (fun w => told26_any w (regR k ⟨nn, a0, a1, a2, a3, p, p2, p3⟩))
                generalize regR k ⟨nn, a0, a1, a2, a3, p, p2, p3⟩ = R at *
                obtain ⟨k2, v2, o2, t2, g2, D2⟩ := R
                unfold recT at HW HRW HTD
                simp only at HW HRW HTD
                have HCC := Lib.hid (show ∀ w', Only (fun _ => False) U w' → w'.cell? ⟨A, 0, none⟩ = some (.int .i64 what) ∧ w'.cell? ⟨A, 1, none⟩ = some (.string nm) ∧ w'.cell? ⟨A, 2, none⟩ = some (.int .u8 a0) ∧ w'.cell? ⟨A, 3, none⟩ = some (.int .u8 a1) ∧ w'.cell? ⟨A, 4, none⟩ = some (.int .u8 a2) ∧ w'.cell? ⟨A, 5, none⟩ = some (.int .u8 a3) ∧ w'.cell? ⟨A, 6, none⟩ = some (.int .u16 p) from fun w' h => ⟨h.cell z0 id, h.cell z1 id, h.cell z2 id, h.cell z3 id, h.cell z4 id, h.cell z5 id, h.cell z6 id⟩)
                have hw2 : IntKind.u16.wrap (p2 : Int) = (p2 : Int) := by show (p2 : Int) % 65536 = _; omega
                have hw3 : IntKind.u16.wrap (p3 : Int) = (p3 : Int) := by show (p3 : Int) % 65536 = _; omega
                clear z0 z1 z2 z3 z4 z5 z6 hsv hn64
                go_upto_region 15 with (fail)
                go_cut [22] (fun v22 wx => ∃ Q, v22 = .pointer (some ⟨Q, 0, none⟩) ∧ wx.heap[Q]? = some (.cells #[.string nn, .int .u8 a0, .int .u8 a1, .int .u8 a2, .int .u8 a3, .int .u16 p, .int .u16 p2, .int .u16 p3] 86 (0, 0)) ∧ Only (fun _ => False) U wx ∧ U.heap.size ≤ Q)
                case first =>
                  go_region_held3 (fun w' => Only (fun _ => False) U w' ∧ w'.cell? ⟨A, 0, none⟩ = some (.int .i64 what) ∧ w'.cell? ⟨A, 1, none⟩ = some (.string nm) ∧ w'.cell? ⟨A, 2, none⟩ = some (.int .u8 a0) ∧ w'.cell? ⟨A, 3, none⟩ = some (.int .u8 a1) ∧ w'.cell? ⟨A, 4, none⟩ = some (.int .u8 a2) ∧ w'.cell? ⟨A, 5, none⟩ = some (.int .u8 a3) ∧ w'.cell? ⟨A, 6, none⟩ = some (.int .u16 p))
                    (((refine heldO HCC.out ?_); (repeat (first | (with_reducible assumption) | (with_reducible exact Only.refl _ _) | (with_reducible refine Only.drew ?_) | (with_reducible refine Only.alloc ?_ _) | (with_reducible refine onlySet ?_ (by first | (with_reducible assumption) | omega) _) | (with_reducible refine Only.trans ?_ (by with_reducible assumption))))))
                    (first
                      | (go_at_call 30; (with_reducible refine (HNM.out _).mono ?_); rintro e w8 ⟨rfl, ho8⟩; have o8 : Only (fun _ => False) U w8 := (by (refine Only.trans (b := _) ?_ ho8); (repeat (first | (with_reducible assumption) | (with_reducible exact Only.refl _ _) | (with_reducible refine Only.drew ?_) | (with_reducible refine Only.alloc ?_ _) | (with_reducible refine onlySet ?_ (by first | (with_reducible assumption) | omega) _) | (with_reducible refine Only.trans ?_ (by with_reducible assumption))))); have hz8 : U.heap.size ≤ w8.heap.size := Only.size o8; (first | (have hs9 : w8.heap[U.heap.size]? = some (.cells #[.string ⟨#[]⟩, .int .u8 0, .int .u8 0, .int .u8 0, .int .u8 0, .int .u16 0, .int .u16 0, .int .u16 0] 86 (0, 0)) := (by (refine Only.old ho8 ?_ id); first | (apply Eq.trans; (case h₁ => repeat (first | (with_reducible assumption) | (with_reducible exact heap_alloc_new _ _) | (with_reducible apply blk_new; (repeat (first | (with_reducible rfl) | (with_reducible apply sz_set) | (with_reducible apply sz_alloc) | (with_reducible apply sz_drew))); done) | (with_reducible apply blk_same) | (with_reducible apply blk_ne; case hn => (first | assumption | omega)) | (with_reducible apply blk_old) | (with_reducible apply blk_drew))); (case h₂ => rfl)) | fail); have ls9 := lt_of_block hs9; have fs9 : ∀ i, w8.frozen? ⟨U.heap.size, i, none⟩ = false := free_at hs9; have sz0 : w8.cell? ⟨U.heap.size, 0, none⟩ = some (.string ⟨#[]⟩) := cell_at hs9 0; have sz1 : w8.cell? ⟨U.heap.size, 1, none⟩ = some (.int .u8 0) := cell_at hs9 1; have sz2 : w8.cell? ⟨U.heap.size, 2, none⟩ = some (.int .u8 0) := cell_at hs9 2; have sz3 : w8.cell? ⟨U.heap.size, 3, none⟩ = some (.int .u8 0) := cell_at hs9 3; have sz4 : w8.cell? ⟨U.heap.size, 4, none⟩ = some (.int .u8 0) := cell_at hs9 4; have sz5 : w8.cell? ⟨U.heap.size, 5, none⟩ = some (.int .u16 0) := cell_at hs9 5; have sz6 : w8.cell? ⟨U.heap.size, 6, none⟩ = some (.int .u16 0) := cell_at hs9 6; have sz7 : w8.cell? ⟨U.heap.size, 7, none⟩ = some (.int .u16 0) := cell_at hs9 7) | skip); (try (have nn0 : ¬ U.heap.size = w8.heap.size := (by omega)))))
                  all_goals
                    go_wp2_with fail
                    go_meet
                    refine ⟨_, by with_reducible rfl, ?_, ?_, ?_⟩
                    · (apply Eq.trans; (case h₁ => repeat (first | (with_reducible assumption) | (with_reducible exact heap_alloc_new _ _) | (with_reducible apply blk_new; (repeat (first | (with_reducible rfl) | (with_reducible apply sz_set) | (with_reducible apply sz_alloc) | (with_reducible apply sz_drew))); done) | (with_reducible apply blk_same) | (with_reducible apply blk_ne; case hn => (first | assumption | omega)) | (with_reducible apply blk_old) | (with_reducible apply blk_drew))); (case h₂ => rfl))
                    · (repeat (first | (with_reducible assumption) | (with_reducible exact Only.refl _ _) | (with_reducible refine Only.drew ?_) | (with_reducible refine Only.alloc ?_ _) | (with_reducible refine onlySet ?_ (by first | (with_reducible assumption) | omega) _) | (with_reducible refine Only.trans ?_ (by with_reducible assumption))))
                    · first | omega | (simp; omega)
                case rest =>
                obtain ⟨Q, rfl, hQb, hoQ, hQs⟩ := hcut
                clear hw2 hw3 hd2 hd3 hd2' hd3'
                have s0 : wc.cell? ⟨Q, 0, none⟩ = some (.string nn) := cell_at hQb 0
                have s1 : wc.cell? ⟨Q, 1, none⟩ = some (.int .u8 a0) := cell_at hQb 1
                have s2 : wc.cell? ⟨Q, 2, none⟩ = some (.int .u8 a1) := cell_at hQb 2
                have s3 : wc.cell? ⟨Q, 3, none⟩ = some (.int .u8 a2) := cell_at hQb 3
                have s4 : wc.cell? ⟨Q, 4, none⟩ = some (.int .u8 a3) := cell_at hQb 4
                have s5 : wc.cell? ⟨Q, 5, none⟩ = some (.int .u16 p) := cell_at hQb 5
                have s6 : wc.cell? ⟨Q, 6, none⟩ = some (.int .u16 p2) := cell_at hQb 6
                have s7 : wc.cell? ⟨Q, 7, none⟩ = some (.int .u16 p3) := cell_at hQb 7
                have hmQ := HATU.out.m.new hoQ
                have hkQ := HATU.out.keep.new hoQ
                have hxX := HX.out
                have hMU : M < U.heap.size := lt_of_block HATU.out.m.blk
                have HQ := Lib.hid (show U.heap.size ≤ Q ∧ M < U.heap.size ∧ x < U.heap.size ∧ b < U.heap.size by omega)
                have HWQ := Lib.hid (HW.out wc hoQ)
                have HQB := Lib.hid hQb
                have HMQ := Lib.hid hmQ
                have HKQ := Lib.hid hkQ
                have HOQ := Lib.hid hoQ
                clear hQb hmQ hkQ hoQ
                clear hxX hMU hQs
                go_wp2_with fail
                refine HWQ.out.mono ?_
                rintro e u5 ⟨rfl, ho5, hk5⟩
                clear s0 s1 s2 s3 s4 s5 s6 s7
                have hQQ := HQ.out
                have hm5 := HMQ.out.kept HKQ.out ho5 (by have := HX.out; omega) (by have := HX.out; omega)
                have hq5 := ho5.old HQB.out (fun e => by have h9 : Q = x ∨ Q = b := e; omega)
                have hoZ5 : Only (fun j => j = x ∨ j = b ∨ j = M) U u5 := (HOQ.out.weaken (fun _ _ => False.elim)).trans (ho5.weaken (fun j _ e => by have h9 : j = x ∨ j = b := e; show j = x ∨ j = b ∨ j = M; omega))
                obtain ⟨U6, hU6⟩ : ∃ U6, U6 = u5.alloc (.cells #[.string k2, .int .u64 v2, .int .i64 o2, .int .i64 t2, .bool g2, .string D2] 33) := ⟨_, rfl⟩
                have hbU6 : U6.heap[u5.heap.size]? = some (.cells #[.string k2, .int .u64 v2, .int .i64 o2, .int .i64 t2, .bool g2, .string D2] 33 (0, 0)) := by rw [hU6]; exact heap_alloc_new u5 _
                have hoU6 : Only (fun _ => False) u5 U6 := by rw [hU6]; exact (Only.refl _ _).alloc _
                have hsU6 : U6.heap.size = u5.heap.size + 1 := by rw [hU6]; simp
                have hm6 := hm5.new hoU6
                have hk6 := hk5.new hoU6
                have hq6 := hoU6.old hq5 id
                have hoZ6 := hoZ5.trans (hoU6.weaken (T := fun j => j = x ∨ j = b ∨ j = M) (fun _ _ => False.elim))
                have hu5 := ho5.size
                have hMl5 := lt_of_block hm5.blk
                have HCM := Lib.hid (show ¬ u5.heap.size = M ∧ M < u5.heap.size by omega)
                have x0 : U6.cell? ⟨M, 0, none⟩ = some (.int .i64 k.self) := cell_at hm6.blk 0
                have x1 : U6.cell? ⟨M, 1, none⟩ = some (.int .u64 k.life) := cell_at hm6.blk 1
                have x2 : U6.cell? ⟨M, 2, none⟩ = some (.int .u64 k.count) := cell_at hm6.blk 2
                have x3 : U6.cell? ⟨M, 3, none⟩ = some (.int .i64 k.every) := cell_at hm6.blk 3
                have x4 : U6.cell? ⟨M, 4, none⟩ = some (.int .i64 now) := cell_at hm6.blk 4
                have x5 : U6.cell? ⟨M, 5, none⟩ = some (.slice va k.own.length vcap) := cell_at hm6.blk 5
                have s0 : U6.cell? ⟨Q, 0, none⟩ = some (.string nn) := cell_at hq6 0
                have s1 : U6.cell? ⟨Q, 1, none⟩ = some (.int .u8 a0) := cell_at hq6 1
                have s2 : U6.cell? ⟨Q, 2, none⟩ = some (.int .u8 a1) := cell_at hq6 2
                have s3 : U6.cell? ⟨Q, 3, none⟩ = some (.int .u8 a2) := cell_at hq6 3
                have s4 : U6.cell? ⟨Q, 4, none⟩ = some (.int .u8 a3) := cell_at hq6 4
                have s5 : U6.cell? ⟨Q, 5, none⟩ = some (.int .u16 p) := cell_at hq6 5
                have s6 : U6.cell? ⟨Q, 6, none⟩ = some (.int .u16 p2) := cell_at hq6 6
                have s7 : U6.cell? ⟨Q, 7, none⟩ = some (.int .u16 p3) := cell_at hq6 7
                have HM6 := Lib.hid hm6
                have HK6 := Lib.hid hk6
                have HOZ6 := Lib.hid hoZ6
                have HBR := Lib.hid hbU6
                clear hm6 hk6 hoZ6 hbU6
                clear hm5 hk5 hq5 hoZ5 ho5 hsU6 hu5 hMl5 hQQ hq6
                go_upto_region 17 with (fail)
                rw [← hU6]
                clear hU6 hoU6
                generalize u5.heap.size = C at *
                go_wp2_with fail
                refine (HRW.out U6 HM6.out.sl).mono ?_
                rintro e u7 ⟨v9, rfl, ho7, hv7⟩
                obtain ⟨_, a9, c9, rfl, _⟩ := id hv7
                have hm7 := HM6.out.new ho7
                have hk7 := HK6.out.new ho7
                have hc7 := ho7.old HBR.out id
                have hoZ7 := HOZ6.out.trans (ho7.weaken (T := fun j => j = x ∨ j = b ∨ j = M) (fun _ _ => False.elim))
                clear x0 x1 x2 x3 x4 x5 s0 s1 s2 s3 s4 s5 s6 s7
                obtain ⟨W8, hW8⟩ : ∃ W8, W8 = u7.alloc (.cells #[.int .i64 k.self, .int .u64 k.life, .int .u64 K2.count, .int .i64 k.every, .int .i64 now, .slice a9 K2.own.length c9] 72) := ⟨_, rfl⟩
                have hbW8 : W8.heap[u7.heap.size]? = some (.cells #[.int .i64 k.self, .int .u64 k.life, .int .u64 K2.count, .int .i64 k.every, .int .i64 now, .slice a9 K2.own.length c9] 72 (0, 0)) := by rw [hW8]; exact heap_alloc_new u7 _
                have hoW8 : Only (fun _ => False) u7 W8 := by rw [hW8]; exact (Only.refl _ _).alloc _
                have hsW8 : W8.heap.size = u7.heap.size + 1 := by rw [hW8]; simp
                obtain ⟨W9, hW9⟩ : ∃ W9, W9 = W8.alloc (.cells #[.string k2, .int .u64 v2, .int .i64 o2, .int .i64 t2, .bool g2, .string D2] 35) := ⟨_, rfl⟩
                have hbW9 : W9.heap[W8.heap.size]? = some (.cells #[.string k2, .int .u64 v2, .int .i64 o2, .int .i64 t2, .bool g2, .string D2] 35 (0, 0)) := by rw [hW9]; exact heap_alloc_new W8 _
                have hoW9 : Only (fun _ => False) W8 W9 := by rw [hW9]; exact (Only.refl _ _).alloc _
                have hsW9 : W9.heap.size = W8.heap.size + 1 := by rw [hW9]; simp
                have hb8 := hoW9.old hbW8 id
                have ho89 := hoW8.trans hoW9
                have hm9 := hm7.new ho89
                have hk9 := hk7.new ho89
                have hc9 := ho89.old hc7 id
                have hv9 := hv7.new ho89
                have hoZ9 := hoZ7.trans (ho89.weaken (T := fun j => j = x ∨ j = b ∨ j = M) (fun _ _ => False.elim))
                have hMl7 := lt_of_block hm7.blk
                have hnR : ¬ W8.heap.size = M := by omega
                rw [hsW8] at hbW9 hnR
                have xf : ∀ i, W9.frozen? ⟨M, i, none⟩ = false := free_at hm9.blk
                have x0 : W9.cell? ⟨M, 0, none⟩ = some (.int .i64 k.self) := cell_at hm9.blk 0
                have x1 : W9.cell? ⟨M, 1, none⟩ = some (.int .u64 k.life) := cell_at hm9.blk 1
                have x2 : W9.cell? ⟨M, 2, none⟩ = some (.int .u64 k.count) := cell_at hm9.blk 2
                have x3 : W9.cell? ⟨M, 3, none⟩ = some (.int .i64 k.every) := cell_at hm9.blk 3
                have x4 : W9.cell? ⟨M, 4, none⟩ = some (.int .i64 now) := cell_at hm9.blk 4
                have x5 : W9.cell? ⟨M, 5, none⟩ = some (.slice va k.own.length vcap) := cell_at hm9.blk 5
                have y0 : W9.cell? ⟨u7.heap.size, 0, none⟩ = some (.int .i64 k.self) := cell_at hb8 0
                have y1 : W9.cell? ⟨u7.heap.size, 1, none⟩ = some (.int .u64 k.life) := cell_at hb8 1
                have y2 : W9.cell? ⟨u7.heap.size, 2, none⟩ = some (.int .u64 K2.count) := cell_at hb8 2
                have y3 : W9.cell? ⟨u7.heap.size, 3, none⟩ = some (.int .i64 k.every) := cell_at hb8 3
                have y4 : W9.cell? ⟨u7.heap.size, 4, none⟩ = some (.int .i64 now) := cell_at hb8 4
                have y5 : W9.cell? ⟨u7.heap.size, 5, none⟩ = some (.slice a9 K2.own.length c9) := cell_at hb8 5
                have HM9 := Lib.hid hm9
                have HK9 := Lib.hid hk9
                have HC9 := Lib.hid hc9
                have HV9 := Lib.hid hv9
                have HOZ9 := Lib.hid hoZ9
                have HR9 := Lib.hid hbW9
                have HNR := Lib.hid hnR
                clear hm9 hk9 hc9 hv9 hoZ9 hbW9 hnR
                clear hm7 hk7 hc7 hv7 ho7 hoZ7 hb8 hbW8 hMl7 ho89
                go_upto_region 18 with (fail)
                rw [← hW8, ← hW9]
                clear hW8 hW9 hoW8 hoW9 hsW8 hsW9
                generalize u7.heap.size + 1 = RB at *
                go_upto_region 19 with (fail)
                obtain ⟨s1, s2⟩ := lit_set HM9.out.blk [.int .i64 k.self, .int .u64 k.life, .int .u64 K2.count, .int .i64 k.every, .int .i64 now, .slice a9 K2.own.length c9] rfl
                rw [show World.setCells W9 M 0 [.int .i64 k.self, .int .u64 k.life, .int .u64 K2.count, .int .i64 k.every, .int .i64 now, .slice a9 K2.own.length c9] = ((((((W9.setCell ⟨M, 0, none⟩ (.int .i64 k.self)).setCell ⟨M, 1, none⟩ (.int .u64 k.life)).setCell ⟨M, 2, none⟩ (.int .u64 K2.count)).setCell ⟨M, 3, none⟩ (.int .i64 k.every)).setCell ⟨M, 4, none⟩ (.int .i64 now)).setCell ⟨M, 5, none⟩ (.slice a9 K2.own.length c9)) from rfl] at s1 s2
                generalize ((((((W9.setCell ⟨M, 0, none⟩ (.int .i64 k.self)).setCell ⟨M, 1, none⟩ (.int .u64 k.life)).setCell ⟨M, 2, none⟩ (.int .u64 K2.count)).setCell ⟨M, 3, none⟩ (.int .i64 k.every)).setCell ⟨M, 4, none⟩ (.int .i64 now)).setCell ⟨M, 5, none⟩ (.slice a9 K2.own.length c9)) = wz at *
                have pp0 : wz.cell? ⟨M, 0, none⟩ = some (.int .i64 k.self) := cell_at s1 0
                have pp1 : wz.cell? ⟨M, 1, none⟩ = some (.int .u64 k.life) := cell_at s1 1
                have pp2 : wz.cell? ⟨M, 2, none⟩ = some (.int .u64 K2.count) := cell_at s1 2
                have pp3 : wz.cell? ⟨M, 3, none⟩ = some (.int .i64 k.every) := cell_at s1 3
                have pp4 : wz.cell? ⟨M, 4, none⟩ = some (.int .i64 now) := cell_at s1 4
                have pp5 : wz.cell? ⟨M, 5, none⟩ = some (.slice a9 K2.own.length c9) := cell_at s1 5
                clear pp0 pp1 pp2 pp3 pp4 pp5 x0 x1 x2 x3 x4 x5 y0 y1 y2 y3 y4 y5 xf
                have hbC := s2.old HC9.out HCM.out.1
                have hRb := s2.old HR9.out HNR.out
                have e9 : (E != E) = false := by simp
                obtain ⟨e1, e2, e3, e4⟩ := HSK.out
                have hmz : MAt wz M K2 now (.slice a9 K2.own.length c9) := HM9.out.put (by rw [e1, e2, e3]; exact s1) s2 HV9.out
                have hkz : KeepAt wz x b K2 := HK9.out.kept s2 (fun e => by have h9 : x = M := e; have := HX.out; omega) (fun e => by have h9 : b = M := e; have := HX.out; omega)
                have hoz : Only (fun j => j = x ∨ j = b ∨ j = M) U wz := HOZ9.out.trans (s2.weaken (fun _ _ e => .inr (.inr e)))
                have hpat : PAt wz x b M K2 now (.slice a9 K2.own.length c9) := ⟨hkz, hmz, by rw [e4, e3]; exact HATU.out.tick⟩
                have c0 : wz.cell? ⟨C, 0, none⟩ = some (.string k2) := cell_at hbC 0
                have c1 : wz.cell? ⟨C, 1, none⟩ = some (.int .u64 v2) := cell_at hbC 1
                have c2 : wz.cell? ⟨C, 2, none⟩ = some (.int .i64 o2) := cell_at hbC 2
                have c3 : wz.cell? ⟨C, 3, none⟩ = some (.int .i64 t2) := cell_at hbC 3
                have c4 : wz.cell? ⟨C, 4, none⟩ = some (.bool g2) := cell_at hbC 4
                have c5 : wz.cell? ⟨C, 5, none⟩ = some (.string D2) := cell_at hbC 5
                have r0 : wz.cell? ⟨RB, 0, none⟩ = some (.string k2) := cell_at hRb 0
                have r1 : wz.cell? ⟨RB, 1, none⟩ = some (.int .u64 v2) := cell_at hRb 1
                have r2 : wz.cell? ⟨RB, 2, none⟩ = some (.int .i64 o2) := cell_at hRb 2
                have r3 : wz.cell? ⟨RB, 3, none⟩ = some (.int .i64 t2) := cell_at hRb 3
                have r4 : wz.cell? ⟨RB, 4, none⟩ = some (.bool g2) := cell_at hRb 4
                have r5 : wz.cell? ⟨RB, 5, none⟩ = some (.string D2) := cell_at hRb 5
                have HPZ := Lib.hid hpat
                have HOZZ := Lib.hid hoz
                clear hpat hoz
                clear s1 s2 hmz hkz hbC hRb
                go_wp2_with fail
                refine (HTD.out _).mono ?_
                rintro e u9 ⟨rfl, ho9⟩
                have hF := (show PAt u9 x b M K2 now (.slice a9 K2.own.length c9) from ⟨HPZ.out.keep.new ho9, HPZ.out.m.new ho9, HPZ.out.tick⟩)
                have hOF := HOZZ.out.trans (ho9.weaken (T := fun j => j = x ∨ j = b ∨ j = M) (fun _ _ => False.elim))
                have HF := Lib.hid hF
                have HOF := Lib.hid hOF
                clear hF hOF
                clear ho9
                go_wp2_with fail
                go_meet
                exact ⟨rfl, now, K2, _, by omega, HOF.out, HF.out⟩
          case rest =>
            obtain ⟨rfl, now1, k1, v1, hn1, ho1, hat1⟩ := hcut
            obtain ⟨_, wa, wcap, rfl, wl, wm, _⟩ := id hat1.m.sl
            unfold maxLen at wm
            have HOWN := Lib.hid (own_any wc x b k1 hat1.keep)
            have hoW1 := HOUV.out.trans ho1
            have HAT1 := Lib.hid hat1
            have HOW1 := Lib.hid hoW1
            clear hat1 hoW1
            clear ho1
            go_wp2_with fail
            refine HOWN.out.mono ?_
            rintro e u4 ⟨v4, rfl, ho4, hrow4⟩
            have hsl4 : VSl u4 v4 k1.own := Sl.of_owns hrow4
            obtain ⟨oa, ocap, rfl, ol, om, hoc⟩ := Sl.cells svcCs_length hsl4
            unfold maxLen at om
            have hat4 : PAt u4 x b M k1 now1 (.slice wa k1.own.length wcap) := ⟨HAT1.out.keep.new ho4, HAT1.out.m.new ho4, HAT1.out.tick⟩
            obtain ⟨_, _, he4, _, _, hmc⟩ := Sl.cells svcCs_length hat4.m.sl
            cases he4
            have hoX : Only (fun j => j = x ∨ j = b ∨ j = M) V u4 := HOW1.out.trans (ho4.weaken (fun _ _ => False.elim))
            have x5 : u4.cell? ⟨M, 5, none⟩ = some (.slice wa k1.own.length wcap) := cell_at hat4.m.blk 5
            have HOC := Lib.hid hoc
            have HMC := Lib.hid hmc
            have HAT4 := Lib.hid hat4
            have HOX := Lib.hid hoX
            clear hoc hmc hat4 hoX
            clear ho4 hrow4 hsl4 HOWN
            go_wp2_with fail
            go_loopg [29] k1.own.length (fun gk v29 wr2 => ∃ j : Nat, v29 = .int .i64 j ∧ j ≤ k1.own.length ∧ Only (fun _ => False) u4 wr2 ∧ gk = k1.own.length - j)
            case atStart => exact ⟨0, rfl, Nat.zero_le _, Only.refl _ _, rfl⟩
            case round =>
              obtain ⟨j, rfl, hj, hoj, hgj⟩ := hrel
              have Hgj := Lib.hid hgj
              have HOJ := Lib.hid hoj
              clear hgj hoj
              clear x5
              by_cases hjl : j < k1.own.length
              · -- cmp
                obtain ⟨b1, f1, he1, hc1⟩ := HOC.out.at j hjl
                subst he1
                obtain ⟨b2, f2, he2, hc2⟩ := HMC.out.at j hjl
                subst he2
                have hcx : ∀ i u, (svcCs k1.own[j])[i]? = some u → _ := fun i u hu => HOJ.out.cell (hc1 i u hu) id
                have hcy : ∀ i u, (svcCs k1.own[j])[i]? = some u → _ := fun i u hu => HOJ.out.cell (hc2 i u hu) id
                generalize k1.own[j] = s at *
                have x5 : wr.cell? ⟨M, 5, none⟩ = some (.slice (some ⟨b2, f2, none⟩) k1.own.length wcap) := cell_at (HOJ.out.old HAT4.out.m.blk id) 5
                have p0 := hcx 0 _ rfl
                have p1 := hcx 1 _ rfl
                have p2 := hcx 2 _ rfl
                have p3 := hcx 3 _ rfl
                have p4 := hcx 4 _ rfl
                have p5 := hcx 5 _ rfl
                have p6 := hcx 6 _ rfl
                have p7 := hcx 7 _ rfl
                have q0 := hcy 0 _ rfl
                have q1 := hcy 1 _ rfl
                have q2 := hcy 2 _ rfl
                have q3 := hcy 3 _ rfl
                have q4 := hcy 4 _ rfl
                have q5 := hcy 5 _ rfl
                have q6 := hcy 6 _ rfl
                have q7 := hcy 7 _ rfl
                simp only [Nat.add_zero] at p0 q0
                have hne := fun w => neW w s.name s.a0 s.a1 s.a2 s.a3 s.p s.q s.r
                have hjl' : (j : Int) < (k1.own.length : Int) := by omega
                have hj0 : (0 : Int) ≤ (j : Int) := by omega
                clear hcx hcy hc1 hc2
                go_wp2_with fail
                go_quiet (fail)
                go_wp2_with fail
                go_roundg (k1.own.length - (j + 1))
                case measure => rw [Hgj.out]; omega
                case rel => exact ⟨j + 1, by go_num, by omega, HOJ.out.drewN _, rfl⟩
              · -- next
                have hjl' : ¬ (j : Int) < (k1.own.length : Int) := by omega
                go_wp2_with fail
                go_roundg (60 - (i + 1))
                case measure => rw [Hg.out]; omega
                case rel =>
                  refine ⟨i + 1, now1, k1, _, by go_num, by omega, by omega, hn1, HOX.out.trans (HOJ.out.weaken (fun _ _ => False.elim)), ⟨HAT4.out.keep.new HOJ.out, HAT4.out.m.new HOJ.out, HAT4.out.tick⟩, rfl⟩
        · -- stop
          have hF := HO.out
          have HF := Lib.hid hF
          clear hF
          by_cases hlt1 : i < l.length
          · have hlt' : (i : Int) < (l.length : Int) := by omega
            have hlt2' : ¬ (i : Int) < 60 := by omega
            go_wp2_with fail
            go_meet
            exact HF.out
          · have hlt' : ¬ (i : Int) < (l.length : Int) := by omega
            go_wp2_with fail
            go_meet
            exact HF.out
    case rest =>
      have hoE : Only (fun _ => False) w wc := HOD.out.tr hcut (fun i hi e => by
        have h9 : i = x ∨ i = b ∨ i = M := e
        have := HX.out
        omega)
      have HR := Lib.hid (kreg_nil wc ⟨⟨#[97]⟩, 0, 0, 0, 0, 0, 0, 0⟩)
      unfold svcT at HR
      simp only [show ((0 : Nat) : Int) = 0 from rfl] at HR
      have HOE := Lib.hid hoE
      clear hoE
      clear hcut
      go_wp2_with fail
      refine HR.out.mono ?_
      rintro e u4 ⟨rfl, ho4⟩
      have hoF := HOE.out.trans ho4
      have HOF := Lib.hid hoF
      clear hoF
      clear ho4
      go_wp2_with fail
      refine (kwdr_nil _ _).mono ?_
      rintro e u5 ⟨rfl, ho5⟩
      have hoG := (HOF.out.alloc _).trans ho5
      have HOG := Lib.hid hoG
      clear hoG
      clear ho5
      go_wp2_with fail
      refine (ktick_nil _).mono ?_
      rintro e u6 ⟨rfl, rfl⟩
      go_wp2_with fail
      refine (own_nil _).mono ?_
      rintro e u7 ⟨rfl, rfl⟩
      go_wp2_with fail
      go_ret
      exact ⟨rfl, HOG.out.alloc _⟩
  · -- no
    have hno := newOk_no hok
    have HKN := Lib.hid (knew_no u1 self n0 n1 n2 hok)
    clear hok
    go_wp2_with fail
    refine HKN.out.mono ?_
    rintro e u3 ⟨rfl, rfl⟩
    clear HKN HC HL w0 w1 w2
    by_cases h1 : self < 1
    · clear hno
      go_wp2_with fail
      go_ret
      exact ⟨rfl, HOA.out⟩
    by_cases h2 : self > 65535
    · clear hno
      go_wp2_with fail
      go_ret
      exact ⟨rfl, HOA.out⟩
    by_cases h3 : n0 = 0
    · have h3' : ((n0 : Int) == 0) = true := by rw [h3]; rfl
      clear hno h3
      go_wp2_with fail
      go_ret
      exact ⟨rfl, HOA.out⟩
    have h3' : ((n0 : Int) == 0) = false := by simp; omega
    by_cases h4 : (n2 : Int) < 1
    · clear hno h3
      go_wp2_with fail
      go_ret
      exact ⟨rfl, HOA.out⟩
    · have h5 : (n2 : Int) > 1000 := by omega
      clear hno h3
      go_wp2_with fail
      go_ret
      exact ⟨rfl, HOA.out⟩
end Go.Proofs.YtianboachknfmaaDoor
