/- bellhoplaw26.ServicePlays: what is to be shown of region 23. -/
import Derived.Test.YtianboachknfmaaDoorSE
import Derived.Test.YtianboachknfmaaDoorMA
/-! bellhoplaw26.ServicePlays: what is to be shown of region 23. -/
namespace Go.Proofs.YtianboachknfmaaDoor
open Go.Conc Go.RowKit Go.Maps

theorem flV_head (L : List SvcT) (h : 0 < L.length) : (L.flatMap svcCs)[0]? = some (.string (L[0]).name) := by
  have := fl_get svcCs_length L 0 h 0 (by omega)
  rw [Nat.zero_mul, Nat.zero_add] at this
  exact this
/-- Services are kept where only blocks may change that hold no text. -/
theorem vsl_kept {S : Nat → Prop} {w w' : World} {v : Value} {L : List SvcT} (h : VSl w v L) (ho : Only S w w') (hS : ∀ g, S g → ∀ i s, w.cell? ⟨g, i, none⟩ ≠ some (.string s)) : VSl w' v L := by
  obtain ⟨h1, a, cap, h2, h3, h4, h5⟩ := h
  refine ⟨h1, a, cap, h2, h3, h4, ?_⟩
  by_cases hn : 0 < L.length
  · rcases h5 with h5 | ⟨b, off, h5, h6⟩
    · exact .inl h5
    · refine .inr ⟨b, off, h5, fun j u hu => ho.cell (h6 j u hu) (fun hs => ?_)⟩
      exact hS b hs _ _ (h6 0 _ (flV_head L hn))
  · exact .inl (by omega)
theorem no_strV {w : World} {b : Nat} {cs : Array Value} {t : TypeId} {f : Nat × Nat} (h : w.heap[b]? = some (.cells cs t f)) (hn : ∀ u ∈ cs.toList, ∀ s, u ≠ .string s) : ∀ i s, w.cell? ⟨b, i, none⟩ ≠ some (.string s) := by
  intro i s e
  rw [cell_at h] at e
  have h2 : cs.toList[i]? = some (.string s) := by simpa using e
  exact hn _ (List.mem_of_getElem? h2) s rfl
/-- A block that holds no byte: no service lies there. -/
def NoU8 (w : World) (g : Nat) : Prop := ∀ i n, w.cell? ⟨g, i, none⟩ ≠ some (.int .u8 n)
theorem no8_new {w : World} {g : Nat} (h : w.heap.size ≤ g) : NoU8 w g := fun i n e => by have := World.block_lt_of_cell? _ _ e; simp at this; omega
def notU8 : Value → Bool
  | .int .u8 _ => false
  | _ => true
theorem no8_lit {w : World} {g : Nat} {cs : Array Value} {t : TypeId} {f : Nat × Nat} (h : w.heap[g]? = some (.cells cs t f)) (hn : cs.toList.all notU8 = true) : NoU8 w g := by
  intro i n e
  rw [cell_at h] at e
  have h2 : cs.toList[i]? = some (.int .u8 n) := by simpa using e
  have := List.all_eq_true.1 hn _ (List.mem_of_getElem? h2)
  cases this
theorem onlySet8 {w9 w : World} (h : Only (NoU8 w9) w9 w) {c i : Nat} (hc : NoU8 w9 c) (v : Value) : Only (NoU8 w9) w9 (w.setCell ⟨c, i, none⟩ v) := h.setCell (S := NoU8 w9) (p := ⟨c, i, none⟩) (.inr hc) v
theorem flV_snd (L : List SvcT) (h : 0 < L.length) : (L.flatMap svcCs)[1]? = some (.int .u8 (L[0]).a0) := by
  have := fl_get svcCs_length L 0 h 1 (by omega)
  rw [Nat.zero_mul, Nat.zero_add] at this
  exact this
theorem vsl_kept8 {w w' : World} {v : Value} {L : List SvcT} (h : VSl w v L) (ho : Only (NoU8 w) w w') : VSl w' v L := by
  obtain ⟨h1, a, cap, h2, h3, h4, h5⟩ := h
  refine ⟨h1, a, cap, h2, h3, h4, ?_⟩
  by_cases hn : 0 < L.length
  · rcases h5 with h5 | ⟨b, off, h5, h6⟩
    · exact .inl h5
    · exact .inr ⟨b, off, h5, fun j u hu => ho.cell (h6 j u hu) (fun hs => hs _ _ (h6 1 _ (flV_snd L hn)))⟩
  · exact .inl (by omega)
/-- The reference's keeper in memory. -/
structure MAt (w : World) (M : Nat) (k : KeepT) (now : Int) (v : Value) : Prop where
  blk : w.heap[M]? = some (.cells #[.int .i64 k.self, .int .u64 k.life, .int .u64 k.count, .int .i64 k.every, .int .i64 now, v] 72 (0, 0))
  sl : VSl w v k.own
theorem MAt.new {w w' : World} {M : Nat} {k : KeepT} {now : Int} {v : Value} (h : MAt w M k now v) (ho : Only (fun _ => False) w w') : MAt w' M k now v := ⟨ho.old h.blk id, h.sl.new ho⟩
theorem KeepAt.noStr {w : World} {x b : Nat} {k : KeepT} (h : KeepAt w x b k) : ∀ g, (g = x ∨ g = b) → ∀ i s, w.cell? ⟨g, i, none⟩ ≠ some (.string s) := by
  intro g hg i s
  rcases hg with rfl | rfl
  · exact no_strV h.blk (fun u hu s => by
      simp only [List.mem_cons, List.not_mem_nil, or_false] at hu
      rcases hu with rfl | rfl | rfl | rfl | rfl | rfl <;> simp) i s
  · obtain ⟨es, c, hb, _⟩ := h.map.own
    simp [World.cell?, hb]
theorem MAt.kept {w w' : World} {M x b : Nat} {k k0 : KeepT} {now : Int} {v : Value} (h : MAt w M k now v) (hk : KeepAt w x b k0) (ho : Only (fun i => i = x ∨ i = b) w w') (h1 : M ≠ x) (h2 : M ≠ b) : MAt w' M k now v :=
  ⟨ho.old h.blk (fun e => by rcases (show M = x ∨ M = b from e) with e | e; exact h1 e; exact h2 e), vsl_kept h.sl ho hk.noStr⟩
theorem MAt.noStr {w : World} {M : Nat} {k : KeepT} {now : Int} {a : Option Addr} {n cap : Nat} (h : MAt w M k now (.slice a n cap)) : ∀ i s, w.cell? ⟨M, i, none⟩ ≠ some (.string s) :=
  no_strV h.blk (fun u hu s => by
    simp only [List.mem_cons, List.not_mem_nil, or_false] at hu
    rcases hu with rfl | rfl | rfl | rfl | rfl | rfl <;> simp)
/-- It is written anew. -/
theorem MAt.put {w w' : World} {M : Nat} {k k' : KeepT} {now now' : Int} {a : Option Addr} {n cap : Nat} {v' : Value} (h : MAt w M k now (.slice a n cap)) (hb : w'.heap[M]? = some (.cells #[.int .i64 k'.self, .int .u64 k'.life, .int .u64 k'.count, .int .i64 k'.every, .int .i64 now', v'] 72 (0, 0))) (ho : Only (fun i => i = M) w w') (hs : VSl w v' k'.own) : MAt w' M k' now' v' :=
  ⟨hb, vsl_kept hs ho (fun g e => by subst e; exact h.noStr)⟩
theorem wdrK_same (k : KeepT) (n : ByteArray) : (wdrK k n).self = k.self ∧ (wdrK k n).life = k.life ∧ (wdrK k n).every = k.every ∧ (wdrK k n).tick = k.tick := by unfold wdrK; split <;> exact ⟨rfl, rfl, rfl, rfl⟩
theorem regK_same (k : KeepT) (s : SvcT) : (regK k s).self = k.self ∧ (regK k s).life = k.life ∧ (regK k s).every = k.every ∧ (regK k s).tick = k.tick := by unfold regK; split <;> exact ⟨rfl, rfl, rfl, rfl⟩
/-- What the loop keeps. -/
structure PAt (w : World) (x b M : Nat) (k : KeepT) (now : Int) (v : Value) : Prop where
  keep : KeepAt w x b k
  m : MAt w M k now v
  tick : k.tick = now % k.every
theorem newOk_no {self : Int} {life : Nat} {every : Int} (h : ¬ newOk self life every) : self < 1 ∨ self > 65535 ∨ life = 0 ∨ every < 1 ∨ every > 1000 := by
  unfold newOk at h
  omega
set_option maxRecDepth 100000 in
set_option maxHeartbeats 8000000 in
def goal23 : Prop := by
  refine (?f : (T : Prop) → (Hid (Nat → ∀ P : Prop, P) → Hid T → ∀ (w : World) (m : Int) (hm : w.cell? ⟨0, 0, none⟩ = some (.int .i64 m)) (self : Int) (n0 n1 n2 : Nat) (v : Value) (l : List ActV) (_hs : (Lit.int .i64 self).wf = true) (w0 : n0 < 4294967296) (w1 : n1 < 4294967296) (w2 : n2 < 4294967296) (h : Sl w 7 v l.length (l.flatMap actVC)) (hl : ∀ a ∈ l, actVOk a),
    Calls Tryd.prog 6 #[.int .i64 self, .agg #[.int .u32 n0, .int .u32 n1, .int .u32 n2], v] w fun e w' => e = .returned (.bool true) ∧ Only (fun _ => False) w w') → Prop) ?T ?p
  case f => exact fun T _ => T
  case p =>
    intro HNEVER h23 w m hm self n0 n1 n2 v l _hs w0 w1 w2 h hl
    obtain ⟨a, cap, rfl, c1, c2, c3⟩ := Sl.cells actVC_length h
    unfold maxLen at c2
    obtain ⟨W, hW⟩ : ∃ W, W = w.alloc (.cells #[.int .u32 n0, .int .u32 n1, .int .u32 n2] 65) := ⟨_, rfl⟩
    have hbW : W.heap[w.heap.size]? = some (.cells #[.int .u32 n0, .int .u32 n1, .int .u32 n2] 65 (0, 0)) := by rw [hW]; exact heap_alloc_new w _
    have hoW : Only (fun _ => False) w W := by rw [hW]; exact (Only.refl _ _).alloc _
    have hsW : W.heap.size = w.heap.size + 1 := by rw [hW]; simp
    have hmW := hoW.cell hm id
    have HC := Lib.hid c3
    have HL := Lib.hid hl
    have HM := Lib.hid hmW
    have HOW := Lib.hid hoW
    have HBW := Lib.hid hbW
    clear c3 hl hmW hoW hbW
    clear h hm hsW _hs
    go_enter Tryd.func6, Tryd.ntmps6
    go_upto_region 1 with (fail)
    rw [← hW]
    clear hW
    go_wp2_with fail
    refine (speaks26_any W m HM.out).mono ?_
    rintro e u1 ⟨rfl, ho1⟩
    have hb1 := ho1.old HBW.out id
    have p0 : u1.cell? ⟨w.heap.size, 0, none⟩ = some (.int .u32 n0) := cell_at hb1 0
    have p1 : u1.cell? ⟨w.heap.size, 1, none⟩ = some (.int .u32 n1) := cell_at hb1 1
    have p2 : u1.cell? ⟨w.heap.size, 2, none⟩ = some (.int .u32 n2) := cell_at hb1 2
    have hoA := HOW.out.trans ho1
    have hm1 := ho1.cell HM.out id
    have HOA := Lib.hid hoA
    have HM1 := Lib.hid hm1
    have HB1 := Lib.hid hb1
    clear hoA hm1 hb1
    clear ho1 HOW HBW HM
    by_cases hok : newOk self n0 n2
    · obtain ⟨q1, q2, q3, q4, q5⟩ := hok
      have q4' : ¬ (n2 : Int) < 1 := by omega
      have q5' : ¬ (n2 : Int) > 1000 := by omega
      have q3' : ¬ n0 = 0 := by omega
      have q3'' : ((n0 : Int) == 0) = false := by simp; omega
      have HKN := Lib.hid (knew_ok u1 self n0 n1 n2 q1 q2 q3 w0 w1 q4 q5)
      go_wp2_with fail
      refine HKN.out.mono ?_
      rintro e u3 ⟨rfl, ho3, hk3⟩
      have hm3 := ho3.cell HM1.out id
      have hb3 := ho3.old HB1.out id
      have hoC := HOA.out.trans ho3
      have hxb := hk3.lt
      have hwu : w.heap.size < u1.heap.size := lt_of_block HB1.out
      have h0b : 0 < u1.heap.size := World.block_lt_of_cell? _ _ HM1.out
      have r0 : u3.cell? ⟨w.heap.size, 0, none⟩ = some (.int .u32 n0) := cell_at hb3 0
      have r1 : u3.cell? ⟨w.heap.size, 1, none⟩ = some (.int .u32 n1) := cell_at hb3 1
      have r2 : u3.cell? ⟨w.heap.size, 2, none⟩ = some (.int .u32 n2) := cell_at hb3 2
      have hmx : ¬ self > 65535 := by omega
      have hm0 : ¬ self < 1 := by omega
      clear p0 p1 p2
      obtain ⟨V, hV⟩ : ∃ V, V = u3.alloc (.cells #[.int .i64 self, .int .u64 n0, .int .u64 n1, .int .i64 n2, .int .i64 0, .slice none 0 0] 72) := ⟨_, rfl⟩
      have hbV : V.heap[u3.heap.size]? = some (.cells #[.int .i64 self, .int .u64 n0, .int .u64 n1, .int .i64 n2, .int .i64 0, .slice none 0 0] 72 (0, 0)) := by rw [hV]; exact heap_alloc_new u3 _
      have hoV : Only (fun _ => False) u3 V := by rw [hV]; exact (Only.refl _ _).alloc _
      have hsV : V.heap.size = u3.heap.size + 1 := by rw [hV]; simp
      have hkV := hk3.new hoV
      have hmV := hoV.cell hm3 id
      have hoD := hoC.trans hoV
      have hmat : MAt V u3.heap.size ⟨self, n0, n1, n2, 0, []⟩ 0 (.slice none 0 0) := ⟨hbV, Sl.nil _ _⟩
      have hpat : PAt V (u1.heap.size + 1) u1.heap.size u3.heap.size ⟨self, n0, n1, n2, 0, []⟩ 0 (.slice none 0 0) := ⟨hkV, hmat, by simp⟩
      have hord : w.heap.size < u1.heap.size ∧ u1.heap.size + 1 < u3.heap.size ∧ u3.heap.size < V.heap.size := by omega
      have HMV := Lib.hid hmV
      have HOD := Lib.hid hoD
      have HPAT := Lib.hid hpat
      have HORD := Lib.hid hord
      clear hmV hoD hpat hord
      clear hbV hkV hk3 ho3 hmat hb3 hm3 hoC HKN HOA HM1 HB1
      go_upto_region 10 with (fail)
      rw [← hV]
      clear hV hoV r0 r1 r2 hxb hsV
      generalize u3.heap.size = M at *
      generalize hX : u1.heap.size = b at *
      generalize hXX : b + 1 = x at *
      have h0x : x ≠ 0 ∧ b ≠ 0 := by omega
      have HX := Lib.hid (show b = u1.heap.size ∧ b < x ∧ x < M ∧ M < V.heap.size ∧ w.heap.size < b by have := HORD.out; omega)
      clear hX hXX hwu h0b
      go_upto_block 0 with fail
      go_cut [8] (fun v8 wx => Only (fun j => j = x ∨ j = b ∨ j = M) V wx)
      case first =>
        go_wp2_with fail
        go_loopg [11] 60 (fun gk v11 wr => ∃ (i now : Nat) (k : KeepT) (v' : Value), v11 = .int .i64 i ∧ i ≤ l.length ∧ i ≤ 60 ∧ now ≤ i ∧ Only (fun j => j = x ∨ j = b ∨ j = M) V wr ∧ PAt wr x b M k now v' ∧ gk = 60 - i)
        case atStart => exact ⟨0, 0, _, _, rfl, Nat.zero_le _, Nat.zero_le _, Nat.le_refl _, Only.refl _ _, HPAT.out, rfl⟩
        case round =>
          obtain ⟨i, now, k, v', rfl, hi, hi60, hnow, ho, hat, hg⟩ := hrel
          obtain ⟨_, va, vcap, rfl, _⟩ := id hat.m.sl
          have Hg := Lib.hid hg
          have HO := Lib.hid ho
          have HAT := Lib.hid hat
          clear hg ho hat
          by_cases hlt : i < l.length ∧ i < 60
          · -- round
            obtain ⟨hlt, hlt60⟩ := hlt
            have hlt' : (i : Int) < (l.length : Int) := by omega
            have hlt60' : (i : Int) < 60 := by omega
            obtain ⟨bb, off, rfl, hcc⟩ := HC.out.at i hlt
            have hcr : ∀ j u, (actVC l[i])[j]? = some u → wr.cell? ⟨bb, off + i * 7 + j, none⟩ = some u := fun j u hu => by
              have h1 := hcc j u hu
              have h2 : bb < w.heap.size := World.block_lt_of_cell? _ _ h1
              exact HO.out.cell (HOD.out.cell h1 id) (fun e => by have h9 : bb = x ∨ bb = b ∨ bb = M := e; have := HX.out; omega)
            have hP := HL.out l[i] (List.getElem_mem hlt)
            have hmr := HO.out.cell HMV.out (fun e => by have h9 : 0 = x ∨ 0 = b ∨ 0 = M := e; have := HX.out; omega)
            generalize l[i] = y at *
            obtain ⟨what, nm, a0, a1, a2, a3, p⟩ := y
            have y0 := hcr 0 _ rfl
            have y1 := hcr 1 _ rfl
            have y2 := hcr 2 _ rfl
            have y3 := hcr 3 _ rfl
            have y4 := hcr 4 _ rfl
            have y5 := hcr 5 _ rfl
            have y6 := hcr 6 _ rfl
            simp only [Nat.add_zero] at y0
            simp only at y0 y1 y2 y3 y4 y5 y6
            unfold actVOk at hP
            simp only at hP
            obtain ⟨U, hU⟩ : ∃ U, U = wr.alloc (.cells #[.int .i64 what, .string nm, .int .u8 a0, .int .u8 a1, .int .u8 a2, .int .u8 a3, .int .u16 p] 75) := ⟨_, rfl⟩
            have hbU : U.heap[wr.heap.size]? = some (.cells #[.int .i64 what, .string nm, .int .u8 a0, .int .u8 a1, .int .u8 a2, .int .u8 a3, .int .u16 p] 75 (0, 0)) := by rw [hU]; exact heap_alloc_new wr _
            have hoU : Only (fun _ => False) wr U := by rw [hU]; exact (Only.refl _ _).alloc _
            have hsU : U.heap.size = wr.heap.size + 1 := by rw [hU]; simp
            have hatU : PAt U x b M k now (.slice va k.own.length vcap) := ⟨HAT.out.keep.new hoU, HAT.out.m.new hoU, HAT.out.tick⟩
            have hoUV : Only (fun j => j = x ∨ j = b ∨ j = M) V U := HO.out.trans (hoU.weaken (fun _ _ => False.elim))
            have hmU := hoU.cell hmr id
            have HA := Lib.hid (show M < wr.heap.size ∧ V.heap.size ≤ wr.heap.size by have h1 := HO.out.size; have := HX.out; omega)
            have z0 : U.cell? ⟨wr.heap.size, 0, none⟩ = some (.int .i64 what) := cell_at hbU 0
            have z1 : U.cell? ⟨wr.heap.size, 1, none⟩ = some (.string nm) := cell_at hbU 1
            have z2 : U.cell? ⟨wr.heap.size, 2, none⟩ = some (.int .u8 a0) := cell_at hbU 2
            have z3 : U.cell? ⟨wr.heap.size, 3, none⟩ = some (.int .u8 a1) := cell_at hbU 3
            have z4 : U.cell? ⟨wr.heap.size, 4, none⟩ = some (.int .u8 a2) := cell_at hbU 4
            have z5 : U.cell? ⟨wr.heap.size, 5, none⟩ = some (.int .u8 a3) := cell_at hbU 5
            have z6 : U.cell? ⟨wr.heap.size, 6, none⟩ = some (.int .u16 p) := cell_at hbU 6
            have HATU := Lib.hid hatU
            have HOUV := Lib.hid hoUV
            have HMU := Lib.hid hmU
            have HBU := Lib.hid hbU
            have HP := Lib.hid hP
            clear hatU hoUV hmU hbU hP
            clear hcc hcr hmr
            go_upto_region 14 with (fail)
            rw [← hU]
            clear hU hoU y0 y1 y2 y3 y4 y5 y6 hlt' hlt60'
            clear hsU
            generalize wr.heap.size = A at *
            go_cut [104] (fun v wx => ∃ q : Int, v = .int .i64 q ∧ U = wx)
            case first =>
              go_wp2_with fail
              go_meet
              exact ⟨_, rfl, rfl⟩
            case rest =>
            obtain ⟨q, rfl, rfl⟩ := hcut
            clear z0 z1 z2 z3 z4 z5 z6
            go_upto_block 2 with fail
            go_cut [11] (fun v11 wx => v11 = .int .i64 i ∧ ∃ (now' : Nat) (k' : KeepT) (w' : Value), now' ≤ i + 1 ∧ Only (fun j => j = x ∨ j = b ∨ j = M) U wx ∧ PAt wx x b M k' now' w')
            case first =>
              by_cases hq2 : q = 2
              · -- wdr
                subst hq2
                have z0 : U.cell? ⟨A, 0, none⟩ = some (.int .i64 what) := cell_at HBU.out 0
                have z1 : U.cell? ⟨A, 1, none⟩ = some (.string nm) := cell_at HBU.out 1
                have z2 : U.cell? ⟨A, 2, none⟩ = some (.int .u8 a0) := cell_at HBU.out 2
                have z3 : U.cell? ⟨A, 3, none⟩ = some (.int .u8 a1) := cell_at HBU.out 3
                have z4 : U.cell? ⟨A, 4, none⟩ = some (.int .u8 a2) := cell_at HBU.out 4
                have z5 : U.cell? ⟨A, 5, none⟩ = some (.int .u8 a3) := cell_at HBU.out 5
                have z6 : U.cell? ⟨A, 6, none⟩ = some (.int .u16 p) := cell_at HBU.out 6
                have HNM := Lib.hid (fun w => name26_any w ⟨what, nm, a0, a1, a2, a3, p⟩ HP.out.2.1)
                dsimp only at HNM
                have hn64 := cut64_size nm
                generalize cut64 nm = nn at *
                have HW := Lib.hid (fun w' (ho : Only (fun _ => False) U w') => kwdr_any w' x b k (HATU.out.keep.new ho) h0x m (ho.cell HMU.out id) nn hn64)
                have HRW := Lib.hid (show ∀ w', VSl w' (.slice va k.own.length vcap) k.own → Calls Tryd.prog 31 #[.agg #[.int .i64 k.self, .int .u64 k.life, .int .u64 k.count, .int .i64 k.every, .int .i64 now, .slice va k.own.length vcap], .string nn] w' fun e w2 => ∃ v2, e = .returned (.tuple #[.agg #[.int .i64 k.self, .int .u64 k.life, .int .u64 (wdrK k nn).count, .int .i64 k.every, .int .i64 now, v2], recT (wdrR k nn), .int .i64 (wdrE k nn)]) ∧ Only (fun _ => False) w' w2 ∧ VSl w2 v2 (wdrK k nn).own from fun w' hv => rwdr_any w' k HATU.out.keep.ok now _ hv nn hn64)
                have HSK := Lib.hid (wdrK_same k nn)
                generalize wdrK k nn = K2 at *
                generalize wdrE k nn = E at *
                have HTD := Lib.hid (fun w => told26_any w (wdrR k nn))
                generalize wdrR k nn = R at *
                obtain ⟨k2, v2, o2, t2, g2, D2⟩ := R
                unfold recT at HW HRW HTD
                simp only at HW HRW HTD
                go_wp2_with fail
                refine (HNM.out _).mono ?_
                rintro e u4 ⟨rfl, ho4⟩
                have HO4 := Lib.hid ho4
                clear ho4
                go_wp2_with fail
                refine (HW.out u4 HO4.out).mono ?_
                rintro e u5 ⟨rfl, ho5, hk5⟩
                obtain ⟨U6, hU6⟩ : ∃ U6, U6 = u5.alloc (.cells #[.string k2, .int .u64 v2, .int .i64 o2, .int .i64 t2, .bool g2, .string D2] 33) := ⟨_, rfl⟩
                have hbU6 : U6.heap[u5.heap.size]? = some (.cells #[.string k2, .int .u64 v2, .int .i64 o2, .int .i64 t2, .bool g2, .string D2] 33 (0, 0)) := by rw [hU6]; exact heap_alloc_new u5 _
                have hoU6 : Only (fun _ => False) u5 U6 := by rw [hU6]; exact (Only.refl _ _).alloc _
                have hsU6 : U6.heap.size = u5.heap.size + 1 := by rw [hU6]; simp
                have hxX := HX.out
                have hAA := HA.out
                have hu4 := HO4.out.size
                have hu5 := ho5.size
                have hAU := lt_of_block HBU.out
                have hk6 := hk5.new hoU6
                have hm6 := ((HATU.out.m.new HO4.out).kept (HATU.out.keep.new HO4.out) ho5 (by omega) (by omega)).new hoU6
                have hbA := hoU6.old (ho5.old (HO4.out.old HBU.out id) (fun e => by have h9 : A = x ∨ A = b := e; omega)) id
                have hoZ : Only (fun j => j = x ∨ j = b ∨ j = M) U U6 := (HO4.out.weaken (fun _ _ => False.elim)).trans ((ho5.weaken (fun j _ e => by have h9 : j = x ∨ j = b := e; show j = x ∨ j = b ∨ j = M; omega)).trans (hoU6.weaken (fun _ _ => False.elim)))
                have hbM := hm6.blk
                have hsl6 := hm6.sl
                have hU6s : u5.heap.size < U6.heap.size := by omega
                have HCA := Lib.hid (show U.heap.size ≤ u5.heap.size ∧ M < u5.heap.size ∧ A < u5.heap.size by omega)
                have HK6 := Lib.hid hk6
                have HM6 := Lib.hid hm6
                have HBA := Lib.hid hbA
                have HOZ := Lib.hid hoZ
                have HBR := Lib.hid hbU6
                have HSL := Lib.hid hsl6
                clear hk6 hm6 hbA hoZ hbU6 hsl6
                clear ho5 hk5 z0 z1 z2 z3 z4 z5 z6 hxX hAA hu4 hu5 hAU hsU6
                go_upto_region 23 with (fail)
                rw [← hU6]
                clear hU6 hoU6
                generalize u5.heap.size = C at *
                have x0 : U6.cell? ⟨M, 0, none⟩ = some (.int .i64 k.self) := cell_at HM6.out.blk 0
                have x1 : U6.cell? ⟨M, 1, none⟩ = some (.int .u64 k.life) := cell_at HM6.out.blk 1
                have x2 : U6.cell? ⟨M, 2, none⟩ = some (.int .u64 k.count) := cell_at HM6.out.blk 2
                have x3 : U6.cell? ⟨M, 3, none⟩ = some (.int .i64 k.every) := cell_at HM6.out.blk 3
                have x4 : U6.cell? ⟨M, 4, none⟩ = some (.int .i64 now) := cell_at HM6.out.blk 4
                have x5 : U6.cell? ⟨M, 5, none⟩ = some (.slice va k.own.length vcap) := cell_at HM6.out.blk 5
                have z0 : U6.cell? ⟨A, 0, none⟩ = some (.int .i64 what) := cell_at HBA.out 0
                have z1 : U6.cell? ⟨A, 1, none⟩ = some (.string nm) := cell_at HBA.out 1
                have z2 : U6.cell? ⟨A, 2, none⟩ = some (.int .u8 a0) := cell_at HBA.out 2
                have z3 : U6.cell? ⟨A, 3, none⟩ = some (.int .u8 a1) := cell_at HBA.out 3
                have z4 : U6.cell? ⟨A, 4, none⟩ = some (.int .u8 a2) := cell_at HBA.out 4
                have z5 : U6.cell? ⟨A, 5, none⟩ = some (.int .u8 a3) := cell_at HBA.out 5
                have z6 : U6.cell? ⟨A, 6, none⟩ = some (.int .u16 p) := cell_at HBA.out 6
                have HCC := Lib.hid (show ∀ w', Only (fun _ => False) U6 w' → w'.cell? ⟨M, 0, none⟩ = some (.int .i64 k.self) ∧ w'.cell? ⟨M, 1, none⟩ = some (.int .u64 k.life) ∧ w'.cell? ⟨M, 2, none⟩ = some (.int .u64 k.count) ∧ w'.cell? ⟨M, 3, none⟩ = some (.int .i64 k.every) ∧ w'.cell? ⟨M, 4, none⟩ = some (.int .i64 now) ∧ w'.cell? ⟨M, 5, none⟩ = some (.slice va k.own.length vcap) ∧ w'.cell? ⟨A, 0, none⟩ = some (.int .i64 what) ∧ w'.cell? ⟨A, 1, none⟩ = some (.string nm) ∧ w'.cell? ⟨A, 2, none⟩ = some (.int .u8 a0) ∧ w'.cell? ⟨A, 3, none⟩ = some (.int .u8 a1) ∧ w'.cell? ⟨A, 4, none⟩ = some (.int .u8 a2) ∧ w'.cell? ⟨A, 5, none⟩ = some (.int .u8 a3) ∧ w'.cell? ⟨A, 6, none⟩ = some (.int .u16 p) from fun w' h => ⟨h.cell x0 id, h.cell x1 id, h.cell x2 id, h.cell x3 id, h.cell x4 id, h.cell x5 id, h.cell z0 id, h.cell z1 id, h.cell z2 id, h.cell z3 id, h.cell z4 id, h.cell z5 id, h.cell z6 id⟩)
                clear x0 x1 x2 x3 x4 x5 z0 z1 z2 z3 z4 z5 z6 hbM
                go_cut [15, 16, 17] (fun v15 v16 v17 wx => v17 = .int .i64 E ∧ ∃ KB RB a9 c9, v15 = .pointer (some ⟨KB, 0, none⟩) ∧ v16 = .pointer (some ⟨RB, 0, none⟩) ∧ wx.heap[KB]? = some (.cells #[.int .i64 k.self, .int .u64 k.life, .int .u64 K2.count, .int .i64 k.every, .int .i64 now, .slice a9 K2.own.length c9] 72 (0, 0)) ∧ wx.heap[RB]? = some (.cells #[.string k2, .int .u64 v2, .int .i64 o2, .int .i64 t2, .bool g2, .string D2] 35 (0, 0)) ∧ VSl wx (.slice a9 K2.own.length c9) K2.own ∧ Only (fun _ => False) U6 wx ∧ U6.heap.size ≤ KB ∧ U6.heap.size ≤ RB)
                case first =>
                  clear HW HTD HSK HK6 HM6 HBA HOZ HBR HP HATU HOUV HMU HBU HA HCA HO4 HX HAT HO Hg HORD HPAT HMV HOD HC HL h0x hlt hlt60 hi hi60 hnow
                  rename_i zQp0 zh0 zK0 za0 zJ0 zKp0 za1 zu860 zu870 zu880 zu890 zu900 zu910 zu920 zu930 zu940 zu950 zu960 zu970 zu980 zu990 zu1000 zu1010 zu1020 zu1030 zu1050 zu1060 zu1070 zu1080 zu1090 zu1100 zu1110 zu1120 zu1130 zu1140 zu1150
                    zu1160 zu1170 zu1180 zu1190 zu1200 zu1210 zu1220 zu1230 zu1240 zu1250 zu1260 zu1270 zu1280 zu1290 zu1300 zu1310 zu1320 zu1330 zu1340 zu1350 zu1360 zu1370 zu1380 zu1390 zu1400 zu1420 zu1430 zu1440 zu1450 zu1460 zu1470 zu1480
                    zu1490 zu1500 zu1510 zu1520 zu1530 zu1540 zu1550 zu1560 zu1570 zu1580 zu1590 zu1600 zu1610 zu1620 zu1630 zu1640 zu1650 zu1660 zu1670 zu1690 zu1700 zu1710 zu1720 zu1730 zu1740 zu1750 zu1760 zu1770 zu1780 zu1790 zu1800 zu1810
                    zu1820 zu1830 zu1840 zu1850 zu1860 zu1870 zu1880 zu1890 zu1900 zu1910 zu1920 zu1930 zu1940 zu1950 zu1960 zu1970 zu1980 zu1990 zu2000 zu2010 zu2020 zu2030 zu2040 zu2050 zu2060 zu2070 zu2080 zu2090 zu2100 zu2110 zu2120 zu2130
                    zu2140 zu2150 zu2160 zu2170 zu2180 zu2190 zu2200 zu2210 zu2220 zJ1 zK1 za2 zleft0 zright0 za3 za4 zK2 za5 zK3 za6 zJ2 zKp1 za7 za8 zK4 za9 zJ3 zKp2 za10 za11
                  revert w m self n0 n1 n2 l w0 w1 w2 cap c1 c2 W zQp0 u1 q1 q2 q3 q4 q5 q3' q3'' q4' q5' u3 V hmx hm0 zh0 zK0 za0 M b x zJ0 zKp0 za1 gk wr u6 u12 u13 u14 u15 u16 u17 u18 u19 u20 u21 u22 u23 u24 u25 u26 u27 u28 u29 zu860 zu870 zu880
                    zu890 zu900 zu910 zu920 zu930 zu940 zu950 zu960 zu970 zu980 zu990 zu1000 zu1010 zu1020 zu1030 u104 zu1050 zu1060 zu1070 zu1080 zu1090 zu1100 zu1110 zu1120 zu1130 zu1140 zu1150 zu1160 zu1170 zu1180 zu1190 zu1200 zu1210 zu1220
                    zu1230 zu1240 zu1250 zu1260 zu1270 zu1280 zu1290 zu1300 zu1310 zu1320 zu1330 zu1340 zu1350 zu1360 zu1370 zu1380 zu1390 zu1400 u141 zu1420 zu1430 zu1440 zu1450 zu1460 zu1470 zu1480 zu1490 zu1500 zu1510 zu1520 zu1530 zu1540 zu1550
                    zu1560 zu1570 zu1580 zu1590 zu1600 zu1610 zu1620 zu1630 zu1640 zu1650 zu1660 zu1670 u168 zu1690 zu1700 zu1710 zu1720 zu1730 zu1740 zu1750 zu1760 zu1770 zu1780 zu1790 zu1800 zu1810 zu1820 zu1830 zu1840 zu1850 zu1860 zu1870 zu1880
                    zu1890 zu1900 zu1910 zu1920 zu1930 zu1940 zu1950 zu1960 zu1970 zu1980 zu1990 zu2000 zu2010 zu2020 zu2030 zu2040 zu2050 zu2060 zu2070 zu2080 zu2090 zu2100 zu2110 zu2120 zu2130 zu2140 zu2150 zu2160 zu2170 zu2180 zu2190 zu2200
                    zu2210 zu2220 zJ1 zK1 za2 i now k zleft0 va vcap zright0 bb off za3 za4 what nm a0 a1 a2 a3 p U zK2 za5 zK3 za6 A u86 u87 u88 u89 u90 u91 u92 u93 u94 u95 u96 u97 u98 u99 u100 u101 u102 u103 u105 u106 u107 u108 u109 u110 u111
                    u112 u113 u114 u115 u116 u117 u118 u119 u120 u121 u122 u123 u124 u125 u126 u127 u128 u129 u130 u131 u132 u133 u134 u135 u136 u137 u138 u139 u140 u142 u143 u144 u145 u146 u147 u148 u149 u150 u151 u152 u153 u154 u155 u156 u157
                    u158 u159 u160 u161 u162 u163 u164 u165 u166 u167 u169 u170 u171 u172 u173 u174 u175 u176 u177 u178 u179 u180 u181 u182 u183 u184 u185 u186 u187 u188 u189 u190 u191 u192 u193 u194 u195 u196 u197 u198 u199 u200 u201 u202 u203
                    u204 u205 u206 u207 u208 u209 u210 u211 u212 u213 u214 u215 u216 u217 u218 u219 u220 u221 u222 zJ2 zKp1 za7 za8 nn HNM hn64 K2 E k2 v2 o2 t2 g2 D2 HRW u4 u5 U6 HSL zK4 za9 C hU6s HCC zJ3 zKp2 za10 za11
                  exact h23.out
                case rest =>
                exact HNEVER.out 0 _
              · have hq2b : (q == 2) = false := by simpa using hq2
                have HQ2 := Lib.hid hq2
                clear hq2
                by_cases hq3 : q = 3
                · exact HNEVER.out 0 _
                · exact HNEVER.out 0 _
            case rest =>
              exact HNEVER.out 0 _
          · exact HNEVER.out 0 _
      case rest =>
        exact HNEVER.out 0 _
    · exact HNEVER.out 0 _
end Go.Proofs.YtianboachknfmaaDoor
