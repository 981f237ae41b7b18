/- A store: Put. -/
import Derived.Test.YtianboachknfmaaDoorSto1
import Derived.StillTailTactics
import Derived.Outline
namespace Go.Proofs.YtianboachknfmaaDoor
open Go.Conc Go.RowKit Go.Maps

def SPut (w w' : World) (s b : Nat) (most ttl r : Int) (L : List RecT) (x : RecT) : Prop :=
  Only (fun i => i = s ∨ i = b) w w' ∧ StoreAt w' s b most ttl (putR most ttl L x r) (putS most ttl L x)
theorem sput_kept {w w' : World} {s b : Nat} {most ttl r : Int} {L : List RecT} {x : RecT} (h : StoreAt w s b most ttl r L) (ho : Only (fun _ => False) w w') (h0 : putE most ttl L x ≠ 0) (h5 : putE most ttl L x ≠ 5) : SPut w w' s b most ttl r L x := by
  refine ⟨ho.weaken (fun _ _ => False.elim), ?_⟩
  unfold putR putS
  rw [if_neg h0, if_neg h5]
  exact h.new ho
theorem sput_nil (w : World) (x : RecT) : Calls Tryd.prog 15 #[.pointer none, recT x] w fun e w' => e = .returned (.int .i64 1) ∧ Only (fun _ => False) w w' := by
  obtain ⟨k1, v1, o1, a1, g1, d1⟩ := x
  unfold recT
  go_enter Tryd.func15, Tryd.ntmps15
  go_wp2_with fail
  go_ret
  exact ⟨rfl, (Only.refl _ _).alloc _⟩
set_option maxRecDepth 100000 in
set_option maxHeartbeats 2000000 in
theorem sput_any (w : World) (s b : Nat) (most ttl r : Int) (L : List RecT) (h : StoreAt w s b most ttl r L) (x : RecT) (m : Int) (hm : w.cell? ⟨0, 0, none⟩ = some (.int .i64 m)) (hv : x.ver < 2 ^ 64) (hk : x.key.size ≤ 1000000) (hr0 : 0 ≤ r) (hr : r < 1000000) :
    Calls Tryd.prog 15 #[.pointer (some ⟨s, 0, none⟩), recT x] w fun e w' => e = .returned (.int .i64 (putE most ttl L x)) ∧ SPut w w' s b most ttl r L x := by
  have HE := Lib.hid (show putE most ttl L x = if goodR x = false then 4 else if ttl ≤ x.age then 7 else putFE most L.length x.ver (findS L x.key) from rfl)
  have HK := Lib.hid (fun (h : putE most ttl L x ≠ 0 ∧ putE most ttl L x ≠ 5) w' ho => sput_kept (w := w) (w' := w') (s := s) (b := b) (r := r) (x := x) ‹_› ho h.1 h.2)
  have hpS : putE most ttl L x = 0 → putR most ttl L x r = r ∧ putS most ttl L x = insS x L := fun e => by unfold putR putS; rw [e]; exact ⟨rfl, rfl⟩
  have hpR : putE most ttl L x = 5 → putR most ttl L x r = r + 1 ∧ putS most ttl L x = L := fun e => by unfold putR putS; rw [e]; exact ⟨rfl, rfl⟩
  have HPS := Lib.hid hpS
  have HPR := Lib.hid hpR
  have HF := Lib.hid (fun y => findS_some (L := L) (k := x.key) (y := y))
  have HP := Lib.hid (put_prs h.ok.rises x)
  have HOK := Lib.hid (h.ok.put x)
  have HG := Lib.hid (good_any (m := m) (key := x.key) (ver := x.ver) (o := x.o) (age := x.age) (gone := x.gone) (data := x.data) (hv := hv) (hk := hk))
  have HLN := Lib.hid (show (prs L).length < maxLen by rw [prs_length]; have h1 := h.ok.room; have h2 := h.ok.mostB; unfold maxLen; omega)
  have hg0 : goodR x = goodP x.key x.ver x.o x.age x.gone x.data := rfl
  have HG0 := Lib.hid hg0
  have hlt := h.lt
  have hkm : x.key.size ≤ maxLen := by unfold maxLen; omega
  have HKO := Lib.hid (strOk hkm)
  have hne := h.ne
  have hxe : RecT.mk x.key x.ver x.o x.age x.gone x.data = x := by cases x; rfl
  have HXE := Lib.hid hxe
  unfold recT
  clear hpS hpR hg0 hkm hk hv hxe
  generalize hE : putE most ttl L x = E at *
  generalize goodR x = gd at *
  generalize hfs : findS L x.key = fo at *
  obtain ⟨k1, v1, o1, a1, g1, d1⟩ := x
  simp only at *
  rw [← HG0.out] at HG
  have HH := Lib.hid h
  have HM := Lib.hid hm
  have HEE := Lib.hid hE
  have HFS := Lib.hid hfs
  clear hE hfs
  clear h hm HG0
  obtain ⟨W, hW⟩ : ∃ W, W = w.alloc (.cells #[.string k1, .int .u64 v1, .int .i64 o1, .int .i64 a1, .bool g1, .string d1] 33) := ⟨_, rfl⟩
  have hbW : W.heap[w.heap.size]? = some (.cells #[.string k1, .int .u64 v1, .int .i64 o1, .int .i64 a1, .bool g1, .string d1] 33 (0, 0)) := by rw [hW]; exact heap_alloc_new w _
  have hoW : Only (fun _ => False) w W := by rw [hW]; exact (Only.refl _ _).alloc _
  have hsW : W.heap.size = w.heap.size + 1 := by rw [hW]; simp
  have HG1 := Lib.hid (HG.out W (hoW.cell HM.out id))
  have HBW := Lib.hid hbW
  have HOW := Lib.hid hoW
  have HSW := Lib.hid hsW
  clear hbW hoW hsW
  go_enter Tryd.func15, Tryd.ntmps15
  go_upto_region 1 with (fail)
  rw [← hW]
  clear hW
  have x0 : W.cell? ⟨w.heap.size, 0, none⟩ = some (.string k1) := cell_at HBW.out 0
  have x1 : W.cell? ⟨w.heap.size, 1, none⟩ = some (.int .u64 v1) := cell_at HBW.out 1
  have x2 : W.cell? ⟨w.heap.size, 2, none⟩ = some (.int .i64 o1) := cell_at HBW.out 2
  have x3 : W.cell? ⟨w.heap.size, 3, none⟩ = some (.int .i64 a1) := cell_at HBW.out 3
  have x4 : W.cell? ⟨w.heap.size, 4, none⟩ = some (.bool g1) := cell_at HBW.out 4
  have x5 : W.cell? ⟨w.heap.size, 5, none⟩ = some (.string d1) := cell_at HBW.out 5
  go_wp2_with fail
  refine HG1.out.mono ?_
  rintro e w1 ⟨rfl, ho1⟩
  clear x0 x1 x2 x3 x4 x5
  have hh1 := (HH.out.new HOW.out).new ho1
  have hb1 := ho1.old HBW.out id
  have hoo := HOW.out.trans ho1
  have HO1 := Lib.hid ho1
  have HH1 := Lib.hid hh1
  have HB1 := Lib.hid hb1
  have HOO := Lib.hid hoo
  clear ho1 hh1 hb1 hoo
  cases gd
  · go_wp2_with fail
    go_ret
    have e4 : E = 4 := by rw [HE.out]; rfl
    exact ⟨ret_int e4.symm, HK.out (by omega) _ HOO.out⟩
  · have x3 : w1.cell? ⟨w.heap.size, 3, none⟩ = some (.int .i64 a1) := cell_at HB1.out 3
    have c2 : w1.cell? ⟨s, 2, none⟩ = some (.int .i64 ttl) := cell_at HH1.out.blk 2
    by_cases ha : ttl ≤ a1
    · go_upto_region 5 with (fail)
      go_quiet (fail)
      go_wp2_with fail
      go_ret
      have e7 : E = 7 := by rw [HE.out, if_neg (by decide), if_pos ha]
      exact ⟨ret_int e7.symm, HK.out (by omega) _ (HOO.out.drewN _)⟩
    · have e0 : E = putFE most L.length v1 fo := by rw [HE.out, if_neg (by decide), if_neg ha]
      have E0 := Lib.hid e0
      clear e0
      clear HE
      go_upto_region 5 with (fail)
      go_quiet (fail)
      obtain ⟨w2, hw2⟩ : ∃ w2, w2 = w1.drewN nq := ⟨_, rfl⟩
      have ho2 : Only (fun _ => False) w1 w2 := by rw [hw2]; exact (Only.refl _ _).drewN _
      rw [← hw2]
      clear hw2 x3 c2
      go_upto_region 7 with (fail)
      have hh3 := HH1.out.new ho2
      have hb3 := ho2.old HB1.out id
      have x0 : w2.cell? ⟨w.heap.size, 0, none⟩ = some (.string k1) := cell_at hb3 0
      have c0 : w2.cell? ⟨s, 0, none⟩ = some (.map (some b)) := cell_at hh3.blk 0
      have hsz : w.heap.size < w2.heap.size ∧ s < w2.heap.size := ⟨lt_of_block hb3, lt_of_block hh3.blk⟩
      obtain ⟨hsz1, hsz2⟩ := hsz
      have hlkA := (hh3.map.kept ((Only.refl (fun _ => False) w2).drew) id).look strKeyed strInj Tryd.underlying138 (z := zeroR) (zeroRec w2.drew) HKO.out true
      have hlkB := (hh3.map.kept (((Only.refl (fun _ => False) w2).alloc (.cells #[.string ⟨#[]⟩, .int .u64 0, .int .i64 0, .int .i64 0, .bool false, .string ⟨#[]⟩] 33)).drew) id).look strKeyed strInj Tryd.underlying138 (z := zeroR) (zeroRec _) HKO.out true
      rw [look_prs, HFS.out] at hlkA hlkB
      have hO3 := HOO.out.trans ho2
      have HH3 := Lib.hid hh3
      have HB3 := Lib.hid hb3
      have HO3 := Lib.hid hO3
      clear hh3 hb3 hO3
      clear ho2 HH1 HB1 HO1 HOO
      cases fo with
      | none =>
        have hlk2 : (Instr.lookup 138 (.map (some b)) (.string k1) true).run Tryd.prog w2.drew = .ok (.tuple #[.agg #[.string ⟨#[]⟩, .int .u64 0, .int .i64 0, .int .i64 0, .bool false, .string ⟨#[]⟩], .bool false]) w2.drew := hlkA
        have hlk3 : (Instr.lookup 138 (.map (some b)) (.string k1) true).run Tryd.prog (w2.alloc (.cells #[.string ⟨#[]⟩, .int .u64 0, .int .i64 0, .int .i64 0, .bool false, .string ⟨#[]⟩] 33)).drew = .ok (.tuple #[.agg #[.string ⟨#[]⟩, .int .u64 0, .int .i64 0, .int .i64 0, .bool false, .string ⟨#[]⟩], .bool false]) (w2.alloc (.cells #[.string ⟨#[]⟩, .int .u64 0, .int .i64 0, .int .i64 0, .bool false, .string ⟨#[]⟩] 33)).drew := hlkB
        clear hlkA hlkB
        go_cut [5, 6] (fun v5 v6 wx => v5 = .pointer (some ⟨w2.heap.size, 0, none⟩) ∧ v6 = .bool false ∧ wx = (w2.alloc (.cells #[.string ⟨#[]⟩, .int .u64 0, .int .i64 0, .int .i64 0, .bool false, .string ⟨#[]⟩] 33)).drew)
        case first =>
          go_region
          all_goals
            go_wp2_with fail
            go_meet
            exact ⟨rfl, rfl, rfl⟩
        case rest =>
        obtain ⟨rfl, rfl, hwx⟩ := hcut
        have ho4 : Only (fun _ => False) w2 wc := by rw [hwx]; exact ((Only.refl _ _).alloc _).drew
        have hq4 : wc.heap[w2.heap.size]? = some (.cells #[.string ⟨#[]⟩, .int .u64 0, .int .i64 0, .int .i64 0, .bool false, .string ⟨#[]⟩] 33 (0, 0)) := by rw [hwx]; exact heap_alloc_new w2 _
        clear hwx hlk2 hlk3 x0 c0
        generalize w2.heap.size = B2 at *
        have hh4 := HH3.out.new ho4
        have hb4 := ho4.old HB3.out id
        have hO4 := HO3.out.trans ho4
        have HH4 := Lib.hid hh4
        have HB4 := Lib.hid hb4
        have HO4 := Lib.hid hO4
        clear hh4 hb4 hO4
        clear HH3 HB3 HO3 ho4
        clear hq4
        have hlen : ∀ n ty, (Builtin.len_ #[138] ty #[.map (some b)]).run Tryd.prog (wc.drewN n) = .ok (.int .i64 (L.length : Nat)) (wc.drewN n) := fun n ty => by
          have := (HH4.out.map.kept ((Only.refl (fun _ => False) wc).drewN n) id).len Tryd.underlying138 ty
          rw [prs_length] at this
          exact this
        have c0 : wc.cell? ⟨s, 0, none⟩ = some (.map (some b)) := cell_at HH4.out.blk 0
        have c1 : wc.cell? ⟨s, 1, none⟩ = some (.int .i64 most) := cell_at HH4.out.blk 1
        by_cases hfull : most ≤ (L.length : Int)
        · have e5 : E = 5 := by rw [E0.out]; exact if_pos hfull
          go_upto_region 10 with (fail)
          go_quiet (fail)
          obtain ⟨w5, hw5⟩ : ∃ w5, w5 = wc.drewN nq := ⟨_, rfl⟩
          have ho5 : Only (fun _ => False) wc w5 := by rw [hw5]; exact (Only.refl _ _).drewN _
          rw [← hw5]
          clear hw5
          have hh5 := HH4.out.new ho5
          have hb5 := ho5.old HB4.out id
          have hO5 := HO4.out.trans ho5
          have HH5 := Lib.hid hh5
          have HB5 := Lib.hid hb5
          have HO5 := Lib.hid hO5
          clear hh5 hb5 hO5
          clear HH4 HB4 HO4 ho5
          have c3 : w5.cell? ⟨s, 3, none⟩ = some (.int .i64 r) := cell_at HH5.out.blk 3
          have cf : ∀ i, w5.frozen? ⟨s, i, none⟩ = false := free_at HH5.out.blk
          clear hlen c0 c1
          go_wp2_with fail
          go_ret
          refine ⟨by first | exact ret_int e5.symm | rfl, ?_, ?_⟩
          · exact (HO5.out.weaken (fun _ _ => False.elim)).setCell (S := fun i => i = s ∨ i = b) (p := ⟨s, 3, none⟩) (.inr (.inl rfl)) _
          · obtain ⟨p1, p2⟩ := HPR.out e5
            rw [p1, p2]
            have ho6 : Only (fun i => i = s) w5 (w5.setCell ⟨s, 3, none⟩ (.int .i64 (r + 1))) := (Only.refl _ _).setCell (S := fun i => i = s) (p := ⟨s, 3, none⟩) (.inr rfl) _
            exact ⟨set_at HH5.out.blk 3 _, HH5.out.map.kept ho6 (fun e => hne e.symm), HH5.out.ok⟩
        · have e5 : E = 0 := by rw [E0.out]; exact if_neg hfull
          go_upto_region 10 with (fail)
          go_quiet (fail)
          obtain ⟨w5, hw5⟩ : ∃ w5, w5 = wc.drewN nq := ⟨_, rfl⟩
          have ho5 : Only (fun _ => False) wc w5 := by rw [hw5]; exact (Only.refl _ _).drewN _
          rw [← hw5]
          clear hw5
          have hh5 := HH4.out.new ho5
          have hb5 := ho5.old HB4.out id
          have hO5 := HO4.out.trans ho5
          have HH5 := Lib.hid hh5
          have HB5 := Lib.hid hb5
          have HO5 := Lib.hid hO5
          clear hh5 hb5 hO5
          clear HH4 HB4 HO4 ho5
          clear hlen c0 c1
          go_upto_region 13 with (fail)
          have c0 : w5.cell? ⟨s, 0, none⟩ = some (.map (some b)) := cell_at HH5.out.blk 0
          have x0 : w5.cell? ⟨w.heap.size, 0, none⟩ = some (.string k1) := cell_at HB5.out 0
          have x1 : w5.cell? ⟨w.heap.size, 1, none⟩ = some (.int .u64 v1) := cell_at HB5.out 1
          have x2 : w5.cell? ⟨w.heap.size, 2, none⟩ = some (.int .i64 o1) := cell_at HB5.out 2
          have x3 : w5.cell? ⟨w.heap.size, 3, none⟩ = some (.int .i64 a1) := cell_at HB5.out 3
          have x4 : w5.cell? ⟨w.heap.size, 4, none⟩ = some (.bool g1) := cell_at HB5.out 4
          have x5 : w5.cell? ⟨w.heap.size, 5, none⟩ = some (.string d1) := cell_at HB5.out 5
          obtain ⟨w6, hst0, hm6, ho6⟩ := (HH5.out.map.kept ((Only.refl (fun _ => False) w5).drew) id).store strKeyed strInj Tryd.underlying138 HLN.out HKO.out ⟨k1, v1, o1, a1, g1, d1⟩
          have hst : (Instr.mapUpdate 138 (.map (some b)) (.string k1) (.agg #[.string k1, .int .u64 v1, .int .i64 o1, .int .i64 a1, .bool g1, .string d1])).run Tryd.prog w5.drew = .ok () w6 := hst0
          have HM6 := Lib.hid hm6
          have HO6 := Lib.hid ho6
          clear hm6 ho6
          clear hst0
          go_region
          go_wp2_with fail
          go_ret
          refine ⟨by first | exact ret_int e5.symm | rfl, ?_, ?_⟩
          · exact (HO5.out.drew.weaken (fun _ _ => False.elim)).trans (HO6.out.weaken (fun _ _ e => .inr e))
          · obtain ⟨p1, p2⟩ := HPS.out e5
            rw [p1, p2]
            have hok := HOK.out
            rw [p2] at hok
            exact ⟨HO6.out.old (w := w5.drew) HH5.out.blk hne, HM6.out.perm strKeyed strInj HP.out, hok⟩
      | some y =>
        obtain ⟨k2, v2, o2, a2, g2, d2⟩ := y
        have hlk2 : (Instr.lookup 138 (.map (some b)) (.string k1) true).run Tryd.prog w2.drew = .ok (.tuple #[.agg #[.string k2, .int .u64 v2, .int .i64 o2, .int .i64 a2, .bool g2, .string d2], .bool true]) w2.drew := hlkA
        have hlk3 : (Instr.lookup 138 (.map (some b)) (.string k1) true).run Tryd.prog (w2.alloc (.cells #[.string ⟨#[]⟩, .int .u64 0, .int .i64 0, .int .i64 0, .bool false, .string ⟨#[]⟩] 33)).drew = .ok (.tuple #[.agg #[.string k2, .int .u64 v2, .int .i64 o2, .int .i64 a2, .bool g2, .string d2], .bool true]) (w2.alloc (.cells #[.string ⟨#[]⟩, .int .u64 0, .int .i64 0, .int .i64 0, .bool false, .string ⟨#[]⟩] 33)).drew := hlkB
        clear hlkA hlkB
        go_cut [5, 6] (fun v5 v6 wx => v5 = .pointer (some ⟨w2.heap.size, 0, none⟩) ∧ v6 = .bool true ∧ wx = (w2.alloc (.cells #[.string k2, .int .u64 v2, .int .i64 o2, .int .i64 a2, .bool g2, .string d2] 33)).drew)
        case first =>
          go_region
          all_goals
            go_wp2_with fail
            go_meet
            exact ⟨rfl, rfl, rfl⟩
        case rest =>
        obtain ⟨rfl, rfl, hwx⟩ := hcut
        have ho4 : Only (fun _ => False) w2 wc := by rw [hwx]; exact ((Only.refl _ _).alloc _).drew
        have hq4 : wc.heap[w2.heap.size]? = some (.cells #[.string k2, .int .u64 v2, .int .i64 o2, .int .i64 a2, .bool g2, .string d2] 33 (0, 0)) := by rw [hwx]; exact heap_alloc_new w2 _
        clear hwx hlk2 hlk3 x0 c0
        generalize w2.heap.size = B2 at *
        have hh4 := HH3.out.new ho4
        have hb4 := ho4.old HB3.out id
        have hO4 := HO3.out.trans ho4
        have HH4 := Lib.hid hh4
        have HB4 := Lib.hid hb4
        have HO4 := Lib.hid hO4
        clear hh4 hb4 hO4
        clear HH3 HB3 HO3 ho4
        have y0 : wc.cell? ⟨B2, 0, none⟩ = some (.string k2) := cell_at hq4 0
        have y1 : wc.cell? ⟨B2, 1, none⟩ = some (.int .u64 v2) := cell_at hq4 1
        have y2 : wc.cell? ⟨B2, 2, none⟩ = some (.int .i64 o2) := cell_at hq4 2
        have y3 : wc.cell? ⟨B2, 3, none⟩ = some (.int .i64 a2) := cell_at hq4 3
        have y4 : wc.cell? ⟨B2, 4, none⟩ = some (.bool g2) := cell_at hq4 4
        have y5 : wc.cell? ⟨B2, 5, none⟩ = some (.string d2) := cell_at hq4 5
        have x1 : wc.cell? ⟨w.heap.size, 1, none⟩ = some (.int .u64 v1) := cell_at HB4.out 1
        clear hq4
        by_cases hv2 : v1 ≤ v2
        · have e5 : E = 13 := by rw [E0.out]; exact if_pos hv2
          have hd : decide ((v1 : Int) ≤ (v2 : Int)) = true := decide_eq_true (by omega)
          go_wp2_with fail
          go_ret
          exact ⟨by first | exact ret_int e5.symm | rfl, HK.out (by omega) _ HO4.out⟩
        · have e5 : E = 0 := by rw [E0.out]; exact if_neg hv2
          have hv3 : v2 < v1 := by omega
          go_upto_region 10 with (fail)
          clear y0 y1 y2 y3 y4 y5 x1
          go_quiet (fail)
          obtain ⟨w5, hw5⟩ : ∃ w5, w5 = wc.drewN nq := ⟨_, rfl⟩
          have ho5 : Only (fun _ => False) wc w5 := by rw [hw5]; exact (Only.refl _ _).drewN _
          rw [← hw5]
          clear hw5
          have hh5 := HH4.out.new ho5
          have hb5 := ho5.old HB4.out id
          have hO5 := HO4.out.trans ho5
          have HH5 := Lib.hid hh5
          have HB5 := Lib.hid hb5
          have HO5 := Lib.hid hO5
          clear hh5 hb5 hO5
          clear HH4 HB4 HO4 ho5
          go_upto_region 13 with (fail)
          have c0 : w5.cell? ⟨s, 0, none⟩ = some (.map (some b)) := cell_at HH5.out.blk 0
          have x0 : w5.cell? ⟨w.heap.size, 0, none⟩ = some (.string k1) := cell_at HB5.out 0
          have x1 : w5.cell? ⟨w.heap.size, 1, none⟩ = some (.int .u64 v1) := cell_at HB5.out 1
          have x2 : w5.cell? ⟨w.heap.size, 2, none⟩ = some (.int .i64 o1) := cell_at HB5.out 2
          have x3 : w5.cell? ⟨w.heap.size, 3, none⟩ = some (.int .i64 a1) := cell_at HB5.out 3
          have x4 : w5.cell? ⟨w.heap.size, 4, none⟩ = some (.bool g1) := cell_at HB5.out 4
          have x5 : w5.cell? ⟨w.heap.size, 5, none⟩ = some (.string d1) := cell_at HB5.out 5
          obtain ⟨w6, hst0, hm6, ho6⟩ := (HH5.out.map.kept ((Only.refl (fun _ => False) w5).drew) id).store strKeyed strInj Tryd.underlying138 HLN.out HKO.out ⟨k1, v1, o1, a1, g1, d1⟩
          have hst : (Instr.mapUpdate 138 (.map (some b)) (.string k1) (.agg #[.string k1, .int .u64 v1, .int .i64 o1, .int .i64 a1, .bool g1, .string d1])).run Tryd.prog w5.drew = .ok () w6 := hst0
          have HM6 := Lib.hid hm6
          have HO6 := Lib.hid ho6
          clear hm6 ho6
          clear hst0
          go_region
          go_wp2_with fail
          go_ret
          refine ⟨by first | exact ret_int e5.symm | rfl, ?_, ?_⟩
          · exact (HO5.out.drew.weaken (fun _ _ => False.elim)).trans (HO6.out.weaken (fun _ _ e => .inr e))
          · obtain ⟨p1, p2⟩ := HPS.out e5
            rw [p1, p2]
            have hok := HOK.out
            rw [p2] at hok
            exact ⟨HO6.out.old (w := w5.drew) HH5.out.blk hne, HM6.out.perm strKeyed strInj HP.out, hok⟩
end Go.Proofs.YtianboachknfmaaDoor
