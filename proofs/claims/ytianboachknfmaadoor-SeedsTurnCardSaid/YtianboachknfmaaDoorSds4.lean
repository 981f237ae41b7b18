/- seeds: Tick. -/
import Derived.Test.YtianboachknfmaaDoorSds3
import Derived.RegionTactic
namespace Go.Proofs.YtianboachknfmaaDoor
open Go.Conc Go.RowKit Go.Maps

theorem sdtick_nil (w : World) : Calls Tryd.prog 24 #[.pointer none] w fun e w' => e = .returned (.slice none 0 0) ∧ w = w' := by
  go_enter Tryd.func24, Tryd.ntmps24
  go_wp2_with fail
  go_ret
  exact ⟨rfl, rfl⟩
theorem sdtick_zero (w : World) (x : Nat) (tick next : Int) (l : List Int) (s : Nat) (h : SeedsAt w x 0 tick next l s) : Calls Tryd.prog 24 #[.pointer (some ⟨x, 0, none⟩)] w fun e w' => e = .returned (.slice none 0 0) ∧ w = w' := by
  obtain ⟨v, base, h1, h2⟩ := h.out
  have x1 : w.cell? ⟨x, 1, none⟩ = some (.int .i64 0) := cell_at h1 1
  clear h h1 h2
  go_enter Tryd.func24, Tryd.ntmps24
  go_wp2_with fail
  go_ret
  exact ⟨rfl, rfl⟩
set_option maxRecDepth 100000 in
set_option maxHeartbeats 1000000 in
theorem sdtick_no (w : World) (x : Nat) (every tick next : Int) (l : List Int) (s : Nat) (h : SeedsAt w x every tick next l s) (he : 1 ≤ every) (he2 : every ≤ 1000) (ht : 0 ≤ tick) (ht2 : tick < every) (hn : (tick + 1) % every ≠ 0 ∨ l.length = 0) :
    Calls Tryd.prog 24 #[.pointer (some ⟨x, 0, none⟩)] w fun e w' => e = .returned (.slice none 0 0) ∧ Only (fun i => i = x) w w' ∧ SeedsAt w' x every ((tick + 1) % every) next l s := by
  obtain ⟨v, base, h1, h2⟩ := h.out
  obtain ⟨va, vcap, rfl, _, _, _⟩ := Sl.cells intC_length (Sl.of_owns h2)
  have x1 : w.cell? ⟨x, 1, none⟩ = some (.int .i64 every) := cell_at h1 1
  have x2 : w.cell? ⟨x, 2, none⟩ = some (.int .i64 tick) := cell_at h1 2
  have xf : ∀ i, w.frozen? ⟨x, i, none⟩ = false := free_at h1
  have e0 : ¬ every = 0 := by omega
  have e3 : (every == 0) = false := by simpa using e0
  have H1 := Lib.hid h1
  have H2 := Lib.hid h2
  have HN := Lib.hid hn
  clear h1 h2 hn
  clear h
  go_enter Tryd.func24, Tryd.ntmps24
  go_upto_region 3 with (fail)
  go_cut [3] (fun v3 wx => wx.heap[x]? = some (.cells #[.slice va l.length vcap, .int .i64 every, .int .i64 ((tick + 1) % every), .int .i64 next, .pointer (some ⟨s, 0, none⟩)] 146 (0, 0)) ∧ Only (fun i => i = x) w wx)
  case first =>
    go_region
    all_goals
      go_wp2_with fail
      go_meet
      exact ⟨set_at H1.out 2 _, ((Only.refl _ _).setCell (S := fun i => i = x) (p := ⟨x, 2, none⟩) (.inr rfl) _).drew⟩
  case rest =>
  obtain ⟨hb, ho⟩ := hcut
  have hrow := owns_ty H2.out H1.out (by decide) ho
  generalize htt : (tick + 1) % every = tt at *
  have x2' : wc.cell? ⟨x, 2, none⟩ = some (.int .i64 tt) := cell_at hb 2
  have x0' : wc.cell? ⟨x, 0, none⟩ = some (.slice va l.length vcap) := cell_at hb 0
  have HTT := Lib.hid htt
  have HB := Lib.hid hb
  have HO := Lib.hid ho
  have HROW := Lib.hid hrow
  clear htt hb ho hrow
  clear x1 x2 xf
  by_cases c : tt = 0
  · have hl : l.length = 0 := HN.out.resolve_left (fun h => h c)
    have c5 : (tt != 0) = false := by rw [c]; rfl
    have c6 : ((l.length : Nat) : Int) = 0 := by omega
    have c7 : (((l.length : Nat) : Int) == 0) = true := by rw [c6]; rfl
    have HFIN := Lib.hid (show SeedsAt wc x every tt next l s from ⟨_, _, HB.out, HROW.out⟩)
    clear c hl c6
    go_wp2_with fail
    go_ret
    exact ⟨rfl, HO.out, by rw [HTT.out]; exact HFIN.out⟩
  · have c5 : (tt != 0) = true := by simpa using c
    have HFIN := Lib.hid (show SeedsAt wc x every tt next l s from ⟨_, _, HB.out, HROW.out⟩)
    clear c
    go_wp2_with fail
    go_ret
    exact ⟨rfl, HO.out, by rw [HTT.out]; exact HFIN.out⟩
set_option maxRecDepth 100000 in
set_option maxHeartbeats 1000000 in
theorem sdtick_yes (w : World) (x : Nat) (every tick next : Int) (l : List Int) (s b : Nat) (most ttl r : Int) (L : List RecT) (h : SeedsAt w x every tick next l s) (hs : StoreAt w s b most ttl r L) (hxs : x ≠ s) (he : 1 ≤ every) (he2 : every ≤ 1000) (ht : 0 ≤ tick) (ht2 : tick < every) (hn : (tick + 1) % every = 0) (i : Nat) (hi : i < l.length) (hni : next = (i : Nat)) (hll : l.length ≤ 1000) :
    Calls Tryd.prog 24 #[.pointer (some ⟨x, 0, none⟩)] w fun e w' => ∃ g vn vi vr T, e = .returned (.slice (some ⟨g, 0, none⟩) 1 1) ∧ Only (fun i => i = x) w w' ∧ SeedsAt w' x every 0 ((next + 1) % l.length) l s ∧
      w'.heap[g]? = some (.cells #[.int .i64 l[i], .int .i64 13, .int .i64 0, .int .i64 0, .bool false, vn, vi, vr] T (0, 0)) ∧ MsgIs w' (.agg #[.int .i64 13, .int .i64 0, .int .i64 0, .bool false, vn, vi, vr]) (askMsg L) := by
  obtain ⟨v, base, h1, h2⟩ := h.out
  obtain ⟨va, vcap, rfl, _, v2, hcs⟩ := Sl.cells intC_length (Sl.of_owns h2)
  unfold maxLen at v2
  subst hni
  have x1 : w.cell? ⟨x, 1, none⟩ = some (.int .i64 every) := cell_at h1 1
  have x2 : w.cell? ⟨x, 2, none⟩ = some (.int .i64 tick) := cell_at h1 2
  have xf : ∀ i, w.frozen? ⟨x, i, none⟩ = false := free_at h1
  have e0 : ¬ every = 0 := by omega
  have e3 : (every == 0) = false := by simpa using e0
  have H1 := Lib.hid h1
  have H2 := Lib.hid h2
  have HN := Lib.hid hn
  have HS := Lib.hid hs
  clear h1 h2 hn hs
  clear h hcs
  go_enter Tryd.func24, Tryd.ntmps24
  go_upto_region 3 with (fail)
  go_cut [3] (fun v3 wx => wx.heap[x]? = some (.cells #[.slice va l.length vcap, .int .i64 every, .int .i64 ((tick + 1) % every), .int .i64 (i : Nat), .pointer (some ⟨s, 0, none⟩)] 146 (0, 0)) ∧ Only (fun i => i = x) w wx)
  case first =>
    go_region
    all_goals
      go_wp2_with fail
      go_meet
      exact ⟨set_at H1.out 2 _, ((Only.refl _ _).setCell (S := fun i => i = x) (p := ⟨x, 2, none⟩) (.inr rfl) _).drew⟩
  case rest =>
  obtain ⟨hb, ho⟩ := hcut
  rw [HN.out] at hb
  have hrow := owns_ty H2.out H1.out (by decide) ho
  obtain ⟨_, _, hve, _, _, hcs⟩ := Sl.cells intC_length (Sl.of_owns hrow)
  cases hve
  obtain ⟨lb, loff, hae, hc⟩ := hcs.at i hi
  subst hae
  have p0 := hc 0 _ rfl
  simp only [Nat.add_zero, Nat.mul_one] at p0
  have hsx : StoreAt wc s b most ttl r L := HS.out.kept ho hxs.symm (fun e => by
    subst e
    obtain ⟨es, c, hbb, _⟩ := HS.out.map.own
    have := H1.out
    rw [hbb] at this
    cases this)
  have x2' : wc.cell? ⟨x, 2, none⟩ = some (.int .i64 0) := cell_at hb 2
  have x0' : wc.cell? ⟨x, 0, none⟩ = some (.slice (some ⟨lb, loff, none⟩) l.length vcap) := cell_at hb 0
  have x3' : wc.cell? ⟨x, 3, none⟩ = some (.int .i64 (i : Nat)) := cell_at hb 3
  have i1 : (0 : Int) ≤ (i : Int) := by omega
  have i2 : (i : Int) < (l.length : Int) := by omega
  have i3 : ¬ (l.length : Int) = 0 := by omega
  have i4 : ((l.length : Int) == 0) = false := by simpa using i3
  generalize hz : l[i] = z at *
  have HZZ := Lib.hid hz
  clear hz
  have HB := Lib.hid hb
  have HO := Lib.hid ho
  have HROW := Lib.hid hrow
  have HSX := Lib.hid hsx
  clear hb ho hrow hsx
  clear x1 x2 xf hc hcs
  go_upto_region 6 with (fail)
  go_quiet (fail)
  obtain ⟨w6, hw6⟩ : ∃ w6, w6 = wc.drewN nq := ⟨_, rfl⟩
  have ho6 : Only (fun _ => False) wc w6 := by rw [hw6]; exact (Only.refl _ _).drewN _
  rw [← hw6]
  clear hw6 x2' x0' x3' p0
  have hb6 := ho6.old HB.out id
  have hrow6 := owns_only HROW.out ho6 (fun _ _ => id)
  have hs6 := HSX.out.new ho6
  have x0' : w6.cell? ⟨x, 0, none⟩ = some (.slice (some ⟨lb, loff, none⟩) l.length vcap) := cell_at hb6 0
  have x3' : w6.cell? ⟨x, 3, none⟩ = some (.int .i64 (i : Nat)) := cell_at hb6 3
  have xf : ∀ i, w6.frozen? ⟨x, i, none⟩ = false := free_at hb6
  have ho7 := HO.out.trans (ho6.weaken (T := fun i => i = x) (fun _ _ => False.elim))
  have i5 : (i : Int) + 1 ≤ 1000 := by omega
  have HB6 := Lib.hid hb6
  have HROW6 := Lib.hid hrow6
  have HS6 := Lib.hid hs6
  have HO7 := Lib.hid ho7
  clear hb6 hrow6 hs6 ho7
  clear ho6
  go_upto_region 7 with (fail)
  go_cut [3] (fun v3 wx => v3 = .int .i64 z ∧ wx.heap[x]? = some (.cells #[.slice (some ⟨lb, loff, none⟩) l.length vcap, .int .i64 every, .int .i64 0, .int .i64 (((i : Nat) + 1 : Int) % l.length), .pointer (some ⟨s, 0, none⟩)] 146 (0, 0)) ∧ Only (fun i => i = x) w6 wx)
  case first =>
    go_region
    all_goals
      go_wp2_with fail
      go_meet
      exact ⟨rfl, set_at HB6.out 3 _, ((Only.refl _ _).setCell (S := fun i => i = x) (p := ⟨x, 3, none⟩) (.inr rfl) _).drew⟩
  case rest =>
  obtain ⟨rfl, hb8, ho8⟩ := hcut
  have hrow8 := owns_ty HROW6.out HB6.out (by decide) ho8
  have hs8 : StoreAt wc s b most ttl r L := HS6.out.kept ho8 hxs.symm (fun e => by
    subst e
    obtain ⟨es, c, hbb, _⟩ := HS6.out.map.own
    have := HB6.out
    rw [hbb] at this
    cases this)
  have x4 : wc.cell? ⟨x, 4, none⟩ = some (.pointer (some ⟨s, 0, none⟩)) := cell_at hb8 4
  have HDA := Lib.hid (dask_any wc s b most ttl r L hs8)
  have ho9 := HO7.out.trans ho8
  generalize hnx : ((i : Nat) + 1 : Int) % l.length = nx at *
  have HB8 := Lib.hid hb8
  have HROW8 := Lib.hid hrow8
  have HO9 := Lib.hid ho9
  have HNX := Lib.hid hnx
  clear hb8 hrow8 ho9 hnx
  clear x0' x3' xf ho8 hs8
  go_wp2_with fail
  refine HDA.out.mono ?_
  rintro e w10 ⟨vm, rfl, ho10, hmsg⟩
  obtain ⟨vn, vi, vr, rfl, m1, m2, m3⟩ := hmsg.out
  obtain ⟨n1, n2, rfl, _⟩ := Sl.cells intC_length m1
  obtain ⟨j1, j2, rfl, _⟩ := Sl.cells idT_length m2
  obtain ⟨r1, r2, rfl, _⟩ := Sl.cells recC_length m3
  have hb11 := ho10.old HB8.out id
  have hrow11 := owns_only HROW8.out ho10 (fun _ _ => id)
  have ho11 := HO9.out.trans (ho10.weaken (T := fun i => i = x) (fun _ _ => False.elim))
  have hmsg2 : MsgIs w10 (.agg #[.int .i64 13, .int .i64 0, .int .i64 0, .bool false, .slice n1 0 n2, .slice j1 L.length j2, .slice r1 0 r2]) (askMsg L) := by
    have h5 : (askMsg L).ids.length = L.length := List.length_map ..
    rw [h5] at hmsg
    exact hmsg
  have HB11 := Lib.hid hb11
  have HROW11 := Lib.hid hrow11
  have HO11 := Lib.hid ho11
  have HMSG := Lib.hid hmsg2
  clear hb11 hrow11 ho11 hmsg2
  clear hmsg m1 m2 m3 ho10 x4
  simp only [askMsg]
  go_wp2_with fail
  go_ret
  rw [HZZ.out, HNX.out]
  have hoz := (Only.refl (fun _ => False) w10).alloc (.cells #[.int .i64 z, .int .i64 13, .int .i64 0, .int .i64 0, .bool false, .slice n1 0 n2, .slice j1 L.length j2, .slice r1 0 r2] 61)
  refine ⟨w10.heap.size, .slice n1 0 n2, .slice j1 L.length j2, .slice r1 0 r2, 61, rfl, HO11.out.alloc _, ⟨_, _, hoz.old HB11.out id, owns_only HROW11.out hoz (fun _ _ => id)⟩, heap_alloc_new w10 _, HMSG.out.new hoz⟩
end Go.Proofs.YtianboachknfmaaDoor
