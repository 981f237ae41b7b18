/- SeedsRepair: a round's steps. -/
import Derived.Test.YtjdlcfllmpdffaaDoorMK
import Derived.Test.YtjdlcfllmpdffaaDoorMI
import Derived.Test.YtjdlcfllmpdffaaDoorMJ
import Derived.RegionTactic
/-! SeedsRepair: Ask and Tick with rows of the call's own; letters. -/
namespace Go.Proofs.YtjdlcfllmpdffaaDoor
open Go.Conc Go.RowKit Go.Maps

set_option maxRecDepth 100000 in
set_option maxHeartbeats 1000000 in
theorem dask_own (w : World) (s b : Nat) (most ttl r : Int) (L : List RecT) (h : StoreAt w s b most ttl r L) :
    Calls Tryd.prog 39 #[.pointer (some ⟨s, 0, none⟩)] w fun e w' => ∃ v, e = .returned (.agg #[.int .i64 13, .int .i64 0, .int .i64 0, .bool false, .slice none 0 0, v, .slice none 0 0]) ∧ Only (fun _ => False) w w' ∧ MsgOwn w' w.heap.size (askMsg L, .slice none 0 0, v, .slice none 0 0) := by
  obtain ⟨W, hW⟩ : ∃ W, W = w.alloc (.cells #[.int .i64 0, .int .i64 0, .int .i64 0, .bool false, .slice none 0 0, .slice none 0 0, .slice none 0 0] 56) := ⟨_, rfl⟩
  have hbW : W.heap[w.heap.size]? = some (.cells #[.int .i64 0, .int .i64 0, .int .i64 0, .bool false, .slice none 0 0, .slice none 0 0, .slice none 0 0] 56 (0, 0)) := by rw [hW]; exact heap_alloc_new w _
  have hoW : Only (fun _ => False) w W := by rw [hW]; exact (Only.refl _ _).alloc _
  have hsW : W.heap.size = w.heap.size + 1 := by rw [hW]; simp
  have hhW := h.new hoW
  have HI := Lib.hid (sids_any W s b most ttl r L hhW)
  have HOW := Lib.hid hoW
  have HBW := Lib.hid hbW
  have HSZ := Lib.hid hsW
  clear hoW hbW hsW
  clear h hhW
  go_enter Tryd.func39, Tryd.ntmps39
  go_upto_region 1 with (fail)
  rw [← hW]
  clear hW
  go_wp2_with fail
  refine HI.out.mono ?_
  rintro e w2 ⟨v2, rfl, ho2, hrow⟩
  have hsl := Sl.of_owns hrow
  obtain ⟨_, ia, icap, rfl, i1, i2, i3⟩ := id hsl
  have hb2 := ho2.old HBW.out id
  have x0 : w2.cell? ⟨w.heap.size, 0, none⟩ = some (.int .i64 0) := cell_at hb2 0
  have x1 : w2.cell? ⟨w.heap.size, 1, none⟩ = some (.int .i64 0) := cell_at hb2 1
  have x2 : w2.cell? ⟨w.heap.size, 2, none⟩ = some (.int .i64 0) := cell_at hb2 2
  have x3 : w2.cell? ⟨w.heap.size, 3, none⟩ = some (.bool false) := cell_at hb2 3
  have x4 : w2.cell? ⟨w.heap.size, 4, none⟩ = some (.slice none 0 0) := cell_at hb2 4
  have x5 : w2.cell? ⟨w.heap.size, 5, none⟩ = some (.slice none 0 0) := cell_at hb2 5
  have x6 : w2.cell? ⟨w.heap.size, 6, none⟩ = some (.slice none 0 0) := cell_at hb2 6
  have xf : ∀ i, w2.frozen? ⟨w.heap.size, i, none⟩ = false := free_at hb2
  have hoA := HOW.out.trans ho2
  have HB2 := Lib.hid hb2
  have HOA := Lib.hid hoA
  have HROW := Lib.hid hrow
  clear hb2 hoA hrow
  clear i3 ho2 hsl
  go_wp2_with fail
  obtain ⟨s1, s2⟩ := lit_set HB2.out [.int .i64 13, .int .i64 0, .int .i64 0, .bool false, .slice none 0 0, .slice ia L.length icap, .slice none 0 0] rfl
  rw [show World.setCells w2 w.heap.size 0 [.int .i64 13, .int .i64 0, .int .i64 0, .bool false, .slice none 0 0, .slice ia L.length icap, .slice none 0 0] = (((((((w2.setCell ⟨w.heap.size, 0, none⟩ (.int .i64 13)).setCell ⟨w.heap.size, 1, none⟩ (.int .i64 0)).setCell ⟨w.heap.size, 2, none⟩ (.int .i64 0)).setCell ⟨w.heap.size, 3, none⟩ (.bool false)).setCell ⟨w.heap.size, 4, none⟩ (.slice none 0 0)).setCell ⟨w.heap.size, 5, none⟩ (.slice ia L.length icap)).setCell ⟨w.heap.size, 6, none⟩ (.slice none 0 0)) from rfl] at s1 s2
  generalize (((((((w2.setCell ⟨w.heap.size, 0, none⟩ (.int .i64 13)).setCell ⟨w.heap.size, 1, none⟩ (.int .i64 0)).setCell ⟨w.heap.size, 2, none⟩ (.int .i64 0)).setCell ⟨w.heap.size, 3, none⟩ (.bool false)).setCell ⟨w.heap.size, 4, none⟩ (.slice none 0 0)).setCell ⟨w.heap.size, 5, none⟩ (.slice ia L.length icap)).setCell ⟨w.heap.size, 6, none⟩ (.slice none 0 0)) = wz at *
  have p0 : wz.cell? ⟨w.heap.size, 0, none⟩ = some (.int .i64 13) := cell_at s1 0
  have p1 : wz.cell? ⟨w.heap.size, 1, none⟩ = some (.int .i64 0) := cell_at s1 1
  have p2 : wz.cell? ⟨w.heap.size, 2, none⟩ = some (.int .i64 0) := cell_at s1 2
  have p3 : wz.cell? ⟨w.heap.size, 3, none⟩ = some (.bool false) := cell_at s1 3
  have p4 : wz.cell? ⟨w.heap.size, 4, none⟩ = some (.slice none 0 0) := cell_at s1 4
  have p5 : wz.cell? ⟨w.heap.size, 5, none⟩ = some (.slice ia L.length icap) := cell_at s1 5
  have p6 : wz.cell? ⟨w.heap.size, 6, none⟩ = some (.slice none 0 0) := cell_at s1 6
  refine bodyPost_ret (v := .agg #[.int .i64 13, .int .i64 0, .int .i64 0, .bool false, .slice none 0 0, .slice ia L.length icap, .slice none 0 0]) (by simp [results, Tryd.results39, go_sem, p0, p1, p2, p3, p4, p5, p6]) rfl ?_
  have hwl : w.heap.size < w2.heap.size := lt_of_block HB2.out
  have h5 := HSZ.out
  have h6 := owns_only HROW.out s2 (fun k hk e => by omega)
  refine ⟨_, rfl, HOA.out.tr s2 (fun i hi e => by omega), ⟨World.ownsRow_nil _ _ _ _, ?_, World.ownsRow_nil _ _ _ _⟩⟩
  show wz.ownsRow w.heap.size 31 2 _ (L.map toId).length ((L.map toId).flatMap idT)
  rw [ids_fl, List.length_map]
  exact ownsRow_base_a h6 (by omega)
set_option maxRecDepth 100000 in
set_option maxHeartbeats 4000000 in
theorem sdtick_own (w : World) (x : Nat) (every tick next : Int) (l : List Int) (s b : Nat) (most ttl r : Int) (L : List RecT) (h : SeedsAt w x every tick next l s) (hs : StoreAt w s b most ttl r L) (hxs : x ≠ s) (he : 1 ≤ every) (he2 : every ≤ 1000) (ht : 0 ≤ tick) (ht2 : tick < every) (hn : (tick + 1) % every = 0) (i : Nat) (hi : i < l.length) (hni : next = (i : Nat)) (hll : l.length ≤ 1000) :
    Calls Tryd.prog 21 #[.pointer (some ⟨x, 0, none⟩)] w fun e w' => ∃ v', e = .returned v' ∧ Only (fun i => i = x) w w' ∧ SeedsAt w' x every 0 ((next + 1) % l.length) l s ∧ OutRow w' w.heap.size w.heap.size v' l[i] [askMsg L] := by
  obtain ⟨v, base, h1, h2⟩ := h.out
  obtain ⟨va, vcap, rfl, _, v2, hcs⟩ := Sl.cells intC_length (Sl.of_owns h2)
  unfold maxLen at v2
  subst hni
  have x1 : w.cell? ⟨x, 1, none⟩ = some (.int .i64 every) := cell_at h1 1
  have x2 : w.cell? ⟨x, 2, none⟩ = some (.int .i64 tick) := cell_at h1 2
  have xf : ∀ i, w.frozen? ⟨x, i, none⟩ = false := free_at h1
  have e0 : ¬ every = 0 := by omega
  have e3 : (every == 0) = false := by simpa using e0
  have H1 := Lib.hid h1
  have H2 := Lib.hid h2
  have HN := Lib.hid hn
  have HS := Lib.hid hs
  clear h1 h2 hn hs
  clear h hcs
  go_enter Tryd.func21, Tryd.ntmps21
  go_upto_region 3 with (fail)
  go_cut [3] (fun v3 wx => wx.heap[x]? = some (.cells #[.slice va l.length vcap, .int .i64 every, .int .i64 ((tick + 1) % every), .int .i64 (i : Nat), .pointer (some ⟨s, 0, none⟩)] 146 (0, 0)) ∧ Only (fun i => i = x) w wx)
  case first =>
    go_region
    all_goals
      go_wp2_with fail
      go_meet
      exact ⟨set_at H1.out 2 _, ((Only.refl _ _).setCell (S := fun i => i = x) (p := ⟨x, 2, none⟩) (.inr rfl) _).drew⟩
  case rest =>
  obtain ⟨hb, ho⟩ := hcut
  rw [HN.out] at hb
  have hrow := owns_ty H2.out H1.out (by decide) ho
  obtain ⟨_, _, hve, _, _, hcs⟩ := Sl.cells intC_length (Sl.of_owns hrow)
  cases hve
  obtain ⟨lb, loff, hae, hc⟩ := hcs.at i hi
  subst hae
  have p0 := hc 0 _ rfl
  simp only [Nat.add_zero, Nat.mul_one] at p0
  have hsx : StoreAt wc s b most ttl r L := HS.out.kept ho hxs.symm (fun e => by
    subst e
    obtain ⟨es, c, hbb, _⟩ := HS.out.map.own
    have := H1.out
    rw [hbb] at this
    cases this)
  have x2' : wc.cell? ⟨x, 2, none⟩ = some (.int .i64 0) := cell_at hb 2
  have x0' : wc.cell? ⟨x, 0, none⟩ = some (.slice (some ⟨lb, loff, none⟩) l.length vcap) := cell_at hb 0
  have x3' : wc.cell? ⟨x, 3, none⟩ = some (.int .i64 (i : Nat)) := cell_at hb 3
  have i1 : (0 : Int) ≤ (i : Int) := by omega
  have i2 : (i : Int) < (l.length : Int) := by omega
  have i3 : ¬ (l.length : Int) = 0 := by omega
  have i4 : ((l.length : Int) == 0) = false := by simpa using i3
  generalize hz : l[i] = z at *
  have HZZ := Lib.hid hz
  clear hz
  have HB := Lib.hid hb
  have HO := Lib.hid ho
  have HROW := Lib.hid hrow
  have HSX := Lib.hid hsx
  clear hb ho hrow hsx
  clear x1 x2 xf hc hcs
  go_upto_region 6 with (fail)
  go_quiet (fail)
  obtain ⟨w6, hw6⟩ : ∃ w6, w6 = wc.drewN nq := ⟨_, rfl⟩
  have ho6 : Only (fun _ => False) wc w6 := by rw [hw6]; exact (Only.refl _ _).drewN _
  rw [← hw6]
  clear hw6 x2' x0' x3' p0
  have hb6 := ho6.old HB.out id
  have hrow6 := owns_only HROW.out ho6 (fun _ _ => id)
  have hs6 := HSX.out.new ho6
  have x0' : w6.cell? ⟨x, 0, none⟩ = some (.slice (some ⟨lb, loff, none⟩) l.length vcap) := cell_at hb6 0
  have x3' : w6.cell? ⟨x, 3, none⟩ = some (.int .i64 (i : Nat)) := cell_at hb6 3
  have xf : ∀ i, w6.frozen? ⟨x, i, none⟩ = false := free_at hb6
  have ho7 := HO.out.trans (ho6.weaken (T := fun i => i = x) (fun _ _ => False.elim))
  have i5 : (i : Int) + 1 ≤ 1000 := by omega
  have HB6 := Lib.hid hb6
  have HROW6 := Lib.hid hrow6
  have HS6 := Lib.hid hs6
  have HO7 := Lib.hid ho7
  clear hb6 hrow6 hs6 ho7
  clear ho6
  go_upto_region 7 with (fail)
  go_cut [3] (fun v3 wx => v3 = .int .i64 z ∧ wx.heap[x]? = some (.cells #[.slice (some ⟨lb, loff, none⟩) l.length vcap, .int .i64 every, .int .i64 0, .int .i64 (((i : Nat) + 1 : Int) % l.length), .pointer (some ⟨s, 0, none⟩)] 146 (0, 0)) ∧ Only (fun i => i = x) w6 wx)
  case first =>
    go_region
    all_goals
      go_wp2_with fail
      go_meet
      exact ⟨rfl, set_at HB6.out 3 _, ((Only.refl _ _).setCell (S := fun i => i = x) (p := ⟨x, 3, none⟩) (.inr rfl) _).drew⟩
  case rest =>
  obtain ⟨rfl, hb8, ho8⟩ := hcut
  have hrow8 := owns_ty HROW6.out HB6.out (by decide) ho8
  have hs8 : StoreAt wc s b most ttl r L := HS6.out.kept ho8 hxs.symm (fun e => by
    subst e
    obtain ⟨es, c, hbb, _⟩ := HS6.out.map.own
    have := HB6.out
    rw [hbb] at this
    cases this)
  have x4 : wc.cell? ⟨x, 4, none⟩ = some (.pointer (some ⟨s, 0, none⟩)) := cell_at hb8 4
  have HDA := Lib.hid (dask_own wc s b most ttl r L hs8)
  have ho9 := HO7.out.trans ho8
  generalize hnx : ((i : Nat) + 1 : Int) % l.length = nx at *
  have HB8 := Lib.hid hb8
  have HROW8 := Lib.hid hrow8
  have HO9 := Lib.hid ho9
  have HNX := Lib.hid hnx
  clear hb8 hrow8 ho9 hnx
  clear x0' x3' xf ho8 hs8
  go_wp2_with fail
  refine HDA.out.mono ?_
  rintro e w10 ⟨vi, rfl, ho10, hmsg⟩
  have hmi := Sl.of_owns hmsg.i
  simp only at hmi
  obtain ⟨j1, j2, rfl, _⟩ := Sl.cells idT_length hmi
  have h5 : (askMsg L).ids.length = L.length := List.length_map ..
  rw [h5] at hmsg ⊢
  clear hmi
  have hb11 := ho10.old HB8.out id
  have hrow11 := owns_only HROW8.out ho10 (fun _ _ => id)
  have ho11 := HO9.out.trans (ho10.weaken (T := fun i => i = x) (fun _ _ => False.elim))
  have hsz9 := HO9.out.size
  have HB11 := Lib.hid hb11
  have HROW11 := Lib.hid hrow11
  have HO11 := Lib.hid ho11
  have HMSG := Lib.hid hmsg
  clear hb11 hrow11 ho11 hmsg
  clear ho10 x4 h5
  go_wp2_with fail
  go_ret
  rw [HZZ.out, HNX.out]
  have hoz := (Only.refl (fun _ => False) w10).alloc (.cells #[.int .i64 z, .int .i64 13, .int .i64 0, .int .i64 0, .bool false, .slice none 0 0, .slice j1 L.length j2, .slice none 0 0] 58)
  have hs10 := HO11.out.size
  refine ⟨_, rfl, HO11.out.alloc _, ⟨_, _, hoz.old HB11.out id, owns_only HROW11.out hoz (fun _ _ => id)⟩, ⟨[(askMsg L, .slice none 0 0, .slice j1 L.length j2, .slice none 0 0)], rfl, ⟨rfl, .inr ⟨w10.heap.size, 1, _, rfl, hs10, heap_alloc_new w10 _, Nat.le_refl _, by unfold maxLen; decide, rfl, rfl⟩⟩, fun p hp => ?_⟩⟩
  rw [List.mem_singleton] at hp
  subst hp
  exact (HMSG.out.base hsz9).only hoz (fun _ _ => id)
theorem infoLet : (Tryd.prog.info? 106).map (fun i => (i.zero, i.size, i.bytes)) = some (some (.agg #[.int .i64 0, .int .i64 0, .int .i64 0, .int .i64 0, .int .i64 0, .bool false, .slice none 0 0, .slice none 0 0, .slice none 0 0]), 9, 120) := by kernel_rfl
/-- A letter and where its message's slices lie. -/
abbrev LetP := Int × Int × MsgP
def cellsL (q : LetP) : List Value := .int .i64 q.1 :: .int .i64 q.2.1 :: cellsM q.2.2
theorem cellsL_length (q : LetP) : (cellsL q).length = 9 := rfl
def letT (q : LetP) : LetT := ⟨q.1, q.2.1, q.2.2.1⟩
structure LetRow (w : World) (base : Nat) (v : Value) (ls : List LetT) : Prop where
  out : ∃ P : List LetP, P.map letT = ls ∧ w.ownsRow base 106 9 v P.length (P.flatMap cellsL) ∧ ∀ q ∈ P, MsgOwn w base q.2.2
theorem LetRow.nil (w : World) (base : Nat) : LetRow w base (.slice none 0 0) [] := ⟨[], rfl, World.ownsRow_nil w _ _ _, fun _ h => by cases h⟩
theorem LetRow.only {S : Nat → Prop} {w w' : World} {base : Nat} {v : Value} {ls : List LetT} (h : LetRow w base v ls) (ho : Only S w w') (hn : ∀ k, base ≤ k → ¬ S k) : LetRow w' base v ls := by
  obtain ⟨P, h1, h2, h3⟩ := h.out
  exact ⟨P, h1, owns_only h2 ho hn, fun q hq => (h3 q hq).only ho hn⟩
theorem LetRow.new {w w' : World} {base : Nat} {v : Value} {ls : List LetT} (h : LetRow w base v ls) (ho : Only (fun _ => False) w w') : LetRow w' base v ls := h.only ho (fun _ _ => id)
theorem LetRow.base {w : World} {b c : Nat} {v : Value} {ls : List LetT} (h : LetRow w b v ls) (hc : c ≤ b) : LetRow w c v ls := by
  obtain ⟨P, h1, h2, h3⟩ := h.out
  exact ⟨P, h1, ownsRow_base_a h2 hc, fun q hq => (h3 q hq).base hc⟩
theorem LetRow.form {w : World} {base : Nat} {v : Value} {ls : List LetT} (h : LetRow w base v ls) : ∃ a c, v = .slice a ls.length c := by
  obtain ⟨P, h1, h2, _⟩ := h.out
  obtain ⟨_, a, c, rfl, _⟩ := Sl.of_owns h2
  exact ⟨a, c, by rw [← h1, List.length_map]⟩
theorem MsgOwn.grownL {w w' : World} {base base' : Nat} {p : MsgP} {n : Nat} {v : Value} {xs : List Value} (h : MsgOwn w base p) (hr : w.ownsRow base' 106 9 v n xs) (gr : w.grownBy w' v.ownBlock) : MsgOwn w' base p :=
  ⟨h.n.kept gr (own_type h.n hr (by decide)), h.i.kept gr (own_type h.i hr (by decide)), h.r.kept gr (own_type h.r hr (by decide))⟩
theorem cellsL_one {w : World} {base : Nat} {q : LetP} (h : MsgOwn w base q.2.2) : ∀ u ∈ cellsL q, u.oneCell' = true := by
  intro u hu
  rcases List.mem_cons.1 hu with rfl | hu
  · rfl
  · rcases List.mem_cons.1 hu with rfl | hu
    · rfl
    · exact h.one u hu
/-- Rows of letters, one behind another. -/
theorem letRow_append {w w' : World} {base n : Nat} {v v' : Value} {ls ls' : List LetT} {P Q : List LetP} (hP : P.map letT = ls) (hQ : Q.map letT = ls') (hown : w.ownsRow base 106 9 v P.length (P.flatMap cellsL)) (he : ∀ q ∈ P, MsgOwn w base q.2.2) (he' : ∀ q ∈ Q, MsgOwn w base q.2.2) (own : w'.ownsRow base 106 9 v' n (P.flatMap cellsL ++ Q.flatMap cellsL)) (gr : w.grownBy w' v.ownBlock) : LetRow w' base v' (ls ++ ls') := by
  refine ⟨P ++ Q, by rw [List.map_append, hP, hQ], ?_, fun q hq => ?_⟩
  · rw [List.flatMap_append]
    have h1 := own.1
    have h2 : (P.flatMap cellsL ++ Q.flatMap cellsL).length = (P ++ Q).length * 9 := by rw [List.length_append, fl_length cellsL_length, fl_length cellsL_length, List.length_append, Nat.add_mul]
    have h3 : n = (P ++ Q).length := by omega
    rw [← h3]
    exact own
  · rcases List.mem_append.1 hq with hq | hq
    · exact (he q hq).grownL hown gr
    · exact (he' q hq).grownL hown gr
theorem heldB {w' : World} {b : Nat} {cs : Array Value} {t : TypeId} {C : World → Prop} (hC : ∀ w' : World, w'.heap[b]? = some (.cells cs t (0, 0)) → C w') (h : w'.heap[b]? = some (.cells cs t (0, 0))) : w'.heap[b]? = some (.cells cs t (0, 0)) ∧ C w' := ⟨h, hC _ h⟩
set_option maxRecDepth 100000 in
set_option maxHeartbeats 2000000 in
/-- sent: the letters of a node's messages. -/
theorem sent20_any (w : World) (from' n : Int) (base mb : Nat) (v : Value) (ms : List MsgT) (h : OutRow w base mb v n ms) (hl : ms.length ≤ 1000) (hmb : mb ≤ w.heap.size) :
    Calls Tryd.prog 52 #[.int .i64 from', v] w fun e w' => ∃ v', e = .returned v' ∧ Only (fun _ => False) w w' ∧ LetRow w' mb v' (ms.map (fun m => ⟨from', n, m⟩)) := by
  obtain ⟨i0, hi0, iz0, iz1, iz2⟩ := info_parts infoLet
  obtain ⟨P, hP, hown, heach⟩ := h.out
  obtain ⟨a, cap, rfl, _, h2, h3⟩ := Sl.cells (cellsO_length n) (Sl.of_owns hown)
  unfold maxLen at h2
  have hPl : P.length ≤ 1000 := by rw [← hP, List.length_map] at hl; exact hl
  have HMS := Lib.hid (show ms.map (fun m => (⟨from', n, m⟩ : LetT)) = (P.map (fun p : MsgP => ((from', n, p) : LetP))).map letT by rw [← hP, List.map_map, List.map_map]; rfl)
  have HC := Lib.hid h3
  have HE := Lib.hid heach
  have HOWN := Lib.hid hown
  clear h3 heach hown
  clear h hP hl
  go_enter Tryd.func52, Tryd.ntmps52
  go_wp2_with fail
  go_loopg [5, 6] P.length (fun g v5 v6 wr => ∃ k : Nat, v6 = .int .i64 k ∧ k ≤ P.length ∧ Only (fun _ => False) w wr ∧ wr.ownsRow w.heap.size 106 9 v5 k (((P.take k).map (fun p : MsgP => ((from', n, p) : LetP))).flatMap cellsL) ∧ g = P.length - k)
  case atStart => exact ⟨0, rfl, Nat.zero_le _, Only.refl _ _, World.ownsRow_nil _ _ _ _, rfl⟩
  case round =>
    obtain ⟨k, rfl, hk, ho, hrow, hg⟩ := hrel
    have Hg := Lib.hid hg
    have HO := Lib.hid ho
    have HROW := Lib.hid hrow
    clear hg ho hrow
    by_cases hlt : k < P.length
    · obtain ⟨lb, off, rfl, hc⟩ := HC.out.at k hlt
      have hcr : ∀ j u, (cellsO n P[k])[j]? = some u → wr.cell? ⟨lb, off + k * 8 + j, none⟩ = some u := fun j u hu => HO.out.cell (hc j u hu) id
      have HMO := Lib.hid ((HE.out _ (List.getElem_mem hlt)).only HO.out (fun _ _ => id))
      have HTS := Lib.hid (show ((P.take (k + 1)).map (fun p : MsgP => ((from', n, p) : LetP))).flatMap cellsL = ((P.take k).map (fun p : MsgP => ((from', n, p) : LetP))).flatMap cellsL ++ cellsL (from', n, P[k]) by
        rw [List.take_add_one, List.getElem?_eq_getElem hlt, List.map_append, List.flatMap_append]
        simp)
      generalize ((P.take k).map (fun p : MsgP => ((from', n, p) : LetP))).flatMap cellsL = X at *
      generalize P[k] = p at *
      obtain ⟨mm, un, ui, ur⟩ := p
      have t1 := Sl.of_owns HMO.out.n
      have t2 := Sl.of_owns HMO.out.i
      have t3 := Sl.of_owns HMO.out.r
      simp only at t1 t2 t3
      obtain ⟨u1, u2, rfl, _⟩ := Sl.cells intC_length t1
      obtain ⟨u3, u4, rfl, _⟩ := Sl.cells idT_length t2
      obtain ⟨u5', u6', rfl, _⟩ := Sl.cells recC_length t3
      clear t1 t2 t3
      unfold cellsO cellsM at hcr
      simp only at hcr
      have p0 := hcr 0 _ rfl
      have p1 := hcr 1 _ rfl
      have p2 := hcr 2 _ rfl
      have p3 := hcr 3 _ rfl
      have p4 := hcr 4 _ rfl
      have p5 := hcr 5 _ rfl
      have p6 := hcr 6 _ rfl
      have p7 := hcr 7 _ rfl
      simp only [Nat.add_zero] at p0
      have hlt' : (k : Int) < (P.length : Int) := by omega
      have hk0 : (0 : Int) ≤ (k : Int) := by omega
      obtain ⟨cur, hcur⟩ : ∃ cur, w.heap[lb]? = some (.cells cur 58 (0, 0)) := by
        rcases HOWN.out.2 with ⟨h2, _⟩ | ⟨g, cap', cur, hv, _, hg, _⟩
        · cases h2
        · cases hv; exact ⟨cur, hg⟩
      have hcw := HO.out.old hcur id
      have HCC : ∀ w' : World, w'.heap[lb]? = some (.cells cur 58 (0, 0)) → w'.cell? ⟨lb, off + k * 8, none⟩ = some (.int .i64 n) ∧ w'.cell? ⟨lb, off + k * 8 + 1, none⟩ = some (.int .i64 mm.kind) ∧ w'.cell? ⟨lb, off + k * 8 + 2, none⟩ = some (.int .i64 mm.node) ∧ w'.cell? ⟨lb, off + k * 8 + 3, none⟩ = some (.int .i64 mm.walk) ∧ w'.cell? ⟨lb, off + k * 8 + 4, none⟩ = some (.bool mm.high) ∧ w'.cell? ⟨lb, off + k * 8 + 5, none⟩ = some (.slice u1 mm.nodes.length u2) ∧ w'.cell? ⟨lb, off + k * 8 + 6, none⟩ = some (.slice u3 mm.ids.length u4) ∧ w'.cell? ⟨lb, off + k * 8 + 7, none⟩ = some (.slice u5' mm.recs.length u6') := fun w' h => ⟨(by rw [cell_at h, ← cell_at hcw]; exact p0), (by rw [cell_at h, ← cell_at hcw]; exact p1), (by rw [cell_at h, ← cell_at hcw]; exact p2), (by rw [cell_at h, ← cell_at hcw]; exact p3), (by rw [cell_at h, ← cell_at hcw]; exact p4), (by rw [cell_at h, ← cell_at hcw]; exact p5), (by rw [cell_at h, ← cell_at hcw]; exact p6), (by rw [cell_at h, ← cell_at hcw]; exact p7)⟩
      have hkl : k ≤ 1000 := by omega
      have rra := HROW.out
      have szr := HO.out.size
      have oor := HO.out
      have HON := Lib.hid (cellsL_one (q := (from', n, mm, .slice u1 mm.nodes.length u2, .slice u3 mm.ids.length u4, .slice u5' mm.recs.length u6')) HMO.out)
      have HC0 := Lib.hid HCC
      clear HCC
      clear hc hcr
      go_upto_region 5 with (fail)
      go_region_held3 (fun w' => w'.heap[lb]? = some (.cells cur 58 (0, 0)) ∧ w'.cell? ⟨lb, off + k * 8, none⟩ = some (.int .i64 n) ∧ w'.cell? ⟨lb, off + k * 8 + 1, none⟩ = some (.int .i64 mm.kind) ∧ w'.cell? ⟨lb, off + k * 8 + 2, none⟩ = some (.int .i64 mm.node) ∧ w'.cell? ⟨lb, off + k * 8 + 3, none⟩ = some (.int .i64 mm.walk) ∧ w'.cell? ⟨lb, off + k * 8 + 4, none⟩ = some (.bool mm.high) ∧ w'.cell? ⟨lb, off + k * 8 + 5, none⟩ = some (.slice u1 mm.nodes.length u2) ∧ w'.cell? ⟨lb, off + k * 8 + 6, none⟩ = some (.slice u3 mm.ids.length u4) ∧ w'.cell? ⟨lb, off + k * 8 + 7, none⟩ = some (.slice u5' mm.recs.length u6'))
        ((go_split_ands; (refine heldB HC0.out ?_); first | assumption | (apply Eq.trans; (case h₁ => repeat (first | (with_reducible assumption) | (with_reducible exact heap_alloc_new _ _) | (with_reducible apply blk_new; (repeat (first | (with_reducible rfl) | (with_reducible apply sz_set) | (with_reducible apply sz_alloc) | (with_reducible apply sz_drew))); done) | (with_reducible apply blk_same) | (with_reducible apply blk_ne; case hn => (first | assumption | omega)) | (with_reducible apply blk_old) | (with_reducible apply blk_drew))); (case h₂ => rfl))))
        (first
          | (refine step_append_src rfl (.tmp 13) (.tmp 26) 104 104 rfl w.heap.size 106 i0 _ 9 120 Tryd.underlying104 hi0 iz0 iz1 iz2 rfl u5 k X rfl ?_ _ 1 (cellsL (from', n, mm, .slice u1 mm.nodes.length u2, .slice u3 mm.ids.length u4, .slice u5' mm.recs.length u6')) rfl (Src.ofSlice _ Tryd.underlying104 _ _ _ _ rfl (news_at (e := 106) ?_) HON.out) ?_ ?_ ?_ ?_
             · (repeat (first | (with_reducible assumption) | (with_reducible refine ownsDr ?_) | (with_reducible refine ownsAl ?_ _)))
             · (apply Eq.trans; (case h₁ => repeat (first | (with_reducible assumption) | (with_reducible exact heap_alloc_new _ _) | (with_reducible apply blk_new; (repeat (first | (with_reducible rfl) | (with_reducible apply sz_set) | (with_reducible apply sz_alloc) | (with_reducible apply sz_drew))); done) | (with_reducible apply blk_same) | (with_reducible apply blk_ne; case hn => (first | assumption | omega)) | (with_reducible apply blk_old) | (with_reducible apply blk_drew))); (case h₂ => rfl))
             · unfold maxLen; omega
             · omega
             · first | assumption | (simp; omega)
             intro va wa owna gra hva
             have lba : wa.heap[lb]? = some (.cells cur 58 (0, 0)) := by (refine blkGr (e' := 106) (size := 9) (base := w.heap.size) (n := k) (xs := X) ?_ ?_ (by decide) gra; (· (apply Eq.trans; (case h₁ => repeat (first | (with_reducible assumption) | (with_reducible exact heap_alloc_new _ _) | (with_reducible apply blk_new; (repeat (first | (with_reducible rfl) | (with_reducible apply sz_set) | (with_reducible apply sz_alloc) | (with_reducible apply sz_drew))); done) | (with_reducible apply blk_same) | (with_reducible apply blk_ne; case hn => (first | assumption | omega)) | (with_reducible apply blk_old) | (with_reducible apply blk_drew))); (case h₂ => rfl))); (· (repeat (first | (with_reducible assumption) | (with_reducible refine ownsDr ?_) | (with_reducible refine ownsAl ?_ _)))))
             have ooa : Only (fun _ => False) w wa := by (refine Only.grown ?_ gra (fun j e => .inl (rra.lt j e).1); (repeat (first | (with_reducible assumption) | (with_reducible refine Only.drew ?_) | (with_reducible refine Only.alloc ?_ _))))))
      all_goals
        have OWA := Lib.hid owna
        have OOA := Lib.hid ooa
        clear owna ooa
        clear p0 p1 p2 p3 p4 p5 p6 p7 rra oor szr hcw
        go_wp2_with fail
        go_roundg (P.length - (k + 1))
        case measure => rw [Hg.out]; omega
        case rel => exact ⟨k + 1, by go_num, by omega, OOA.out, by rw [HTS.out]; exact OWA.out, rfl⟩
    · have hlt' : ¬ (k : Int) < (P.length : Int) := by omega
      have hrow2 := HROW.out
      rw [List.take_of_length_le (by omega)] at hrow2
      have hke : k = P.length := by omega
      have HF := Lib.hid (show LetRow wr mb u5 (ms.map (fun m => ⟨from', n, m⟩)) from ⟨P.map (fun p : MsgP => ((from', n, p) : LetP)), HMS.out.symm, by rw [List.length_map, ← hke]; exact ownsRow_base_a hrow2 hmb, fun q hq => by
        obtain ⟨p, hp, rfl⟩ := List.mem_map.1 hq
        exact (HE.out p hp).only HO.out (fun _ _ => id)⟩)
      clear hrow2 hke
      go_wp2_with fail
      go_ret
      exact ⟨_, rfl, HO.out, HF.out⟩
end Go.Proofs.YtjdlcfllmpdffaaDoor
/-! SeedsRepair: five nodes, each with its store and its seeds. -/
namespace Go.Proofs.YtjdlcfllmpdffaaDoor
open Go.Conc Go.RowKit Go.Maps

/-- Where the nodes lie. -/
structure Lay where
  S : Nat → Nat
  B : Nat → Nat
  X : Nat → Nat
  lo : Nat → Nat
  SA : Nat
  XA : Nat
structure LayOk (a : Lay) : Prop where
  at_ : ∀ i, i < 5 → a.lo i ≤ a.S i ∧ a.S i < a.lo (i + 1) ∧ a.lo i ≤ a.B i ∧ a.B i < a.lo (i + 1) ∧ a.lo i ≤ a.X i ∧ a.X i < a.lo (i + 1) ∧ a.X i ≠ a.S i ∧ a.X i ≠ a.B i
  arr : a.SA < a.lo 0 ∧ a.XA < a.lo 0 ∧ 0 < a.lo 0
theorem LayOk.mono {a : Lay} (h : LayOk a) {i : Nat} : ∀ j, i + j ≤ 5 → a.lo i ≤ a.lo (i + j)
  | 0, _ => Nat.le_refl _
  | j + 1, hj => by
    have h1 := h.mono (i := i) j (by omega)
    have h2 := h.at_ (i + j) (by omega)
    rw [show i + j + 1 = i + (j + 1) by omega] at h2
    omega
theorem LayOk.lt {a : Lay} (h : LayOk a) {i j : Nat} (hij : i < j) (hj : j < 5) : a.lo (i + 1) ≤ a.lo j := by
  have := h.mono (i := i + 1) (j - (i + 1)) (by omega)
  rwa [show i + 1 + (j - (i + 1)) = j by omega] at this
theorem LayOk.zero {a : Lay} (h : LayOk a) {i : Nat} (hi : i ≤ 5) : a.lo 0 ≤ a.lo i := by
  have := h.mono (i := 0) i (by omega)
  rwa [Nat.zero_add] at this
theorem LayOk.top {a : Lay} (h : LayOk a) {i : Nat} (hi : i < 5) : a.lo (i + 1) ≤ a.lo 5 := by
  have := h.mono (i := i + 1) (5 - (i + 1)) (by omega)
  rwa [show i + 1 + (5 - (i + 1)) = 5 by omega] at this
theorem LayOk.apart {a : Lay} (h : LayOk a) {i j : Nat} (hi : i < 5) (hj : j < 5) (hij : i ≠ j) : a.S i ≠ a.S j ∧ a.S i ≠ a.B j ∧ a.S i ≠ a.X j ∧ a.B i ≠ a.S j ∧ a.B i ≠ a.B j ∧ a.B i ≠ a.X j ∧ a.X i ≠ a.S j ∧ a.X i ≠ a.B j ∧ a.X i ≠ a.X j := by
  have h1 := h.at_ i hi
  have h2 := h.at_ j hj
  rcases (show i < j ∨ j < i by omega) with e | e
  · have h3 := h.lt e hj
    omega
  · have h3 := h.lt e hi
    omega
theorem LayOk.out {a : Lay} (h : LayOk a) {i : Nat} (hi : i < 5) : (a.SA ≠ a.S i ∧ a.SA ≠ a.B i ∧ a.SA ≠ a.X i) ∧ (a.XA ≠ a.S i ∧ a.XA ≠ a.B i ∧ a.XA ≠ a.X i) ∧ (0 ≠ a.S i ∧ 0 ≠ a.B i ∧ 0 ≠ a.X i) := by
  have h1 := h.at_ i hi
  have h2 := h.arr
  have h3 := h.zero (i := i) (by omega)
  omega
theorem LayOk.below {a : Lay} (h : LayOk a) {i : Nat} (hi : i < 5) : a.S i < a.lo 5 ∧ a.B i < a.lo 5 ∧ a.X i < a.lo 5 := by
  have h1 := h.at_ i hi
  have h2 := h.top hi
  omega
def oth (i : Nat) : List Int := othersL ((i : Int) + 1) [1, 2, 3]
def updI (f : Nat → Int) (i : Nat) (x : Int) : Nat → Int := fun j => if j = i then x else f j
/-- The nodes: their stores, and the seeds of those that are there. -/
structure NetAt (w : World) (a : Lay) (up : Nat → Bool) (per : Int) (tk nx rr : Nat → Int) (st : StT) : Prop where
  arrS : ∀ i, i < 5 → w.cell? ⟨a.SA, i, none⟩ = some (.pointer (some ⟨a.S i, 0, none⟩))
  arrX : ∀ i, i < 5 → w.cell? ⟨a.XA, i, none⟩ = some (.pointer (some ⟨a.X i, 0, none⟩))
  sto : ∀ i, i < 5 → StoreAt w (a.S i) (a.B i) 48 1000 (rr i) (st i)
  sds : ∀ i, i < 5 → up i = true → SeedsAt w (a.X i) per (tk i) (nx i) (oth i) (a.S i)
section
variable {w w' : World} {a : Lay} {up : Nat → Bool} {per : Int} {tk nx rr : Nat → Int} {st : StT}
theorem NetAt.new (h : NetAt w a up per tk nx rr st) (ho : Only (fun _ => False) w w') : NetAt w' a up per tk nx rr st :=
  ⟨fun i hi => ho.cell (h.arrS i hi) id, fun i hi => ho.cell (h.arrX i hi) id, fun i hi => (h.sto i hi).new ho, fun i hi hu => (h.sds i hi hu).new ho⟩
theorem SeedsAt.kept2 {x : Nat} {every tick next : Int} {l : List Int} {s S B : Nat} {most ttl r : Int} {L : List RecT} (h : SeedsAt w x every tick next l s) (hs : StoreAt w S B most ttl r L) (ho : Only (fun j => j = S ∨ j = B) w w') (hx : x ≠ S ∧ x ≠ B) : SeedsAt w' x every tick next l s := by
  obtain ⟨v, base, h1, h2⟩ := h.out
  refine ⟨v, base, ho.old h1 (fun e => e.elim hx.1 hx.2), ?_⟩
  refine owns_kept h2 ho (fun k hk e => ?_)
  rcases h2.2 with ⟨h3, _⟩ | ⟨g, cap, cur, rfl, _, hg, _⟩
  · rw [h3] at hk; cases hk
  · have hgk : g = k := by simpa [Value.ownBlock] using hk
    subst hgk
    rcases e with rfl | rfl
    · have := hs.blk
      rw [hg] at this
      simp at this
    · obtain ⟨es, c, hbb, _⟩ := hs.map.own
      rw [hbb] at hg
      cases hg
theorem SeedsAt.kept1 {x y : Nat} {every tick next : Int} {l : List Int} {s : Nat} {every' tick' next' : Int} {l' : List Int} {s' : Nat} (h : SeedsAt w x every tick next l s) (hy : SeedsAt w y every' tick' next' l' s') (ho : Only (fun j => j = y) w w') (hxy : x ≠ y) : SeedsAt w' x every tick next l s := by
  obtain ⟨v, base, h1, h2⟩ := h.out
  obtain ⟨v', base', h1', _⟩ := hy.out
  exact ⟨v, base, ho.old h1 hxy, owns_ty h2 h1' (by decide) ho⟩
/-- A node's store has changed. -/
theorem NetAt.put (h : NetAt w a up per tk nx rr st) (ha : LayOk a) {i : Nat} (hi : i < 5) (ho : Only (fun j => j = a.S i ∨ j = a.B i) w w') {r : Int} {L : List RecT} (hs : StoreAt w' (a.S i) (a.B i) 48 1000 r L) : NetAt w' a up per tk nx (updI rr i r) (updQ st i L) := by
  have hout := ha.out hi
  refine ⟨fun j hj => ho.cell (h.arrS j hj) (fun e => e.elim hout.1.1 hout.1.2.1), fun j hj => ho.cell (h.arrX j hj) (fun e => e.elim hout.2.1.1 hout.2.1.2.1), fun j hj => ?_, fun j hj hu => ?_⟩
  · unfold updI updQ
    by_cases e : j = i
    · subst e
      rw [if_pos rfl, if_pos rfl]
      exact hs
    · rw [if_neg e, if_neg e]
      have hap := ha.apart hj hi e
      exact (h.sto j hj).kept ho (fun e => e.elim hap.1 hap.2.1) (fun e => e.elim hap.2.2.2.1 hap.2.2.2.2.1)
  · refine (h.sds j hj hu).kept2 (h.sto i hi) ho ?_
    by_cases e : j = i
    · subst e
      have := ha.at_ j hj
      exact ⟨this.2.2.2.2.2.2.1, this.2.2.2.2.2.2.2⟩
    · have hap := ha.apart hj hi e
      exact ⟨hap.2.2.2.2.2.2.1, hap.2.2.2.2.2.2.2.1⟩
/-- A node's seeds have ticked. -/
theorem NetAt.ticked (h : NetAt w a up per tk nx rr st) (ha : LayOk a) {i : Nat} (hi : i < 5) (hu : up i = true) (ho : Only (fun j => j = a.X i) w w') {t n : Int} (hs : SeedsAt w' (a.X i) per t n (oth i) (a.S i)) : NetAt w' a up per (updI tk i t) (updI nx i n) rr st := by
  have hout := ha.out hi
  refine ⟨fun j hj => ho.cell (h.arrS j hj) hout.1.2.2, fun j hj => ho.cell (h.arrX j hj) hout.2.1.2.2, fun j hj => ?_, fun j hj hv => ?_⟩
  · by_cases e : j = i
    · subst e
      have h1 := ha.at_ j hj
      exact (h.sto j hj).kept ho (fun e => h1.2.2.2.2.2.2.1 e.symm) (fun e => h1.2.2.2.2.2.2.2 e.symm)
    · have hap := ha.apart hj hi e
      exact (h.sto j hj).kept ho hap.2.2.1 hap.2.2.2.2.2.1
  · unfold updI
    by_cases e : j = i
    · subst e
      rw [if_pos rfl, if_pos rfl]
      exact hs
    · rw [if_neg e, if_neg e]
      have hap := ha.apart hj hi e
      exact (h.sds j hj hv).kept1 (h.sds i hi hu) ho hap.2.2.2.2.2.2.2.2
end
theorem oth_ok : ∀ i, i < 5 → 2 ≤ (oth i).length ∧ (oth i).length ≤ 3 := by decide
/-- A node takes a letter. -/
theorem net_take {w : World} {a : Lay} {up : Nat → Bool} {per : Int} {tk nx rr : Nat → Int} {st : StT} (h : NetAt w a up per tk nx rr st) (ha : LayOk a) {i : Nat} (hi : i < 5) (hu : up i = true) (m0 : Int) (hm : w.cell? ⟨0, 0, none⟩ = some (.int .i64 m0)) (n : Int) (mb : Nat) (hmb : a.lo 5 ≤ mb) (p : MsgP) (hp : MsgOwn w mb p) (t : Int) (hv : LetV ⟨n, t, p.1⟩) (hr0 : 0 ≤ rr i) (hr : rr i < 100000) :
    Calls Tryd.prog 51 #[.pointer (some ⟨a.X i, 0, none⟩), .int .i64 n, .agg (cellsM p).toArray] w fun e w' => ∃ v v2, e = .returned (.tuple #[v, v2]) ∧ Only (fun j => j = a.S i ∨ j = a.B i) w w' ∧ OutsNew w w' v n (outQ p.1 (st i)) ∧ ∃ r, rr i ≤ r ∧ r ≤ rr i + 16 ∧ NetAt w' a up per tk nx (updI rr i r) (updQ st i (stoQ p.1 (st i))) := by
  have hs := h.sto i hi
  have hx := h.sds i hi hu
  have hat := ha.at_ i hi
  have hbel := ha.below hi
  have hout := ha.out hi
  have same : ∀ {w' : World}, Only (fun _ => False) w w' → ∀ L, L = st i → ∃ r, rr i ≤ r ∧ r ≤ rr i + 16 ∧ NetAt w' a up per tk nx (updI rr i r) (updQ st i L) := fun {w'} ho L hL => by
    refine ⟨rr i, by omega, by omega, ?_⟩
    rw [hL]
    exact h.put ha hi (ho.weaken (fun _ _ => False.elim)) (hs.new ho)
  by_cases h13 : p.1.kind = 13
  · have e1 : outQ p.1 (st i) = answerM 1000 (st i) p.1.ids := if_pos h13
    have e2 : stoQ p.1 (st i) = st i := if_neg (by rw [h13]; decide)
    have hml : (answerM 1000 (st i) p.1.ids).length ≤ 1000000 := by
      have h1 := sentL_length 1000 (newerL (st i) p.1.ids)
      have h2 : (newerL (st i) p.1.ids).length ≤ (st i).length := List.length_filter_le _ _
      have h3 := hs.ok.len
      have h4 := pk_len 14 (sentL 1000 (newerL (st i) p.1.ids)) (by omega)
      unfold answerM
      rw [List.length_append]
      have : (wantM (wantedL (st i) p.1.ids)).length ≤ 1 := by unfold wantM; split <;> simp
      omega
    refine (stake_digest w (a.X i) per (tk i) (nx i) (oth i) (a.S i) (a.B i) 48 1000 (rr i) (st i) hx hs n _ p.1 hp.is h13 (by have := hv.ids; simp only at this; omega) hv.idk hml).mono ?_
    rintro e w' ⟨v, rfl, ho, hout'⟩
    exact ⟨v, _, rfl, ho.weaken (fun _ _ => False.elim), by rw [e1]; exact hout', by rw [e2]; exact same ho _ rfl⟩
  · by_cases h14 : p.1.kind = 14
    · have e1 : outQ p.1 (st i) = packM 14 (sentL 1000 (giveL (takeS 48 1000 (st i) p.1.recs) p.1.ids)) := by unfold outQ; rw [if_neg h13, if_pos h14]
      have e2 : stoQ p.1 (st i) = takeS 48 1000 (st i) p.1.recs := if_pos h14
      have hok := takes_ok p.1.recs hs.ok
      have hml : (packM 14 (sentL 1000 (giveL (takeS 48 1000 (st i) p.1.recs) p.1.ids))).length ≤ 1000000 := by
        have h1 := sentL_length 1000 (giveL (takeS 48 1000 (st i) p.1.recs) p.1.ids)
        have h2 := (give_mem (takeS 48 1000 (st i) p.1.recs) p.1.ids []).1
        have h3 := hv.ids
        simp only at h3
        have h4 : (giveL (takeS 48 1000 (st i) p.1.recs) p.1.ids).length ≤ p.1.ids.length := h2
        have h5 := pk_len 14 (sentL 1000 (giveL (takeS 48 1000 (st i) p.1.recs) p.1.ids)) (by omega)
        omega
      refine (stake_delta w (a.X i) per (tk i) (nx i) (oth i) (a.S i) (a.B i) 48 1000 (rr i) (st i) hx hs ⟨hat.2.2.2.2.2.2.1, hat.2.2.2.2.2.2.2⟩ m0 hm ⟨fun e => hout.2.2.1 e.symm, fun e => hout.2.2.2.1 e.symm⟩ n _ p.1 hp.is h14 (fun vn vi vr he => ?_) (by have := hv.ids; simp only at this; omega) hv.idk (by have := hv.recs; simp only at this; omega) hv.reck hr0 (by omega) (fun x hx => by have := hok.ages x hx; omega) hml).mono ?_
      · obtain ⟨mm, un, ui, ur⟩ := p
        unfold cellsM at he
        simp only [Value.agg.injEq, List.toArray_eq_toArray_eq, List.cons.injEq, and_true] at he
        obtain ⟨_, _, _, _, rfl, rfl, rfl⟩ := he
        refine ⟨RecBlk.of_row hp.r, fun w' ho => ?_⟩
        exact Sl.of_owns (owns_only hp.i ho (fun k hk e => by have e : k = a.S i ∨ k = a.B i := e; omega))
      · rintro e w' ⟨v, v2, rfl, ho, hout', _, r', hr1, hr2, hst⟩
        have := hv.recs
        simp only at this
        exact ⟨v, v2, rfl, ho, by rw [e1]; exact hout', r', hr1, by omega, by rw [e2]; exact h.put ha hi ho hst⟩
    · have e1 : outQ p.1 (st i) = [] := by unfold outQ; rw [if_neg h13, if_neg h14]
      have e2 : stoQ p.1 (st i) = st i := if_neg h14
      refine (stake_other w (a.X i) n _ p.1 hp.is h13 h14).mono ?_
      rintro e w' ⟨rfl, ho⟩
      exact ⟨_, _, rfl, ho.weaken (fun _ _ => False.elim), by rw [e1]; exact ⟨w.heap.size, w.heap.size, Nat.le_refl _, Nat.le_refl _, [], rfl, World.ownsRow_nil _ _ _ _, fun _ h => by cases h⟩, by rw [e2]; exact same ho _ rfl⟩
end Go.Proofs.YtjdlcfllmpdffaaDoor
/-! SeedsRepair: what is put first; whom a node asks when; a node's tick. -/
namespace Go.Proofs.YtjdlcfllmpdffaaDoor
open Go.Conc Go.RowKit Go.Maps

theorem key20 : ∀ o, o < 5 → 1 ≤ o → ∀ z, z < 4 → splitE (keyB (o : Nat) (bytesOf [97 + ((z : Nat) : Int)])) = 0 ∧ splitN (keyB (o : Nat) (bytesOf [97 + ((z : Nat) : Int)])) = (o : Nat) := by decide
def keys20 : List ByteArray := [1, 2, 3, 4].flatMap fun o => [0, 1, 2, 3].map fun z => keyB ((o : Nat) : Int) (bytesOf [97 + ((z : Nat) : Int)])
theorem keys20_len : keys20.length < 48 := by decide
/-- The record of a Put: its Count names the origin. -/
def recN (a : RecB) : RecT := rec20 (1 + ((a.cnt % 4 : Nat) : Int)) a.nm a.cnt
theorem recN_good (a : RecB) : goodR (recN a) = true ∧ (recN a).key ∈ keys20 ∧ (recN a).age ≤ 0 := by
  have hz : a.nm % 4 < 4 := Nat.mod_lt _ (by omega)
  have ho : a.cnt % 4 < 4 := Nat.mod_lt _ (by omega)
  have ek : (recN a).key = keyB ((1 + a.cnt % 4 : Nat) : Int) (bytesOf [97 + ((a.nm % 4 : Nat) : Int)]) := by
    show keyB (1 + ((a.cnt % 4 : Nat) : Int)) _ = _
    congr 1
  obtain ⟨h1, h2⟩ := key20 (1 + a.cnt % 4) (by omega) (by omega) (a.nm % 4) hz
  rw [← ek] at h1 h2
  refine ⟨?_, ?_, Int.le_refl _⟩
  · unfold goodR goodP
    rw [h1, h2]
    have hv : (recN a).ver = 4294967296 + a.cnt := rfl
    have ho' : (recN a).o = 1 + ((a.cnt % 4 : Nat) : Int) := rfl
    rw [hv, ho', decide_eq_true (show 0 < (4294967296 + a.cnt) / 2 ^ 32 by omega), decide_eq_true (show (0 : Int) ≤ (recN a).age from Int.le_refl _), decide_eq_true (show (recN a).age ≤ 65535 by show (0 : Int) ≤ 65535; omega), decide_eq_true (show (recN a).data.size = (if (recN a).gone = true then 0 else 10) from rfl)]
    simp
  · rw [ek]
    unfold keys20
    refine List.mem_flatMap.2 ⟨1 + a.cnt % 4, ?_, List.mem_map.2 ⟨a.nm % 4, ?_, rfl⟩⟩
    · rcases (by omega : a.cnt % 4 = 0 ∨ a.cnt % 4 = 1 ∨ a.cnt % 4 = 2 ∨ a.cnt % 4 = 3) with e | e | e | e <;> rw [e] <;> decide
    · rcases (by omega : a.nm % 4 = 0 ∨ a.nm % 4 = 1 ∨ a.nm % 4 = 2 ∨ a.nm % 4 = 3) with e | e | e | e <;> rw [e] <;> decide
theorem recN_ver (a : RecB) (h : a.cnt < 256) : (recN a).ver < 2 ^ 64 := by show 4294967296 + a.cnt < 2 ^ 64; omega
theorem recN_key (a : RecB) : (recN a).key.size ≤ 1000000 := by
  show (keyB _ _).size ≤ _
  rw [keyB_size]
  show (bytesOf [97 + ((a.nm % 4 : Nat) : Int)]).size + 2 ≤ 1000000
  have : (bytesOf [97 + ((a.nm % 4 : Nat) : Int)]).size = 1 := rfl
  omega
def st0 : StT := fun _ => []
def putN (st : StT) (a : RecB) : StT := updQ st (a.org % 5) (putS 48 1000 (st (a.org % 5)) (recN a))
def putsN (l : List RecB) : StT := l.foldl putN st0
theorem putsN_snoc (l : List RecB) (k : Nat) (hk : k < l.length) : putsN (l.take (k + 1)) = putN (putsN (l.take k)) l[k] := by
  unfold putsN
  rw [List.take_add_one, List.getElem?_eq_getElem hk, Option.toList_some, List.foldl_append]
  rfl
theorem putN_ok {st : StT} {a : RecB} (hc : a.cnt < 256) (h : GoodQ keys20 0 st ∧ StV st) : GoodQ keys20 0 (putN st a) ∧ StV (putN st a) := by
  have hg := recN_good a
  have hok := (h.1.ok (a.org % 5)).put (recN a)
  have hall := (h.1.all (a.org % 5)).put (h.1.ok _) hg
  have hmem := fun y (hy : y ∈ putS 48 1000 (st (a.org % 5)) (recN a)) => mem_put (h.1.ok (a.org % 5)) hy
  refine ⟨⟨fun i => ?_, fun i => ?_, fun i => ?_⟩, fun i => ?_⟩ <;> unfold putN updQ <;> split
  · exact hok
  · exact h.1.ok i
  · exact hall
  · exact h.1.all i
  · intro x hx
    rcases hmem x hx with hx | rfl
    · exact h.1.age _ x hx
    · exact Int.le_refl _
  · exact h.1.age i
  · refine ⟨hok, fun x hx => ?_⟩
    rcases hmem x hx with hx | rfl
    · exact (h.2 _).2 x hx
    · exact ⟨recN_ver a hc, recN_key a⟩
  · exact h.2 i
theorem st0_ok : GoodQ keys20 0 st0 ∧ StV st0 := by
  have h : StoreOk 48 1000 [] := StoreOk.empty (by omega) (by omega) (by omega) (by omega)
  exact ⟨⟨fun _ => h, fun _ _ hx => (by cases hx), fun _ _ hx => (by cases hx)⟩, fun _ => ⟨h, fun _ hx => (by cases hx)⟩⟩
theorem putsN_ok : ∀ (l : List RecB) (st : StT), (∀ a ∈ l, a.cnt < 256) → GoodQ keys20 0 st ∧ StV st → GoodQ keys20 0 (l.foldl putN st) ∧ StV (l.foldl putN st)
  | [], _, _, h => h
  | a :: l, st, hl, h => putsN_ok l _ (fun b hb => hl b (by simp [hb])) (putN_ok (hl a (by simp)) h)
/-- Whom node i asks in round t (0: nobody). -/
def askN (per t i : Nat) : Nat := if (t + 1) % per = 0 then ((oth i).getD ((t / per) % (oth i).length) 0).toNat else 0
def askOk (per R M : Nat) : Bool := (List.range 5).all fun i => i == 1 || (List.range M).any fun b => askN per b i == 2 && decide (b + 3 ≤ R) && (List.range 5).all fun j => j == 1 || (List.range M).any fun c => askN per c j == 2 && decide (c + 4 ≤ b + 1)
theorem ask1 : askOk 1 12 9 = true := by decide
theorem ask2 : askOk 2 18 15 = true := by decide
theorem askOk.out {per R M : Nat} (h : askOk per R M = true) : ∀ i, i < 5 → i ≠ 1 → ∃ a b, askN per a i = 2 ∧ askN per b i = 2 ∧ b + 3 ≤ R ∧ ∀ j, j < 5 → j ≠ 1 → ∃ c, askN per c j = 2 ∧ c + 4 ≤ b + 1 := by
  intro i hi hn
  have h1 := List.all_eq_true.1 h i (List.mem_range.2 hi)
  rw [Bool.or_eq_true] at h1
  rcases h1 with h1 | h1
  · exact absurd (by simpa using h1) hn
  · obtain ⟨b, _, hb⟩ := List.any_eq_true.1 h1
    rw [Bool.and_eq_true, Bool.and_eq_true] at hb
    have hb1 : askN per b i = 2 := by simpa using hb.1.1
    refine ⟨b, b, hb1, hb1, by simpa using hb.1.2, fun j hj hjn => ?_⟩
    have h2 := List.all_eq_true.1 hb.2 j (List.mem_range.2 hj)
    rw [Bool.or_eq_true] at h2
    rcases h2 with h2 | h2
    · exact absurd (by simpa using h2) hjn
    · obtain ⟨c, _, hc⟩ := List.any_eq_true.1 h2
      rw [Bool.and_eq_true] at hc
      exact ⟨c, by simpa using hc.1, by simpa using hc.2⟩
theorem hask20 {per : Nat} (hper : per = 1 ∨ per = 2) : ∀ i, i < 5 → i ≠ 1 → ∃ a b, askN per a i = 2 ∧ askN per b i = 2 ∧ b + 3 ≤ 6 * per + 6 ∧ ∀ j, j < 5 → j ≠ 1 → ∃ c, askN per c j = 2 ∧ c + 4 ≤ b + 1 := by
  rcases hper with rfl | rfl
  · exact askOk.out ask1
  · exact askOk.out ask2
theorem oth_pos : ∀ i, i < 5 → ∀ x ∈ oth i, (1 : Int) ≤ x := by decide
/-- A node's tick. -/
theorem net_tick {w : World} {a : Lay} {up : Nat → Bool} {per : Nat} (hper : per = 1 ∨ per = 2) {tk nx rr : Nat → Int} {st : StT} (h : NetAt w a up per tk nx rr st) (ha : LayOk a) {i : Nat} (hi : i < 5) (hu : up i = true) (t : Nat) (htk : tk i = sdT per t) (hnx : nx i = sdN per (oth i).length t) :
    Calls Tryd.prog 21 #[.pointer (some ⟨a.X i, 0, none⟩)] w fun e w' => ∃ v' n ms, e = .returned v' ∧ Only (fun j => j = a.X i) w w' ∧ NetAt w' a up per (updI tk i (sdT per (t + 1))) (updI nx i (sdN per (oth i).length (t + 1))) rr st ∧ OutRow w' w.heap.size w.heap.size v' n ms ∧ ms.length ≤ 1 ∧ ms.map (fun m => (⟨((i + 1 : Nat) : Int), n, m⟩ : LetT)) = askQ (askN per) up t st i := by
  have hs := h.sto i hi
  have hx := h.sds i hi hu
  have hat := ha.at_ i hi
  have hol := oth_ok i hi
  have hp1 : (1 : Int) ≤ (per : Int) := by omega
  have hp0 : (per : Int) ≠ 0 := by omega
  have hr := sdT_range (every := (per : Int)) hp1 t
  have hT := sdT_succ (every := (per : Int)) hp1 t
  have hI := sdT_is (every := (per : Int)) hp1 t
  rw [htk, hnx] at hx
  by_cases hn : ((t : Int) + 1) % (per : Int) = 0
  · obtain ⟨j, hj, hjn⟩ := sdN_nat (every := (per : Int)) (oth i).length t (by omega)
    refine (sdtick_own w (a.X i) per _ _ (oth i) (a.S i) (a.B i) 48 1000 (rr i) (st i) hx hs hat.2.2.2.2.2.2.1 hp1 (by omega) hr.1 hr.2 (by rw [hT, hI]; exact hn) j hj hjn (by omega)).mono ?_
    rintro e w' ⟨v', rfl, ho, hsd, hrow⟩
    refine ⟨v', _, _, rfl, ho, ?_, hrow, Nat.le_refl _, ?_⟩
    · rw [← hI] at hn
      rw [← sdN_yes hp1 _ t (by rw [← hI]; exact hn) (by omega)] at hsd
      rw [hn]
      exact h.ticked ha hi hu ho hsd
    · have e1 : (t + 1) % per = 0 := by
        have : (((t + 1) % per : Nat) : Int) = 0 := by rw [Int.natCast_emod]; exact hn
        omega
      have e2 : (t / per) % (oth i).length = j := by
        have h1 : sdN (per : Int) (oth i).length t = ((t : Int) / per) % ((oth i).length : Int) := by
          unfold sdN
          rw [if_neg (by omega)]
        have h2 : (((t / per) % (oth i).length : Nat) : Int) = (j : Nat) := by
          rw [Int.natCast_emod, Int.natCast_ediv, ← h1, hjn]
        omega
      have e3 : askN per t i = ((oth i)[j]).toNat := by
        unfold askN
        rw [if_pos e1, e2, List.getD_eq_getElem?_getD, List.getElem?_eq_getElem hj]
        rfl
      have e4 := oth_pos i hi _ (List.getElem_mem hj)
      unfold askQ
      rw [e3, hu]
      rw [if_pos (by simp; omega)]
      show [_] = [_]
      rw [show (((oth i)[j]).toNat : Int) = (oth i)[j] by omega]
      rfl
  · refine (sdtick_no w (a.X i) per _ _ (oth i) (a.S i) hx hp1 (by omega) hr.1 hr.2 (.inl (by rw [hT, hI]; exact hn))).mono ?_
    rintro e w' ⟨rfl, ho, hsd⟩
    refine ⟨_, 0, [], rfl, ho, ?_, ⟨[], rfl, World.ownsRow_nil _ _ _ _, fun _ h => by cases h⟩, Nat.zero_le _, ?_⟩
    · rw [hT, ← sdN_no hp1 _ t (.inl hn)] at hsd
      exact h.ticked ha hi hu ho hsd
    · have e1 : ¬ (t + 1) % per = 0 := fun e => hn (by
        have : (((t + 1) % per : Nat) : Int) = 0 := by rw [e]; rfl
        rw [Int.natCast_emod] at this
        exact this)
      unfold askQ askN
      rw [if_neg e1]
      simp
end Go.Proofs.YtjdlcfllmpdffaaDoor
/-! SeedsRepair: the nodes are made. -/
namespace Go.Proofs.YtjdlcfllmpdffaaDoor
open Go.Conc Go.RowKit Go.Maps

/-- So many nodes are made. -/
structure MadeTo (w : World) (SA XA : Nat) (per : Int) (k : Nat) (S B X lo : Nat → Nat) : Prop where
  cs : ∃ cs, w.heap[SA]? = some (.cells cs 100 (0, 0)) ∧ cs.size = 5 ∧ ∀ i, i < k → cs[i]? = some (.pointer (some ⟨S i, 0, none⟩))
  xs : ∃ cs, w.heap[XA]? = some (.cells cs 101 (0, 0)) ∧ cs.size = 5 ∧ ∀ i, i < k → cs[i]? = some (.pointer (some ⟨X i, 0, none⟩))
  at_ : ∀ i, i < k → lo i ≤ S i ∧ S i < lo (i + 1) ∧ lo i ≤ B i ∧ B i < lo (i + 1) ∧ lo i ≤ X i ∧ X i < lo (i + 1) ∧ X i ≠ S i ∧ X i ≠ B i
  low : SA < lo 0 ∧ XA < lo 0 ∧ 0 < lo 0 ∧ ∀ i, i < k → lo i ≤ lo (i + 1)
  top : lo k ≤ w.heap.size
  sto : ∀ i, i < k → StoreAt w (S i) (B i) 48 1000 0 []
  sds : ∀ i, i < k → SeedsAt w (X i) per 0 0 (oth i) (S i)
theorem MadeTo.new {w w' : World} {SA XA : Nat} {per : Int} {k : Nat} {S B X lo : Nat → Nat} (h : MadeTo w SA XA per k S B X lo) (ho : Only (fun _ => False) w w') : MadeTo w' SA XA per k S B X lo := by
  obtain ⟨cs, h1, h2, h3⟩ := h.cs
  obtain ⟨cs', k1, k2, k3⟩ := h.xs
  have := ho.size
  exact ⟨⟨cs, ho.old h1 id, h2, h3⟩, ⟨cs', ho.old k1 id, k2, k3⟩, h.at_, h.low, by have := h.top; omega, fun i hi => (h.sto i hi).new ho, fun i hi => (h.sds i hi).new ho⟩
theorem MadeTo.lo0 {w : World} {SA XA : Nat} {per : Int} {k : Nat} {S B X lo : Nat → Nat} (h : MadeTo w SA XA per k S B X lo) : ∀ i, i ≤ k → lo 0 ≤ lo i
  | 0, _ => Nat.le_refl _
  | i + 1, hi => Nat.le_trans (h.lo0 i (by omega)) (h.low.2.2.2 i (by omega))
theorem MadeTo.start {w : World} {SA XA : Nat} {per : Int} {cs xs : Array Value} (h1 : w.heap[SA]? = some (.cells cs 100 (0, 0))) (h2 : cs.size = 5) (k1 : w.heap[XA]? = some (.cells xs 101 (0, 0))) (k2 : xs.size = 5) : MadeTo w SA XA per 0 (fun _ => 0) (fun _ => 0) (fun _ => 0) (fun _ => w.heap.size) :=
  ⟨⟨cs, h1, h2, fun i hi => by omega⟩, ⟨xs, k1, k2, fun i hi => by omega⟩, fun i hi => by omega, ⟨lt_of_block h1, lt_of_block k1, by have := lt_of_block h1; omega, fun i hi => by omega⟩, Nat.le_refl _, fun i hi => by omega, fun i hi => by omega⟩
theorem SeedsAt.set {w : World} {y p : Nat} {every tick next : Int} {l : List Int} {s : Nat} {cs : Array Value} {T : TypeId} {f : Nat × Nat} (h : SeedsAt w y every tick next l s) (hp : w.heap[p]? = some (.cells cs T f)) (hT : T ≠ 3) (hy : y ≠ p) (i : Nat) (u : Value) : SeedsAt (w.setCell ⟨p, i, none⟩ u) y every tick next l s := by
  obtain ⟨v, base, h1, h2⟩ := h.out
  have ho : Only (fun j => j = p) w (w.setCell ⟨p, i, none⟩ u) := (Only.refl _ _).setCell (S := fun j => j = p) (p := ⟨p, i, none⟩) (.inr rfl) _
  exact ⟨v, base, ho.old h1 hy, owns_ty h2 hp hT ho⟩
/-- One more. -/
theorem MadeTo.step {w w3 w4 : World} {SA XA : Nat} {per : Int} {k : Nat} {S B X lo : Nat → Nat} (h : MadeTo w SA XA per k S B X lo) (hk : k < 5) (ho : Only (fun _ => False) w w3) {s b x : Nat} (hs : StoreAt w3 s b 48 1000 0 []) (hx : SeedsAt w3 x per 0 0 (oth k) s) (hs0 : w.heap.size ≤ s ∧ w.heap.size ≤ b ∧ s < x ∧ b < x) (h4 : w4 = (w3.setCell ⟨SA, k, none⟩ (.pointer (some ⟨s, 0, none⟩))).setCell ⟨XA, k, none⟩ (.pointer (some ⟨x, 0, none⟩))) (hne : SA ≠ XA) :
    ∃ S' B' X' lo', MadeTo w4 SA XA per (k + 1) S' B' X' lo' ∧ w3.heap.size = w4.heap.size ∧ Only (fun j => j = SA ∨ j = XA) w3 w4 := by
  have h' := h.new ho
  obtain ⟨cs, h1, h2, h3⟩ := h'.cs
  obtain ⟨xs, k1, k2, k3⟩ := h'.xs
  have hsz : w3.heap.size = w4.heap.size := by rw [h4]; simp
  have ho4 : Only (fun j => j = SA ∨ j = XA) w3 w4 := by
    rw [h4]
    exact ((Only.refl _ _).setCell (S := fun j => j = SA ∨ j = XA) (p := ⟨SA, k, none⟩) (.inr (.inl rfl)) _).setCell (p := ⟨XA, k, none⟩) (.inr (.inr rfl)) _
  have b1 : w4.heap[SA]? = some (.cells (cs.setIfInBounds k (.pointer (some ⟨s, 0, none⟩))) 100 (0, 0)) := by
    rw [h4, Below.heap_setCell _ _ _ _ hne]
    exact set_at h1 k _
  have b2 : w4.heap[XA]? = some (.cells (xs.setIfInBounds k (.pointer (some ⟨x, 0, none⟩))) 101 (0, 0)) := by
    rw [h4]
    refine set_at ?_ k _
    rw [Below.heap_setCell _ _ _ _ (Ne.symm hne)]
    exact k1
  have hd : ∀ y n l sy, SeedsAt w3 y per 0 n l sy → y ≠ SA → y ≠ XA → SeedsAt w4 y per 0 n l sy := fun y n l sy hy e1 e2 => by
    rw [h4]
    exact (hy.set h1 (by decide) e1 k _).set ((Below.heap_setCell _ _ _ _ (Ne.symm hne)).trans k1) (by decide) e2 k _
  have hlow := h.low
  have htop := h.top
  have hlo0 := h.lo0 k (Nat.le_refl _)
  have hlt := hx.lt
  have hlo := fun i (hi : i < k) => h.lo0 i (by omega)
  refine ⟨fun i => if i = k then s else S i, fun i => if i = k then b else B i, fun i => if i = k then x else X i, fun i => if i = k + 1 then w4.heap.size else lo i, ⟨⟨_, b1, by simpa using h2, fun i hi => ?_⟩, ⟨_, b2, by simpa using k2, fun i hi => ?_⟩, fun i hi => ?_, ?_, ?_, fun i hi => ?_, fun i hi => ?_⟩, hsz, ho4⟩
  · by_cases e : i = k
    · subst e
      rw [if_pos rfl]
      simp [h2, hk]
    · rw [if_neg e, Array.getElem?_setIfInBounds_ne (fun e' => e e'.symm)]
      exact h3 i (by omega)
  · by_cases e : i = k
    · subst e
      rw [if_pos rfl]
      simp [k2, hk]
    · rw [if_neg e, Array.getElem?_setIfInBounds_ne (fun e' => e e'.symm)]
      exact k3 i (by omega)
  · by_cases e : i = k
    · subst e
      simp only [if_true, if_neg (show i ≠ i + 1 by omega)]
      have := hs.lt
      omega
    · have := h.at_ i (by omega)
      simp only [if_neg e, if_neg (show i ≠ k + 1 by omega), if_neg (show i + 1 ≠ k + 1 by omega)]
      exact this
  · simp only [if_neg (show 0 ≠ k + 1 by omega)]
    refine ⟨hlow.1, hlow.2.1, hlow.2.2.1, fun i hi => ?_⟩
    by_cases e : i = k
    · subst e
      simp only [if_true, if_neg (show i ≠ i + 1 by omega)]
      have := ho.size
      omega
    · simp only [if_neg (show i ≠ k + 1 by omega), if_neg (show i + 1 ≠ k + 1 by omega)]
      exact hlow.2.2.2 i (by omega)
  · simp
  · by_cases e : i = k
    · subst e
      simp only [if_true]
      exact hs.kept ho4 (fun e => by rcases e with e | e <;> omega) (fun e => by rcases e with e | e <;> omega)
    · have hat := h.at_ i (by omega)
      have := hlo i (by omega)
      simp only [if_neg e]
      exact (h'.sto i (by omega)).kept ho4 (fun e => by rcases e with e | e <;> omega) (fun e => by rcases e with e | e <;> omega)
  · by_cases e : i = k
    · subst e
      simp only [if_true]
      exact hd _ _ _ _ hx (by omega) (by omega)
    · have hat := h.at_ i (by omega)
      have := hlo i (by omega)
      simp only [if_neg e]
      exact hd _ _ _ _ (h'.sds i (by omega)) (by omega) (by omega)
/-- All five. -/
theorem MadeTo.net {w : World} {SA XA : Nat} {per : Int} {S B X lo : Nat → Nat} (h : MadeTo w SA XA per 5 S B X lo) (up : Nat → Bool) : ∃ a : Lay, a.SA = SA ∧ a.XA = XA ∧ LayOk a ∧ a.lo 5 ≤ w.heap.size ∧ NetAt w a up per (fun _ => 0) (fun _ => 0) (fun _ => 0) st0 := by
  obtain ⟨cs, h1, h2, h3⟩ := h.cs
  obtain ⟨xs, k1, k2, k3⟩ := h.xs
  refine ⟨⟨S, B, X, lo, SA, XA⟩, rfl, rfl, ⟨h.at_, h.low.1, h.low.2.1, h.low.2.2.1⟩, h.top, ⟨fun i hi => ?_, fun i hi => ?_, h.sto, fun i hi _ => h.sds i hi⟩⟩
  · show w.cell? ⟨SA, i, none⟩ = _
    rw [cell_at h1]
    exact h3 i hi
  · show w.cell? ⟨XA, i, none⟩ = _
    rw [cell_at k1]
    exact k3 i hi
end Go.Proofs.YtjdlcfllmpdffaaDoor
/-! SeedsRepair: a round's steps. -/
namespace Go.Proofs.YtjdlcfllmpdffaaDoor
open Go.Conc Go.RowKit Go.Maps

theorem NetAt.grown {w w' : World} {a : Lay} {up : Nat → Bool} {per : Int} {tk nx rr : Nat → Int} {st : StT} (h : NetAt w a up per tk nx rr st) (ha : LayOk a) {base n : Nat} {v : Value} {xs : List Value} (hown : w.ownsRow base 106 9 v n xs) (hb : a.lo 5 ≤ base) (gr : w.grownBy w' v.ownBlock) : NetAt w' a up per tk nx rr st := by
  have ho : Only (fun j => a.lo 5 ≤ j) w w' := (Only.refl _ w).grown gr (fun j e => .inr (by have h9 := (hown.lt j e).1; show a.lo 5 ≤ j; omega))
  have hz := ha.zero (i := 5) (by omega)
  have har := ha.arr
  refine ⟨fun i hi => ho.cell (h.arrS i hi) (fun e => by have e : a.lo 5 ≤ a.SA := e; omega), fun i hi => ho.cell (h.arrX i hi) (fun e => by have e : a.lo 5 ≤ a.XA := e; omega), fun i hi => ?_, fun i hi hu => ?_⟩
  · have hbl := ha.below hi
    exact (h.sto i hi).kept ho (fun e => by have e : a.lo 5 ≤ a.S i := e; omega) (fun e => by have e : a.lo 5 ≤ a.B i := e; omega)
  · have hbl := ha.below hi
    obtain ⟨v0, b0, h1, h2⟩ := (h.sds i hi hu).out
    exact ⟨v0, b0, ho.old h1 (fun e => by have e : a.lo 5 ≤ a.X i := e; omega), h2.kept gr (own_type h2 hown (by decide))⟩
theorem NetAt.congr {w : World} {a : Lay} {up : Nat → Bool} {per : Int} {tk nx tk' nx' rr : Nat → Int} {st : StT} (h : NetAt w a up per tk nx rr st) (e1 : ∀ i, i < 5 → up i = true → tk i = tk' i) (e2 : ∀ i, i < 5 → up i = true → nx i = nx' i) : NetAt w a up per tk' nx' rr st :=
  ⟨h.arrS, h.arrX, h.sto, fun i hi hu => by rw [← e1 i hi hu, ← e2 i hi hu]; exact h.sds i hi hu⟩
theorem OutRow.base {w : World} {b c mb nb : Nat} {v : Value} {n : Int} {ms : List MsgT} (h : OutRow w b mb v n ms) (hc : c ≤ b) (hn : nb ≤ mb) : OutRow w c nb v n ms := by
  obtain ⟨P, h1, h2, h3⟩ := h.out
  exact ⟨P, h1, ownsRow_base_a h2 hc, fun p hp => (h3 p hp).base hn⟩
/-- A round under way: it began at w0, and has v's letters. -/
structure RndAt (w1 w0 wr : World) (y : Lay) (up : Nat → Bool) (per : Int) (tk nx : Nat → Int) (rm : Int) (st : StT) (v : Value) (ls : List LetT) : Prop where
  only1 : Only (fun _ => False) w1 wr
  only0 : Only (fun j => j < y.lo 5) w0 wr
  net : ∃ rr : Nat → Int, (∀ i, 0 ≤ rr i ∧ rr i ≤ rm) ∧ NetAt wr y up per tk nx rr st
  row : LetRow wr w0.heap.size v ls
section
variable {w1 w0 wr : World} {y : Lay} {up : Nat → Bool} {tk nx : Nat → Int} {rm : Int} {st : StT} {v : Value} {ls : List LetT}
theorem RndAt.new {per : Int} {w' : World} (h : RndAt w1 w0 wr y up per tk nx rm st v ls) (ho : Only (fun _ => False) wr w') : RndAt w1 w0 w' y up per tk nx rm st v ls := by
  obtain ⟨rr, h1, h2⟩ := h.net
  exact ⟨h.only1.trans ho, h.only0.trans (ho.weaken (fun _ _ => False.elim)), ⟨rr, h1, h2.new ho⟩, h.row.new ho⟩
theorem rnd_take {per : Int} (ha : LayOk y) (h1 : w1.heap.size ≤ y.lo 0) (htop : y.lo 5 ≤ w0.heap.size) (m0 : Int) (hm : w1.cell? ⟨0, 0, none⟩ = some (.int .i64 m0)) (h : RndAt w1 w0 wr y up per tk nx rm st v ls) (hrm : rm < 100000) {i : Nat} (hi : i < 5) (hu : up i = true) (q : LetP) (hq : MsgOwn w0 (y.lo 5) q.2.2) (hv : LetV (letT q)) (W : World) (hW : Only (fun _ => False) wr W) :
    Calls Tryd.prog 51 #[.pointer (some ⟨y.X i, 0, none⟩), .int .i64 q.1, .agg (cellsM q.2.2).toArray] W fun e w' => ∃ vo v2, e = .returned (.tuple #[vo, v2]) ∧ RndAt w1 w0 w' y up per tk nx (rm + 16) (updQ st i (stoQ q.2.2.1 (st i))) v ls ∧ OutRow w' w0.heap.size w0.heap.size vo q.1 (outQ q.2.2.1 (st i)) ∧ Only (fun j => j = y.S i ∨ j = y.B i) wr w' := by
  obtain ⟨k1, k0, ⟨rr, hrr, hn⟩, hrow⟩ := h.new hW
  have hb := ha.below hi
  have hat := ha.at_ i hi
  have hz := ha.zero (i := i) (by omega)
  have hr := hrr i
  refine (net_take hn ha hi hu m0 (k1.cell hm id) q.1 (y.lo 5) (Nat.le_refl _) q.2.2 (hq.only k0 (fun k hk e => by have e : k < y.lo 5 := e; omega)) q.2.1 ⟨hv.ids, hv.idk, hv.recs, hv.reck⟩ hr.1 (by omega)).mono ?_
  rintro e w' ⟨vo, v2, rfl, ho, hout, r, hr1, hr2, hn'⟩
  refine ⟨vo, v2, rfl, ⟨k1.tr ho (fun j hj e => by have e : j = y.S i ∨ j = y.B i := e; omega), k0.trans (ho.weaken (fun j _ e => by have e : j = y.S i ∨ j = y.B i := e; show j < y.lo 5; omega)), ⟨_, fun j => ?_, hn'⟩, hrow.only ho (fun k hk e => by have e : k = y.S i ∨ k = y.B i := e; omega)⟩, ?_, (hW.weaken (fun _ _ => False.elim)).trans ho⟩
  · unfold updI
    have := hrr j
    split <;> omega
  · obtain ⟨B, mb, hB, hmb, hrow'⟩ := hout
    have := k0.size
    exact hrow'.base (by omega) (by omega)
theorem rnd_tick {per : Nat} (hper : per = 1 ∨ per = 2) (ha : LayOk y) (h1 : w1.heap.size ≤ y.lo 0) (htop : y.lo 5 ≤ w0.heap.size) (h : RndAt w1 w0 wr y up per tk nx rm st v ls) {i : Nat} (hi : i < 5) (hu : up i = true) (t : Nat) (htk : tk i = sdT per t) (hnx : nx i = sdN per (oth i).length t) :
    Calls Tryd.prog 21 #[.pointer (some ⟨y.X i, 0, none⟩)] wr fun e w' => ∃ v' n ms, e = .returned v' ∧ RndAt w1 w0 w' y up per (updI tk i (sdT per (t + 1))) (updI nx i (sdN per (oth i).length (t + 1))) rm st v ls ∧ OutRow w' w0.heap.size w0.heap.size v' n ms ∧ ms.length ≤ 1 ∧ ms.map (fun m => (⟨((i + 1 : Nat) : Int), n, m⟩ : LetT)) = askQ (askN per) up t st i := by
  obtain ⟨k1, k0, ⟨rr, hrr, hn⟩, hrow⟩ := h
  have hb := ha.below hi
  have hat := ha.at_ i hi
  have hz := ha.zero (i := i) (by omega)
  have hs := k0.size
  refine (net_tick hper hn ha hi hu t htk hnx).mono ?_
  rintro e w' ⟨v', n, ms, rfl, ho, hn', hrow', hl, he⟩
  exact ⟨v', n, ms, rfl, ⟨k1.tr ho (fun j hj e => by have e : j = y.X i := e; omega), k0.trans (ho.weaken (fun j _ e => by have e : j = y.X i := e; show j < y.lo 5; omega)), ⟨rr, hrr, hn'⟩, hrow.only ho (fun k hk e => by have e : k = y.X i := e; omega)⟩, hrow'.base hs hs, hl, he⟩
theorem rnd_sent {per : Int} (h : RndAt w1 w0 wr y up per tk nx rm st v ls) (f n : Int) (vo : Value) (ms : List MsgT) (ho : OutRow wr w0.heap.size w0.heap.size vo n ms) (hl : ms.length ≤ 1000) :
    Calls Tryd.prog 52 #[.int .i64 f, vo] wr fun e w' => ∃ v', e = .returned v' ∧ RndAt w1 w0 w' y up per tk nx rm st v ls ∧ LetRow w' w0.heap.size v' (ms.map fun m => ⟨f, n, m⟩) ∧ Only (fun _ => False) wr w' := by
  refine (sent20_any wr f n _ _ vo ms ho hl h.only0.size).mono ?_
  rintro e w' ⟨v', rfl, ho', hr⟩
  exact ⟨v', rfl, h.new ho', hr, ho'⟩
theorem RndAt.grown {per : Int} {w' : World} (ha : LayOk y) (h1 : w1.heap.size ≤ y.lo 0) (htop : y.lo 5 ≤ w0.heap.size) (h : RndAt w1 w0 wr y up per tk nx rm st v ls) {ls' : List LetT} {P Q : List LetP} {n : Nat} {v' : Value} (hP : P.map letT = ls) (hQ : Q.map letT = ls') (hown : wr.ownsRow w0.heap.size 106 9 v P.length (P.flatMap cellsL)) (he : ∀ q ∈ P, MsgOwn wr w0.heap.size q.2.2) (he' : ∀ q ∈ Q, MsgOwn wr w0.heap.size q.2.2) (own : w'.ownsRow w0.heap.size 106 9 v' n (P.flatMap cellsL ++ Q.flatMap cellsL)) (gr : wr.grownBy w' v.ownBlock) : RndAt w1 w0 w' y up per tk nx rm st v' (ls ++ ls') := by
  obtain ⟨k1, k0, ⟨rr, hrr, hn⟩, hrow⟩ := h
  have hz := ha.zero (i := 5) (by omega)
  exact ⟨k1.own hown (by omega) gr, k0.own hown (Nat.le_refl _) gr, ⟨rr, hrr, hn.grown ha hown htop gr⟩, letRow_append hP hQ hown he he' own gr⟩
end
theorem RndAt.congr {w1 w0 wr : World} {y : Lay} {up : Nat → Bool} {per : Int} {tk nx tk' nx' : Nat → Int} {rm : Int} {st : StT} {v : Value} {ls : List LetT} (h : RndAt w1 w0 wr y up per tk nx rm st v ls) (e1 : ∀ i, i < 5 → up i = true → tk i = tk' i) (e2 : ∀ i, i < 5 → up i = true → nx i = nx' i) : RndAt w1 w0 wr y up per tk' nx' rm st v ls := by
  obtain ⟨f1, f2, ⟨rf, hrf, f3⟩, f4⟩ := h
  exact ⟨f1, f2, ⟨rf, hrf, f3.congr e1 e2⟩, f4⟩
/-- The counters of the nodes, k of which have ticked. -/
def tkA (per t k : Nat) : Nat → Int := fun j => if j < k then sdT per (t + 1) else sdT per t
def nxA (per t k : Nat) : Nat → Int := fun j => if j < k then sdN per (oth j).length (t + 1) else sdN per (oth j).length t
def asksL (per t k : Nat) (up : Nat → Bool) (st : StT) : List LetT := (List.range k).flatMap (askQ (askN per) up t st)
theorem asksL_snoc (per t k : Nat) (up : Nat → Bool) (st : StT) : asksL per t (k + 1) up st = asksL per t k up st ++ askQ (askN per) up t st k := by
  unfold asksL
  rw [List.range_succ, List.flatMap_append, List.flatMap_singleton]
theorem asksL_len (per t k : Nat) (up : Nat → Bool) {st : StT} (h : StV st) : (asksL per t k up st).length ≤ k := (asks_v h k).2.1
theorem tkA_at (per t k : Nat) : tkA per t k k = sdT per t ∧ nxA per t k k = sdN per (oth k).length t := ⟨if_neg (by omega), if_neg (by omega)⟩
theorem tkA_upd (per t k : Nat) : updI (tkA per t k) k (sdT per (t + 1)) = tkA per t (k + 1) ∧ updI (nxA per t k) k (sdN per (oth k).length (t + 1)) = nxA per t (k + 1) := by
  constructor
  · funext j
    unfold updI tkA
    by_cases e : j = k
    · subst e; rw [if_pos rfl, if_pos (by omega)]
    · rw [if_neg e]
      by_cases e2 : j < k
      · rw [if_pos e2, if_pos (by omega)]
      · rw [if_neg e2, if_neg (by omega)]
  · funext j
    unfold updI nxA
    by_cases e : j = k
    · subst e; rw [if_pos rfl, if_pos (by omega)]
    · rw [if_neg e]
      by_cases e2 : j < k
      · rw [if_pos e2, if_pos (by omega)]
      · rw [if_neg e2, if_neg (by omega)]
/-- A node that is not there does not tick. -/
theorem RndAt.idle {w1 w0 wr : World} {y : Lay} {up : Nat → Bool} {per t k : Nat} {rm : Int} {st : StT} {v : Value} {lF : List LetT} (h : RndAt w1 w0 wr y up per (tkA per t k) (nxA per t k) rm st v (lF ++ asksL per t k up st)) (hk : up k = false) : RndAt w1 w0 wr y up per (tkA per t (k + 1)) (nxA per t (k + 1)) rm st v (lF ++ asksL per t (k + 1) up st) := by
  have e : askQ (askN per) up t st k = [] := by unfold askQ; rw [hk]; rfl
  rw [asksL_snoc, e, List.append_nil]
  refine h.congr (fun i _ hu => ?_) (fun i _ hu => ?_)
  · unfold tkA
    have : i ≠ k := fun e => by rw [e, hk] at hu; cases hu
    by_cases e2 : i < k
    · rw [if_pos e2, if_pos (by omega)]
    · rw [if_neg e2, if_neg (by omega)]
  · unfold nxA
    have : i ≠ k := fun e => by rw [e, hk] at hu; cases hu
    by_cases e2 : i < k
    · rw [if_pos e2, if_pos (by omega)]
    · rw [if_neg e2, if_neg (by omega)]
theorem fold_snoc (up : Nat → Bool) (s : StT × List LetT) (came : List LetT) (k : Nat) (hk : k < came.length) : (came.take (k + 1)).foldl (letQ up) s = letQ up ((came.take k).foldl (letQ up) s) came[k] := by
  rw [List.take_add_one, List.getElem?_eq_getElem hk, Option.toList_some, List.foldl_append]
  rfl
theorem let_pos {up : Nat → Bool} {i : Nat} (hi : i < 5) (hu : up i = true) (s : StT × List LetT) (f : Int) (m : MsgT) : letQ up s ⟨f, (i : Int) + 1, m⟩ = (updQ s.1 i (stoQ m (s.1 i)), s.2 ++ (outQ m (s.1 i)).map fun m' => ⟨(i : Int) + 1, f, m'⟩) := by
  have h := takes_node hi hu f m
  have e : ((i : Int) + 1).toNat - 1 = i := by omega
  have h2 : takesQ up ⟨f, (i : Int) + 1, m⟩ = true := h
  unfold letQ
  rw [if_pos h2]
  simp only [e]
theorem let_neg {up : Nat → Bool} {s : StT × List LetT} {l : LetT} (h : takesQ up l = false) : letQ up s l = s := by
  unfold letQ
  rw [h]
  rfl
/-- Between two rounds. -/
structure RoundsAt (w1 wB wr : World) (y : Lay) (up : Nat → Bool) (per : Nat) (st : StT) (t : Nat) (v : Value) : Prop where
  only1 : Only (fun _ => False) w1 wr
  onlyB : Only (fun j => j < y.lo 5) wB wr
  net : ∃ rr : Nat → Int, (∀ i, 0 ≤ rr i ∧ rr i ≤ 30 + 640 * (t : Int)) ∧ NetAt wr y up per (fun _ => sdT per t) (fun i => sdN per (oth i).length t) rr (runQ (askN per) up st t).1
  row : LetRow wr (y.lo 5) v (runQ (askN per) up st t).2
/-- A round's end. -/
theorem RndAt.ended {w1 wB w0 wr : World} {y : Lay} {up : Nat → Bool} {per t : Nat} {st : StT} {v : Value} {sF : StT} {lF : List LetT} (h : RndAt w1 w0 wr y up per (tkA per t 5) (nxA per t 5) (30 + 640 * (t : Int) + 640) sF v (lF ++ asksL per t 5 up sF)) (he : runQ (askN per) up st (t + 1) = (sF, lF ++ asksL per t 5 up sF)) (hB : Only (fun j => j < y.lo 5) wB w0) (h0 : y.lo 5 ≤ w0.heap.size) : RoundsAt w1 wB wr y up per st (t + 1) v := by
  obtain ⟨f1, f2, ⟨rf, hrf, f3⟩, f4⟩ := h
  refine ⟨f1, hB.trans f2, ⟨rf, fun i => by have := hrf i; omega, ?_⟩, ?_⟩
  · rw [he]
    refine f3.congr (fun i hi _ => if_pos hi) (fun i hi _ => if_pos hi)
  · rw [he]
    exact f4.base h0
end Go.Proofs.YtjdlcfllmpdffaaDoor
