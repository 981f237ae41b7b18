/- bellhoplaw26: told, name; inequality of the reference's services. -/
import Derived.Test.YtianboachknfmaaDoorSD
import Derived.Test.YtianboachknfmaaDoorSB
import Derived.Test.YtianboachknfmaaDoorSG
import Derived.Test.YtianboachknfmaaDoorSC
import Derived.Test.YtianboachknfmaaDoorMC
/-! bellhopref26: Withdraw. -/
namespace Go.Proofs.YtianboachknfmaaDoor
open Go.Conc Go.RowKit Go.Maps

theorem delW_at {n : ByteArray} {L : List SvcT} (h : RisingV L) {i : Nat} (hi : i < L.length) (hk : L[i].name = n) : delW n L = L.take i ++ L.drop (i + 1) := by
  have e : L = L.take i ++ L[i] :: L.drop (i + 1) := by rw [List.getElem_cons_drop, List.take_append_drop]
  have hr := List.pairwise_iff_getElem.1 (risingV_keys h)
  have h1 : ∀ z ∈ L.take i, z.name ≠ n := fun z hz => by
    obtain ⟨j, hj, rfl⟩ := List.getElem_of_mem hz
    rw [List.length_take] at hj
    rw [List.getElem_take, ← hk]
    exact hr j i (by omega) hi (by omega)
  have h2 : ∀ z ∈ L.drop (i + 1), z.name ≠ n := fun z hz => by
    obtain ⟨j, hj, rfl⟩ := List.getElem_of_mem hz
    rw [List.length_drop] at hj
    rw [List.getElem_drop, ← hk]
    exact (hr i (i + 1 + j) hi (by omega) (by omega)).symm
  have f1 : (L.take i).filter (fun x => !decide (x.name = n)) = L.take i := List.filter_eq_self.2 (fun z hz => by simp [h1 z hz])
  have f2 : (L.drop (i + 1)).filter (fun x => !decide (x.name = n)) = L.drop (i + 1) := List.filter_eq_self.2 (fun z hz => by simp [h2 z hz])
  unfold delW
  conv => lhs; rw [e]
  rw [List.filter_append, List.filter_cons_of_neg (by simp [hk]), f1, f2]
theorem onlyPut2 {V w : World} {A c i : Nat} (h : Only (fun k => k = A) V w) (hc : c = A ∨ V.heap.size ≤ c) (v : Value) : Only (fun k => k = A) V (w.setCell ⟨c, i, none⟩ v) := h.setCell (S := fun k => k = A) (p := ⟨c, i, none⟩) (by rcases hc with e | e; exact .inr e; exact .inl e) v
def RWdrP (w w' : World) (k : KeepT) (now : Int) (n : ByteArray) (e : Ending) : Prop :=
  ∃ v', e = .returned (.tuple #[rkV k.self k.life (wdrK k n).count k.every now v', recT (wdrR k n), .int .i64 (wdrE k n)]) ∧ Only (fun _ => False) w w' ∧ VSl w' v' (wdrK k n).own
set_option maxRecDepth 100000 in
set_option maxHeartbeats 4000000 in
theorem rwdr_any (w : World) (k : KeepT) (hk : KeepOk k) (now : Int) (v : Value) (h : VSl w v k.own) (n : ByteArray) (hn : n.size ≤ 64) :
    Calls Tryd.prog 31 #[rkV k.self k.life k.count k.every now v, .string n] w fun e w' => RWdrP w w' k now n e := by
  obtain ⟨i0, hi0, iz0, iz1, iz2⟩ := info_parts infoRSvc
  have HE := Lib.hid (show wdrE k n = if namedP n = false then 9 else if (findW k.own n).isSome = false then 6 else if k.count = 4294967295 then 15 else 0 from rfl)
  have HRK := Lib.hid (show wdrE k n = 0 → (wdrK k n).count = k.count + 1 ∧ (wdrK k n).own = delW n k.own ∧ wdrR k n = goneR k.self k.life (k.count + 1) n from fun e => by unfold wdrK wdrR; rw [if_pos e, if_pos e]; exact ⟨rfl, rfl, rfl⟩)
  have HRN := Lib.hid (show wdrE k n ≠ 0 → (wdrK k n).count = k.count ∧ (wdrK k n).own = k.own ∧ wdrR k n = zeroR from fun e => by unfold wdrK wdrR; rw [if_neg e, if_neg e]; exact ⟨rfl, rfl, rfl⟩)
  obtain ⟨va, vcap, rfl, h1, h2, h3⟩ := Sl.cells svcCs_length h
  unfold maxLen at h2
  have HNO := Lib.hid (show ∀ (c : Int) (w' : World), wdrE k n = c → c ≠ 0 → Only (fun _ => False) w w' → RWdrP w w' k now n (.returned (.tuple #[.agg #[.int .i64 k.self, .int .u64 k.life, .int .u64 k.count, .int .i64 k.every, .int .i64 now, .slice va k.own.length vcap], .agg #[.string ⟨#[]⟩, .int .u64 0, .int .i64 0, .int .i64 0, .bool false, .string ⟨#[]⟩], .int .i64 c])) from fun c w' e hc ho => by
    obtain ⟨n1, n2, n3⟩ := HRN.out (by rw [e]; exact hc)
    refine ⟨.slice va k.own.length vcap, ?_, ho, ?_⟩
    · rw [n1, n3, e]; rfl
    · rw [n2]; exact h.new ho)
  have HYES := Lib.hid (show ∀ (w' : World) v', wdrE k n = 0 → Only (fun _ => False) w w' → VSl w' v' (delW n k.own) → RWdrP w w' k now n (.returned (.tuple #[rkV k.self k.life (k.count + 1) k.every now v', recT (goneR k.self k.life (k.count + 1) n), .int .i64 0])) from fun w' v' e ho hv => by
    obtain ⟨n1, n2, n3⟩ := HRK.out e
    refine ⟨v', ?_, ho, ?_⟩
    · rw [n1, n3, e]
    · rw [n2]; exact hv)
  have HNM := Lib.hid (fun w => rnamed_any w n (by unfold maxLen; omega))
  have HFD := Lib.hid (fun w v h => rfindV_any w v k.own n h)
  have HDEL := Lib.hid (fun i hi hk2 => delW_at (n := n) hk.rises (i := i) hi hk2)
  have HN := Lib.hid (fun h => findVI_none (L := k.own) (k := n) h)
  have HY := Lib.hid (fun y h => findVI_some (L := k.own) (k := n) (y := y) h)
  have HMD := Lib.hid (fun w a len cap s hs hc => rmadeV_any w k.self k.life k.count k.every now a len cap s hk.selfB.1 hk.selfB.2 hk.lifeB.2 hc hs)
  have HSV := Lib.hid (fun x hx => (hk.names x hx).2)
  have hroom := hk.room
  have hcb := hk.countB
  clear hk
  obtain ⟨self, life, count, every, tick, L⟩ := k
  simp only at HE HRK HRN HNO HYES HNM HFD HDEL HN HY HMD HSV h h1 h2 h3 hroom hcb ⊢
  generalize wdrE ⟨self, life, count, every, tick, L⟩ n = E at *
  unfold rkV at HMD HYES ⊢
  unfold recT at HMD HYES
  unfold svcT madeR at HMD
  unfold goneR at HYES
  dsimp only at HMD HYES
  generalize life * 4294967296 + (count + 1) = VER at *
  obtain ⟨W1, hW1⟩ : ∃ W1, W1 = w.alloc (.cells #[.int .i64 self, .int .u64 life, .int .u64 count, .int .i64 every, .int .i64 now, .slice va L.length vcap] 72) := ⟨_, rfl⟩
  have hbW1 : W1.heap[w.heap.size]? = some (.cells #[.int .i64 self, .int .u64 life, .int .u64 count, .int .i64 every, .int .i64 now, .slice va L.length vcap] 72 (0, 0)) := by rw [hW1]; exact heap_alloc_new w _
  have hoW1 : Only (fun _ => False) w W1 := by rw [hW1]; exact (Only.refl _ _).alloc _
  have hsW1 : W1.heap.size = w.heap.size + 1 := by rw [hW1]; simp
  obtain ⟨W3, hW3⟩ : ∃ W3, W3 = W1.alloc (.cells #[.int .i64 0, .int .u64 0, .int .u64 0, .int .i64 0, .int .i64 0, .slice none 0 0] 72) := ⟨_, rfl⟩
  have hbW3 : W3.heap[W1.heap.size]? = some (.cells #[.int .i64 0, .int .u64 0, .int .u64 0, .int .i64 0, .int .i64 0, .slice none 0 0] 72 (0, 0)) := by rw [hW3]; exact heap_alloc_new W1 _
  have hoW3 : Only (fun _ => False) W1 W3 := by rw [hW3]; exact (Only.refl _ _).alloc _
  have hsW3 : W3.heap.size = W1.heap.size + 1 := by rw [hW3]; simp
  obtain ⟨W4, hW4⟩ : ∃ W4, W4 = W3.alloc (.cells #[.string ⟨#[]⟩, .int .u64 0, .int .i64 0, .int .i64 0, .bool false, .string ⟨#[]⟩] 35) := ⟨_, rfl⟩
  have hbW4 : W4.heap[W3.heap.size]? = some (.cells #[.string ⟨#[]⟩, .int .u64 0, .int .i64 0, .int .i64 0, .bool false, .string ⟨#[]⟩] 35 (0, 0)) := by rw [hW4]; exact heap_alloc_new W3 _
  have hoW4 : Only (fun _ => False) W3 W4 := by rw [hW4]; exact (Only.refl _ _).alloc _
  have hsW4 : W4.heap.size = W3.heap.size + 1 := by rw [hW4]; simp
  have b0 := hoW4.old (hoW3.old hbW1 id) id
  have b2 := hoW4.old hbW3 id
  have hoA := (hoW1.trans hoW3).trans hoW4
  have hsX : W1.heap.size = w.heap.size + 1 ∧ W3.heap.size = w.heap.size + 2 ∧ W4.heap.size = w.heap.size + 3 := by omega
  rw [hsX.1] at b2
  rw [hsX.2.1] at hbW4
  have HC := Lib.hid h3
  have HH := Lib.hid h
  have H0 := Lib.hid b0
  have H2 := Lib.hid b2
  have H3 := Lib.hid hbW4
  have HOA := Lib.hid hoA
  clear h3 h b0 b2 hbW4 hoA
  clear hbW1 hbW3 hoW1 hoW3 hoW4 hsW1 hsW3 hsW4 hsX
  go_enter Tryd.func31, Tryd.ntmps31
  go_upto_region 1 with (fail)
  rw [← hW1, ← hW3, ← hW4]
  clear hW1 hW3 hW4
  generalize hX : w.heap.size = X at *
  have HXW := Lib.hid hX
  clear hX
  go_wp2_with fail
  refine (HNM.out _).mono ?_
  rintro e w3 ⟨rfl, rfl⟩
  clear HNM
  have HOB := HOA
  cases hnn : namedP n
  · -- name
    have e9 : E = 9 := by rw [HE.out, hnn]; rfl
    clear hnn
    have x0 : W4.cell? ⟨X, 0, none⟩ = some (.int .i64 self) := cell_at H0.out 0
    have x1 : W4.cell? ⟨X, 1, none⟩ = some (.int .u64 life) := cell_at H0.out 1
    have x2 : W4.cell? ⟨X, 2, none⟩ = some (.int .u64 count) := cell_at H0.out 2
    have x3 : W4.cell? ⟨X, 3, none⟩ = some (.int .i64 every) := cell_at H0.out 3
    have x4 : W4.cell? ⟨X, 4, none⟩ = some (.int .i64 now) := cell_at H0.out 4
    have x5 : W4.cell? ⟨X, 5, none⟩ = some (.slice va L.length vcap) := cell_at H0.out 5
    have z0 : W4.cell? ⟨(X + 1), 0, none⟩ = some (.int .i64 0) := cell_at H2.out 0
    have z1 : W4.cell? ⟨(X + 1), 1, none⟩ = some (.int .u64 0) := cell_at H2.out 1
    have z2 : W4.cell? ⟨(X + 1), 2, none⟩ = some (.int .u64 0) := cell_at H2.out 2
    have z3 : W4.cell? ⟨(X + 1), 3, none⟩ = some (.int .i64 0) := cell_at H2.out 3
    have z4 : W4.cell? ⟨(X + 1), 4, none⟩ = some (.int .i64 0) := cell_at H2.out 4
    have z5 : W4.cell? ⟨(X + 1), 5, none⟩ = some (.slice none 0 0) := cell_at H2.out 5
    have y0 : W4.cell? ⟨(X + 2), 0, none⟩ = some (.string ⟨#[]⟩) := cell_at H3.out 0
    have y1 : W4.cell? ⟨(X + 2), 1, none⟩ = some (.int .u64 0) := cell_at H3.out 1
    have y2 : W4.cell? ⟨(X + 2), 2, none⟩ = some (.int .i64 0) := cell_at H3.out 2
    have y3 : W4.cell? ⟨(X + 2), 3, none⟩ = some (.int .i64 0) := cell_at H3.out 3
    have y4 : W4.cell? ⟨(X + 2), 4, none⟩ = some (.bool false) := cell_at H3.out 4
    have y5 : W4.cell? ⟨(X + 2), 5, none⟩ = some (.string ⟨#[]⟩) := cell_at H3.out 5
    have zf : ∀ i, W4.frozen? ⟨X + 1, i, none⟩ = false := free_at H2.out
    have yf : ∀ i, W4.frozen? ⟨X + 2, i, none⟩ = false := free_at H3.out
    go_wp2_with fail
    clear z0 z1 z2 z3 z4 z5 y0 y1 y2 y3 y4 y5 zf yf
    obtain ⟨s1, s2⟩ := lit_set H2.out [.int .i64 self, .int .u64 life, .int .u64 count, .int .i64 every, .int .i64 now, .slice va L.length vcap] rfl
    rw [show World.setCells W4 (X + 1) 0 [.int .i64 self, .int .u64 life, .int .u64 count, .int .i64 every, .int .i64 now, .slice va L.length vcap] = ((((((W4.setCell ⟨(X + 1), 0, none⟩ (.int .i64 self)).setCell ⟨(X + 1), 1, none⟩ (.int .u64 life)).setCell ⟨(X + 1), 2, none⟩ (.int .u64 count)).setCell ⟨(X + 1), 3, none⟩ (.int .i64 every)).setCell ⟨(X + 1), 4, none⟩ (.int .i64 now)).setCell ⟨(X + 1), 5, none⟩ (.slice va L.length vcap)) from rfl] at s1 s2
    generalize ((((((W4.setCell ⟨(X + 1), 0, none⟩ (.int .i64 self)).setCell ⟨(X + 1), 1, none⟩ (.int .u64 life)).setCell ⟨(X + 1), 2, none⟩ (.int .u64 count)).setCell ⟨(X + 1), 3, none⟩ (.int .i64 every)).setCell ⟨(X + 1), 4, none⟩ (.int .i64 now)).setCell ⟨(X + 1), 5, none⟩ (.slice va L.length vcap)) = wy at *
    have p0 : wy.cell? ⟨(X + 1), 0, none⟩ = some (.int .i64 self) := cell_at s1 0
    have p1 : wy.cell? ⟨(X + 1), 1, none⟩ = some (.int .u64 life) := cell_at s1 1
    have p2 : wy.cell? ⟨(X + 1), 2, none⟩ = some (.int .u64 count) := cell_at s1 2
    have p3 : wy.cell? ⟨(X + 1), 3, none⟩ = some (.int .i64 every) := cell_at s1 3
    have p4 : wy.cell? ⟨(X + 1), 4, none⟩ = some (.int .i64 now) := cell_at s1 4
    have p5 : wy.cell? ⟨(X + 1), 5, none⟩ = some (.slice va L.length vcap) := cell_at s1 5
    have t1 := s2
    have hb3 := s2.old H3.out (by omega)
    have hb2 := s1
    clear s1 s2 p0 p1 p2 p3 p4 p5
    obtain ⟨s1, s2⟩ := lit_set hb3 [.string ⟨#[]⟩, .int .u64 0, .int .i64 0, .int .i64 0, .bool false, .string ⟨#[]⟩] rfl
    rw [show World.setCells wy (X + 2) 0 [.string ⟨#[]⟩, .int .u64 0, .int .i64 0, .int .i64 0, .bool false, .string ⟨#[]⟩] = ((((((wy.setCell ⟨(X + 2), 0, none⟩ (.string ⟨#[]⟩)).setCell ⟨(X + 2), 1, none⟩ (.int .u64 0)).setCell ⟨(X + 2), 2, none⟩ (.int .i64 0)).setCell ⟨(X + 2), 3, none⟩ (.int .i64 0)).setCell ⟨(X + 2), 4, none⟩ (.bool false)).setCell ⟨(X + 2), 5, none⟩ (.string ⟨#[]⟩)) from rfl] at s1 s2
    generalize ((((((wy.setCell ⟨(X + 2), 0, none⟩ (.string ⟨#[]⟩)).setCell ⟨(X + 2), 1, none⟩ (.int .u64 0)).setCell ⟨(X + 2), 2, none⟩ (.int .i64 0)).setCell ⟨(X + 2), 3, none⟩ (.int .i64 0)).setCell ⟨(X + 2), 4, none⟩ (.bool false)).setCell ⟨(X + 2), 5, none⟩ (.string ⟨#[]⟩)) = wz at *
    have q0 : wz.cell? ⟨(X + 2), 0, none⟩ = some (.string ⟨#[]⟩) := cell_at s1 0
    have q1 : wz.cell? ⟨(X + 2), 1, none⟩ = some (.int .u64 0) := cell_at s1 1
    have q2 : wz.cell? ⟨(X + 2), 2, none⟩ = some (.int .i64 0) := cell_at s1 2
    have q3 : wz.cell? ⟨(X + 2), 3, none⟩ = some (.int .i64 0) := cell_at s1 3
    have q4 : wz.cell? ⟨(X + 2), 4, none⟩ = some (.bool false) := cell_at s1 4
    have q5 : wz.cell? ⟨(X + 2), 5, none⟩ = some (.string ⟨#[]⟩) := cell_at s1 5
    have hb2 := s2.old hb2 (by omega)
    have o0 : wz.cell? ⟨(X + 1), 0, none⟩ = some (.int .i64 self) := cell_at hb2 0
    have o1 : wz.cell? ⟨(X + 1), 1, none⟩ = some (.int .u64 life) := cell_at hb2 1
    have o2 : wz.cell? ⟨(X + 1), 2, none⟩ = some (.int .u64 count) := cell_at hb2 2
    have o3 : wz.cell? ⟨(X + 1), 3, none⟩ = some (.int .i64 every) := cell_at hb2 3
    have o4 : wz.cell? ⟨(X + 1), 4, none⟩ = some (.int .i64 now) := cell_at hb2 4
    have o5 : wz.cell? ⟨(X + 1), 5, none⟩ = some (.slice va L.length vcap) := cell_at hb2 5
    refine bodyPost_ret (v := .tuple #[.agg #[.int .i64 self, .int .u64 life, .int .u64 count, .int .i64 every, .int .i64 now, .slice va L.length vcap], .agg #[.string ⟨#[]⟩, .int .u64 0, .int .i64 0, .int .i64 0, .bool false, .string ⟨#[]⟩], .int .i64 9]) (by simp [results, Tryd.results31, go_sem, q0, q1, q2, q3, q4, q5, o0, o1, o2, o3, o4, o5]) rfl ?_
    exact HNO.out 9 _ e9 (by decide) ((HOB.out.tr t1 (fun i hi e => by have := HXW.out; omega)).tr s2 (fun i hi e => by have := HXW.out; omega))
  · have HE2 := Lib.hid (show E = if (findW L n).isSome = false then 6 else if count = 4294967295 then 15 else 0 by rw [HE.out, hnn]; rfl)
    clear hnn HE
    have x0 : W4.cell? ⟨X, 0, none⟩ = some (.int .i64 self) := cell_at H0.out 0
    have x1 : W4.cell? ⟨X, 1, none⟩ = some (.int .u64 life) := cell_at H0.out 1
    have x2 : W4.cell? ⟨X, 2, none⟩ = some (.int .u64 count) := cell_at H0.out 2
    have x3 : W4.cell? ⟨X, 3, none⟩ = some (.int .i64 every) := cell_at H0.out 3
    have x4 : W4.cell? ⟨X, 4, none⟩ = some (.int .i64 now) := cell_at H0.out 4
    have x5 : W4.cell? ⟨X, 5, none⟩ = some (.slice va L.length vcap) := cell_at H0.out 5
    have z0 : W4.cell? ⟨(X + 1), 0, none⟩ = some (.int .i64 0) := cell_at H2.out 0
    have z1 : W4.cell? ⟨(X + 1), 1, none⟩ = some (.int .u64 0) := cell_at H2.out 1
    have z2 : W4.cell? ⟨(X + 1), 2, none⟩ = some (.int .u64 0) := cell_at H2.out 2
    have z3 : W4.cell? ⟨(X + 1), 3, none⟩ = some (.int .i64 0) := cell_at H2.out 3
    have z4 : W4.cell? ⟨(X + 1), 4, none⟩ = some (.int .i64 0) := cell_at H2.out 4
    have z5 : W4.cell? ⟨(X + 1), 5, none⟩ = some (.slice none 0 0) := cell_at H2.out 5
    have y0 : W4.cell? ⟨(X + 2), 0, none⟩ = some (.string ⟨#[]⟩) := cell_at H3.out 0
    have y1 : W4.cell? ⟨(X + 2), 1, none⟩ = some (.int .u64 0) := cell_at H3.out 1
    have y2 : W4.cell? ⟨(X + 2), 2, none⟩ = some (.int .i64 0) := cell_at H3.out 2
    have y3 : W4.cell? ⟨(X + 2), 3, none⟩ = some (.int .i64 0) := cell_at H3.out 3
    have y4 : W4.cell? ⟨(X + 2), 4, none⟩ = some (.bool false) := cell_at H3.out 4
    have y5 : W4.cell? ⟨(X + 2), 5, none⟩ = some (.string ⟨#[]⟩) := cell_at H3.out 5
    have zf : ∀ i, W4.frozen? ⟨X + 1, i, none⟩ = false := free_at H2.out
    have yf : ∀ i, W4.frozen? ⟨X + 2, i, none⟩ = false := free_at H3.out
    have hfd := HFD.out W4 (.slice va L.length vcap) (HH.out.new HOA.out)
    have HFF := Lib.hid hfd
    clear hfd
    go_wp2_with fail
    refine HFF.out.mono ?_
    rintro e w5 ⟨rfl, rfl⟩
    clear HFF HFD
    generalize hfo : findW L n = fo at *
    generalize findVI L n = fi at *
    cases fo with
    | none =>
      have e6 : E = 6 := by rw [HE2.out]; rfl
      have hf := HN.out rfl
      subst hf
      go_wp2_with fail
      clear z0 z1 z2 z3 z4 z5 y0 y1 y2 y3 y4 y5 zf yf
      obtain ⟨s1, s2⟩ := lit_set H2.out [.int .i64 self, .int .u64 life, .int .u64 count, .int .i64 every, .int .i64 now, .slice va L.length vcap] rfl
      rw [show World.setCells W4 (X + 1) 0 [.int .i64 self, .int .u64 life, .int .u64 count, .int .i64 every, .int .i64 now, .slice va L.length vcap] = ((((((W4.setCell ⟨(X + 1), 0, none⟩ (.int .i64 self)).setCell ⟨(X + 1), 1, none⟩ (.int .u64 life)).setCell ⟨(X + 1), 2, none⟩ (.int .u64 count)).setCell ⟨(X + 1), 3, none⟩ (.int .i64 every)).setCell ⟨(X + 1), 4, none⟩ (.int .i64 now)).setCell ⟨(X + 1), 5, none⟩ (.slice va L.length vcap)) from rfl] at s1 s2
      generalize ((((((W4.setCell ⟨(X + 1), 0, none⟩ (.int .i64 self)).setCell ⟨(X + 1), 1, none⟩ (.int .u64 life)).setCell ⟨(X + 1), 2, none⟩ (.int .u64 count)).setCell ⟨(X + 1), 3, none⟩ (.int .i64 every)).setCell ⟨(X + 1), 4, none⟩ (.int .i64 now)).setCell ⟨(X + 1), 5, none⟩ (.slice va L.length vcap)) = wy at *
      have p0 : wy.cell? ⟨(X + 1), 0, none⟩ = some (.int .i64 self) := cell_at s1 0
      have p1 : wy.cell? ⟨(X + 1), 1, none⟩ = some (.int .u64 life) := cell_at s1 1
      have p2 : wy.cell? ⟨(X + 1), 2, none⟩ = some (.int .u64 count) := cell_at s1 2
      have p3 : wy.cell? ⟨(X + 1), 3, none⟩ = some (.int .i64 every) := cell_at s1 3
      have p4 : wy.cell? ⟨(X + 1), 4, none⟩ = some (.int .i64 now) := cell_at s1 4
      have p5 : wy.cell? ⟨(X + 1), 5, none⟩ = some (.slice va L.length vcap) := cell_at s1 5
      have t1 := s2
      have hb3 := s2.old H3.out (by omega)
      have hb2 := s1
      clear s1 s2 p0 p1 p2 p3 p4 p5
      obtain ⟨s1, s2⟩ := lit_set hb3 [.string ⟨#[]⟩, .int .u64 0, .int .i64 0, .int .i64 0, .bool false, .string ⟨#[]⟩] rfl
      rw [show World.setCells wy (X + 2) 0 [.string ⟨#[]⟩, .int .u64 0, .int .i64 0, .int .i64 0, .bool false, .string ⟨#[]⟩] = ((((((wy.setCell ⟨(X + 2), 0, none⟩ (.string ⟨#[]⟩)).setCell ⟨(X + 2), 1, none⟩ (.int .u64 0)).setCell ⟨(X + 2), 2, none⟩ (.int .i64 0)).setCell ⟨(X + 2), 3, none⟩ (.int .i64 0)).setCell ⟨(X + 2), 4, none⟩ (.bool false)).setCell ⟨(X + 2), 5, none⟩ (.string ⟨#[]⟩)) from rfl] at s1 s2
      generalize ((((((wy.setCell ⟨(X + 2), 0, none⟩ (.string ⟨#[]⟩)).setCell ⟨(X + 2), 1, none⟩ (.int .u64 0)).setCell ⟨(X + 2), 2, none⟩ (.int .i64 0)).setCell ⟨(X + 2), 3, none⟩ (.int .i64 0)).setCell ⟨(X + 2), 4, none⟩ (.bool false)).setCell ⟨(X + 2), 5, none⟩ (.string ⟨#[]⟩)) = wz at *
      have q0 : wz.cell? ⟨(X + 2), 0, none⟩ = some (.string ⟨#[]⟩) := cell_at s1 0
      have q1 : wz.cell? ⟨(X + 2), 1, none⟩ = some (.int .u64 0) := cell_at s1 1
      have q2 : wz.cell? ⟨(X + 2), 2, none⟩ = some (.int .i64 0) := cell_at s1 2
      have q3 : wz.cell? ⟨(X + 2), 3, none⟩ = some (.int .i64 0) := cell_at s1 3
      have q4 : wz.cell? ⟨(X + 2), 4, none⟩ = some (.bool false) := cell_at s1 4
      have q5 : wz.cell? ⟨(X + 2), 5, none⟩ = some (.string ⟨#[]⟩) := cell_at s1 5
      have hb2 := s2.old hb2 (by omega)
      have o0 : wz.cell? ⟨(X + 1), 0, none⟩ = some (.int .i64 self) := cell_at hb2 0
      have o1 : wz.cell? ⟨(X + 1), 1, none⟩ = some (.int .u64 life) := cell_at hb2 1
      have o2 : wz.cell? ⟨(X + 1), 2, none⟩ = some (.int .u64 count) := cell_at hb2 2
      have o3 : wz.cell? ⟨(X + 1), 3, none⟩ = some (.int .i64 every) := cell_at hb2 3
      have o4 : wz.cell? ⟨(X + 1), 4, none⟩ = some (.int .i64 now) := cell_at hb2 4
      have o5 : wz.cell? ⟨(X + 1), 5, none⟩ = some (.slice va L.length vcap) := cell_at hb2 5
      refine bodyPost_ret (v := .tuple #[.agg #[.int .i64 self, .int .u64 life, .int .u64 count, .int .i64 every, .int .i64 now, .slice va L.length vcap], .agg #[.string ⟨#[]⟩, .int .u64 0, .int .i64 0, .int .i64 0, .bool false, .string ⟨#[]⟩], .int .i64 6]) (by simp [results, Tryd.results31, go_sem, q0, q1, q2, q3, q4, q5, o0, o1, o2, o3, o4, o5]) rfl ?_
      exact HNO.out 6 _ e6 (by decide) ((HOB.out.tr t1 (fun i hi e => by have := HXW.out; omega)).tr s2 (fun i hi e => by have := HXW.out; omega))
    | some yy =>
      have HE3 := Lib.hid (show E = if count = 4294967295 then 15 else 0 by rw [HE2.out]; rfl)
      obtain ⟨i, hi, hf, hLi, hLk⟩ := HY.out yy rfl
      subst hf
      clear HE2 hfo HN HY
      by_cases hcc : count = 4294967295
      · -- count
        have e15 : E = 15 := by rw [HE3.out, if_pos hcc]
        have hcc' : (4294967295 : Int) ≤ (count : Int) := by omega
        clear hcc
        go_wp2_with fail
        clear z0 z1 z2 z3 z4 z5 y0 y1 y2 y3 y4 y5 zf yf
        obtain ⟨s1, s2⟩ := lit_set H2.out [.int .i64 self, .int .u64 life, .int .u64 count, .int .i64 every, .int .i64 now, .slice va L.length vcap] rfl
        rw [show World.setCells W4 (X + 1) 0 [.int .i64 self, .int .u64 life, .int .u64 count, .int .i64 every, .int .i64 now, .slice va L.length vcap] = ((((((W4.setCell ⟨(X + 1), 0, none⟩ (.int .i64 self)).setCell ⟨(X + 1), 1, none⟩ (.int .u64 life)).setCell ⟨(X + 1), 2, none⟩ (.int .u64 count)).setCell ⟨(X + 1), 3, none⟩ (.int .i64 every)).setCell ⟨(X + 1), 4, none⟩ (.int .i64 now)).setCell ⟨(X + 1), 5, none⟩ (.slice va L.length vcap)) from rfl] at s1 s2
        generalize ((((((W4.setCell ⟨(X + 1), 0, none⟩ (.int .i64 self)).setCell ⟨(X + 1), 1, none⟩ (.int .u64 life)).setCell ⟨(X + 1), 2, none⟩ (.int .u64 count)).setCell ⟨(X + 1), 3, none⟩ (.int .i64 every)).setCell ⟨(X + 1), 4, none⟩ (.int .i64 now)).setCell ⟨(X + 1), 5, none⟩ (.slice va L.length vcap)) = wy at *
        have p0 : wy.cell? ⟨(X + 1), 0, none⟩ = some (.int .i64 self) := cell_at s1 0
        have p1 : wy.cell? ⟨(X + 1), 1, none⟩ = some (.int .u64 life) := cell_at s1 1
        have p2 : wy.cell? ⟨(X + 1), 2, none⟩ = some (.int .u64 count) := cell_at s1 2
        have p3 : wy.cell? ⟨(X + 1), 3, none⟩ = some (.int .i64 every) := cell_at s1 3
        have p4 : wy.cell? ⟨(X + 1), 4, none⟩ = some (.int .i64 now) := cell_at s1 4
        have p5 : wy.cell? ⟨(X + 1), 5, none⟩ = some (.slice va L.length vcap) := cell_at s1 5
        have t1 := s2
        have hb3 := s2.old H3.out (by omega)
        have hb2 := s1
        clear s1 s2 p0 p1 p2 p3 p4 p5
        obtain ⟨s1, s2⟩ := lit_set hb3 [.string ⟨#[]⟩, .int .u64 0, .int .i64 0, .int .i64 0, .bool false, .string ⟨#[]⟩] rfl
        rw [show World.setCells wy (X + 2) 0 [.string ⟨#[]⟩, .int .u64 0, .int .i64 0, .int .i64 0, .bool false, .string ⟨#[]⟩] = ((((((wy.setCell ⟨(X + 2), 0, none⟩ (.string ⟨#[]⟩)).setCell ⟨(X + 2), 1, none⟩ (.int .u64 0)).setCell ⟨(X + 2), 2, none⟩ (.int .i64 0)).setCell ⟨(X + 2), 3, none⟩ (.int .i64 0)).setCell ⟨(X + 2), 4, none⟩ (.bool false)).setCell ⟨(X + 2), 5, none⟩ (.string ⟨#[]⟩)) from rfl] at s1 s2
        generalize ((((((wy.setCell ⟨(X + 2), 0, none⟩ (.string ⟨#[]⟩)).setCell ⟨(X + 2), 1, none⟩ (.int .u64 0)).setCell ⟨(X + 2), 2, none⟩ (.int .i64 0)).setCell ⟨(X + 2), 3, none⟩ (.int .i64 0)).setCell ⟨(X + 2), 4, none⟩ (.bool false)).setCell ⟨(X + 2), 5, none⟩ (.string ⟨#[]⟩)) = wz at *
        have q0 : wz.cell? ⟨(X + 2), 0, none⟩ = some (.string ⟨#[]⟩) := cell_at s1 0
        have q1 : wz.cell? ⟨(X + 2), 1, none⟩ = some (.int .u64 0) := cell_at s1 1
        have q2 : wz.cell? ⟨(X + 2), 2, none⟩ = some (.int .i64 0) := cell_at s1 2
        have q3 : wz.cell? ⟨(X + 2), 3, none⟩ = some (.int .i64 0) := cell_at s1 3
        have q4 : wz.cell? ⟨(X + 2), 4, none⟩ = some (.bool false) := cell_at s1 4
        have q5 : wz.cell? ⟨(X + 2), 5, none⟩ = some (.string ⟨#[]⟩) := cell_at s1 5
        have hb2 := s2.old hb2 (by omega)
        have o0 : wz.cell? ⟨(X + 1), 0, none⟩ = some (.int .i64 self) := cell_at hb2 0
        have o1 : wz.cell? ⟨(X + 1), 1, none⟩ = some (.int .u64 life) := cell_at hb2 1
        have o2 : wz.cell? ⟨(X + 1), 2, none⟩ = some (.int .u64 count) := cell_at hb2 2
        have o3 : wz.cell? ⟨(X + 1), 3, none⟩ = some (.int .i64 every) := cell_at hb2 3
        have o4 : wz.cell? ⟨(X + 1), 4, none⟩ = some (.int .i64 now) := cell_at hb2 4
        have o5 : wz.cell? ⟨(X + 1), 5, none⟩ = some (.slice va L.length vcap) := cell_at hb2 5
        refine bodyPost_ret (v := .tuple #[.agg #[.int .i64 self, .int .u64 life, .int .u64 count, .int .i64 every, .int .i64 now, .slice va L.length vcap], .agg #[.string ⟨#[]⟩, .int .u64 0, .int .i64 0, .int .i64 0, .bool false, .string ⟨#[]⟩], .int .i64 15]) (by simp [results, Tryd.results31, go_sem, q0, q1, q2, q3, q4, q5, o0, o1, o2, o3, o4, o5]) rfl ?_
        exact HNO.out 15 _ e15 (by decide) ((HOB.out.tr t1 (fun i hi e => by have := HXW.out; omega)).tr s2 (fun i hi e => by have := HXW.out; omega))
      · have e0 : E = 0 := by rw [HE3.out, if_neg hcc]
        have hcc' : ¬ (4294967295 : Int) ≤ (count : Int) := by omega
        have hc3 : count < 4294967295 := by omega
        have hdel := HDEL.out i hi hLk
        have hsv := HSV.out L[i] (List.getElem_mem hi)
        have hC4 := HC.out.new HOA.out (fun _ _ _ => id)
        obtain ⟨b, off, ha, hc⟩ := hC4.at i hi
        subst ha
        clear z0 z1 z2 z3 z4 z5 y0 y1 y2 y3 y4 y5 zf yf HNO HRN HRK HE3 hcc HDEL HSV HC
        generalize hyy : L[i] = y at *
        have y0 := hc 0 _ rfl
        have y1 := hc 1 _ rfl
        have y2 := hc 2 _ rfl
        have y3 := hc 3 _ rfl
        have y4 := hc 4 _ rfl
        have y5 := hc 5 _ rfl
        have y6 := hc 6 _ rfl
        have y7 := hc 7 _ rfl
        simp only [Nat.add_zero] at y0
        have HMM := Lib.hid (fun w' => HMD.out w' (some ⟨b, off, none⟩) L.length vcap y hsv hc3)
        rw [hLk] at HMM y0
        have HE0 := Lib.hid e0
        have HDL := Lib.hid hdel
        have HLK := Lib.hid hLk
        have HC3 := Lib.hid hc3
        clear e0 hdel hLk hc3
        clear hcb hc hC4 HMD hsv hLi
        have hi1 : (0 : Int) ≤ (i : Int) := by omega
        have hi2 : (i : Int) < (L.length : Int) := by omega
        have hxl : X < W4.heap.size := lt_of_block H0.out
        have hbl : b < W4.heap.size := World.block_lt_of_cell? _ _ y0
        have hs4 := HH.out.new HOA.out
        have HS4 := Lib.hid hs4
        clear hs4
        have hcd : decide ((4294967295 : Int) ≤ (count : Int)) = false := decide_eq_false hcc'
        clear hcc'
        go_upto_region 8 with (fail)
        clear hcd
        go_cut [8] (fun v8 wx => ∃ B, v8 = .pointer (some ⟨B, 0, none⟩) ∧ W4.heap.size ≤ B ∧ wx.heap[X]? = some (.cells #[.int .i64 self, .int .u64 life, .int .u64 ((count : Int) + 1), .int .i64 every, .int .i64 now, .slice (some ⟨b, off, none⟩) L.length vcap] 72 (0, 0)) ∧ wx.heap[B]? = some (.cells #[.string (keyB self n), .int .u64 VER, .int .i64 self, .int .i64 0, .bool false, .string (dataB y.a0 y.a1 y.a2 y.a3 y.p y.q y.r)] 35 (0, 0)) ∧ Only (fun i => i = X) W4 wx)
        case first =>
          have hX0 := H0.out
          go_region_with (first
            | (go_at_call 78; (with_reducible refine (HMM.out _).mono ?_); rintro e w9 ⟨rfl, ho9⟩; have hX9 : w9.heap[X]? = some (.cells #[.int .i64 self, .int .u64 life, .int .u64 count, .int .i64 every, .int .i64 now, .slice (some ⟨b, off, none⟩) L.length vcap] 72 (0, 0)) := Only.old ho9 (by (apply Eq.trans; (case h₁ => repeat (first | (with_reducible assumption) | (with_reducible exact heap_alloc_new _ _) | (with_reducible apply blk_new; (repeat (first | (with_reducible rfl) | (with_reducible apply sz_set) | (with_reducible apply sz_alloc) | (with_reducible apply sz_drew))); done) | (with_reducible apply blk_same) | (with_reducible apply blk_ne; case hn => (first | assumption | omega)) | (with_reducible apply blk_old) | (with_reducible apply blk_drew))); (case h₂ => rfl))) id; have xf9 : ∀ i, w9.frozen? ⟨X, i, none⟩ = false := free_at hX9; have p0 := cell_at hX9 0; have p1 := cell_at hX9 1; have p2 := cell_at hX9 2; have p3 := cell_at hX9 3; have p4 := cell_at hX9 4; have p5 := cell_at hX9 5; simp only [List.getElem?_toArray, List.getElem?_cons_zero, List.getElem?_cons_succ] at p0 p1 p2 p3 p4 p5; have hx9 : X < w9.heap.size := lt_of_block hX9; (first | (have hT9 : w9.heap[W4.heap.size]? = some (.cells #[.string ⟨#[]⟩, .int .u64 0, .int .i64 0, .int .i64 0, .bool false, .string ⟨#[]⟩] 35 (0, 0)) := (by (refine Only.old ho9 ?_ id); first | (apply Eq.trans; (case h₁ => repeat (first | (with_reducible assumption) | (with_reducible exact heap_alloc_new _ _) | (with_reducible apply blk_new; (repeat (first | (with_reducible rfl) | (with_reducible apply sz_set) | (with_reducible apply sz_alloc) | (with_reducible apply sz_drew))); done) | (with_reducible apply blk_same) | (with_reducible apply blk_ne; case hn => (first | assumption | omega)) | (with_reducible apply blk_old) | (with_reducible apply blk_drew))); (case h₂ => rfl)) | fail); have tf9 : ∀ i, w9.frozen? ⟨W4.heap.size, i, none⟩ = false := free_at hT9; have t0 := cell_at hT9 0; have t1 := cell_at hT9 1; have t2 := cell_at hT9 2; have t3 := cell_at hT9 3; have t4 := cell_at hT9 4; have t5 := cell_at hT9 5; simp only [List.getElem?_toArray, List.getElem?_cons_zero, List.getElem?_cons_succ] at t0 t1 t2 t3 t4 t5; have hne9 : ¬ X = W4.heap.size := (by omega); have hne10 : ¬ W4.heap.size = X := (by omega)) | skip); have o9 : Only (fun _ => False) W4 w9 := (by (refine Only.trans (b := _) ?_ ho9); (repeat (first | (with_reducible assumption) | (with_reducible exact Only.refl _ _) | (with_reducible refine Only.drew ?_) | (with_reducible refine Only.alloc ?_ _) | (with_reducible refine onlySet ?_ (by first | (with_reducible assumption) | omega) _) | (with_reducible refine Only.trans ?_ (by with_reducible assumption)))))))
          all_goals
            go_wp2_with fail
            go_meet
            first
              | (refine ⟨W4.heap.size, by with_reducible rfl, Nat.le_refl _, ?_, ?_, ?_⟩
                 · (apply Eq.trans; (case h₁ => repeat (first | (with_reducible assumption) | (with_reducible exact heap_alloc_new _ _) | (with_reducible apply blk_new; (repeat (first | (with_reducible rfl) | (with_reducible apply sz_set) | (with_reducible apply sz_alloc) | (with_reducible apply sz_drew))); done) | (with_reducible apply blk_same) | (with_reducible apply blk_ne; case hn => (first | assumption | omega)) | (with_reducible apply blk_old) | (with_reducible apply blk_drew))); (case h₂ => rfl))
                 · (apply Eq.trans; (case h₁ => repeat (first | (with_reducible assumption) | (with_reducible exact heap_alloc_new _ _) | (with_reducible apply blk_new; (repeat (first | (with_reducible rfl) | (with_reducible apply sz_set) | (with_reducible apply sz_alloc) | (with_reducible apply sz_drew))); done) | (with_reducible apply blk_same) | (with_reducible apply blk_ne; case hn => (first | assumption | omega)) | (with_reducible apply blk_old) | (with_reducible apply blk_drew))); (case h₂ => rfl))
                 · (repeat (first | (with_reducible exact o9.weaken (fun _ _ => False.elim)) | (with_reducible refine Only.drew ?_) | (with_reducible refine Only.alloc ?_ _) | (with_reducible refine onlyPut2 ?_ (by omega) _))))
              | (refine ⟨w9.heap.size, by with_reducible rfl, o9.size, ?_, ?_, ?_⟩
                 · (apply Eq.trans; (case h₁ => repeat (first | (with_reducible assumption) | (with_reducible exact heap_alloc_new _ _) | (with_reducible apply blk_new; (repeat (first | (with_reducible rfl) | (with_reducible apply sz_set) | (with_reducible apply sz_alloc) | (with_reducible apply sz_drew))); done) | (with_reducible apply blk_same) | (with_reducible apply blk_ne; case hn => (first | assumption | omega)) | (with_reducible apply blk_old) | (with_reducible apply blk_drew))); (case h₂ => rfl))
                 · (apply Eq.trans; (case h₁ => repeat (first | (with_reducible assumption) | (with_reducible exact heap_alloc_new _ _) | (with_reducible apply blk_new; (repeat (first | (with_reducible rfl) | (with_reducible apply sz_set) | (with_reducible apply sz_alloc) | (with_reducible apply sz_drew))); done) | (with_reducible apply blk_same) | (with_reducible apply blk_ne; case hn => (first | assumption | omega)) | (with_reducible apply blk_old) | (with_reducible apply blk_drew))); (case h₂ => rfl))
                 · (repeat (first | (with_reducible exact o9.weaken (fun _ _ => False.elim)) | (with_reducible refine Only.drew ?_) | (with_reducible refine Only.alloc ?_ _) | (with_reducible refine onlyPut2 ?_ (by omega) _))))
        case rest =>
        obtain ⟨B, rfl, hBs, hb0, hbB, ho⟩ := hcut
        have hb2 := ho.old H2.out (by omega)
        have hb3 := ho.old H3.out (by omega)
        have hoB := HOB.out.tr ho (fun j hj e => by have := HXW.out; omega)
        have hcc := HH.out.new hoB
        have hT1 : Sl wc 8 (.slice (some ⟨b, off, none⟩) i vcap) i ((L.take i).flatMap svcCs) := by
          have := hcc.take (m := i) (by omega)
          rwa [fl_take svcCs_length] at this
        have hT2 : Sl wc 8 (.slice (if vcap = i + 1 then some ⟨b, off, none⟩ else some ⟨b, off + (i + 1) * 8, none⟩) (L.length - (i + 1)) (vcap - (i + 1))) (L.length - (i + 1)) ((L.drop (i + 1)).flatMap svcCs) := by
          have := hcc.sliced (lo := i + 1) (by omega)
          rw [fl_drop svcCs_length] at this
          simpa [Addr.add_lit] using this
        have x5' : wc.cell? ⟨X, 5, none⟩ = some (.slice (some ⟨b, off, none⟩) L.length vcap) := cell_at hb0 5
        have hxlc : X < wc.heap.size := lt_of_block hb0
        have hBlc : B < wc.heap.size := lt_of_block hbB
        have HXC3 := Lib.hid (lt_of_block hb3)
        have hBX : ¬ B = X := by omega
        have hBz : ¬ (B = X + 1 ∨ B = X + 2) := by
          have := lt_of_block H3.out
          omega
        generalize hMQ : L.take i ++ L.drop (i + 1) = M at *
        have HMQ := Lib.hid hMQ.symm
        clear hMQ
        have hxf : ∀ i, wc.frozen? ⟨X, i, none⟩ = false := free_at hb0
        have L0 := Lib.hid hb0
        have L1 := Lib.hid hbB
        have L2 := Lib.hid hb2
        have L3 := Lib.hid hb3
        have HOB2 := Lib.hid hoB
        have HT1 := Lib.hid hT1
        have HT2 := Lib.hid hT2
        have HBX := Lib.hid hBX
        have HXC := Lib.hid hxlc
        have HBZ := Lib.hid hBz
        have HBS := Lib.hid hBs
        have HBL := Lib.hid hBlc
        clear hb0 hbB hb2 hb3 hoB hT1 hT2 hBX hxlc hBz hBs hBlc
        clear y0 y1 y2 y3 y4 y5 y6 y7 x0 x1 x2 x3 x4 x5 hxl hbl hcc ho H0 H2 H3 HS4
        have x5 := x5'
        clear x5'
        have hxl := HXC.out
        go_upto_region 9 with (fail)
        go_cut [8] (fun v8 wx => v8 = .pointer (some ⟨B, 0, none⟩) ∧ ∃ a9 cap9, wx.heap[X]? = some (.cells #[.int .i64 self, .int .u64 life, .int .u64 ((count : Int) + 1), .int .i64 every, .int .i64 now, .slice a9 M.length cap9] 72 (0, 0)) ∧ wx.heap[B]? = some (.cells #[.string (keyB self n), .int .u64 VER, .int .i64 self, .int .i64 0, .bool false, .string (dataB y.a0 y.a1 y.a2 y.a3 y.p y.q y.r)] 35 (0, 0)) ∧ Only (fun i => i = X) wc wx ∧ wx.ownsRow wc.heap.size 89 8 (.slice a9 M.length cap9) M.length (M.flatMap svcCs))
        case first =>
          have hT2 := HT2.out
          have e2 : (i : Int) + 1 ≤ (L.length : Int) := by omega
          have e3 : IntKind.i64.wrap ((i : Int) + 1) = (i : Int) + 1 := by rw [IntKind.wrap_i64]; omega
          have e4 : ((i : Int) + 1).toNat = i + 1 := by omega
          have e5 : (0 : Int) ≤ (i : Int) + 1 := by omega
          by_cases hcl : vcap = i + 1
          · rw [if_pos hcl] at hT2
            subst hcl
            rw [Nat.sub_self] at hT2
            have e8 : L.length - (i + 1) = 0 := by omega
            have e1 : (i : Int) ≤ (i : Int) + 1 := by omega
            have HU2 := Lib.hid hT2
            clear hT2
            go_region_law (first
              | (refine step_append_src rfl (.tmp 37) (.tmp 41) 70 70 rfl wc.heap.size 89 i0 _ 8 32 Tryd.underlying70 hi0 iz0 iz1 iz2 rfl (.slice (some ⟨wc.heap.size, 0, none⟩) 0 0) 0 [] rfl (own_at (by first | exact heapA _ _ _ rfl | exact heapB _ _ _ _ rfl | exact heapC _ _ _ _ rfl) _ _ (by omega)) _ i ((L.take i).flatMap svcCs) rfl ?src6 ?m6 ?b6 ?base6 ?_
                 case src6 => exact Sl.src Tryd.underlying70 (HT1.out.new (((Only.refl _ _).alloc _).drew)) (fl_one svcCs_one _)
                 case m6 => unfold maxLen; omega
                 case b6 => omega
                 case base6 => simp
                 intro v8 w8 own8 gr8 hv8
                 have ho8 : Only (fun _ => False) wc w8 := (((Only.refl _ _).alloc _).drew).grown gr8 (fun k e => .inl (hv8 k e))
                 have x58 : w8.cell? ⟨X, 5, none⟩ = some (.slice (some ⟨b, off, none⟩) L.length (i + 1)) := ho8.cell x5 id)
              | (refine step_append_src rfl (.tmp 42) (.tmp 47) 70 70 rfl wc.heap.size 89 i0 _ 8 32 Tryd.underlying70 hi0 iz0 iz1 iz2 rfl v8 (0 + i) _ rfl own8 _ (L.length - (i + 1)) ((L.drop (i + 1)).flatMap svcCs) rfl ?src7 ?m7 ?b7 ?base7 ?_
                 case src7 => exact Sl.src Tryd.underlying70 (by have h := HU2.out.new ho8; rw [e8] at h ⊢; exact h) (fl_one svcCs_one _)
                 case m7 => unfold maxLen; omega
                 case b7 => omega
                 case base7 => exact ho8.size
                 intro v9 w9 own9 gr9 hv9
                 have ho9 : Only (fun _ => False) wc w9 := ho8.grown gr9 (fun k e => .inl (hv9 k e))
                 obtain ⟨_, a9, cap9, rfl, _⟩ := Sl.of_owns own9
                 have hX9 := ho9.old L0.out id
                 have xf9 : ∀ i, w9.frozen? ⟨X, i, none⟩ = false := free_at hX9
                 have x59 : w9.cell? ⟨X, 5, none⟩ = some (.slice (some ⟨b, off, none⟩) L.length (i + 1)) := ho9.cell x5 id))
            all_goals (
              go_wp2_with fail
              go_meet
              have hX9 := ho9.old L0.out id
              have hln : M.length = i := by rw [HMQ.out]; simp; omega
              have hlc : M.flatMap svcCs = [] ++ (L.take i).flatMap svcCs ++ (L.drop (i + 1)).flatMap svcCs := by rw [HMQ.out, List.flatMap_append]; rfl
              have t9 : Only (fun i => i = X) w9 (w9.setCell ⟨X, 5, none⟩ (.slice a9 i cap9)) := (Only.refl _ _).setCell (S := fun i => i = X) (p := ⟨X, 5, none⟩) (.inr rfl) _
              rw [hln, hlc]
              refine ⟨rfl, a9, cap9, ?_, ?_, ?_, ?_⟩
              · exact set_at hX9 5 _
              · exact t9.old (ho9.old L1.out id) HBX.out
              · exact (ho9.weaken (fun _ _ => False.elim)).trans t9
              · exact owns_only (by simpa only [Nat.zero_add, e8, Nat.add_zero] using own9) t9 (fun k hk e => by have := HXC.out; omega))
          · rw [if_neg hcl] at hT2
            have e1 : (i : Int) ≤ (vcap : Int) := by omega
            have e6 : (L.length : Int) ≤ (vcap : Int) := by omega
            have HU2 := Lib.hid hT2
            clear hT2
            go_region_law (first
              | (refine step_append_src rfl (.tmp 37) (.tmp 41) 70 70 rfl wc.heap.size 89 i0 _ 8 32 Tryd.underlying70 hi0 iz0 iz1 iz2 rfl (.slice (some ⟨wc.heap.size, 0, none⟩) 0 0) 0 [] rfl (own_at (by first | exact heapA _ _ _ rfl | exact heapB _ _ _ _ rfl | exact heapC _ _ _ _ rfl) _ _ (by omega)) _ i ((L.take i).flatMap svcCs) rfl ?src6 ?m6 ?b6 ?base6 ?_
                 case src6 => exact Sl.src Tryd.underlying70 (HT1.out.new (((Only.refl _ _).alloc _).drew)) (fl_one svcCs_one _)
                 case m6 => unfold maxLen; omega
                 case b6 => omega
                 case base6 => simp
                 intro v8 w8 own8 gr8 hv8
                 have ho8 : Only (fun _ => False) wc w8 := (((Only.refl _ _).alloc _).drew).grown gr8 (fun k e => .inl (hv8 k e))
                 have x58 : w8.cell? ⟨X, 5, none⟩ = some (.slice (some ⟨b, off, none⟩) L.length vcap) := ho8.cell x5 id)
              | (refine step_append_src rfl (.tmp 42) (.tmp 47) 70 70 rfl wc.heap.size 89 i0 _ 8 32 Tryd.underlying70 hi0 iz0 iz1 iz2 rfl v8 (0 + i) _ rfl own8 _ (L.length - (i + 1)) ((L.drop (i + 1)).flatMap svcCs) rfl ?src7 ?m7 ?b7 ?base7 ?_
                 case src7 => exact Sl.src Tryd.underlying70 (HU2.out.new ho8) (fl_one svcCs_one _)
                 case m7 => unfold maxLen; omega
                 case b7 => omega
                 case base7 => exact ho8.size
                 intro v9 w9 own9 gr9 hv9
                 have ho9 : Only (fun _ => False) wc w9 := ho8.grown gr9 (fun k e => .inl (hv9 k e))
                 obtain ⟨_, a9, cap9, rfl, _⟩ := Sl.of_owns own9
                 have hX9 := ho9.old L0.out id
                 have xf9 : ∀ i, w9.frozen? ⟨X, i, none⟩ = false := free_at hX9
                 have x59 : w9.cell? ⟨X, 5, none⟩ = some (.slice (some ⟨b, off, none⟩) L.length vcap) := ho9.cell x5 id))
            all_goals (
              go_wp2_with fail
              go_meet
              have hX9 := ho9.old L0.out id
              have hln : M.length = i + (L.length - (i + 1)) := by rw [HMQ.out]; simp; omega
              have hlc : M.flatMap svcCs = [] ++ (L.take i).flatMap svcCs ++ (L.drop (i + 1)).flatMap svcCs := by rw [HMQ.out, List.flatMap_append]; rfl
              have t9 : Only (fun i => i = X) w9 (w9.setCell ⟨X, 5, none⟩ (.slice a9 (i + (L.length - (i + 1))) cap9)) := (Only.refl _ _).setCell (S := fun i => i = X) (p := ⟨X, 5, none⟩) (.inr rfl) _
              rw [hln, hlc]
              refine ⟨rfl, a9, cap9, ?_, ?_, ?_, ?_⟩
              · exact set_at hX9 5 _
              · exact t9.old (ho9.old L1.out id) HBX.out
              · exact (ho9.weaken (fun _ _ => False.elim)).trans t9
              · exact owns_only (by simpa only [Nat.zero_add] using own9) t9 (fun k hk e => by have := HXC.out; omega))
        case rest =>
        obtain ⟨rfl, a9, cap9, hb0, hbB, ho9, own9⟩ := hcut
        have hb2 := ho9.old L2.out (by omega)
        have hb3 := ho9.old L3.out (by omega)
        have hoC := HOB2.out.tr ho9 (fun j hj e => by have := HXW.out; omega)
        have bf : ∀ i, wc.frozen? ⟨B, i, none⟩ = false := free_at hbB
        have q0 : wc.cell? ⟨B, 0, none⟩ = some (.string (keyB self n)) := cell_at hbB 0
        have q1 : wc.cell? ⟨B, 1, none⟩ = some (.int .u64 VER) := cell_at hbB 1
        have q2 : wc.cell? ⟨B, 2, none⟩ = some (.int .i64 self) := cell_at hbB 2
        have q3 : wc.cell? ⟨B, 3, none⟩ = some (.int .i64 0) := cell_at hbB 3
        have q4 : wc.cell? ⟨B, 4, none⟩ = some (.bool false) := cell_at hbB 4
        have q5 : wc.cell? ⟨B, 5, none⟩ = some (.string (dataB y.a0 y.a1 y.a2 y.a3 y.p y.q y.r)) := cell_at hbB 5
        have hBl := lt_of_block hbB
        have N0 := Lib.hid hb0
        have N1 := Lib.hid hbB
        have N2 := Lib.hid hb2
        have N3 := Lib.hid hb3
        have HOC := Lib.hid hoC
        have OWN9 := Lib.hid own9
        clear hb0 hbB hb2 hb3 hoC own9
        clear ho9 L0 L1 L2 L3 x5 hxl hxf HT1 HT2
        go_upto_region 11 with (fail)
        obtain ⟨wz, hwz⟩ : ∃ wz, wz = (wc.setCell ⟨B, 4, none⟩ (.bool true)).setCell ⟨B, 5, none⟩ (.string ⟨#[]⟩) := ⟨_, rfl⟩
        have hbB : wz.heap[B]? = some (.cells #[.string (keyB self n), .int .u64 VER, .int .i64 self, .int .i64 0, .bool true, .string ⟨#[]⟩] 35 (0, 0)) := by rw [hwz]; exact set_at (set_at N1.out 4 _) 5 _
        have tz : Only (fun i => i = B) wc wz := by rw [hwz]; exact ((Only.refl _ _).setCell (S := fun i => i = B) (p := ⟨B, 4, none⟩) (.inr rfl) _).setCell (S := fun i => i = B) (p := ⟨B, 5, none⟩) (.inr rfl) _
        have hXB : ¬ X = B := fun e => HBX.out e.symm
        have hzB1 : ¬ X + 1 = B := fun e => HBZ.out (.inl e.symm)
        have hzB2 : ¬ X + 2 = B := fun e => HBZ.out (.inr e.symm)
        have hb0 := tz.old N0.out hXB
        have hb2 := tz.old N2.out hzB1
        have hb3 := tz.old N3.out hzB2
        have hBs := HBS.out
        have hBl := HBL.out
        have hoD := HOC.out.tr tz (fun j hj e => by have h1 := HXW.out; have h2 := HOB.out.size; omega)
        have ownz := owns_only OWN9.out tz (fun k hk e => by omega)
        rw [← hwz]
        clear hwz q0 q1 q2 q3 q4 q5 bf
        have hnX : ¬ (X = X + 1 ∨ X = X + 2) := by omega
        have hnB := HBZ.out
        have x0 : wz.cell? ⟨X, 0, none⟩ = some (.int .i64 self) := cell_at hb0 0
        have x1 : wz.cell? ⟨X, 1, none⟩ = some (.int .u64 life) := cell_at hb0 1
        have x2 : wz.cell? ⟨X, 2, none⟩ = some (.int .u64 ((count : Int) + 1)) := cell_at hb0 2
        have x3 : wz.cell? ⟨X, 3, none⟩ = some (.int .i64 every) := cell_at hb0 3
        have x4 : wz.cell? ⟨X, 4, none⟩ = some (.int .i64 now) := cell_at hb0 4
        have x5 : wz.cell? ⟨X, 5, none⟩ = some (.slice a9 M.length cap9) := cell_at hb0 5
        have q0 : wz.cell? ⟨B, 0, none⟩ = some (.string (keyB self n)) := cell_at hbB 0
        have q1 : wz.cell? ⟨B, 1, none⟩ = some (.int .u64 VER) := cell_at hbB 1
        have q2 : wz.cell? ⟨B, 2, none⟩ = some (.int .i64 self) := cell_at hbB 2
        have q3 : wz.cell? ⟨B, 3, none⟩ = some (.int .i64 0) := cell_at hbB 3
        have q4 : wz.cell? ⟨B, 4, none⟩ = some (.bool true) := cell_at hbB 4
        have q5 : wz.cell? ⟨B, 5, none⟩ = some (.string ⟨#[]⟩) := cell_at hbB 5
        have za0 : wz.cell? ⟨(X + 1), 0, none⟩ = some (.int .i64 0) := cell_at hb2 0
        have za1 : wz.cell? ⟨(X + 1), 1, none⟩ = some (.int .u64 0) := cell_at hb2 1
        have za2 : wz.cell? ⟨(X + 1), 2, none⟩ = some (.int .u64 0) := cell_at hb2 2
        have za3 : wz.cell? ⟨(X + 1), 3, none⟩ = some (.int .i64 0) := cell_at hb2 3
        have za4 : wz.cell? ⟨(X + 1), 4, none⟩ = some (.int .i64 0) := cell_at hb2 4
        have za5 : wz.cell? ⟨(X + 1), 5, none⟩ = some (.slice none 0 0) := cell_at hb2 5
        have zb0 : wz.cell? ⟨(X + 2), 0, none⟩ = some (.string ⟨#[]⟩) := cell_at hb3 0
        have zb1 : wz.cell? ⟨(X + 2), 1, none⟩ = some (.int .u64 0) := cell_at hb3 1
        have zb2 : wz.cell? ⟨(X + 2), 2, none⟩ = some (.int .i64 0) := cell_at hb3 2
        have zb3 : wz.cell? ⟨(X + 2), 3, none⟩ = some (.int .i64 0) := cell_at hb3 3
        have zb4 : wz.cell? ⟨(X + 2), 4, none⟩ = some (.bool false) := cell_at hb3 4
        have zb5 : wz.cell? ⟨(X + 2), 5, none⟩ = some (.string ⟨#[]⟩) := cell_at hb3 5
        have zaf : ∀ i, wz.frozen? ⟨X + 1, i, none⟩ = false := free_at hb2
        have zbf : ∀ i, wz.frozen? ⟨X + 2, i, none⟩ = false := free_at hb3
        have HCC := Lib.hid (show ∀ w', Only (fun i => i = X + 1 ∨ i = X + 2) wz w' → w'.cell? ⟨X, 0, none⟩ = some (.int .i64 self) ∧ w'.cell? ⟨X, 1, none⟩ = some (.int .u64 life) ∧ w'.cell? ⟨X, 2, none⟩ = some (.int .u64 ((count : Int) + 1)) ∧ w'.cell? ⟨X, 3, none⟩ = some (.int .i64 every) ∧ w'.cell? ⟨X, 4, none⟩ = some (.int .i64 now) ∧ w'.cell? ⟨X, 5, none⟩ = some (.slice a9 M.length cap9) ∧ w'.cell? ⟨B, 0, none⟩ = some (.string (keyB self n)) ∧ w'.cell? ⟨B, 1, none⟩ = some (.int .u64 VER) ∧ w'.cell? ⟨B, 2, none⟩ = some (.int .i64 self) ∧ w'.cell? ⟨B, 3, none⟩ = some (.int .i64 0) ∧ w'.cell? ⟨B, 4, none⟩ = some (.bool true) ∧ w'.cell? ⟨B, 5, none⟩ = some (.string ⟨#[]⟩) from fun w' h => ⟨h.cell x0 hnX, h.cell x1 hnX, h.cell x2 hnX, h.cell x3 hnX, h.cell x4 hnX, h.cell x5 hnX, h.cell q0 hnB, h.cell q1 hnB, h.cell q2 hnB, h.cell q3 hnB, h.cell q4 hnB, h.cell q5 hnB⟩)
        clear x0 q0 x1 q1 x2 q2 x3 q3 x4 q4 x5 q5
        have hne1 : ¬ X + 1 = X + 2 := by omega
        have hne2 : ¬ X + 2 = X + 1 := by omega
        have O2 := Lib.hid hb2
        have O3 := Lib.hid hb3
        have OWNZ := Lib.hid ownz
        have HOBB := Lib.hid hoD
        clear hb2 hb3 ownz hoD
        go_cut [6] (fun v6 wx => v6 = .int .i64 0 ∧ wx.heap[X + 1]? = some (.cells #[.int .i64 self, .int .u64 life, .int .u64 ((count : Int) + 1), .int .i64 every, .int .i64 now, .slice a9 M.length cap9] 72 (0, 0)) ∧ wx.heap[X + 2]? = some (.cells #[.string (keyB self n), .int .u64 VER, .int .i64 self, .int .i64 0, .bool true, .string ⟨#[]⟩] 35 (0, 0)) ∧ Only (fun i => i = X + 1 ∨ i = X + 2) wz wx)
        case first =>
          have hb2 := O2.out
          have hb3 := O3.out
          go_region_held3 (fun w' => Only (fun i => i = X + 1 ∨ i = X + 2) wz w' ∧ w'.cell? ⟨X, 0, none⟩ = some (.int .i64 self) ∧ w'.cell? ⟨X, 1, none⟩ = some (.int .u64 life) ∧ w'.cell? ⟨X, 2, none⟩ = some (.int .u64 ((count : Int) + 1)) ∧ w'.cell? ⟨X, 3, none⟩ = some (.int .i64 every) ∧ w'.cell? ⟨X, 4, none⟩ = some (.int .i64 now) ∧ w'.cell? ⟨X, 5, none⟩ = some (.slice a9 M.length cap9) ∧ w'.cell? ⟨B, 0, none⟩ = some (.string (keyB self n)) ∧ w'.cell? ⟨B, 1, none⟩ = some (.int .u64 VER) ∧ w'.cell? ⟨B, 2, none⟩ = some (.int .i64 self) ∧ w'.cell? ⟨B, 3, none⟩ = some (.int .i64 0) ∧ w'.cell? ⟨B, 4, none⟩ = some (.bool true) ∧ w'.cell? ⟨B, 5, none⟩ = some (.string ⟨#[]⟩))
            ((go_split_ands; (refine heldAB HCC.out ?_); (repeat (first | (with_reducible assumption) | (with_reducible exact Only.refl _ _) | (with_reducible refine Only.drew ?_) | (with_reducible refine Only.alloc ?_ _) | (with_reducible refine onlySetAB ?_ (by omega) _)))))
            (fail)
          all_goals
            go_split_ands
            go_wp2_with fail
            go_meet
            refine ⟨rfl, ?_, ?_, ?_⟩
            · (apply Eq.trans; (case h₁ => repeat (first | (with_reducible assumption) | (with_reducible exact heap_alloc_new _ _) | (with_reducible apply blk_new; (repeat (first | (with_reducible rfl) | (with_reducible apply sz_set) | (with_reducible apply sz_alloc) | (with_reducible apply sz_drew))); done) | (with_reducible apply blk_same) | (with_reducible apply blk_ne; case hn => (first | assumption | omega)) | (with_reducible apply blk_old) | (with_reducible apply blk_drew))); (case h₂ => rfl))
            · (apply Eq.trans; (case h₁ => repeat (first | (with_reducible assumption) | (with_reducible exact heap_alloc_new _ _) | (with_reducible apply blk_new; (repeat (first | (with_reducible rfl) | (with_reducible apply sz_set) | (with_reducible apply sz_alloc) | (with_reducible apply sz_drew))); done) | (with_reducible apply blk_same) | (with_reducible apply blk_ne; case hn => (first | assumption | omega)) | (with_reducible apply blk_old) | (with_reducible apply blk_drew))); (case h₂ => rfl))
            · (repeat (first | (with_reducible assumption) | (with_reducible exact Only.refl _ _) | (with_reducible refine Only.drew ?_) | (with_reducible refine Only.alloc ?_ _) | (with_reducible refine onlySetAB ?_ (by omega) _)))
        case rest =>
        obtain ⟨rfl, e1, e2, ho⟩ := hcut
        clear za0 za1 za2 za3 za4 za5 zb0 zb1 zb2 zb3 zb4 zb5 zaf zbf
        have o0 : wc.cell? ⟨(X + 1), 0, none⟩ = some (.int .i64 self) := cell_at e1 0
        have o1 : wc.cell? ⟨(X + 1), 1, none⟩ = some (.int .u64 life) := cell_at e1 1
        have o2 : wc.cell? ⟨(X + 1), 2, none⟩ = some (.int .u64 ((count : Int) + 1)) := cell_at e1 2
        have o3 : wc.cell? ⟨(X + 1), 3, none⟩ = some (.int .i64 every) := cell_at e1 3
        have o4 : wc.cell? ⟨(X + 1), 4, none⟩ = some (.int .i64 now) := cell_at e1 4
        have o5 : wc.cell? ⟨(X + 1), 5, none⟩ = some (.slice a9 M.length cap9) := cell_at e1 5
        have r0 : wc.cell? ⟨(X + 2), 0, none⟩ = some (.string (keyB self n)) := cell_at e2 0
        have r1 : wc.cell? ⟨(X + 2), 1, none⟩ = some (.int .u64 VER) := cell_at e2 1
        have r2 : wc.cell? ⟨(X + 2), 2, none⟩ = some (.int .i64 self) := cell_at e2 2
        have r3 : wc.cell? ⟨(X + 2), 3, none⟩ = some (.int .i64 0) := cell_at e2 3
        have r4 : wc.cell? ⟨(X + 2), 4, none⟩ = some (.bool true) := cell_at e2 4
        have r5 : wc.cell? ⟨(X + 2), 5, none⟩ = some (.string ⟨#[]⟩) := cell_at e2 5
        go_wp2_with fail
        refine bodyPost_ret (v := .tuple #[.agg #[.int .i64 self, .int .u64 life, .int .u64 ((count : Int) + 1), .int .i64 every, .int .i64 now, .slice a9 M.length cap9], .agg #[.string (keyB self n), .int .u64 VER, .int .i64 self, .int .i64 0, .bool true, .string ⟨#[]⟩], .int .i64 0]) (by simp [results, Tryd.results31, go_sem, o0, o1, o2, o3, o4, o5, r0, r1, r2, r3, r4, r5]) rfl ?_
        have hfin := HOBB.out.tr ho (fun i hi e => by have := HXW.out; omega)
        have hdl := HDL.out
        refine HYES.out _ (.slice a9 M.length cap9) HE0.out hfin ?_
        rw [hdl]
        exact Sl.of_owns (owns_only OWNZ.out ho (fun k hk e => by have := HXC3.out; omega))
end Go.Proofs.YtianboachknfmaaDoor
/-! bellhopref26: Tick. -/
namespace Go.Proofs.YtianboachknfmaaDoor
open Go.Conc Go.RowKit Go.Maps

/-- How many are told anew. -/
def tickN (k : KeepT) : Nat := if tickD k then min k.own.length (4294967295 - k.count) else 0
theorem tickK_count {k : KeepT} (hc : k.count ≤ 4294967295) : (tickK k).count = k.count + tickN k := by
  unfold tickK tickN
  cases tickD k
  · rfl
  · show k.count + (tellRs k.self k.life k.count k.own).length = _
    rw [(tellRs_take k.self k.life k.own k.count hc).1]
    rfl
theorem tickL_get {k : KeepT} (hc : k.count ≤ 4294967295) : tickL k = (List.range (tickN k)).map (fun i => madeR k.self k.life (k.count + 1 + i) (k.own.getD i zeroW)) := by
  unfold tickL tickN
  cases tickD k
  · rfl
  · exact tellRs_get k.self k.life k.own k.count _ hc rfl
def RTickP (w w' : World) (k : KeepT) (now : Int) (v : Value) (e : Ending) : Prop :=
  ∃ vr, e = .returned (.tuple #[rkV k.self k.life (tickK k).count k.every (now + 1) v, vr]) ∧ Only (fun _ => False) w w' ∧ RRow w' w.heap.size vr (tickL k)
set_option maxRecDepth 100000 in
set_option maxHeartbeats 4000000 in
theorem rtickW_any (w : World) (k : KeepT) (hk : KeepOk k) (now : Int) (v : Value) (h : VSl w v k.own) (hn0 : 0 ≤ now) (hn1 : now ≤ 1000) (hnt : k.tick = now % k.every) :
    Calls Tryd.prog 34 #[rkV k.self k.life k.count k.every now v] w fun e w' => RTickP w w' k now v e := by
  obtain ⟨j0, hj0, jz0, jz1, jz2⟩ := info_parts infoRRec
  have hc := Nat.le_of_lt_succ hk.countB
  have HK := Lib.hid (tickK_count hc)
  have HL := Lib.hid (tickL_get hc)
  obtain ⟨va, vcap, rfl, h1, h2, h3⟩ := Sl.cells svcCs_length h
  unfold maxLen at h2
  have HP := Lib.hid (show ∀ (w' : World) vr, Only (fun _ => False) w w' → RRow w' w.heap.size vr ((List.range (tickN k)).map (fun i => madeR k.self k.life (k.count + 1 + i) (k.own.getD i zeroW))) → RTickP w w' k now (.slice va k.own.length vcap) (.returned (.tuple #[rkV k.self k.life (k.count + tickN k) k.every (now + 1) (.slice va k.own.length vcap), vr])) from fun w' vr ho hr => by
    refine ⟨vr, ?_, ho, ?_⟩
    · rw [HK.out]
    · rw [HL.out]; exact hr)
  have HD := Lib.hid (show tickD k = decide ((now + 1) % k.every = 0) by
    unfold tickD
    rw [hnt]
    congr 1
    rw [Int.emod_add_emod])
  have HTN := Lib.hid (show tickN k = if tickD k then min k.own.length (4294967295 - k.count) else 0 from rfl)
  have HMD := Lib.hid (fun w a len cap c s hs hc => rmadeV_any w k.self k.life c k.every (now + 1) a len cap s hk.selfB.1 hk.selfB.2 hk.lifeB.2 hc hs)
  have HSV := Lib.hid (fun x hx => (hk.names x hx).2)
  have HSN := Lib.hid (fun j hj => madeL_snocW k.self k.life k.own k.count j hj)
  obtain ⟨hev1, hev2⟩ := hk.everyB
  have hroom := hk.room
  clear hk hnt
  obtain ⟨self, life, count, every, tick, L⟩ := k
  simp only at HP HD HTN HMD HSV HSN h h1 h2 h3 hev1 hev2 hroom hc ⊢
  generalize tickN ⟨self, life, count, every, tick, L⟩ = TN at *
  generalize tickD ⟨self, life, count, every, tick, L⟩ = TD at *
  unfold rkV at HMD HP ⊢
  unfold svcT recT madeR at HMD
  dsimp only at HMD
  obtain ⟨W1, hW1⟩ : ∃ W1, W1 = w.alloc (.cells #[.int .i64 self, .int .u64 life, .int .u64 count, .int .i64 every, .int .i64 now, .slice va L.length vcap] 72) := ⟨_, rfl⟩
  have hbW1 : W1.heap[w.heap.size]? = some (.cells #[.int .i64 self, .int .u64 life, .int .u64 count, .int .i64 every, .int .i64 now, .slice va L.length vcap] 72 (0, 0)) := by rw [hW1]; exact heap_alloc_new w _
  have hoW1 : Only (fun _ => False) w W1 := by rw [hW1]; exact (Only.refl _ _).alloc _
  have hsW1 : W1.heap.size = w.heap.size + 1 := by rw [hW1]; simp
  obtain ⟨W2, hW2⟩ : ∃ W2, W2 = W1.alloc (.cells #[.int .i64 0, .int .u64 0, .int .u64 0, .int .i64 0, .int .i64 0, .slice none 0 0] 72) := ⟨_, rfl⟩
  have hbW2 : W2.heap[W1.heap.size]? = some (.cells #[.int .i64 0, .int .u64 0, .int .u64 0, .int .i64 0, .int .i64 0, .slice none 0 0] 72 (0, 0)) := by rw [hW2]; exact heap_alloc_new W1 _
  have hoW2 : Only (fun _ => False) W1 W2 := by rw [hW2]; exact (Only.refl _ _).alloc _
  have hsW2 : W2.heap.size = W1.heap.size + 1 := by rw [hW2]; simp
  have b0 := hoW2.old hbW1 id
  have hoA := hoW1.trans hoW2
  have hsX : W1.heap.size = w.heap.size + 1 ∧ W2.heap.size = w.heap.size + 2 := by omega
  rw [hsX.1] at hbW2
  have hsX2 := hsX.2
  have hcb : count < 4294967296 := by omega
  have HC := Lib.hid h3
  have HH := Lib.hid h
  have H0 := Lib.hid b0
  have H1 := Lib.hid hbW2
  have HOA := Lib.hid hoA
  have HCC := Lib.hid hc
  clear h3 h b0 hbW2 hoA hc
  clear hbW1 hoW1 hoW2 hsW1 hsW2 hsX
  go_enter Tryd.func34, Tryd.ntmps34
  go_upto_region 1 with (fail)
  rw [← hW1, ← hW2]
  clear hW1 hW2
  generalize hX : w.heap.size = X at *
  have HXW := Lib.hid hX
  clear hX
  have x0 : W2.cell? ⟨X, 0, none⟩ = some (.int .i64 self) := cell_at H0.out 0
  have x1 : W2.cell? ⟨X, 1, none⟩ = some (.int .u64 life) := cell_at H0.out 1
  have x2 : W2.cell? ⟨X, 2, none⟩ = some (.int .u64 count) := cell_at H0.out 2
  have x3 : W2.cell? ⟨X, 3, none⟩ = some (.int .i64 every) := cell_at H0.out 3
  have x4 : W2.cell? ⟨X, 4, none⟩ = some (.int .i64 now) := cell_at H0.out 4
  have x5 : W2.cell? ⟨X, 5, none⟩ = some (.slice va L.length vcap) := cell_at H0.out 5
  have xf : ∀ i, W2.frozen? ⟨X, i, none⟩ = false := free_at H0.out
  go_upto_region 2 with (fail)
  obtain ⟨V, hV⟩ : ∃ V, V = W2.setCell ⟨X, 4, none⟩ (.int .i64 (now + 1)) := ⟨_, rfl⟩
  have hb0 : V.heap[X]? = some (.cells #[.int .i64 self, .int .u64 life, .int .u64 count, .int .i64 every, .int .i64 (now + 1), .slice va L.length vcap] 72 (0, 0)) := by rw [hV]; exact set_at H0.out 4 _
  have tV : Only (fun i => i = X) W2 V := by rw [hV]; exact (Only.refl _ _).setCell (S := fun i => i = X) (p := ⟨X, 4, none⟩) (.inr rfl) _
  have hb1 := tV.old H1.out (by omega)
  have hVs : V.heap.size = X + 2 := by rw [hV]; simp; omega
  rw [← hV]
  have hoV := HOA.out.tr tV (fun j hj e => by have := HXW.out; omega)
  clear hV x0 x1 x2 x3 x4 x5 xf tV H0 H1
  generalize hNW : now + 1 = nw at *
  have hnw0 : 0 ≤ nw := by omega
  have hnw1 : nw ≤ 1001 := by omega
  have hkn0 : ¬ every = 0 := by omega
  have H0 := Lib.hid hb0
  have H1 := Lib.hid hb1
  have HOV := Lib.hid hoV
  have HVS := Lib.hid hVs
  have HNW := Lib.hid hNW
  clear hb0 hb1 hoV hVs hNW
  go_upto_block 0 with fail
  go_cut [4] (fun v4 wx => ∃ c : Nat, c = count + TN ∧ wx.heap[X]? = some (.cells #[.int .i64 self, .int .u64 life, .int .u64 c, .int .i64 every, .int .i64 nw, .slice va L.length vcap] 72 (0, 0)) ∧ Only (fun i => i = X) V wx ∧ RRow wx V.heap.size v4 ((List.range TN).map (fun i => madeR self life (count + 1 + i) (L.getD i zeroW))))
  case first =>
    go_wp2_with fail
    go_loopg [4, 5] L.length (fun g v4 v5 wr => ∃ j : Nat, v5 = .int .i64 j ∧ j ≤ L.length ∧ count + j ≤ 4294967295 ∧ (0 < j → TD = true) ∧ wr.heap[X]? = some (.cells #[.int .i64 self, .int .u64 life, .int .u64 ((count + j : Nat) : Int), .int .i64 every, .int .i64 nw, .slice va L.length vcap] 72 (0, 0)) ∧ Only (fun i => i = X) V wr ∧ RRow wr V.heap.size v4 ((List.range j).map (fun i => madeR self life (count + 1 + i) (L.getD i zeroW))) ∧ g = L.length - j)
    case atStart => exact ⟨0, rfl, Nat.zero_le _, HCC.out, fun h => absurd h (Nat.lt_irrefl 0), H0.out, Only.refl _ _, World.ownsRow_nil _ _ _ _, rfl⟩
    case round =>
      obtain ⟨j, rfl, hj, hcj, hjt, hb, ho, hrow, hg⟩ := hrel
      have Hg := Lib.hid hg
      have HO := Lib.hid ho
      have HROW := Lib.hid hrow
      have HJT := Lib.hid hjt
      have HB := Lib.hid hb
      clear hg ho hrow hjt hb
      have x2 : wr.cell? ⟨X, 2, none⟩ = some (.int .u64 ((count + j : Nat) : Int)) := cell_at HB.out 2
      have x3 : wr.cell? ⟨X, 3, none⟩ = some (.int .i64 every) := cell_at HB.out 3
      have x4 : wr.cell? ⟨X, 4, none⟩ = some (.int .i64 nw) := cell_at HB.out 4
      have x5 : wr.cell? ⟨X, 5, none⟩ = some (.slice va L.length vcap) := cell_at HB.out 5
      have hHF : j = TN → (∃ c : Nat, c = count + TN ∧ wr.heap[X]? = some (.cells #[.int .i64 self, .int .u64 life, .int .u64 c, .int .i64 every, .int .i64 nw, .slice va L.length vcap] 72 (0, 0)) ∧ Only (fun i => i = X) V wr ∧ RRow wr V.heap.size u4 ((List.range TN).map (fun i => madeR self life (count + 1 + i) (L.getD i zeroW)))) := fun e => ⟨count + j, by rw [e], HB.out, HO.out, by rw [← e]; exact HROW.out⟩
      have HF := Lib.hid hHF
      clear hHF
      generalize hcje : count + j = cj at *
      cases TD
      · -- no
        have hd : ¬ nw % every = 0 := of_decide_eq_false HD.out.symm
        have hj0 : j = TN := by rw [HTN.out]; rcases Nat.eq_zero_or_pos j with h | h; exact h; exact absurd (HJT.out h) (by simp)
        clear hj hcj hcb
        go_wp2_with fail
        go_meet
        exact HF.out hj0
      · have hd : nw % every = 0 := of_decide_eq_true HD.out.symm
        by_cases hlt : j < L.length
        · have hlt' : (j : Int) < (L.length : Int) := by omega
          have HJE0 := Lib.hid hcje
          clear hcje
          by_cases hfull : cj = 4294967295
          · -- spent
            have hj0 : j = TN := by have := HJE0.out; rw [HTN.out, if_pos rfl]; omega
            have x2' : wr.cell? ⟨X, 2, none⟩ = some (.int .u64 4294967295) := by rw [x2, hfull]; rfl
            clear hj hcj hcb hfull x2
            go_wp2_with fail
            go_meet
            exact HF.out hj0
          · have hcd : decide ((cj : Int) < 4294967295) = true := decide_eq_true (by omega)
            have hcl : cj < 4294967295 := by omega
            obtain ⟨lb, off, he, hcc⟩ := HC.out.at j hlt
            subst he
            have hwr := HOV.out.tr HO.out (fun i hi e => by have := HXW.out; omega)
            have hcr : ∀ i u, (svcCs L[j])[i]? = some u → wr.cell? ⟨lb, off + j * 8 + i, none⟩ = some u := fun i u hu => hwr.cell (hcc i u hu) id
            have hts := HSN.out j hlt
            rw [HJE0.out] at hts
            have hsv := HSV.out L[j] (List.getElem_mem hlt)
            generalize L[j] = y at *
            have y0 := hcr 0 _ rfl
            have y1 := hcr 1 _ rfl
            have y2 := hcr 2 _ rfl
            have y3 := hcr 3 _ rfl
            have y4 := hcr 4 _ rfl
            have y5 := hcr 5 _ rfl
            have y6 := hcr 6 _ rfl
            have y7 := hcr 7 _ rfl
            simp only [Nat.add_zero] at y0
            have HMM := Lib.hid (fun w' => HMD.out w' (some ⟨lb, off, none⟩) L.length vcap cj y hsv hcl)
            have HMR := Lib.hid (show madeR self life (cj + 1) y = ⟨keyB self y.name, life * 4294967296 + (cj + 1), self, 0, false, dataB y.a0 y.a1 y.a2 y.a3 y.p y.q y.r⟩ from rfl)
            generalize life * 4294967296 + (cj + 1) = VER at *
            have x0 : wr.cell? ⟨X, 0, none⟩ = some (.int .i64 self) := cell_at HB.out 0
            have x1 : wr.cell? ⟨X, 1, none⟩ = some (.int .u64 life) := cell_at HB.out 1
            have hjp : (0 : Int) ≤ (j : Int) := by omega
            have hj8 : j ≤ 8 := by omega
            have HTS := Lib.hid hts
            have HCL := Lib.hid hcl
            clear hts hcl
            clear hcc hcr hwr hsv hj hcj hcb hfull
            go_upto_region 6 with (fail)
            have HCC2 := Lib.hid (show ∀ w', Only (fun _ => False) wr w' → w'.cell? ⟨X, 0, none⟩ = some (.int .i64 self) ∧ w'.cell? ⟨X, 1, none⟩ = some (.int .u64 life) ∧ w'.cell? ⟨X, 2, none⟩ = some (.int .u64 (cj : Int)) ∧ w'.cell? ⟨X, 3, none⟩ = some (.int .i64 every) ∧ w'.cell? ⟨X, 4, none⟩ = some (.int .i64 nw) ∧ w'.cell? ⟨X, 5, none⟩ = some (.slice (some ⟨lb, off, none⟩) L.length vcap) ∧ w'.cell? ⟨lb, off + j * 8, none⟩ = some (.string y.name) ∧ w'.cell? ⟨lb, off + j * 8 + 1, none⟩ = some (.int .u8 y.a0) ∧ w'.cell? ⟨lb, off + j * 8 + 2, none⟩ = some (.int .u8 y.a1) ∧ w'.cell? ⟨lb, off + j * 8 + 3, none⟩ = some (.int .u8 y.a2) ∧ w'.cell? ⟨lb, off + j * 8 + 4, none⟩ = some (.int .u8 y.a3) ∧ w'.cell? ⟨lb, off + j * 8 + 5, none⟩ = some (.int .u16 y.p) ∧ w'.cell? ⟨lb, off + j * 8 + 6, none⟩ = some (.int .u16 y.q) ∧ w'.cell? ⟨lb, off + j * 8 + 7, none⟩ = some (.int .u16 y.r) from fun w' h => ⟨h.cell x0 id, h.cell x1 id, h.cell x2 id, h.cell x3 id, h.cell x4 id, h.cell x5 id, h.cell y0 id, h.cell y1 id, h.cell y2 id, h.cell y3 id, h.cell y4 id, h.cell y5 id, h.cell y6 id, h.cell y7 id⟩)
            clear x0 x1 x2 x3 x4 x5 y0 y1 y2 y3 y4 y5 y6 y7 hcd
            go_cut [6, 7] (fun v6 v7 wx => ∃ K B, v6 = .pointer (some ⟨K, 0, none⟩) ∧ v7 = .pointer (some ⟨B, 0, none⟩) ∧ wx.heap[K]? = some (.cells #[.int .i64 self, .int .u64 life, .int .u64 ((cj : Int) + 1), .int .i64 every, .int .i64 nw, .slice (some ⟨lb, off, none⟩) L.length vcap] 72 (0, 0)) ∧ wx.heap[B]? = some (.cells #[.string (keyB self y.name), .int .u64 VER, .int .i64 self, .int .i64 0, .bool false, .string (dataB y.a0 y.a1 y.a2 y.a3 y.p y.q y.r)] 35 (0, 0)) ∧ wr.heap.size ≤ K ∧ wr.heap.size ≤ B ∧ Only (fun _ => False) wr wx)
            case first =>
              go_region_held3 (fun w' => Only (fun _ => False) wr w' ∧ w'.cell? ⟨X, 0, none⟩ = some (.int .i64 self) ∧ w'.cell? ⟨X, 1, none⟩ = some (.int .u64 life) ∧ w'.cell? ⟨X, 2, none⟩ = some (.int .u64 (cj : Int)) ∧ w'.cell? ⟨X, 3, none⟩ = some (.int .i64 every) ∧ w'.cell? ⟨X, 4, none⟩ = some (.int .i64 nw) ∧ w'.cell? ⟨X, 5, none⟩ = some (.slice (some ⟨lb, off, none⟩) L.length vcap) ∧ w'.cell? ⟨lb, off + j * 8, none⟩ = some (.string y.name) ∧ w'.cell? ⟨lb, off + j * 8 + 1, none⟩ = some (.int .u8 y.a0) ∧ w'.cell? ⟨lb, off + j * 8 + 2, none⟩ = some (.int .u8 y.a1) ∧ w'.cell? ⟨lb, off + j * 8 + 3, none⟩ = some (.int .u8 y.a2) ∧ w'.cell? ⟨lb, off + j * 8 + 4, none⟩ = some (.int .u8 y.a3) ∧ w'.cell? ⟨lb, off + j * 8 + 5, none⟩ = some (.int .u16 y.p) ∧ w'.cell? ⟨lb, off + j * 8 + 6, none⟩ = some (.int .u16 y.q) ∧ w'.cell? ⟨lb, off + j * 8 + 7, none⟩ = some (.int .u16 y.r))
                ((go_split_ands; (refine heldO HCC2.out ?_); (repeat (first | (with_reducible assumption) | (with_reducible exact Only.refl _ _) | (with_reducible refine Only.drew ?_) | (with_reducible refine Only.alloc ?_ _) | (with_reducible refine onlySet ?_ (by first | (with_reducible assumption) | omega) _) | (with_reducible refine Only.trans ?_ (by with_reducible assumption))))))
                (first
                  | (go_at_call 78; (with_reducible refine (HMM.out _).mono ?_); rintro e w9 ⟨rfl, ho9⟩; have o9 : Only (fun _ => False) wr w9 := (by (refine Only.trans (b := _) ?_ ho9); (repeat (first | (with_reducible assumption) | (with_reducible exact Only.refl _ _) | (with_reducible refine Only.drew ?_) | (with_reducible refine Only.alloc ?_ _) | (with_reducible refine onlySet ?_ (by first | (with_reducible assumption) | omega) _) | (with_reducible refine Only.trans ?_ (by with_reducible assumption))))); have hs9 := Only.size ho9; (try simp at hs9); have hz9 : wr.heap.size ≤ w9.heap.size := (by omega); (first | (have hka : w9.heap[wr.heap.size]? = some (.cells #[.int .i64 0, .int .u64 0, .int .u64 0, .int .i64 0, .int .i64 0, .slice none 0 0] 72 (0, 0)) := (by (refine Only.old ho9 ?_ id); first | (apply Eq.trans; (case h₁ => repeat (first | (with_reducible assumption) | (with_reducible exact heap_alloc_new _ _) | (with_reducible apply blk_new; (repeat (first | (with_reducible rfl) | (with_reducible apply sz_set) | (with_reducible apply sz_alloc) | (with_reducible apply sz_drew))); done) | (with_reducible apply blk_same) | (with_reducible apply blk_ne; case hn => (first | assumption | omega)) | (with_reducible apply blk_old) | (with_reducible apply blk_drew))); (case h₂ => rfl)) | fail); have lka := lt_of_block hka; have fka : ∀ i, w9.frozen? ⟨wr.heap.size, i, none⟩ = false := free_at hka; have ka0 := cell_at hka 0; have ka1 := cell_at hka 1; have ka2 := cell_at hka 2; have ka3 := cell_at hka 3; have ka4 := cell_at hka 4; have ka5 := cell_at hka 5; simp only [List.getElem?_toArray, List.getElem?_cons_zero, List.getElem?_cons_succ] at ka0 ka1 ka2 ka3 ka4 ka5) | skip); (first | (have hra : w9.heap[wr.heap.size]? = some (.cells #[.string ⟨#[]⟩, .int .u64 0, .int .i64 0, .int .i64 0, .bool false, .string ⟨#[]⟩] 35 (0, 0)) := (by (refine Only.old ho9 ?_ id); first | (apply Eq.trans; (case h₁ => repeat (first | (with_reducible assumption) | (with_reducible exact heap_alloc_new _ _) | (with_reducible apply blk_new; (repeat (first | (with_reducible rfl) | (with_reducible apply sz_set) | (with_reducible apply sz_alloc) | (with_reducible apply sz_drew))); done) | (with_reducible apply blk_same) | (with_reducible apply blk_ne; case hn => (first | assumption | omega)) | (with_reducible apply blk_old) | (with_reducible apply blk_drew))); (case h₂ => rfl)) | fail); have lra := lt_of_block hra; have fra : ∀ i, w9.frozen? ⟨wr.heap.size, i, none⟩ = false := free_at hra; have ra0 := cell_at hra 0; have ra1 := cell_at hra 1; have ra2 := cell_at hra 2; have ra3 := cell_at hra 3; have ra4 := cell_at hra 4; have ra5 := cell_at hra 5; simp only [List.getElem?_toArray, List.getElem?_cons_zero, List.getElem?_cons_succ] at ra0 ra1 ra2 ra3 ra4 ra5) | skip); (first | (have hkb : w9.heap[wr.heap.size + 1]? = some (.cells #[.int .i64 0, .int .u64 0, .int .u64 0, .int .i64 0, .int .i64 0, .slice none 0 0] 72 (0, 0)) := (by (refine Only.old ho9 ?_ id); first | (apply Eq.trans; (case h₁ => repeat (first | (with_reducible assumption) | (with_reducible exact heap_alloc_new _ _) | (with_reducible apply blk_new; (repeat (first | (with_reducible rfl) | (with_reducible apply sz_set) | (with_reducible apply sz_alloc) | (with_reducible apply sz_drew))); done) | (with_reducible apply blk_same) | (with_reducible apply blk_ne; case hn => (first | assumption | omega)) | (with_reducible apply blk_old) | (with_reducible apply blk_drew))); (case h₂ => rfl)) | fail); have lkb := lt_of_block hkb; have fkb : ∀ i, w9.frozen? ⟨wr.heap.size + 1, i, none⟩ = false := free_at hkb; have kb0 := cell_at hkb 0; have kb1 := cell_at hkb 1; have kb2 := cell_at hkb 2; have kb3 := cell_at hkb 3; have kb4 := cell_at hkb 4; have kb5 := cell_at hkb 5; simp only [List.getElem?_toArray, List.getElem?_cons_zero, List.getElem?_cons_succ] at kb0 kb1 kb2 kb3 kb4 kb5) | skip); (first | (have hrb : w9.heap[wr.heap.size + 1]? = some (.cells #[.string ⟨#[]⟩, .int .u64 0, .int .i64 0, .int .i64 0, .bool false, .string ⟨#[]⟩] 35 (0, 0)) := (by (refine Only.old ho9 ?_ id); first | (apply Eq.trans; (case h₁ => repeat (first | (with_reducible assumption) | (with_reducible exact heap_alloc_new _ _) | (with_reducible apply blk_new; (repeat (first | (with_reducible rfl) | (with_reducible apply sz_set) | (with_reducible apply sz_alloc) | (with_reducible apply sz_drew))); done) | (with_reducible apply blk_same) | (with_reducible apply blk_ne; case hn => (first | assumption | omega)) | (with_reducible apply blk_old) | (with_reducible apply blk_drew))); (case h₂ => rfl)) | fail); have lrb := lt_of_block hrb; have frb : ∀ i, w9.frozen? ⟨wr.heap.size + 1, i, none⟩ = false := free_at hrb; have rb0 := cell_at hrb 0; have rb1 := cell_at hrb 1; have rb2 := cell_at hrb 2; have rb3 := cell_at hrb 3; have rb4 := cell_at hrb 4; have rb5 := cell_at hrb 5; simp only [List.getElem?_toArray, List.getElem?_cons_zero, List.getElem?_cons_succ] at rb0 rb1 rb2 rb3 rb4 rb5) | skip); (try (have n1 : ¬ wr.heap.size = w9.heap.size := (by omega))); (try (have n2 : ¬ w9.heap.size = wr.heap.size := (by omega))); (try (have n3 : ¬ wr.heap.size = w9.heap.size + 1 := (by omega))); (try (have n4 : ¬ w9.heap.size + 1 = wr.heap.size := (by omega)))))
              all_goals
                go_split_ands
                go_wp2_with fail
                go_meet
                refine ⟨_, _, by with_reducible rfl, by with_reducible rfl, ?_, ?_, ?_, ?_, ?_⟩
                · (apply Eq.trans; (case h₁ => repeat (first | (with_reducible assumption) | (with_reducible exact heap_alloc_new _ _) | (with_reducible apply blk_new; (repeat (first | (with_reducible rfl) | (with_reducible apply sz_set) | (with_reducible apply sz_alloc) | (with_reducible apply sz_drew))); done) | (with_reducible apply blk_same) | (with_reducible apply blk_ne; case hn => (first | assumption | omega)) | (with_reducible apply blk_old) | (with_reducible apply blk_drew))); (case h₂ => rfl))
                · (apply Eq.trans; (case h₁ => repeat (first | (with_reducible assumption) | (with_reducible exact heap_alloc_new _ _) | (with_reducible apply blk_new; (repeat (first | (with_reducible rfl) | (with_reducible apply sz_set) | (with_reducible apply sz_alloc) | (with_reducible apply sz_drew))); done) | (with_reducible apply blk_same) | (with_reducible apply blk_ne; case hn => (first | assumption | omega)) | (with_reducible apply blk_old) | (with_reducible apply blk_drew))); (case h₂ => rfl))
                · first | omega | (simp; omega)
                · first | omega | (simp; omega)
                · (repeat (first | (with_reducible assumption) | (with_reducible exact Only.refl _ _) | (with_reducible refine Only.drew ?_) | (with_reducible refine Only.alloc ?_ _) | (with_reducible refine onlySet ?_ (by first | (with_reducible assumption) | omega) _) | (with_reducible refine Only.trans ?_ (by with_reducible assumption))))
            case rest =>
            obtain ⟨K, B, rfl, rfl, hKb, hBb, hKs, hBs, ho6⟩ := hcut
            have hX6 := ho6.old HB.out id
            have hrow6 : wc.ownsRow V.heap.size 35 6 u4 j (((List.range j).map (fun i => madeR self life (count + 1 + i) (L.getD i zeroW))).flatMap recC) := by
              have := owns_only HROW.out ho6 (fun _ _ => id)
              rwa [List.length_map, List.length_range] at this
            have hlt4 : ∀ k, u4.ownBlock = some k → V.heap.size ≤ k ∧ k < wr.heap.size := fun k e => HROW.out.lt k e
            have ho7 := HO.out.trans (ho6.weaken (T := fun i => i = X) (fun _ _ => False.elim))
            have hXs : X < wr.heap.size := lt_of_block HB.out
            have hKx : X ≠ K := by omega
            have hBx : X ≠ B := by omega
            have hKl := lt_of_block hKb
            have hBl := lt_of_block hBb
            have hXl : X < wc.heap.size := lt_of_block hX6
            have hVw : V.heap.size ≤ wc.heap.size := ho7.size
            generalize hXS : ((List.range j).map (fun i => madeR self life (count + 1 + i) (L.getD i zeroW))).flatMap recC = XS at *
            have k0 : wc.cell? ⟨K, 0, none⟩ = some (.int .i64 self) := cell_at hKb 0
            have k1 : wc.cell? ⟨K, 1, none⟩ = some (.int .u64 life) := cell_at hKb 1
            have k2 : wc.cell? ⟨K, 2, none⟩ = some (.int .u64 ((cj : Int) + 1)) := cell_at hKb 2
            have k3 : wc.cell? ⟨K, 3, none⟩ = some (.int .i64 every) := cell_at hKb 3
            have k4 : wc.cell? ⟨K, 4, none⟩ = some (.int .i64 nw) := cell_at hKb 4
            have k5 : wc.cell? ⟨K, 5, none⟩ = some (.slice (some ⟨lb, off, none⟩) L.length vcap) := cell_at hKb 5
            have r0 : wc.cell? ⟨B, 0, none⟩ = some (.string (keyB self y.name)) := cell_at hBb 0
            have r1 : wc.cell? ⟨B, 1, none⟩ = some (.int .u64 VER) := cell_at hBb 1
            have r2 : wc.cell? ⟨B, 2, none⟩ = some (.int .i64 self) := cell_at hBb 2
            have r3 : wc.cell? ⟨B, 3, none⟩ = some (.int .i64 0) := cell_at hBb 3
            have r4 : wc.cell? ⟨B, 4, none⟩ = some (.bool false) := cell_at hBb 4
            have r5 : wc.cell? ⟨B, 5, none⟩ = some (.string (dataB y.a0 y.a1 y.a2 y.a3 y.p y.q y.r)) := cell_at hBb 5
            have x0 : wc.cell? ⟨X, 0, none⟩ = some (.int .i64 self) := cell_at hX6 0
            have x1 : wc.cell? ⟨X, 1, none⟩ = some (.int .u64 life) := cell_at hX6 1
            have x2 : wc.cell? ⟨X, 2, none⟩ = some (.int .u64 (cj : Int)) := cell_at hX6 2
            have x3 : wc.cell? ⟨X, 3, none⟩ = some (.int .i64 every) := cell_at hX6 3
            have x4 : wc.cell? ⟨X, 4, none⟩ = some (.int .i64 nw) := cell_at hX6 4
            have x5 : wc.cell? ⟨X, 5, none⟩ = some (.slice (some ⟨lb, off, none⟩) L.length vcap) := cell_at hX6 5
            have xf : ∀ i, wc.frozen? ⟨X, i, none⟩ = false := free_at hX6
            have HXS := Lib.hid hXS
            have HKB := Lib.hid hKb
            have HBB := Lib.hid hBb
            have HX6 := Lib.hid hX6
            have HRW := Lib.hid hrow6
            have HO7 := Lib.hid ho7
            have HLT4 := Lib.hid hlt4
            have HKX := Lib.hid hKx
            have HBX := Lib.hid hBx
            have HKS := Lib.hid hKs
            have HBS := Lib.hid hBs
            clear hXS hKb hBb hX6 hrow6 ho7 hlt4 hKx hBx hKs hBs
            have HLT := Lib.hid hlt
            clear hlt
            clear ho6 hlt'
            go_upto_region 7 with (fail)
            go_region_held3 (fun w' => w'.cell? ⟨K, 0, none⟩ = some (.int .i64 self) ∧ w'.cell? ⟨K, 1, none⟩ = some (.int .u64 life) ∧ w'.cell? ⟨K, 2, none⟩ = some (.int .u64 ((cj : Int) + 1)) ∧ w'.cell? ⟨K, 3, none⟩ = some (.int .i64 every) ∧ w'.cell? ⟨K, 4, none⟩ = some (.int .i64 nw) ∧ w'.cell? ⟨K, 5, none⟩ = some (.slice (some ⟨lb, off, none⟩) L.length vcap) ∧ w'.cell? ⟨B, 0, none⟩ = some (.string (keyB self y.name)) ∧ w'.cell? ⟨B, 1, none⟩ = some (.int .u64 VER) ∧ w'.cell? ⟨B, 2, none⟩ = some (.int .i64 self) ∧ w'.cell? ⟨B, 3, none⟩ = some (.int .i64 0) ∧ w'.cell? ⟨B, 4, none⟩ = some (.bool false) ∧ w'.cell? ⟨B, 5, none⟩ = some (.string (dataB y.a0 y.a1 y.a2 y.a3 y.p y.q y.r)))
              ((go_split_ands; (repeat' apply And.intro); all_goals (repeat (first | (with_reducible assumption) | (with_reducible apply keepDv) | (with_reducible apply keepNv) | (with_reducible apply keepSv HKX.out) | (with_reducible apply keepSv HBX.out)))))
              (first
                | (refine step_append_src rfl (.tmp 43) (.tmp 45) 82 82 rfl V.heap.size 35 j0 _ 6 64 Tryd.underlying82 hj0 jz0 jz1 jz2 rfl u4 j XS rfl (owns_kept HRW.out ((Only.refl (fun _ => False) _).alloc _).drew (fun _ _ => id)) (.slice (some ⟨wc.heap.size, 0, none⟩) 1 1) 1 (recC ⟨keyB self y.name, VER, self, 0, false, dataB y.a0 y.a1 y.a2 y.a3 y.p y.q y.r⟩) rfl ?src7 ?m7 ?b7 ?base7 ?_
                   case src7 => exact Src.ofSlice _ Tryd.underlying82 _ _ _ _ rfl (news_at (heapA _ _ _ rfl)) (recC_one _)
                   case m7 => unfold maxLen; omega
                   case b7 => omega
                   case base7 => simp; omega
                   intro v9 w9 own9 gr9 hv9
                   have hk9 : w9.heap[K]? = some (.cells #[.int .i64 self, .int .u64 life, .int .u64 ((cj : Int) + 1), .int .i64 every, .int .i64 nw, .slice (some ⟨lb, off, none⟩) L.length vcap] 72 (0, 0)) := (gr9.block K (by simp; omega) (fun e => by have h1 := (HLT4.out K e.symm).2; have h2 := HKS.out; omega)).trans ((Below.heap_alloc _ _ _ hKl).trans HKB.out)
                   have hb9 : w9.heap[B]? = some (.cells #[.string (keyB self y.name), .int .u64 VER, .int .i64 self, .int .i64 0, .bool false, .string (dataB y.a0 y.a1 y.a2 y.a3 y.p y.q y.r)] 35 (0, 0)) := (gr9.block B (by simp; omega) (fun e => by have h1 := (HLT4.out B e.symm).2; have h2 := HBS.out; omega)).trans ((Below.heap_alloc _ _ _ hBl).trans HBB.out)
                   have hx9 : w9.heap[X]? = some (.cells #[.int .i64 self, .int .u64 life, .int .u64 (cj : Int), .int .i64 every, .int .i64 nw, .slice (some ⟨lb, off, none⟩) L.length vcap] 72 (0, 0)) := (gr9.block X (by simp; omega) (fun e => by have h1 := (HLT4.out X e.symm).1; have h2 := HVS.out; omega)).trans ((Below.heap_alloc _ _ _ hXl).trans HX6.out)
                   have o9 : Only (fun i => i = X) V w9 := ((HO7.out.alloc _).drew).grown gr9 (fun k e => .inl (hv9 k e))
                   have k90 := cell_at hk9 0; have r90 := cell_at hb9 0; have x90 := cell_at hx9 0
                   have k91 := cell_at hk9 1; have r91 := cell_at hb9 1; have x91 := cell_at hx9 1
                   have k92 := cell_at hk9 2; have r92 := cell_at hb9 2; have x92 := cell_at hx9 2
                   have k93 := cell_at hk9 3; have r93 := cell_at hb9 3; have x93 := cell_at hx9 3
                   have k94 := cell_at hk9 4; have r94 := cell_at hb9 4; have x94 := cell_at hx9 4
                   have k95 := cell_at hk9 5; have r95 := cell_at hb9 5; have x95 := cell_at hx9 5
                   simp only [List.getElem?_toArray, List.getElem?_cons_zero, List.getElem?_cons_succ] at k90 r90 x90 k91 r91 x91 k92 r92 x92 k93 r93 x93 k94 r94 x94 k95 r95 x95
                   have f9 : ∀ i, w9.frozen? ⟨X, i, none⟩ = false := free_at hx9))
            go_split_ands
            go_wp2_with fail
            obtain ⟨wz, hwz⟩ : ∃ wz, wz = ((((((w9.setCell ⟨X, 0, none⟩ (.int .i64 self)).setCell ⟨X, 1, none⟩ (.int .u64 life)).setCell ⟨X, 2, none⟩ (.int .u64 ((cj : Int) + 1))).setCell ⟨X, 3, none⟩ (.int .i64 every)).setCell ⟨X, 4, none⟩ (.int .i64 nw)).setCell ⟨X, 5, none⟩ (.slice (some ⟨lb, off, none⟩) L.length vcap)) := ⟨_, rfl⟩
            have hX8 : wz.heap[X]? = some (.cells #[.int .i64 self, .int .u64 life, .int .u64 ((cj : Int) + 1), .int .i64 every, .int .i64 nw, .slice (some ⟨lb, off, none⟩) L.length vcap] 72 (0, 0)) := by rw [hwz]; (apply Eq.trans; (case h₁ => repeat (first | (with_reducible assumption) | (with_reducible exact heap_alloc_new _ _) | (with_reducible apply blk_new; (repeat (first | (with_reducible rfl) | (with_reducible apply sz_set) | (with_reducible apply sz_alloc) | (with_reducible apply sz_drew))); done) | (with_reducible apply blk_same) | (with_reducible apply blk_ne; case hn => (first | assumption | omega)) | (with_reducible apply blk_old) | (with_reducible apply blk_drew))); (case h₂ => rfl))
            have tz : Only (fun i => i = X) w9 wz := by rw [hwz]; exact (((((((Only.refl _ _).setCell (S := fun i => i = X) (p := ⟨X, 0, none⟩) (.inr rfl) _).setCell (S := fun i => i = X) (p := ⟨X, 1, none⟩) (.inr rfl) _).setCell (S := fun i => i = X) (p := ⟨X, 2, none⟩) (.inr rfl) _).setCell (S := fun i => i = X) (p := ⟨X, 3, none⟩) (.inr rfl) _).setCell (S := fun i => i = X) (p := ⟨X, 4, none⟩) (.inr rfl) _).setCell (S := fun i => i = X) (p := ⟨X, 5, none⟩) (.inr rfl) _)
            have ho8 := o9.trans tz
            have own8 := owns_only own9 tz (fun k hk e => by have h1 := HVS.out; omega)
            rw [← hwz]
            have HX8 := Lib.hid hX8
            have HO8 := Lib.hid ho8
            have OWN8 := Lib.hid own8
            clear hX8 ho8 own8
            clear hwz tz
            go_roundg (L.length - (j + 1))
            case measure => have := HLT.out; rw [Hg.out]; omega
            case rel =>
              have hje := HJE0.out
              refine ⟨j + 1, by go_num, by have := HLT.out; omega, by have := HCL.out; omega, by simp, ?_, HO8.out, ?_, rfl⟩
              · rw [show count + (j + 1) = cj + 1 by omega]
                exact HX8.out
              · rw [HTS.out]
                unfold RRow
                rw [List.length_append, List.length_map, List.length_range, List.flatMap_append, HXS.out, HMR.out]
                have e1 : [RecT.mk (keyB self y.name) VER self 0 false (dataB y.a0 y.a1 y.a2 y.a3 y.p y.q y.r)].flatMap recC = recC ⟨keyB self y.name, VER, self, 0, false, dataB y.a0 y.a1 y.a2 y.a3 y.p y.q y.r⟩ := by simp
                rw [e1]
                exact OWN8.out
        · -- end
          have hlt' : ¬ (j : Int) < (L.length : Int) := by omega
          have hj0 : j = TN := by rw [HTN.out, if_pos rfl]; omega
          clear hj hcj hcb
          go_wp2_with fail
          go_meet
          exact HF.out hj0
  case rest =>
    obtain ⟨c, hc, hbX, ho, hrow⟩ := hcut
    have hb1 := ho.old H1.out (by omega)
    have hoC := HOV.out.tr ho (fun i hi e => by have := HXW.out; omega)
    obtain ⟨_, ra, rcap, rfl, _⟩ := Sl.of_owns hrow
    have x0 : wc.cell? ⟨X, 0, none⟩ = some (.int .i64 self) := cell_at hbX 0
    have x1 : wc.cell? ⟨X, 1, none⟩ = some (.int .u64 life) := cell_at hbX 1
    have x2 : wc.cell? ⟨X, 2, none⟩ = some (.int .u64 c) := cell_at hbX 2
    have x3 : wc.cell? ⟨X, 3, none⟩ = some (.int .i64 every) := cell_at hbX 3
    have x4 : wc.cell? ⟨X, 4, none⟩ = some (.int .i64 nw) := cell_at hbX 4
    have x5 : wc.cell? ⟨X, 5, none⟩ = some (.slice va L.length vcap) := cell_at hbX 5
    have z0 : wc.cell? ⟨(X + 1), 0, none⟩ = some (.int .i64 0) := cell_at hb1 0
    have z1 : wc.cell? ⟨(X + 1), 1, none⟩ = some (.int .u64 0) := cell_at hb1 1
    have z2 : wc.cell? ⟨(X + 1), 2, none⟩ = some (.int .u64 0) := cell_at hb1 2
    have z3 : wc.cell? ⟨(X + 1), 3, none⟩ = some (.int .i64 0) := cell_at hb1 3
    have z4 : wc.cell? ⟨(X + 1), 4, none⟩ = some (.int .i64 0) := cell_at hb1 4
    have z5 : wc.cell? ⟨(X + 1), 5, none⟩ = some (.slice none 0 0) := cell_at hb1 5
    have zf : ∀ i, wc.frozen? ⟨X + 1, i, none⟩ = false := free_at hb1
    have HB1 := Lib.hid hb1
    have HOC := Lib.hid hoC
    have HROW := Lib.hid hrow
    have HCQ := Lib.hid hc
    clear hb1 hoC hrow hc
    clear ho hbX
    go_wp2_with fail
    clear z0 z1 z2 z3 z4 z5 zf
    obtain ⟨s1, s2⟩ := lit_set HB1.out [.int .i64 self, .int .u64 life, .int .u64 c, .int .i64 every, .int .i64 nw, .slice va L.length vcap] rfl
    rw [show World.setCells wc (X + 1) 0 [.int .i64 self, .int .u64 life, .int .u64 c, .int .i64 every, .int .i64 nw, .slice va L.length vcap] = ((((((wc.setCell ⟨(X + 1), 0, none⟩ (.int .i64 self)).setCell ⟨(X + 1), 1, none⟩ (.int .u64 life)).setCell ⟨(X + 1), 2, none⟩ (.int .u64 c)).setCell ⟨(X + 1), 3, none⟩ (.int .i64 every)).setCell ⟨(X + 1), 4, none⟩ (.int .i64 nw)).setCell ⟨(X + 1), 5, none⟩ (.slice va L.length vcap)) from rfl] at s1 s2
    generalize ((((((wc.setCell ⟨(X + 1), 0, none⟩ (.int .i64 self)).setCell ⟨(X + 1), 1, none⟩ (.int .u64 life)).setCell ⟨(X + 1), 2, none⟩ (.int .u64 c)).setCell ⟨(X + 1), 3, none⟩ (.int .i64 every)).setCell ⟨(X + 1), 4, none⟩ (.int .i64 nw)).setCell ⟨(X + 1), 5, none⟩ (.slice va L.length vcap)) = wz at *
    have p0 : wz.cell? ⟨(X + 1), 0, none⟩ = some (.int .i64 self) := cell_at s1 0
    have p1 : wz.cell? ⟨(X + 1), 1, none⟩ = some (.int .u64 life) := cell_at s1 1
    have p2 : wz.cell? ⟨(X + 1), 2, none⟩ = some (.int .u64 c) := cell_at s1 2
    have p3 : wz.cell? ⟨(X + 1), 3, none⟩ = some (.int .i64 every) := cell_at s1 3
    have p4 : wz.cell? ⟨(X + 1), 4, none⟩ = some (.int .i64 nw) := cell_at s1 4
    have p5 : wz.cell? ⟨(X + 1), 5, none⟩ = some (.slice va L.length vcap) := cell_at s1 5
    refine bodyPost_ret (v := .tuple #[.agg #[.int .i64 self, .int .u64 life, .int .u64 c, .int .i64 every, .int .i64 nw, .slice va L.length vcap], .slice ra TN rcap]) (by simp [results, Tryd.results34, go_sem, p0, p1, p2, p3, p4, p5]) rfl ?_
    rw [HCQ.out]
    have hfin := HOC.out.tr s2 (fun i hi e => by have := HXW.out; omega)
    refine HP.out _ _ hfin ?_
    have h1 := owns_only HROW.out s2 (fun k hk e => by have := HVS.out; omega)
    have h2 : X ≤ V.heap.size := by have := HVS.out; omega
    unfold RRow
    rw [List.length_map, List.length_range] at h1 ⊢
    exact ownsRow_base_a h1 h2
end Go.Proofs.YtianboachknfmaaDoor
/-! bellhoplaw26: told, name; inequality of the reference's services. -/
namespace Go.Proofs.YtianboachknfmaaDoor
open Go.Conc Go.RowKit Go.Maps

theorem neW (w : World) (n : ByteArray) (a0 a1 a2 a3 p q r : Int) : (binOp BinOp.neq 89 (.agg #[.string n, .int .u8 a0, .int .u8 a1, .int .u8 a2, .int .u8 a3, .int .u16 p, .int .u16 q, .int .u16 r]) (.agg #[.string n, .int .u8 a0, .int .u8 a1, .int .u8 a2, .int .u8 a3, .int .u16 p, .int .u16 q, .int .u16 r])).run Tryd.prog w = .ok (.bool false) w := by
  have hc : Tryd.prog.cellsOf 5 = 1 := by kernel_rfl
  have hsz : ∀ w, (Go.sizeOf 5).run Tryd.prog w = .ok 1 w := fun w => by kernel_rfl
  obtain ⟨i, hi, _⟩ := info_parts infoU8s
  simp [run_equalIn_array (P := Tryd.prog) _ _ _ _ Tryd.underlying73 hi, Op.eqItems, List.range, List.range.loop, hc, part, hsz, go_sem]
set_option maxRecDepth 100000 in
theorem told26_any (w : World) (x : RecT) : Calls Tryd.prog 32 #[recT x, recT x] w fun e w' => e = .returned (.bool true) ∧ Only (fun _ => False) w w' := by
  obtain ⟨k, v, o, a, g, d⟩ := x
  unfold recT
  simp only
  obtain ⟨W1, hW1⟩ : ∃ W1, W1 = w.alloc (.cells #[.string k, .int .u64 v, .int .i64 o, .int .i64 a, .bool g, .string d] 33) := ⟨_, rfl⟩
  have hbW1 : W1.heap[w.heap.size]? = some (.cells #[.string k, .int .u64 v, .int .i64 o, .int .i64 a, .bool g, .string d] 33 (0, 0)) := by rw [hW1]; exact heap_alloc_new w _
  have hoW1 : Only (fun _ => False) w W1 := by rw [hW1]; exact (Only.refl _ _).alloc _
  have hsW1 : W1.heap.size = w.heap.size + 1 := by rw [hW1]; simp
  obtain ⟨W2, hW2⟩ : ∃ W2, W2 = W1.alloc (.cells #[.string k, .int .u64 v, .int .i64 o, .int .i64 a, .bool g, .string d] 35) := ⟨_, rfl⟩
  have hbW2 : W2.heap[W1.heap.size]? = some (.cells #[.string k, .int .u64 v, .int .i64 o, .int .i64 a, .bool g, .string d] 35 (0, 0)) := by rw [hW2]; exact heap_alloc_new W1 _
  have hoW2 : Only (fun _ => False) W1 W2 := by rw [hW2]; exact (Only.refl _ _).alloc _
  have hsW2 : W2.heap.size = W1.heap.size + 1 := by rw [hW2]; simp
  have b1 := hoW2.old hbW1 id
  have hoA := hoW1.trans hoW2
  rw [hsW1] at hbW2
  have HEQ := Lib.hid (eqR W2 k k d d v o a v o a g g)
  simp only [beq_self_eq_true, Bool.and_self] at HEQ
  have HOA := Lib.hid hoA
  clear hoA
  go_enter Tryd.func32, Tryd.ntmps32
  go_upto_region 1 with (fail)
  rw [← hW1, ← hW2]
  clear hW1 hW2 hoW1 hoW2 hsW1 hsW2 hbW1
  have x0 : W2.cell? ⟨w.heap.size, 0, none⟩ = some (.string k) := cell_at b1 0
  have x1 : W2.cell? ⟨w.heap.size, 1, none⟩ = some (.int .u64 v) := cell_at b1 1
  have x2 : W2.cell? ⟨w.heap.size, 2, none⟩ = some (.int .i64 o) := cell_at b1 2
  have x3 : W2.cell? ⟨w.heap.size, 3, none⟩ = some (.int .i64 a) := cell_at b1 3
  have x4 : W2.cell? ⟨w.heap.size, 4, none⟩ = some (.bool g) := cell_at b1 4
  have x5 : W2.cell? ⟨w.heap.size, 5, none⟩ = some (.string d) := cell_at b1 5
  have y0 : W2.cell? ⟨(w.heap.size + 1), 0, none⟩ = some (.string k) := cell_at hbW2 0
  have y1 : W2.cell? ⟨(w.heap.size + 1), 1, none⟩ = some (.int .u64 v) := cell_at hbW2 1
  have y2 : W2.cell? ⟨(w.heap.size + 1), 2, none⟩ = some (.int .i64 o) := cell_at hbW2 2
  have y3 : W2.cell? ⟨(w.heap.size + 1), 3, none⟩ = some (.int .i64 a) := cell_at hbW2 3
  have y4 : W2.cell? ⟨(w.heap.size + 1), 4, none⟩ = some (.bool g) := cell_at hbW2 4
  have y5 : W2.cell? ⟨(w.heap.size + 1), 5, none⟩ = some (.string d) := cell_at hbW2 5
  have heq := HEQ.out
  go_wp2_with fail
  go_ret
  exact ⟨rfl, HOA.out⟩
def cut64 (s : ByteArray) : ByteArray := s.extract 0 (min s.size 64)
theorem cut64_size (s : ByteArray) : (cut64 s).size ≤ 64 := by unfold cut64; simp; omega
set_option maxRecDepth 100000 in
theorem name26_any (w : World) (x : ActV) (hn : x.name.size ≤ maxLen) : Calls Tryd.prog 30 #[.agg #[.int .i64 x.what, .string x.name, .int .u8 x.b0, .int .u8 x.b1, .int .u8 x.b2, .int .u8 x.b3, .int .u16 x.p]] w fun e w' => e = .returned (.string (cut64 x.name)) ∧ Only (fun _ => False) w w' := by
  unfold maxLen at hn
  obtain ⟨W1, hW1⟩ : ∃ W1, W1 = w.alloc (.cells #[.int .i64 x.what, .string x.name, .int .u8 x.b0, .int .u8 x.b1, .int .u8 x.b2, .int .u8 x.b3, .int .u16 x.p] 75) := ⟨_, rfl⟩
  have hbW1 : W1.heap[w.heap.size]? = some (.cells #[.int .i64 x.what, .string x.name, .int .u8 x.b0, .int .u8 x.b1, .int .u8 x.b2, .int .u8 x.b3, .int .u16 x.p] 75 (0, 0)) := by rw [hW1]; exact heap_alloc_new w _
  have hoW1 : Only (fun _ => False) w W1 := by rw [hW1]; exact (Only.refl _ _).alloc _
  have hsW1 : W1.heap.size = w.heap.size + 1 := by rw [hW1]; simp
  have y1 : W1.cell? ⟨w.heap.size, 1, none⟩ = some (.string x.name) := cell_at hbW1 1
  have HOA := Lib.hid hoW1
  clear hoW1
  by_cases h : x.name.size ≤ 64
  · have hm1 : min (x.name.size : Int) 64 = (x.name.size : Int) := by omega
    have HF := Lib.hid (show cut64 x.name = x.name by unfold cut64; rw [Nat.min_eq_left h]; simp)
    have hk3 : (0 : Int) ≤ (x.name.size : Int) := by omega
    clear h hbW1 hsW1
    go_enter Tryd.func30, Tryd.ntmps30
    go_upto_region 1 with (fail)
    rw [← hW1]
    clear hW1
    go_wp2_with fail
    go_ret
    refine ⟨?_, HOA.out⟩
    rw [HF.out]
    simp
  · have hm1 : min (x.name.size : Int) 64 = 64 := by omega
    have HF := Lib.hid (show cut64 x.name = x.name.extract 0 64 by unfold cut64; rw [Nat.min_eq_right (by omega)])
    have hk3 : (64 : Int) ≤ (x.name.size : Int) := by omega
    clear h hbW1 hsW1
    go_enter Tryd.func30, Tryd.ntmps30
    go_upto_region 1 with (fail)
    rw [← hW1]
    clear hW1
    go_wp2_with fail
    go_ret
    refine ⟨?_, HOA.out⟩
    rw [HF.out]
    simp
end Go.Proofs.YtianboachknfmaaDoor
