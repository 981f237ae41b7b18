/- slices.Equal of equal slices (ints, ids, records); message.Same of messages with the same contents. -/
import Derived.Test.YtianboachknfmaaDoorSto16
namespace Go.Proofs.YtianboachknfmaaDoor
open Go.Conc Go.RowKit Go.Maps

def intC (n : Int) : List Value := [.int .i64 n]
theorem intC_length (n : Int) : (intC n).length = 1 := rfl
/-- An id's two cells. -/
def idT (p : ByteArray × Nat) : List Value := [.string p.1, .int .u64 p.2]
theorem idT_length (p : ByteArray × Nat) : (idT p).length = 2 := rfl
def toId (x : RecT) : ByteArray × Nat := (x.key, x.ver)
theorem ids_fl (L : List RecT) : (L.map toId).flatMap idT = L.flatMap idC := by
  rw [List.flatMap_map]
  rfl
theorem neI (w : World) (k k' : ByteArray) (v v' : Int) : (binOp BinOp.neq 31 (.agg #[.string k, .int .u64 v]) (.agg #[.string k', .int .u64 v'])).run Tryd.prog w = .ok (.bool (!((k.toList == k'.toList) && (v == v')))) w := by
  simp [go_sem]
  by_cases h1 : k.toList = k'.toList <;> by_cases h2 : v = v' <;> simp [h1, h2]
set_option maxRecDepth 100000 in
theorem eqints_any (w : World) (va vb : Value) (L : List Int) (ha : Sl w 1 va L.length (L.flatMap intC)) (hb : Sl w 1 vb L.length (L.flatMap intC)) :
    Calls Tryd.prog 69 #[va, vb] w fun e w' => e = .returned (.bool true) ∧ Only (fun _ => False) w w' := by
  obtain ⟨a, cap, rfl, h1, h2, h3⟩ := Sl.cells intC_length ha
  obtain ⟨a', cap', rfl, k1, k2, k3⟩ := Sl.cells intC_length hb
  unfold maxLen at h2 k2
  have HA := Lib.hid h3
  have HB := Lib.hid k3
  clear h3 k3
  clear ha hb
  go_enter Tryd.func69, Tryd.ntmps69
  go_wp2_with fail
  go_loopg [13] L.length (fun g v13 wr => ∃ j : Nat, v13 = .int .i64 j ∧ j ≤ L.length ∧ Only (fun _ => False) w wr ∧ g = L.length - j)
  case atStart => exact ⟨0, rfl, Nat.zero_le _, Only.refl _ _, rfl⟩
  case round =>
    obtain ⟨j, rfl, hj, ho, hg⟩ := hrel
    have Hg := Lib.hid hg
    have HO := Lib.hid ho
    clear hg ho
    by_cases hlt : j < L.length
    · obtain ⟨b, off, he, hc⟩ := HA.out.at j hlt
      subst he
      obtain ⟨b', off', he, hd⟩ := HB.out.at j hlt
      subst he
      have p0 := HO.out.cell (hc 0 _ rfl) id
      have q0 := HO.out.cell (hd 0 _ rfl) id
      simp only [Nat.add_zero, Nat.mul_one] at p0 q0
      have hlt' : (j : Int) < (L.length : Int) := by omega
      have hj0 : (0 : Int) ≤ (j : Int) := by omega
      clear hc hd
      go_wp2_with fail
      go_quiet (fail)
      go_wp2_with fail
      go_roundg (L.length - (j + 1))
      case measure => rw [Hg.out]; omega
      case rel => exact ⟨j + 1, by go_num, by omega, HO.out.drewN _, rfl⟩
    · have hlt' : ¬ (j : Int) < (L.length : Int) := by omega
      go_wp2_with fail
      go_ret
      exact ⟨rfl, HO.out⟩
set_option maxRecDepth 100000 in
theorem eqids_any (w : World) (va vb : Value) (L : List (ByteArray × Nat)) (ha : Sl w 2 va L.length (L.flatMap idT)) (hb : Sl w 2 vb L.length (L.flatMap idT)) :
    Calls Tryd.prog 70 #[va, vb] w fun e w' => e = .returned (.bool true) ∧ Only (fun _ => False) w w' := by
  obtain ⟨a, cap, rfl, h1, h2, h3⟩ := Sl.cells idT_length ha
  obtain ⟨a', cap', rfl, k1, k2, k3⟩ := Sl.cells idT_length hb
  unfold maxLen at h2 k2
  have HA := Lib.hid h3
  have HB := Lib.hid k3
  clear h3 k3
  clear ha hb
  go_enter Tryd.func70, Tryd.ntmps70
  go_wp2_with fail
  go_loopg [13] L.length (fun g v13 wr => ∃ j : Nat, v13 = .int .i64 j ∧ j ≤ L.length ∧ Only (fun _ => False) w wr ∧ g = L.length - j)
  case atStart => exact ⟨0, rfl, Nat.zero_le _, Only.refl _ _, rfl⟩
  case round =>
    obtain ⟨j, rfl, hj, ho, hg⟩ := hrel
    have Hg := Lib.hid hg
    have HO := Lib.hid ho
    clear hg ho
    by_cases hlt : j < L.length
    · obtain ⟨b, off, he, hc⟩ := HA.out.at j hlt
      subst he
      obtain ⟨b', off', he, hd⟩ := HB.out.at j hlt
      subst he
      have p0 := HO.out.cell (hc 0 _ rfl) id
      have p1 := HO.out.cell (hc 1 _ rfl) id
      have q0 := HO.out.cell (hd 0 _ rfl) id
      have q1 := HO.out.cell (hd 1 _ rfl) id
      simp only [Nat.add_zero] at p0 q0
      generalize L[j].1 = zk at *
      generalize L[j].2 = zv at *
      have hne : ∀ w, (binOp BinOp.neq 31 (.agg #[.string zk, .int .u64 zv]) (.agg #[.string zk, .int .u64 zv])).run Tryd.prog w = .ok (.bool false) w := fun w => by
        rw [neI]
        simp
      have hlt' : (j : Int) < (L.length : Int) := by omega
      have hj0 : (0 : Int) ≤ (j : Int) := by omega
      clear hc hd
      go_wp2_with fail
      go_quiet (fail)
      go_wp2_with fail
      go_roundg (L.length - (j + 1))
      case measure => rw [Hg.out]; omega
      case rel => exact ⟨j + 1, by go_num, by omega, HO.out.drewN _, rfl⟩
    · have hlt' : ¬ (j : Int) < (L.length : Int) := by omega
      go_wp2_with fail
      go_ret
      exact ⟨rfl, HO.out⟩
set_option maxRecDepth 100000 in
theorem eqrecs_any (w : World) (va vb : Value) (L : List RecT) (ha : RSl w va L) (hb : RSl w vb L) :
    Calls Tryd.prog 71 #[va, vb] w fun e w' => e = .returned (.bool true) ∧ Only (fun _ => False) w w' := by
  obtain ⟨a, cap, rfl, h1, h2, h3⟩ := Sl.cells recC_length ha
  obtain ⟨a', cap', rfl, k1, k2, k3⟩ := Sl.cells recC_length hb
  unfold maxLen at h2 k2
  have HA := Lib.hid h3
  have HB := Lib.hid k3
  clear h3 k3
  clear ha hb
  go_enter Tryd.func71, Tryd.ntmps71
  go_wp2_with fail
  go_loopg [13] L.length (fun g v13 wr => ∃ j : Nat, v13 = .int .i64 j ∧ j ≤ L.length ∧ Only (fun _ => False) w wr ∧ g = L.length - j)
  case atStart => exact ⟨0, rfl, Nat.zero_le _, Only.refl _ _, rfl⟩
  case round =>
    obtain ⟨j, rfl, hj, ho, hg⟩ := hrel
    have Hg := Lib.hid hg
    have HO := Lib.hid ho
    clear hg ho
    by_cases hlt : j < L.length
    · obtain ⟨b, off, he, hc⟩ := HA.out.at j hlt
      subst he
      obtain ⟨b', off', he, hd⟩ := HB.out.at j hlt
      subst he
      have hcx : ∀ i u, (recC L[j])[i]? = some u → _ := fun i u hu => HO.out.cell (hc i u hu) id
      have hcy : ∀ i u, (recC L[j])[i]? = some u → _ := fun i u hu => HO.out.cell (hd i u hu) id
      generalize L[j] = z at *
      have p0 := hcx 0 _ rfl
      have p1 := hcx 1 _ rfl
      have p2 := hcx 2 _ rfl
      have p3 := hcx 3 _ rfl
      have p4 := hcx 4 _ rfl
      have p5 := hcx 5 _ rfl
      have q0 := hcy 0 _ rfl
      have q1 := hcy 1 _ rfl
      have q2 := hcy 2 _ rfl
      have q3 := hcy 3 _ rfl
      have q4 := hcy 4 _ rfl
      have q5 := hcy 5 _ rfl
      simp only [Nat.add_zero] at p0 q0
      have hne : ∀ w, (binOp BinOp.neq 33 (.agg #[.string z.key, .int .u64 z.ver, .int .i64 z.o, .int .i64 z.age, .bool z.gone, .string z.data]) (.agg #[.string z.key, .int .u64 z.ver, .int .i64 z.o, .int .i64 z.age, .bool z.gone, .string z.data])).run Tryd.prog w = .ok (.bool false) w := fun w => by
        rw [neR]
        simp
      clear hcx hcy
      have hlt' : (j : Int) < (L.length : Int) := by omega
      have hj0 : (0 : Int) ≤ (j : Int) := by omega
      clear hc hd
      go_wp2_with fail
      go_quiet (fail)
      go_wp2_with fail
      go_roundg (L.length - (j + 1))
      case measure => rw [Hg.out]; omega
      case rel => exact ⟨j + 1, by go_num, by omega, HO.out.drewN _, rfl⟩
    · have hlt' : ¬ (j : Int) < (L.length : Int) := by omega
      go_wp2_with fail
      go_ret
      exact ⟨rfl, HO.out⟩
/-- A message. -/
structure MsgT where
  kind : Int
  node : Int
  walk : Int
  high : Bool
  nodes : List Int
  ids : List (ByteArray × Nat)
  recs : List RecT
/-- A message's value: its slices stand in the world. -/
structure MsgIs (w : World) (v : Value) (m : MsgT) : Prop where
  out : ∃ vn vi vr, v = .agg #[.int .i64 m.kind, .int .i64 m.node, .int .i64 m.walk, .bool m.high, vn, vi, vr] ∧ Sl w 1 vn m.nodes.length (m.nodes.flatMap intC) ∧ Sl w 2 vi m.ids.length (m.ids.flatMap idT) ∧ RSl w vr m.recs
theorem MsgIs.new {w w' : World} {v : Value} {m : MsgT} (h : MsgIs w v m) (ho : Only (fun _ => False) w w') : MsgIs w' v m := by
  obtain ⟨vn, vi, vr, h1, h2, h3, h4⟩ := h.out
  exact ⟨vn, vi, vr, h1, h2.new ho, h3.new ho, h4.new ho⟩
set_option maxRecDepth 100000 in
set_option maxHeartbeats 2000000 in
theorem msame_any (w : World) (va vb : Value) (m : MsgT) (ha : MsgIs w va m) (hb : MsgIs w vb m) :
    Calls Tryd.prog 26 #[va, vb] w fun e w' => e = .returned (.bool true) ∧ Only (fun _ => False) w w' := by
  obtain ⟨vn, vi, vr, rfl, a1, a2, a3⟩ := ha.out
  obtain ⟨un, ui, ur, rfl, b1, b2, b3⟩ := hb.out
  obtain ⟨kind, node, walk, high, nodes, ids, recs⟩ := m
  simp only at a1 a2 a3 b1 b2 b3
  obtain ⟨n1, n2, rfl, _⟩ := Sl.cells intC_length a1
  obtain ⟨i1, i2, rfl, _⟩ := Sl.cells idT_length a2
  obtain ⟨r1, r2, rfl, _⟩ := Sl.cells recC_length a3
  obtain ⟨m1, m2, rfl, _⟩ := Sl.cells intC_length b1
  obtain ⟨j1, j2, rfl, _⟩ := Sl.cells idT_length b2
  obtain ⟨s1, s2, rfl, _⟩ := Sl.cells recC_length b3
  obtain ⟨W, hW⟩ : ∃ W, W = w.alloc (.cells #[.int .i64 kind, .int .i64 node, .int .i64 walk, .bool high, .slice n1 nodes.length n2, .slice i1 ids.length i2, .slice r1 recs.length r2] 59) := ⟨_, rfl⟩
  have hbW : W.heap[w.heap.size]? = some (.cells #[.int .i64 kind, .int .i64 node, .int .i64 walk, .bool high, .slice n1 nodes.length n2, .slice i1 ids.length i2, .slice r1 recs.length r2] 59 (0, 0)) := by rw [hW]; exact heap_alloc_new w _
  have hoW : Only (fun _ => False) w W := by rw [hW]; exact (Only.refl _ _).alloc _
  have hsW : W.heap.size = w.heap.size + 1 := by rw [hW]; simp
  obtain ⟨W1, hW1⟩ : ∃ W1, W1 = W.alloc (.cells #[.int .i64 kind, .int .i64 node, .int .i64 walk, .bool high, .slice m1 nodes.length m2, .slice j1 ids.length j2, .slice s1 recs.length s2] 59) := ⟨_, rfl⟩
  have hbW1 : W1.heap[W.heap.size]? = some (.cells #[.int .i64 kind, .int .i64 node, .int .i64 walk, .bool high, .slice m1 nodes.length m2, .slice j1 ids.length j2, .slice s1 recs.length s2] 59 (0, 0)) := by rw [hW1]; exact heap_alloc_new W _
  have hoW1 : Only (fun _ => False) W W1 := by rw [hW1]; exact (Only.refl _ _).alloc _
  have hsW1 : W1.heap.size = W.heap.size + 1 := by rw [hW1]; simp
  have hbx := hoW1.old hbW id
  rw [hsW] at hbW1
  have hoA := hoW.trans hoW1
  have x0 : W1.cell? ⟨w.heap.size, 0, none⟩ = some (.int .i64 kind) := cell_at hbx 0
  have x1 : W1.cell? ⟨w.heap.size, 1, none⟩ = some (.int .i64 node) := cell_at hbx 1
  have x2 : W1.cell? ⟨w.heap.size, 2, none⟩ = some (.int .i64 walk) := cell_at hbx 2
  have x3 : W1.cell? ⟨w.heap.size, 3, none⟩ = some (.bool high) := cell_at hbx 3
  have x4 : W1.cell? ⟨w.heap.size, 4, none⟩ = some (.slice n1 nodes.length n2) := cell_at hbx 4
  have x5 : W1.cell? ⟨w.heap.size, 5, none⟩ = some (.slice i1 ids.length i2) := cell_at hbx 5
  have x6 : W1.cell? ⟨w.heap.size, 6, none⟩ = some (.slice r1 recs.length r2) := cell_at hbx 6
  have y0 : W1.cell? ⟨(w.heap.size + 1), 0, none⟩ = some (.int .i64 kind) := cell_at hbW1 0
  have y1 : W1.cell? ⟨(w.heap.size + 1), 1, none⟩ = some (.int .i64 node) := cell_at hbW1 1
  have y2 : W1.cell? ⟨(w.heap.size + 1), 2, none⟩ = some (.int .i64 walk) := cell_at hbW1 2
  have y3 : W1.cell? ⟨(w.heap.size + 1), 3, none⟩ = some (.bool high) := cell_at hbW1 3
  have y4 : W1.cell? ⟨(w.heap.size + 1), 4, none⟩ = some (.slice m1 nodes.length m2) := cell_at hbW1 4
  have y5 : W1.cell? ⟨(w.heap.size + 1), 5, none⟩ = some (.slice j1 ids.length j2) := cell_at hbW1 5
  have y6 : W1.cell? ⟨(w.heap.size + 1), 6, none⟩ = some (.slice s1 recs.length s2) := cell_at hbW1 6
  have HEI := Lib.hid (fun w' ho => eqints_any w' _ _ nodes (a1.new (h0 := w') ho) (b1.new ho))
  have HED := Lib.hid (fun w' ho => eqids_any w' _ _ ids (a2.new (h0 := w') ho) (b2.new ho))
  have HER := Lib.hid (fun w' ho => eqrecs_any w' _ _ recs (Sl.new (h0 := w') a3 ho) (Sl.new b3 ho))
  have HOA := Lib.hid hoA
  have HBX := Lib.hid hbx
  have HBY := Lib.hid hbW1
  clear hoA hbx hbW1
  clear ha hb a1 a2 a3 b1 b2 b3 hbW hoW hoW1 hsW hsW1
  go_enter Tryd.func26, Tryd.ntmps26
  go_upto_region 1 with (fail)
  rw [← hW, ← hW1]
  clear hW hW1
  go_wp2_with fail
  refine (HEI.out _ HOA.out).mono ?_
  rintro e w2 ⟨rfl, ho2⟩
  have hoB := HOA.out.trans ho2
  have hbx := ho2.old HBX.out id
  have hby := ho2.old HBY.out id
  clear x0 x1 x2 x3 x4 x5 x6 y0 y1 y2 y3 y4 y5 y6
  have x0 : w2.cell? ⟨w.heap.size, 0, none⟩ = some (.int .i64 kind) := cell_at hbx 0
  have x1 : w2.cell? ⟨w.heap.size, 1, none⟩ = some (.int .i64 node) := cell_at hbx 1
  have x2 : w2.cell? ⟨w.heap.size, 2, none⟩ = some (.int .i64 walk) := cell_at hbx 2
  have x3 : w2.cell? ⟨w.heap.size, 3, none⟩ = some (.bool high) := cell_at hbx 3
  have x4 : w2.cell? ⟨w.heap.size, 4, none⟩ = some (.slice n1 nodes.length n2) := cell_at hbx 4
  have x5 : w2.cell? ⟨w.heap.size, 5, none⟩ = some (.slice i1 ids.length i2) := cell_at hbx 5
  have x6 : w2.cell? ⟨w.heap.size, 6, none⟩ = some (.slice r1 recs.length r2) := cell_at hbx 6
  have y0 : w2.cell? ⟨(w.heap.size + 1), 0, none⟩ = some (.int .i64 kind) := cell_at hby 0
  have y1 : w2.cell? ⟨(w.heap.size + 1), 1, none⟩ = some (.int .i64 node) := cell_at hby 1
  have y2 : w2.cell? ⟨(w.heap.size + 1), 2, none⟩ = some (.int .i64 walk) := cell_at hby 2
  have y3 : w2.cell? ⟨(w.heap.size + 1), 3, none⟩ = some (.bool high) := cell_at hby 3
  have y4 : w2.cell? ⟨(w.heap.size + 1), 4, none⟩ = some (.slice m1 nodes.length m2) := cell_at hby 4
  have y5 : w2.cell? ⟨(w.heap.size + 1), 5, none⟩ = some (.slice j1 ids.length j2) := cell_at hby 5
  have y6 : w2.cell? ⟨(w.heap.size + 1), 6, none⟩ = some (.slice s1 recs.length s2) := cell_at hby 6
  have HOB := Lib.hid hoB
  have HBX2 := Lib.hid hbx
  have HBY2 := Lib.hid hby
  clear hoB hbx hby
  clear ho2
  go_wp2_with fail
  refine (HED.out _ HOB.out).mono ?_
  rintro e w3 ⟨rfl, ho3⟩
  have hoC := HOB.out.trans ho3
  have hbx := ho3.old HBX2.out id
  have hby := ho3.old HBY2.out id
  clear x0 x1 x2 x3 x4 x5 x6 y0 y1 y2 y3 y4 y5 y6
  have x0 : w3.cell? ⟨w.heap.size, 0, none⟩ = some (.int .i64 kind) := cell_at hbx 0
  have x1 : w3.cell? ⟨w.heap.size, 1, none⟩ = some (.int .i64 node) := cell_at hbx 1
  have x2 : w3.cell? ⟨w.heap.size, 2, none⟩ = some (.int .i64 walk) := cell_at hbx 2
  have x3 : w3.cell? ⟨w.heap.size, 3, none⟩ = some (.bool high) := cell_at hbx 3
  have x4 : w3.cell? ⟨w.heap.size, 4, none⟩ = some (.slice n1 nodes.length n2) := cell_at hbx 4
  have x5 : w3.cell? ⟨w.heap.size, 5, none⟩ = some (.slice i1 ids.length i2) := cell_at hbx 5
  have x6 : w3.cell? ⟨w.heap.size, 6, none⟩ = some (.slice r1 recs.length r2) := cell_at hbx 6
  have y0 : w3.cell? ⟨(w.heap.size + 1), 0, none⟩ = some (.int .i64 kind) := cell_at hby 0
  have y1 : w3.cell? ⟨(w.heap.size + 1), 1, none⟩ = some (.int .i64 node) := cell_at hby 1
  have y2 : w3.cell? ⟨(w.heap.size + 1), 2, none⟩ = some (.int .i64 walk) := cell_at hby 2
  have y3 : w3.cell? ⟨(w.heap.size + 1), 3, none⟩ = some (.bool high) := cell_at hby 3
  have y4 : w3.cell? ⟨(w.heap.size + 1), 4, none⟩ = some (.slice m1 nodes.length m2) := cell_at hby 4
  have y5 : w3.cell? ⟨(w.heap.size + 1), 5, none⟩ = some (.slice j1 ids.length j2) := cell_at hby 5
  have y6 : w3.cell? ⟨(w.heap.size + 1), 6, none⟩ = some (.slice s1 recs.length s2) := cell_at hby 6
  have HOC := Lib.hid hoC
  clear hoC
  clear ho3
  go_wp2_with fail
  refine (HER.out _ HOC.out).mono ?_
  rintro e w4 ⟨rfl, ho4⟩
  go_wp2_with fail
  go_ret
  exact ⟨rfl, HOC.out.trans ho4⟩
end Go.Proofs.YtianboachknfmaaDoor
