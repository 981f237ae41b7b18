/- digest.Pack. -/
import Derived.Test.YtjdlcfllmpdffaaDoorMF
import Derived.Deep.CutBlock
import Derived.Lib.SliceRun
/-! slices.Equal of equal slices (ints, ids, records); message.Same of messages with the same contents. -/
namespace Go.Proofs.YtjdlcfllmpdffaaDoor
open Go.Conc Go.RowKit Go.Maps

def intC (n : Int) : List Value := [.int .i64 n]
theorem intC_length (n : Int) : (intC n).length = 1 := rfl
/-- An id's two cells. -/
def idT (p : ByteArray × Nat) : List Value := [.string p.1, .int .u64 p.2]
theorem idT_length (p : ByteArray × Nat) : (idT p).length = 2 := rfl
def toId (x : RecT) : ByteArray × Nat := (x.key, x.ver)
theorem ids_fl (L : List RecT) : (L.map toId).flatMap idT = L.flatMap idC := by
  rw [List.flatMap_map]
  rfl
theorem neI (w : World) (k k' : ByteArray) (v v' : Int) : (binOp BinOp.neq 31 (.agg #[.string k, .int .u64 v]) (.agg #[.string k', .int .u64 v'])).run Tryd.prog w = .ok (.bool (!((k.toList == k'.toList) && (v == v')))) w := by
  simp [go_sem]
  by_cases h1 : k.toList = k'.toList <;> by_cases h2 : v = v' <;> simp [h1, h2]
set_option maxRecDepth 100000 in
theorem eqints_any (w : World) (va vb : Value) (L : List Int) (ha : Sl w 1 va L.length (L.flatMap intC)) (hb : Sl w 1 vb L.length (L.flatMap intC)) :
    Calls Tryd.prog 65 #[va, vb] w fun e w' => e = .returned (.bool true) ∧ Only (fun _ => False) w w' := by
  obtain ⟨a, cap, rfl, h1, h2, h3⟩ := Sl.cells intC_length ha
  obtain ⟨a', cap', rfl, k1, k2, k3⟩ := Sl.cells intC_length hb
  unfold maxLen at h2 k2
  have HA := Lib.hid h3
  have HB := Lib.hid k3
  clear h3 k3
  clear ha hb
  go_enter Tryd.func65, Tryd.ntmps65
  go_wp2_with fail
  go_loopg [13] L.length (fun g v13 wr => ∃ j : Nat, v13 = .int .i64 j ∧ j ≤ L.length ∧ Only (fun _ => False) w wr ∧ g = L.length - j)
  case atStart => exact ⟨0, rfl, Nat.zero_le _, Only.refl _ _, rfl⟩
  case round =>
    obtain ⟨j, rfl, hj, ho, hg⟩ := hrel
    have Hg := Lib.hid hg
    have HO := Lib.hid ho
    clear hg ho
    by_cases hlt : j < L.length
    · obtain ⟨b, off, he, hc⟩ := HA.out.at j hlt
      subst he
      obtain ⟨b', off', he, hd⟩ := HB.out.at j hlt
      subst he
      have p0 := HO.out.cell (hc 0 _ rfl) id
      have q0 := HO.out.cell (hd 0 _ rfl) id
      simp only [Nat.add_zero, Nat.mul_one] at p0 q0
      have hlt' : (j : Int) < (L.length : Int) := by omega
      have hj0 : (0 : Int) ≤ (j : Int) := by omega
      clear hc hd
      go_wp2_with fail
      go_quiet (fail)
      go_wp2_with fail
      go_roundg (L.length - (j + 1))
      case measure => rw [Hg.out]; omega
      case rel => exact ⟨j + 1, by go_num, by omega, HO.out.drewN _, rfl⟩
    · have hlt' : ¬ (j : Int) < (L.length : Int) := by omega
      go_wp2_with fail
      go_ret
      exact ⟨rfl, HO.out⟩
set_option maxRecDepth 100000 in
theorem eqids_any (w : World) (va vb : Value) (L : List (ByteArray × Nat)) (ha : Sl w 2 va L.length (L.flatMap idT)) (hb : Sl w 2 vb L.length (L.flatMap idT)) :
    Calls Tryd.prog 66 #[va, vb] w fun e w' => e = .returned (.bool true) ∧ Only (fun _ => False) w w' := by
  obtain ⟨a, cap, rfl, h1, h2, h3⟩ := Sl.cells idT_length ha
  obtain ⟨a', cap', rfl, k1, k2, k3⟩ := Sl.cells idT_length hb
  unfold maxLen at h2 k2
  have HA := Lib.hid h3
  have HB := Lib.hid k3
  clear h3 k3
  clear ha hb
  go_enter Tryd.func66, Tryd.ntmps66
  go_wp2_with fail
  go_loopg [13] L.length (fun g v13 wr => ∃ j : Nat, v13 = .int .i64 j ∧ j ≤ L.length ∧ Only (fun _ => False) w wr ∧ g = L.length - j)
  case atStart => exact ⟨0, rfl, Nat.zero_le _, Only.refl _ _, rfl⟩
  case round =>
    obtain ⟨j, rfl, hj, ho, hg⟩ := hrel
    have Hg := Lib.hid hg
    have HO := Lib.hid ho
    clear hg ho
    by_cases hlt : j < L.length
    · obtain ⟨b, off, he, hc⟩ := HA.out.at j hlt
      subst he
      obtain ⟨b', off', he, hd⟩ := HB.out.at j hlt
      subst he
      have p0 := HO.out.cell (hc 0 _ rfl) id
      have p1 := HO.out.cell (hc 1 _ rfl) id
      have q0 := HO.out.cell (hd 0 _ rfl) id
      have q1 := HO.out.cell (hd 1 _ rfl) id
      simp only [Nat.add_zero] at p0 q0
      generalize L[j].1 = zk at *
      generalize L[j].2 = zv at *
      have hne : ∀ w, (binOp BinOp.neq 31 (.agg #[.string zk, .int .u64 zv]) (.agg #[.string zk, .int .u64 zv])).run Tryd.prog w = .ok (.bool false) w := fun w => by
        rw [neI]
        simp
      have hlt' : (j : Int) < (L.length : Int) := by omega
      have hj0 : (0 : Int) ≤ (j : Int) := by omega
      clear hc hd
      go_wp2_with fail
      go_quiet (fail)
      go_wp2_with fail
      go_roundg (L.length - (j + 1))
      case measure => rw [Hg.out]; omega
      case rel => exact ⟨j + 1, by go_num, by omega, HO.out.drewN _, rfl⟩
    · have hlt' : ¬ (j : Int) < (L.length : Int) := by omega
      go_wp2_with fail
      go_ret
      exact ⟨rfl, HO.out⟩
set_option maxRecDepth 100000 in
theorem eqrecs_any (w : World) (va vb : Value) (L : List RecT) (ha : RSl w va L) (hb : RSl w vb L) :
    Calls Tryd.prog 67 #[va, vb] w fun e w' => e = .returned (.bool true) ∧ Only (fun _ => False) w w' := by
  obtain ⟨a, cap, rfl, h1, h2, h3⟩ := Sl.cells recC_length ha
  obtain ⟨a', cap', rfl, k1, k2, k3⟩ := Sl.cells recC_length hb
  unfold maxLen at h2 k2
  have HA := Lib.hid h3
  have HB := Lib.hid k3
  clear h3 k3
  clear ha hb
  go_enter Tryd.func67, Tryd.ntmps67
  go_wp2_with fail
  go_loopg [13] L.length (fun g v13 wr => ∃ j : Nat, v13 = .int .i64 j ∧ j ≤ L.length ∧ Only (fun _ => False) w wr ∧ g = L.length - j)
  case atStart => exact ⟨0, rfl, Nat.zero_le _, Only.refl _ _, rfl⟩
  case round =>
    obtain ⟨j, rfl, hj, ho, hg⟩ := hrel
    have Hg := Lib.hid hg
    have HO := Lib.hid ho
    clear hg ho
    by_cases hlt : j < L.length
    · obtain ⟨b, off, he, hc⟩ := HA.out.at j hlt
      subst he
      obtain ⟨b', off', he, hd⟩ := HB.out.at j hlt
      subst he
      have hcx : ∀ i u, (recC L[j])[i]? = some u → _ := fun i u hu => HO.out.cell (hc i u hu) id
      have hcy : ∀ i u, (recC L[j])[i]? = some u → _ := fun i u hu => HO.out.cell (hd i u hu) id
      generalize L[j] = z at *
      have p0 := hcx 0 _ rfl
      have p1 := hcx 1 _ rfl
      have p2 := hcx 2 _ rfl
      have p3 := hcx 3 _ rfl
      have p4 := hcx 4 _ rfl
      have p5 := hcx 5 _ rfl
      have q0 := hcy 0 _ rfl
      have q1 := hcy 1 _ rfl
      have q2 := hcy 2 _ rfl
      have q3 := hcy 3 _ rfl
      have q4 := hcy 4 _ rfl
      have q5 := hcy 5 _ rfl
      simp only [Nat.add_zero] at p0 q0
      have hne : ∀ w, (binOp BinOp.neq 33 (.agg #[.string z.key, .int .u64 z.ver, .int .i64 z.o, .int .i64 z.age, .bool z.gone, .string z.data]) (.agg #[.string z.key, .int .u64 z.ver, .int .i64 z.o, .int .i64 z.age, .bool z.gone, .string z.data])).run Tryd.prog w = .ok (.bool false) w := fun w => by
        rw [neR]
        simp
      clear hcx hcy
      have hlt' : (j : Int) < (L.length : Int) := by omega
      have hj0 : (0 : Int) ≤ (j : Int) := by omega
      clear hc hd
      go_wp2_with fail
      go_quiet (fail)
      go_wp2_with fail
      go_roundg (L.length - (j + 1))
      case measure => rw [Hg.out]; omega
      case rel => exact ⟨j + 1, by go_num, by omega, HO.out.drewN _, rfl⟩
    · have hlt' : ¬ (j : Int) < (L.length : Int) := by omega
      go_wp2_with fail
      go_ret
      exact ⟨rfl, HO.out⟩
/-- A message. -/
structure MsgT where
  kind : Int
  node : Int
  walk : Int
  high : Bool
  nodes : List Int
  ids : List (ByteArray × Nat)
  recs : List RecT
/-- A message's value: its slices stand in the world. -/
structure MsgIs (w : World) (v : Value) (m : MsgT) : Prop where
  out : ∃ vn vi vr, v = .agg #[.int .i64 m.kind, .int .i64 m.node, .int .i64 m.walk, .bool m.high, vn, vi, vr] ∧ Sl w 1 vn m.nodes.length (m.nodes.flatMap intC) ∧ Sl w 2 vi m.ids.length (m.ids.flatMap idT) ∧ RSl w vr m.recs
theorem MsgIs.new {w w' : World} {v : Value} {m : MsgT} (h : MsgIs w v m) (ho : Only (fun _ => False) w w') : MsgIs w' v m := by
  obtain ⟨vn, vi, vr, h1, h2, h3, h4⟩ := h.out
  exact ⟨vn, vi, vr, h1, h2.new ho, h3.new ho, h4.new ho⟩
set_option maxRecDepth 100000 in
set_option maxHeartbeats 2000000 in
theorem msame_any (w : World) (va vb : Value) (m : MsgT) (ha : MsgIs w va m) (hb : MsgIs w vb m) :
    Calls Tryd.prog 23 #[va, vb] w fun e w' => e = .returned (.bool true) ∧ Only (fun _ => False) w w' := by
  obtain ⟨vn, vi, vr, rfl, a1, a2, a3⟩ := ha.out
  obtain ⟨un, ui, ur, rfl, b1, b2, b3⟩ := hb.out
  obtain ⟨kind, node, walk, high, nodes, ids, recs⟩ := m
  simp only at a1 a2 a3 b1 b2 b3
  obtain ⟨n1, n2, rfl, _⟩ := Sl.cells intC_length a1
  obtain ⟨i1, i2, rfl, _⟩ := Sl.cells idT_length a2
  obtain ⟨r1, r2, rfl, _⟩ := Sl.cells recC_length a3
  obtain ⟨m1, m2, rfl, _⟩ := Sl.cells intC_length b1
  obtain ⟨j1, j2, rfl, _⟩ := Sl.cells idT_length b2
  obtain ⟨s1, s2, rfl, _⟩ := Sl.cells recC_length b3
  obtain ⟨W, hW⟩ : ∃ W, W = w.alloc (.cells #[.int .i64 kind, .int .i64 node, .int .i64 walk, .bool high, .slice n1 nodes.length n2, .slice i1 ids.length i2, .slice r1 recs.length r2] 56) := ⟨_, rfl⟩
  have hbW : W.heap[w.heap.size]? = some (.cells #[.int .i64 kind, .int .i64 node, .int .i64 walk, .bool high, .slice n1 nodes.length n2, .slice i1 ids.length i2, .slice r1 recs.length r2] 56 (0, 0)) := by rw [hW]; exact heap_alloc_new w _
  have hoW : Only (fun _ => False) w W := by rw [hW]; exact (Only.refl _ _).alloc _
  have hsW : W.heap.size = w.heap.size + 1 := by rw [hW]; simp
  obtain ⟨W1, hW1⟩ : ∃ W1, W1 = W.alloc (.cells #[.int .i64 kind, .int .i64 node, .int .i64 walk, .bool high, .slice m1 nodes.length m2, .slice j1 ids.length j2, .slice s1 recs.length s2] 56) := ⟨_, rfl⟩
  have hbW1 : W1.heap[W.heap.size]? = some (.cells #[.int .i64 kind, .int .i64 node, .int .i64 walk, .bool high, .slice m1 nodes.length m2, .slice j1 ids.length j2, .slice s1 recs.length s2] 56 (0, 0)) := by rw [hW1]; exact heap_alloc_new W _
  have hoW1 : Only (fun _ => False) W W1 := by rw [hW1]; exact (Only.refl _ _).alloc _
  have hsW1 : W1.heap.size = W.heap.size + 1 := by rw [hW1]; simp
  have hbx := hoW1.old hbW id
  rw [hsW] at hbW1
  have hoA := hoW.trans hoW1
  have x0 : W1.cell? ⟨w.heap.size, 0, none⟩ = some (.int .i64 kind) := cell_at hbx 0
  have x1 : W1.cell? ⟨w.heap.size, 1, none⟩ = some (.int .i64 node) := cell_at hbx 1
  have x2 : W1.cell? ⟨w.heap.size, 2, none⟩ = some (.int .i64 walk) := cell_at hbx 2
  have x3 : W1.cell? ⟨w.heap.size, 3, none⟩ = some (.bool high) := cell_at hbx 3
  have x4 : W1.cell? ⟨w.heap.size, 4, none⟩ = some (.slice n1 nodes.length n2) := cell_at hbx 4
  have x5 : W1.cell? ⟨w.heap.size, 5, none⟩ = some (.slice i1 ids.length i2) := cell_at hbx 5
  have x6 : W1.cell? ⟨w.heap.size, 6, none⟩ = some (.slice r1 recs.length r2) := cell_at hbx 6
  have y0 : W1.cell? ⟨(w.heap.size + 1), 0, none⟩ = some (.int .i64 kind) := cell_at hbW1 0
  have y1 : W1.cell? ⟨(w.heap.size + 1), 1, none⟩ = some (.int .i64 node) := cell_at hbW1 1
  have y2 : W1.cell? ⟨(w.heap.size + 1), 2, none⟩ = some (.int .i64 walk) := cell_at hbW1 2
  have y3 : W1.cell? ⟨(w.heap.size + 1), 3, none⟩ = some (.bool high) := cell_at hbW1 3
  have y4 : W1.cell? ⟨(w.heap.size + 1), 4, none⟩ = some (.slice m1 nodes.length m2) := cell_at hbW1 4
  have y5 : W1.cell? ⟨(w.heap.size + 1), 5, none⟩ = some (.slice j1 ids.length j2) := cell_at hbW1 5
  have y6 : W1.cell? ⟨(w.heap.size + 1), 6, none⟩ = some (.slice s1 recs.length s2) := cell_at hbW1 6
  have HEI := Lib.hid (fun w' ho => eqints_any w' _ _ nodes (a1.new (h0 := w') ho) (b1.new ho))
  have HED := Lib.hid (fun w' ho => eqids_any w' _ _ ids (a2.new (h0 := w') ho) (b2.new ho))
  have HER := Lib.hid (fun w' ho => eqrecs_any w' _ _ recs (Sl.new (h0 := w') a3 ho) (Sl.new b3 ho))
  have HOA := Lib.hid hoA
  have HBX := Lib.hid hbx
  have HBY := Lib.hid hbW1
  clear hoA hbx hbW1
  clear ha hb a1 a2 a3 b1 b2 b3 hbW hoW hoW1 hsW hsW1
  go_enter Tryd.func23, Tryd.ntmps23
  go_upto_region 1 with (fail)
  rw [← hW, ← hW1]
  clear hW hW1
  go_wp2_with fail
  refine (HEI.out _ HOA.out).mono ?_
  rintro e w2 ⟨rfl, ho2⟩
  have hoB := HOA.out.trans ho2
  have hbx := ho2.old HBX.out id
  have hby := ho2.old HBY.out id
  clear x0 x1 x2 x3 x4 x5 x6 y0 y1 y2 y3 y4 y5 y6
  have x0 : w2.cell? ⟨w.heap.size, 0, none⟩ = some (.int .i64 kind) := cell_at hbx 0
  have x1 : w2.cell? ⟨w.heap.size, 1, none⟩ = some (.int .i64 node) := cell_at hbx 1
  have x2 : w2.cell? ⟨w.heap.size, 2, none⟩ = some (.int .i64 walk) := cell_at hbx 2
  have x3 : w2.cell? ⟨w.heap.size, 3, none⟩ = some (.bool high) := cell_at hbx 3
  have x4 : w2.cell? ⟨w.heap.size, 4, none⟩ = some (.slice n1 nodes.length n2) := cell_at hbx 4
  have x5 : w2.cell? ⟨w.heap.size, 5, none⟩ = some (.slice i1 ids.length i2) := cell_at hbx 5
  have x6 : w2.cell? ⟨w.heap.size, 6, none⟩ = some (.slice r1 recs.length r2) := cell_at hbx 6
  have y0 : w2.cell? ⟨(w.heap.size + 1), 0, none⟩ = some (.int .i64 kind) := cell_at hby 0
  have y1 : w2.cell? ⟨(w.heap.size + 1), 1, none⟩ = some (.int .i64 node) := cell_at hby 1
  have y2 : w2.cell? ⟨(w.heap.size + 1), 2, none⟩ = some (.int .i64 walk) := cell_at hby 2
  have y3 : w2.cell? ⟨(w.heap.size + 1), 3, none⟩ = some (.bool high) := cell_at hby 3
  have y4 : w2.cell? ⟨(w.heap.size + 1), 4, none⟩ = some (.slice m1 nodes.length m2) := cell_at hby 4
  have y5 : w2.cell? ⟨(w.heap.size + 1), 5, none⟩ = some (.slice j1 ids.length j2) := cell_at hby 5
  have y6 : w2.cell? ⟨(w.heap.size + 1), 6, none⟩ = some (.slice s1 recs.length s2) := cell_at hby 6
  have HOB := Lib.hid hoB
  have HBX2 := Lib.hid hbx
  have HBY2 := Lib.hid hby
  clear hoB hbx hby
  clear ho2
  go_wp2_with fail
  refine (HED.out _ HOB.out).mono ?_
  rintro e w3 ⟨rfl, ho3⟩
  have hoC := HOB.out.trans ho3
  have hbx := ho3.old HBX2.out id
  have hby := ho3.old HBY2.out id
  clear x0 x1 x2 x3 x4 x5 x6 y0 y1 y2 y3 y4 y5 y6
  have x0 : w3.cell? ⟨w.heap.size, 0, none⟩ = some (.int .i64 kind) := cell_at hbx 0
  have x1 : w3.cell? ⟨w.heap.size, 1, none⟩ = some (.int .i64 node) := cell_at hbx 1
  have x2 : w3.cell? ⟨w.heap.size, 2, none⟩ = some (.int .i64 walk) := cell_at hbx 2
  have x3 : w3.cell? ⟨w.heap.size, 3, none⟩ = some (.bool high) := cell_at hbx 3
  have x4 : w3.cell? ⟨w.heap.size, 4, none⟩ = some (.slice n1 nodes.length n2) := cell_at hbx 4
  have x5 : w3.cell? ⟨w.heap.size, 5, none⟩ = some (.slice i1 ids.length i2) := cell_at hbx 5
  have x6 : w3.cell? ⟨w.heap.size, 6, none⟩ = some (.slice r1 recs.length r2) := cell_at hbx 6
  have y0 : w3.cell? ⟨(w.heap.size + 1), 0, none⟩ = some (.int .i64 kind) := cell_at hby 0
  have y1 : w3.cell? ⟨(w.heap.size + 1), 1, none⟩ = some (.int .i64 node) := cell_at hby 1
  have y2 : w3.cell? ⟨(w.heap.size + 1), 2, none⟩ = some (.int .i64 walk) := cell_at hby 2
  have y3 : w3.cell? ⟨(w.heap.size + 1), 3, none⟩ = some (.bool high) := cell_at hby 3
  have y4 : w3.cell? ⟨(w.heap.size + 1), 4, none⟩ = some (.slice m1 nodes.length m2) := cell_at hby 4
  have y5 : w3.cell? ⟨(w.heap.size + 1), 5, none⟩ = some (.slice j1 ids.length j2) := cell_at hby 5
  have y6 : w3.cell? ⟨(w.heap.size + 1), 6, none⟩ = some (.slice s1 recs.length s2) := cell_at hby 6
  have HOC := Lib.hid hoC
  clear hoC
  clear ho3
  go_wp2_with fail
  refine (HER.out _ HOC.out).mono ?_
  rintro e w4 ⟨rfl, ho4⟩
  go_wp2_with fail
  go_ret
  exact ⟨rfl, HOC.out.trans ho4⟩
end Go.Proofs.YtjdlcfllmpdffaaDoor
/-! seeds: node; bellhopref20: Others, Asked; digest.Ask. -/
namespace Go.Proofs.YtjdlcfllmpdffaaDoor
open Go.Conc Go.RowKit Go.Maps

def nodeOk (n : Int) : Bool := decide (1 ≤ n ∧ n ≤ 65535)
theorem snode_any (w : World) (n : Int) : Calls Tryd.prog 64 #[.int .i64 n] w fun e w' => e = .returned (.bool (nodeOk n)) ∧ w = w' := by
  by_cases h1 : 1 ≤ n
  · by_cases h2 : n ≤ 65535
    · have h3 : nodeOk n = true := decide_eq_true ⟨h1, h2⟩
      rw [h3]
      clear h3
      go_enter Tryd.func64, Tryd.ntmps64
      go_wp2_with fail
      go_ret
      exact ⟨rfl, rfl⟩
    · have h3 : nodeOk n = false := decide_eq_false (fun h => h2 h.2)
      rw [h3]
      clear h3
      go_enter Tryd.func64, Tryd.ntmps64
      go_wp2_with fail
      go_ret
      exact ⟨rfl, rfl⟩
  · have h3 : nodeOk n = false := decide_eq_false (fun h => h1 h.1)
    rw [h3]
    clear h3
    go_enter Tryd.func64, Tryd.ntmps64
    go_wp2_with fail
    go_ret
    exact ⟨rfl, rfl⟩
theorem infoInt : (Tryd.prog.info? 3).map (fun i => (i.zero, i.size, i.bytes)) = some (some (.int .i64 0), 1, 8) := by kernel_rfl
theorem intC_one (n : Int) : ∀ u ∈ intC n, u.oneCell' = true := by
  intro u hu
  simp only [intC, List.mem_singleton] at hu
  subst hu
  rfl
/-- A slice of ints of the call's own. -/
abbrev IRow (w : World) (base : Nat) (v : Value) (l : List Int) : Prop := w.ownsRow base 3 1 v l.length (l.flatMap intC)
def othersL (self : Int) (l : List Int) : List Int := l.filter (fun n => !decide (n = self))
theorem others_snoc (self : Int) (l : List Int) (k : Nat) (hk : k < l.length) : othersL self (l.take (k + 1)) = othersL self (l.take k) ++ if l[k] = self then [] else [l[k]] := by
  unfold othersL
  rw [List.take_add_one, List.getElem?_eq_getElem hk, List.filter_append]
  congr 1
  by_cases h : l[k] = self <;> simp [h]
set_option maxRecDepth 100000 in
set_option maxHeartbeats 1000000 in
theorem rothers_any (w : World) (v : Value) (l : List Int) (self : Int) (h : Sl w 1 v l.length (l.flatMap intC)) (hl : l.length ≤ 1000000) :
    Calls Tryd.prog 20 #[v, .int .i64 self] w fun e w' => ∃ v', e = .returned v' ∧ Only (fun _ => False) w w' ∧ IRow w' w.heap.size v' (othersL self l) := by
  obtain ⟨i0, hi0, iz0, iz1, iz2⟩ := info_parts infoInt
  obtain ⟨a, cap, rfl, h1, h2, h3⟩ := Sl.cells intC_length h
  unfold maxLen at h2
  have HC := Lib.hid h3
  clear h3
  clear h
  go_enter Tryd.func20, Tryd.ntmps20
  go_wp2_with fail
  go_loopg [5, 6] l.length (fun g v5 v6 wr => ∃ k : Nat, v6 = .int .i64 k ∧ k ≤ l.length ∧ Only (fun _ => False) w wr ∧ IRow wr w.heap.size v5 (othersL self (l.take k)) ∧ g = l.length - k)
  case atStart => exact ⟨0, rfl, Nat.zero_le _, Only.refl _ _, World.ownsRow_nil w _ _ _, rfl⟩
  case round =>
    obtain ⟨k, rfl, hk, ho, hrow, hg⟩ := hrel
    have Hg := Lib.hid hg
    have HO := Lib.hid ho
    have HROW := Lib.hid hrow
    clear hg ho hrow
    by_cases hlt : k < l.length
    · obtain ⟨b, off, he, hc⟩ := HC.out.at k hlt
      subst he
      have p0 := HO.out.cell (hc 0 _ rfl) id
      simp only [Nat.add_zero, Nat.mul_one] at p0
      have hts := others_snoc self l k hlt
      have hol : (othersL self (l.take k)).length ≤ k := Nat.le_trans (List.length_filter_le _ _) (List.length_take_le _ _)
      have hlt' : (k : Int) < (l.length : Int) := by omega
      generalize l[k] = n at *
      have HTS := Lib.hid hts
      have HOL := Lib.hid hol
      clear hts hol
      clear hc
      by_cases hn : n = self
      · have hnb : (n != self) = false := by rw [hn]; simp
        have HN := Lib.hid hn
        clear hn
        go_wp2_with fail
        go_roundg (l.length - (k + 1))
        case measure => rw [Hg.out]; omega
        case rel =>
          refine ⟨k + 1, by go_num, by omega, HO.out, ?_, rfl⟩
          rw [HTS.out, if_pos HN.out, List.append_nil]
          exact HROW.out
      · have hnb : (n != self) = true := by simpa using hn
        have HN := Lib.hid hn
        clear hn
        go_wp2_with (at_builtin; refine Wait.mk ?_)
        refine Wait.go (wpList_append_src _ rfl (.tmp 19) (.tmp 24) 45 45 rfl w.heap.size 3 i0 _ 1 8 Tryd.underlying45 hi0 iz0 iz1 iz2 rfl _ (othersL self (l.take k)).length ((othersL self (l.take k)).flatMap intC) rfl (HROW.out.alloc _) _ 1 (intC n) rfl ?src4 ?m4 ?b4 ?base4 ?_)
        case src4 => exact Src.ofSlice _ Tryd.underlying45 _ _ _ _ rfl (news_new _ _ _) (intC_one _)
        case m4 => have := HOL.out; unfold maxLen; omega
        case b4 => have := HOL.out; omega
        case base4 => have := HO.out.size; simp; omega
        intro v4 w5 own4 gr4 _
        have ho5 : Only (fun _ => False) w w5 := (HO.out.alloc _).own (HROW.out.alloc _) (Nat.le_refl _) gr4
        have HO5 := Lib.hid ho5
        have HW5 := Lib.hid own4
        clear ho5 own4
        clear gr4
        go_wp2_with fail
        go_roundg (l.length - (k + 1))
        case measure => rw [Hg.out]; omega
        case rel =>
          refine ⟨k + 1, by go_num, by omega, HO5.out, ?_, rfl⟩
          unfold IRow
          rw [HTS.out, if_neg HN.out, List.length_append, List.flatMap_append]
          have e1 : [n].flatMap intC = intC n := by simp
          rw [e1]
          exact HW5.out
    · have hke : k = l.length := by omega
      have hlt' : ¬ (k : Int) < (l.length : Int) := by omega
      have hW := HROW.out
      rw [hke, List.take_length] at hW
      have HW2 := Lib.hid hW
      clear hW
      clear hke
      go_wp2_with fail
      go_ret
      exact ⟨_, rfl, HO.out, HW2.out⟩
/-- Which seed is asked at a tick. -/
def askedV (l : List Int) (every tick : Int) : Int := if every < 1 ∨ tick % every ≠ 0 ∨ l.length = 0 then 0 else l.getD (((tick / every - 1) % l.length).toNat) 0
set_option maxRecDepth 100000 in
theorem rasked_no (w : World) (v : Value) (l : List Int) (every tick : Int) (h : Sl w 1 v l.length (l.flatMap intC)) (hb : every < 1 ∨ tick % every ≠ 0 ∨ l.length = 0) (ht : 0 ≤ tick) (ht2 : tick ≤ 1000) (he : every ≤ 1000) :
    Calls Tryd.prog 22 #[v, .int .i64 every, .int .i64 tick] w fun e w' => e = .returned (.int .i64 0) ∧ w = w' := by
  obtain ⟨a, cap, rfl, h1, h2, h3⟩ := Sl.cells intC_length h
  clear h h3
  by_cases c1 : every < 1
  · go_enter Tryd.func22, Tryd.ntmps22
    go_wp2_with fail
    go_ret
    exact ⟨rfl, rfl⟩
  · have e0 : ¬ every = 0 := by omega
    have e1 : 1 ≤ every := by omega
    by_cases c2 : tick % every = 0
    · have c3 : l.length = 0 := (hb.resolve_left c1).resolve_left (fun h => h c2)
      have c5 : (tick % every != 0) = false := by rw [c2]; rfl
      rw [c3]
      clear hb c3 c2
      go_enter Tryd.func22, Tryd.ntmps22
      go_wp2_with fail
      go_ret
      exact ⟨rfl, rfl⟩
    · have c5 : (tick % every != 0) = true := by simpa using c2
      clear hb c2
      go_enter Tryd.func22, Tryd.ntmps22
      go_wp2_with fail
      go_ret
      exact ⟨rfl, rfl⟩
def askMsg (L : List RecT) : MsgT := ⟨13, 0, 0, false, [], L.map toId, []⟩
set_option maxRecDepth 100000 in
theorem dask_any (w : World) (s b : Nat) (most ttl r : Int) (L : List RecT) (h : StoreAt w s b most ttl r L) :
    Calls Tryd.prog 39 #[.pointer (some ⟨s, 0, none⟩)] w fun e w' => ∃ v, e = .returned v ∧ Only (fun _ => False) w w' ∧ MsgIs w' v (askMsg L) := by
  obtain ⟨W, hW⟩ : ∃ W, W = w.alloc (.cells #[.int .i64 0, .int .i64 0, .int .i64 0, .bool false, .slice none 0 0, .slice none 0 0, .slice none 0 0] 56) := ⟨_, rfl⟩
  have hbW : W.heap[w.heap.size]? = some (.cells #[.int .i64 0, .int .i64 0, .int .i64 0, .bool false, .slice none 0 0, .slice none 0 0, .slice none 0 0] 56 (0, 0)) := by rw [hW]; exact heap_alloc_new w _
  have hoW : Only (fun _ => False) w W := by rw [hW]; exact (Only.refl _ _).alloc _
  have hsW : W.heap.size = w.heap.size + 1 := by rw [hW]; simp
  have hhW := h.new hoW
  have HI := Lib.hid (sids_any W s b most ttl r L hhW)
  have HOW := Lib.hid hoW
  have HBW := Lib.hid hbW
  have HSZ := Lib.hid hsW
  clear hoW hbW hsW
  clear h hhW
  go_enter Tryd.func39, Tryd.ntmps39
  go_upto_region 1 with (fail)
  rw [← hW]
  clear hW
  go_wp2_with fail
  refine HI.out.mono ?_
  rintro e w2 ⟨v2, rfl, ho2, hrow⟩
  have hsl := Sl.of_owns hrow
  obtain ⟨_, ia, icap, rfl, i1, i2, i3⟩ := id hsl
  have hb2 := ho2.old HBW.out id
  have x0 : w2.cell? ⟨w.heap.size, 0, none⟩ = some (.int .i64 0) := cell_at hb2 0
  have x1 : w2.cell? ⟨w.heap.size, 1, none⟩ = some (.int .i64 0) := cell_at hb2 1
  have x2 : w2.cell? ⟨w.heap.size, 2, none⟩ = some (.int .i64 0) := cell_at hb2 2
  have x3 : w2.cell? ⟨w.heap.size, 3, none⟩ = some (.bool false) := cell_at hb2 3
  have x4 : w2.cell? ⟨w.heap.size, 4, none⟩ = some (.slice none 0 0) := cell_at hb2 4
  have x5 : w2.cell? ⟨w.heap.size, 5, none⟩ = some (.slice none 0 0) := cell_at hb2 5
  have x6 : w2.cell? ⟨w.heap.size, 6, none⟩ = some (.slice none 0 0) := cell_at hb2 6
  have xf : ∀ i, w2.frozen? ⟨w.heap.size, i, none⟩ = false := free_at hb2
  have hoA := HOW.out.trans ho2
  have HB2 := Lib.hid hb2
  have HOA := Lib.hid hoA
  have HROW := Lib.hid hrow
  clear hb2 hoA hrow
  clear i3 ho2 hsl
  go_wp2_with fail
  obtain ⟨s1, s2⟩ := lit_set HB2.out [.int .i64 13, .int .i64 0, .int .i64 0, .bool false, .slice none 0 0, .slice ia L.length icap, .slice none 0 0] rfl
  rw [show World.setCells w2 w.heap.size 0 [.int .i64 13, .int .i64 0, .int .i64 0, .bool false, .slice none 0 0, .slice ia L.length icap, .slice none 0 0] = (((((((w2.setCell ⟨w.heap.size, 0, none⟩ (.int .i64 13)).setCell ⟨w.heap.size, 1, none⟩ (.int .i64 0)).setCell ⟨w.heap.size, 2, none⟩ (.int .i64 0)).setCell ⟨w.heap.size, 3, none⟩ (.bool false)).setCell ⟨w.heap.size, 4, none⟩ (.slice none 0 0)).setCell ⟨w.heap.size, 5, none⟩ (.slice ia L.length icap)).setCell ⟨w.heap.size, 6, none⟩ (.slice none 0 0)) from rfl] at s1 s2
  generalize (((((((w2.setCell ⟨w.heap.size, 0, none⟩ (.int .i64 13)).setCell ⟨w.heap.size, 1, none⟩ (.int .i64 0)).setCell ⟨w.heap.size, 2, none⟩ (.int .i64 0)).setCell ⟨w.heap.size, 3, none⟩ (.bool false)).setCell ⟨w.heap.size, 4, none⟩ (.slice none 0 0)).setCell ⟨w.heap.size, 5, none⟩ (.slice ia L.length icap)).setCell ⟨w.heap.size, 6, none⟩ (.slice none 0 0)) = wz at *
  have p0 : wz.cell? ⟨w.heap.size, 0, none⟩ = some (.int .i64 13) := cell_at s1 0
  have p1 : wz.cell? ⟨w.heap.size, 1, none⟩ = some (.int .i64 0) := cell_at s1 1
  have p2 : wz.cell? ⟨w.heap.size, 2, none⟩ = some (.int .i64 0) := cell_at s1 2
  have p3 : wz.cell? ⟨w.heap.size, 3, none⟩ = some (.bool false) := cell_at s1 3
  have p4 : wz.cell? ⟨w.heap.size, 4, none⟩ = some (.slice none 0 0) := cell_at s1 4
  have p5 : wz.cell? ⟨w.heap.size, 5, none⟩ = some (.slice ia L.length icap) := cell_at s1 5
  have p6 : wz.cell? ⟨w.heap.size, 6, none⟩ = some (.slice none 0 0) := cell_at s1 6
  refine bodyPost_ret (v := .agg #[.int .i64 13, .int .i64 0, .int .i64 0, .bool false, .slice none 0 0, .slice ia L.length icap, .slice none 0 0]) (by simp [results, Tryd.results39, go_sem, p0, p1, p2, p3, p4, p5, p6]) rfl ?_
  have hwl : w.heap.size < w2.heap.size := lt_of_block HB2.out
  refine ⟨_, rfl, HOA.out.tr s2 (fun i hi e => by omega), ⟨⟨_, _, _, rfl, Sl.nil _ _, ?_, Sl.nil _ _⟩⟩⟩
  have h5 := HSZ.out
  have h6 := Sl.of_owns (owns_only HROW.out s2 (fun k hk e => by omega))
  show Sl wz 2 _ (L.map toId).length ((L.map toId).flatMap idT)
  rw [ids_fl, List.length_map]
  exact h6
end Go.Proofs.YtjdlcfllmpdffaaDoor
/-! digest: rows of messages; record.Sent, slices.Clone, digest.Pack. -/
namespace Go.Proofs.YtjdlcfllmpdffaaDoor
open Go.Conc Go.RowKit Go.Maps

theorem infoMsg : (Tryd.prog.info? 56).map (fun i => (i.zero, i.size, i.bytes)) = some (some (.agg #[.int .i64 0, .int .i64 0, .int .i64 0, .bool false, .slice none 0 0, .slice none 0 0, .slice none 0 0]), 7, 104) := by kernel_rfl
/-- A message and where its slices lie. -/
abbrev MsgP := MsgT × Value × Value × Value
def cellsM (p : MsgP) : List Value := [.int .i64 p.1.kind, .int .i64 p.1.node, .int .i64 p.1.walk, .bool p.1.high, p.2.1, p.2.2.1, p.2.2.2]
theorem cellsM_length (p : MsgP) : (cellsM p).length = 7 := rfl
structure MsgOwn (w : World) (base : Nat) (p : MsgP) : Prop where
  n : w.ownsRow base 3 1 p.2.1 p.1.nodes.length (p.1.nodes.flatMap intC)
  i : w.ownsRow base 31 2 p.2.2.1 p.1.ids.length (p.1.ids.flatMap idT)
  r : w.ownsRow base 33 6 p.2.2.2 p.1.recs.length (p.1.recs.flatMap recC)
theorem MsgOwn.is {w : World} {base : Nat} {p : MsgP} (h : MsgOwn w base p) : MsgIs w (.agg (cellsM p).toArray) p.1 := ⟨_, _, _, rfl, Sl.of_owns h.n, Sl.of_owns h.i, Sl.of_owns h.r⟩
theorem owns_one {w : World} {base : Nat} {e : TypeId} {size n : Nat} {v : Value} {xs : List Value} (h : w.ownsRow base e size v n xs) : v.oneCell' = true := by
  rcases h.2 with ⟨rfl, _⟩ | ⟨g, cap, cur, rfl, _⟩ <;> rfl
theorem MsgOwn.one {w : World} {base : Nat} {p : MsgP} (h : MsgOwn w base p) : ∀ u ∈ cellsM p, u.oneCell' = true := by
  intro u hu
  simp only [cellsM, List.mem_cons, List.not_mem_nil, or_false] at hu
  rcases hu with rfl | rfl | rfl | rfl | rfl | rfl | rfl
  · rfl
  · rfl
  · rfl
  · rfl
  · exact owns_one h.n
  · exact owns_one h.i
  · exact owns_one h.r
theorem own_type {w : World} {base base' : Nat} {e e' : TypeId} {size n size' n' : Nat} {v v' : Value} {xs xs' : List Value} (h : w.ownsRow base e size v n xs) (hr : w.ownsRow base' e' size' v' n' xs') (he : e ≠ e') : v.ownBlock = none ∨ v.ownBlock ≠ v'.ownBlock := by
  rcases h.2 with ⟨rfl, _⟩ | ⟨g, cap, cur, rfl, _, hg, _⟩
  · exact .inl rfl
  · refine .inr fun hk => ?_
    rcases hr.2 with ⟨rfl, _⟩ | ⟨g', cap', cur', rfl, _, hg', _⟩
    · cases hk
    · cases hk
      rw [hg] at hg'
      injection hg' with hg'
      injection hg' with _ h2 _
      exact he h2
theorem MsgOwn.grown {w w' : World} {base base' : Nat} {p : MsgP} {n : Nat} {v : Value} {xs : List Value} (h : MsgOwn w base p) (hr : w.ownsRow base' 56 7 v n xs) (gr : w.grownBy w' v.ownBlock) : MsgOwn w' base p :=
  ⟨h.n.kept gr (own_type h.n hr (by decide)), h.i.kept gr (own_type h.i hr (by decide)), h.r.kept gr (own_type h.r hr (by decide))⟩
theorem MsgOwn.only {S : Nat → Prop} {w w' : World} {base : Nat} {p : MsgP} (h : MsgOwn w base p) (ho : Only S w w') (hn : ∀ k, base ≤ k → ¬ S k) : MsgOwn w' base p :=
  ⟨owns_only h.n ho hn, owns_only h.i ho hn, owns_only h.r ho hn⟩
theorem MsgOwn.base {w : World} {b c : Nat} {p : MsgP} (h : MsgOwn w b p) (hc : c ≤ b) : MsgOwn w c p := ⟨ownsRow_base_a h.n hc, ownsRow_base_a h.i hc, ownsRow_base_a h.r hc⟩
/-- A slice of messages of the call's own. -/
structure MsgRow (w : World) (base : Nat) (v : Value) (ms : List MsgT) : Prop where
  out : ∃ P : List MsgP, P.map (·.1) = ms ∧ w.ownsRow base 56 7 v P.length (P.flatMap cellsM) ∧ ∀ p ∈ P, MsgOwn w base p
theorem MsgRow.nil (w : World) (base : Nat) : MsgRow w base (.slice none 0 0) [] := ⟨[], rfl, World.ownsRow_nil w _ _ _, fun _ h => by cases h⟩
theorem MsgRow.only {S : Nat → Prop} {w w' : World} {base : Nat} {v : Value} {ms : List MsgT} (h : MsgRow w base v ms) (ho : Only S w w') (hn : ∀ k, base ≤ k → ¬ S k) : MsgRow w' base v ms := by
  obtain ⟨P, h1, h2, h3⟩ := h.out
  exact ⟨P, h1, owns_only h2 ho hn, fun p hp => (h3 p hp).only ho hn⟩
theorem MsgRow.new {w w' : World} {base : Nat} {v : Value} {ms : List MsgT} (h : MsgRow w base v ms) (ho : Only (fun _ => False) w w') : MsgRow w' base v ms := h.only ho (fun _ _ => id)
theorem MsgRow.base {w : World} {b c : Nat} {v : Value} {ms : List MsgT} (h : MsgRow w b v ms) (hc : c ≤ b) : MsgRow w c v ms := by
  obtain ⟨P, h1, h2, h3⟩ := h.out
  exact ⟨P, h1, ownsRow_base_a h2 hc, fun p hp => (h3 p hp).base hc⟩
/-- A record as it is sent. -/
def sentR (x : RecT) : RecT := { x with age := min (max x.age 0) 65533 + 2 }
theorem sentA_any (w : World) (key : ByteArray) (ver : Nat) (o age : Int) (gone : Bool) (data : ByteArray) (ha1 : -9223372036854775808 ≤ age) (ha2 : age ≤ 9223372036854775807) :
    Calls Tryd.prog 77 #[.agg #[.string key, .int .u64 ver, .int .i64 o, .int .i64 age, .bool gone, .string data]] w fun e w' => e = .returned (.agg #[.string key, .int .u64 ver, .int .i64 o, .int .i64 (min (max age 0) 65533 + 2), .bool gone, .string data]) ∧ Only (fun _ => False) w w' := by
  obtain ⟨W, hW⟩ : ∃ W, W = (w.alloc (.cells #[.string key, .int .u64 ver, .int .i64 o, .int .i64 age, .bool gone, .string data] 33)).alloc (.cells #[.string ⟨#[]⟩, .int .u64 0, .int .i64 0, .int .i64 0, .bool false, .string ⟨#[]⟩] 33) := ⟨_, rfl⟩
  obtain ⟨z1, z2⟩ := two_blocks w _ _ (w1 := W) (by rw [← hW]; exact Only.refl _ _)
  have hWo : Only (fun _ => False) w W := by rw [hW]; exact ((Only.refl _ _).alloc _).alloc _
  have hWs : W.heap.size = w.heap.size + 2 := by rw [hW]; simp
  have Z1 := Lib.hid z1
  have Z2 := Lib.hid z2
  clear z1 z2
  go_enter Tryd.func77, Tryd.ntmps77
  go_upto_region 1 with (fail)
  rw [← hW]
  have z1 := Z1.out
  have z2 := Z2.out
  have r0 : W.cell? ⟨w.heap.size, 0, none⟩ = some (.string key) := cell_at z1 0
  have r1 : W.cell? ⟨w.heap.size, 1, none⟩ = some (.int .u64 ver) := cell_at z1 1
  have r2 : W.cell? ⟨w.heap.size, 2, none⟩ = some (.int .i64 o) := cell_at z1 2
  have r3 : W.cell? ⟨w.heap.size, 3, none⟩ = some (.int .i64 age) := cell_at z1 3
  have r4 : W.cell? ⟨w.heap.size, 4, none⟩ = some (.bool gone) := cell_at z1 4
  have r5 : W.cell? ⟨w.heap.size, 5, none⟩ = some (.string data) := cell_at z1 5
  have rf : ∀ i, W.frozen? ⟨w.heap.size, i, none⟩ = false := free_at z1
  have c0 : W.cell? ⟨(w.heap.size + 1), 0, none⟩ = some (.string ⟨#[]⟩) := cell_at z2 0
  have c1 : W.cell? ⟨(w.heap.size + 1), 1, none⟩ = some (.int .u64 0) := cell_at z2 1
  have c2 : W.cell? ⟨(w.heap.size + 1), 2, none⟩ = some (.int .i64 0) := cell_at z2 2
  have c3 : W.cell? ⟨(w.heap.size + 1), 3, none⟩ = some (.int .i64 0) := cell_at z2 3
  have c4 : W.cell? ⟨(w.heap.size + 1), 4, none⟩ = some (.bool false) := cell_at z2 4
  have c5 : W.cell? ⟨(w.heap.size + 1), 5, none⟩ = some (.string ⟨#[]⟩) := cell_at z2 5
  have cf : ∀ i, W.frozen? ⟨w.heap.size + 1, i, none⟩ = false := free_at z2
  have hlt : w.heap.size + 1 < W.heap.size := by omega
  clear z1 z2 hW
  have hm1 : (0 : Int) ≤ max age 0 := by omega
  have hm2 : (0 : Int) ≤ min (max age 0) 65533 := by omega
  have hm3 : min (max age 0) 65533 ≤ (65533 : Int) := by omega
  go_wp2_with fail
  have o8 : Only (fun x => x = w.heap.size) W (W.setCell ⟨w.heap.size, 3, none⟩ (.int .i64 (min (max age 0) 65533 + 2))) := (Only.refl _ _).setCell (S := fun x => x = w.heap.size) (p := ⟨w.heap.size, 3, none⟩) (.inr rfl) _
  have X2 := Lib.hid (o8.old Z2.out (by omega))
  obtain ⟨s1, s2⟩ := six_set X2.out (.string key) (.int .u64 ver) (.int .i64 o) (.int .i64 (min (max age 0) 65533 + 2)) (.bool gone) (.string data)
  generalize (((((((W.setCell ⟨w.heap.size, 3, none⟩ (.int .i64 (min (max age 0) 65533 + 2))).setCell ⟨w.heap.size + 1, 0, none⟩ (.string key)).setCell ⟨w.heap.size + 1, 1, none⟩ (.int .u64 ver)).setCell ⟨w.heap.size + 1, 2, none⟩ (.int .i64 o)).setCell ⟨w.heap.size + 1, 3, none⟩ (.int .i64 (min (max age 0) 65533 + 2))).setCell ⟨w.heap.size + 1, 4, none⟩ (.bool gone)).setCell ⟨w.heap.size + 1, 5, none⟩ (.string data)) = wz at *
  have d0 : wz.cell? ⟨(w.heap.size + 1), 0, none⟩ = some (.string key) := cell_at s1 0
  have d1 : wz.cell? ⟨(w.heap.size + 1), 1, none⟩ = some (.int .u64 ver) := cell_at s1 1
  have d2 : wz.cell? ⟨(w.heap.size + 1), 2, none⟩ = some (.int .i64 o) := cell_at s1 2
  have d3 : wz.cell? ⟨(w.heap.size + 1), 3, none⟩ = some (.int .i64 (min (max age 0) 65533 + 2)) := cell_at s1 3
  have d4 : wz.cell? ⟨(w.heap.size + 1), 4, none⟩ = some (.bool gone) := cell_at s1 4
  have d5 : wz.cell? ⟨(w.heap.size + 1), 5, none⟩ = some (.string data) := cell_at s1 5
  refine bodyPost_ret (v := .agg #[.string key, .int .u64 ver, .int .i64 o, .int .i64 (min (max age 0) 65533 + 2), .bool gone, .string data]) (by simp [results, Tryd.results77, go_sem, d0, d1, d2, d3, d4, d5]) rfl ?_
  exact ⟨rfl, (hWo.tr o8 (fun i hi e => by omega)).tr s2 (fun i hi e => by omega)⟩
/-- Which records are sent. -/
def sentL (ttl : Int) (l : List RecT) : List RecT := (l.map sentR).filter (fun x => decide (x.age < ttl))
theorem sent_snoc (ttl : Int) (l : List RecT) (k : Nat) (hk : k < l.length) : sentL ttl (l.take (k + 1)) = sentL ttl (l.take k) ++ if (sentR l[k]).age < ttl then [sentR l[k]] else [] := by
  unfold sentL
  rw [List.take_add_one, List.getElem?_eq_getElem hk, List.map_append, List.filter_append]
  congr 1
  by_cases h : (sentR l[k]).age < ttl <;> simp [h]
theorem sentL_length (ttl : Int) (l : List RecT) : (sentL ttl l).length ≤ l.length := Nat.le_trans (List.length_filter_le _ _) (by simp)
/-- The messages of so many records. -/
def chunkM (kind : Int) (S : List RecT) (i : Nat) : MsgT := ⟨kind, 0, 0, false, [], [], (S.drop (16 * i)).take 16⟩
def packM (kind : Int) (S : List RecT) : List MsgT := (List.range ((S.length + 15) / 16)).map (chunkM kind S)
theorem eqnil_recs (w : World) (b off n cap : Nat) : (binOp BinOp.eql 28 (.slice (some ⟨b, off, none⟩) n cap) (.slice none 0 0)).run Tryd.prog w = .ok (.bool false) w := Lib.run_eql_slice_nil w _ _ _ n cap 0 0 Tryd.underlying28
set_option maxRecDepth 100000 in
theorem rclone_any (w : World) (a : Option Addr) (cap : Nat) (L : List RecT) (h : RSl w (.slice a L.length cap) L) (h0 : 0 < L.length) (hb : L.length ≤ 1000000) :
    Calls Tryd.prog 78 #[.slice a L.length cap] w fun e w' => ∃ v, e = .returned v ∧ Only (fun _ => False) w w' ∧ RecRow w' w.heap.size v L := by
  obtain ⟨i0, hi0, iz0, iz1, iz2⟩ := info_parts infoRec
  obtain ⟨a', cap', he, h1, h2, h3⟩ := Sl.cells recC_length h
  cases he
  obtain ⟨b, off, rfl, _⟩ := h3.at 0 h0
  have hown : (w.alloc (.cells #[] 33)).ownsRow w.heap.size 33 6 (.slice (some ⟨w.heap.size, 0, none⟩) 0 0) 0 [] :=
    ⟨by simp, .inr ⟨w.heap.size, 0, #[], rfl, Nat.le_refl _, heap_alloc_new w _, Nat.le_refl _, Nat.zero_le _, rfl, rfl⟩⟩
  have hsrc := Sl.src (P := Tryd.prog) (tx := 28) Tryd.underlying28 (Sl.new h ((Only.refl _ w).alloc (.cells #[] 33))) (fl_one recC_one L)
  have HOWN := Lib.hid hown
  have HSRC := Lib.hid hsrc
  clear hown hsrc
  clear h h3
  have hen := fun w => eqnil_recs w b off L.length cap
  go_enter Tryd.func78, Tryd.ntmps78
  go_wp2_with (at_builtin; refine Wait.mk ?_)
  refine Wait.go (wpList_append_src _ rfl (.tmp 5) (.tmp 6) 28 28 rfl w.heap.size 33 i0 _ 6 64 Tryd.underlying28 hi0 iz0 iz1 iz2 rfl _ 0 [] rfl ?own4 _ L.length (L.flatMap recC) rfl ?src4 ?m4 ?b4 ?base4 ?_)
  case own4 => exact HOWN.out
  case src4 => exact HSRC.out
  case m4 => unfold maxLen; omega
  case b4 => omega
  case base4 => simp
  intro v4 w5 own4 gr4 _
  have ho5 : Only (fun _ => False) w w5 := ((Only.refl _ w).alloc _).own HOWN.out (Nat.le_refl _) gr4
  have hrow : RecRow w5 w.heap.size v4 L := by
    have h5 := own4
    rw [Nat.zero_add, List.nil_append] at h5
    exact h5
  have HO5 := Lib.hid ho5
  have HROW := Lib.hid hrow
  clear ho5 hrow
  clear gr4
  go_wp2_with fail
  go_ret
  exact ⟨_, rfl, HO5.out, HROW.out⟩
end Go.Proofs.YtjdlcfllmpdffaaDoor
/-! digest.Pack. -/
namespace Go.Proofs.YtjdlcfllmpdffaaDoor
open Go.Conc Go.RowKit Go.Maps

/-- What a store's TTL answers. -/
def TtlIs (w : World) (ps : Value) (ttl : Int) : Prop := ∀ w', Only (fun _ => False) w w' → Calls Tryd.prog 24 #[ps] w' fun e w2 => e = .returned (.int .i64 ttl) ∧ w' = w2
theorem TtlIs.new {w w' : World} {ps : Value} {ttl : Int} (h : TtlIs w ps ttl) (ho : Only (fun _ => False) w w') : TtlIs w' ps ttl := fun w2 h2 => h w2 (ho.trans h2)
theorem StoreAt.ttl {w : World} {s b : Nat} {most ttl r : Int} {L : List RecT} (h : StoreAt w s b most ttl r L) : TtlIs w (.pointer (some ⟨s, 0, none⟩)) ttl := fun w' ho => sttl_any w' s b most ttl r L (h.new ho)
theorem ttl_nil (w : World) : TtlIs w (.pointer none) 0 := fun w' _ => sttl_nil w'
/-- Ages that a record may have in a call. -/
def AgeOk (l : List RecT) : Prop := ∀ x ∈ l, -9223372036854775808 ≤ x.age ∧ x.age ≤ 9223372036854775807
theorem pack_one (kind : Int) (S : List RecT) (i : Nat) : (List.range (i + 1)).map (chunkM kind S) = (List.range i).map (chunkM kind S) ++ [chunkM kind S i] := by
  rw [List.range_succ, List.map_append]
  rfl
theorem pack_end {kind : Int} {S : List RecT} {i : Nat} (h1 : S.length ≤ 16 * i) (h2 : i = 0 ∨ 16 * (i - 1) < S.length) : (List.range i).map (chunkM kind S) = packM kind S := by
  unfold packM
  have : (S.length + 15) / 16 = i := by omega
  rw [this]
theorem msgRow_snoc {w w' : World} {o : Obj} {base : Nat} {v v' : Value} {ms : List MsgT} {P : List MsgP} {p0 : MsgP} {n : Nat} (hP : P.map (·.1) = ms) (hown : w.ownsRow base 56 7 v P.length (P.flatMap cellsM)) (he : ∀ p ∈ P, MsgOwn w base p) (h0 : MsgOwn w base p0)
    (own : w'.ownsRow base 56 7 v' n (P.flatMap cellsM ++ cellsM p0)) (gr : (w.alloc o).grownBy w' v.ownBlock) : MsgRow w' base v' (ms ++ [p0.1]) := by
  have hal : Only (fun _ => False) w (w.alloc o) := (Only.refl _ _).alloc _
  have hn : n = (P ++ [p0]).length := by
    have h1 := own.1
    rw [List.length_append, fl_length cellsM_length, cellsM_length] at h1
    rw [List.length_append]
    simp only [List.length_cons, List.length_nil]
    omega
  refine ⟨P ++ [p0], by rw [List.map_append, hP]; rfl, ?_, fun p hp => ?_⟩
  · rw [List.flatMap_append, List.flatMap_singleton, ← hn]
    exact own
  · rcases List.mem_append.1 hp with h | h
    · exact ((he p h).only hal (fun _ _ => id)).grown (hown.alloc o) gr
    · rw [List.mem_singleton.1 h]
      exact (h0.only hal (fun _ _ => id)).grown (hown.alloc o) gr
/-- A slice that lies in a block of records. -/
structure RecBlk (w : World) (v : Value) : Prop where
  out : ∀ b, v.ownBlock = some b → ∃ cs, w.heap[b]? = some (.cells cs 33 (0, 0))
theorem RecBlk.of_row {w : World} {base n : Nat} {v : Value} {xs : List Value} (h : w.ownsRow base 33 6 v n xs) : RecBlk w v := by
  refine ⟨fun b hb => ?_⟩
  rcases h.2 with ⟨rfl, _⟩ | ⟨g, cap, cur, rfl, _, hg, _⟩
  · cases hb
  · cases hb
    exact ⟨_, hg⟩
theorem RecBlk.new {w w' : World} {v : Value} (h : RecBlk w v) (ho : Only (fun _ => False) w w') : RecBlk w' v := by
  refine ⟨fun b hb => ?_⟩
  obtain ⟨cs, hc⟩ := h.out b hb
  exact ⟨cs, ho.old hc id⟩
theorem recBlk_grown {w w' : World} {o : Obj} {base : Nat} {v11 v : Value} {n n' size : Nat} {xs ys : List Value} (hb : RecBlk w v) (h : Sl w size v n xs) (hown : w.ownsRow base 56 7 v11 n' ys) (gr : (w.alloc o).grownBy w' v11.ownBlock) : Sl w' size v n xs ∧ RecBlk w' v := by
  have hh : ∀ b, v.ownBlock = some b → w'.heap[b]? = w.heap[b]? := fun b hv => by
    obtain ⟨cs, hc⟩ := hb.out b hv
    have hlt := lt_of_block hc
    rw [gr.block b (by simp; omega) (fun e => ?_), (Below.heap_alloc _ _ _ hlt)]
    rcases hown.2 with ⟨h1, _⟩ | ⟨g', cap', cur', h1, _, hg', _⟩
    · rw [h1] at e; cases e
    · rw [h1] at e
      cases e
      rw [hc] at hg'
      injection hg' with hg'
      injection hg' with _ h2 _
      exact absurd h2 (by decide)
  refine ⟨?_, ⟨fun b hv => by rw [hh b hv]; exact hb.out b hv⟩⟩
  obtain ⟨hl, a, cap, rfl, h3, h4, h5⟩ := h
  refine ⟨hl, a, cap, rfl, h3, h4, ?_⟩
  rcases h5 with h5 | ⟨b, off, rfl, hc⟩
  · exact .inl h5
  · refine .inr ⟨b, off, rfl, fun j u hu => ?_⟩
    rw [World.cell?_of_block (hh b rfl)]
    exact hc j u hu
set_option maxRecDepth 100000 in
set_option maxHeartbeats 4000000 in
theorem pack_any (w : World) (ps : Value) (ttl kind : Int) (v : Value) (l : List RecT) (ht : TtlIs w ps ttl) (h : RSl w v l) (hl : l.length ≤ 1000000) (ha : AgeOk l) :
    Calls Tryd.prog 50 #[ps, .int .i64 kind, v] w fun e w' => ∃ v', e = .returned v' ∧ Only (fun _ => False) w w' ∧ MsgRow w' w.heap.size v' (packM kind (sentL ttl l)) := by
  obtain ⟨i0, hi0, iz0, iz1, iz2⟩ := info_parts infoRec
  obtain ⟨j0, hj0, jz0, jz1, jz2⟩ := info_parts infoMsg
  obtain ⟨a, cap, rfl, h1, h2, h3⟩ := Sl.cells recC_length h
  unfold maxLen at h2
  have HT := Lib.hid ht
  have HC := Lib.hid h3
  have HA := Lib.hid ha
  clear ht h3 ha
  clear h
  go_enter Tryd.func50, Tryd.ntmps50
  go_upto_block 0 with fail
  go_cut [7] (fun v7 wx => Only (fun _ => False) w wx ∧ RecRow wx w.heap.size v7 (sentL ttl l))
  case first =>
    go_wp2_with fail
    go_loopg [7, 15] l.length (fun g v7 v15 wr => ∃ k : Nat, v15 = .int .i64 k ∧ k ≤ l.length ∧ Only (fun _ => False) w wr ∧ RecRow wr w.heap.size v7 (sentL ttl (l.take k)) ∧ g = l.length - k)
    case atStart => exact ⟨0, rfl, Nat.zero_le _, Only.refl _ _, World.ownsRow_nil w _ _ _, rfl⟩
    case round =>
      obtain ⟨k, rfl, hk, ho, hrow, hg⟩ := hrel
      have Hg := Lib.hid hg
      have HO := Lib.hid ho
      have HROW := Lib.hid hrow
      clear hg ho hrow
      by_cases hlt : k < l.length
      · obtain ⟨lb, off, he, hc⟩ := HC.out.at k hlt
        subst he
        have hcr : ∀ i u, (recC l[k])[i]? = some u → _ := fun i u hu => HO.out.cell (hc i u hu) id
        have HTS := Lib.hid (sent_snoc ttl l k hlt)
        have hle : (sentL ttl (l.take k)).length ≤ k := Nat.le_trans (sentL_length _ _) (List.length_take_le _ _)
        obtain ⟨ha1, ha2⟩ := HA.out l[k] (List.getElem_mem hlt)
        have hlt' : (k : Int) < (l.length : Int) := by omega
        generalize l[k] = x at *
        obtain ⟨k1, v1, o1, a1, g1, d1⟩ := x
        unfold sentR at HTS
        simp only at HTS ha1 ha2
        have HSN := Lib.hid (fun w => sentA_any w k1 v1 o1 a1 g1 d1 ha1 ha2)
        generalize min (max a1 0) 65533 + 2 = a2 at *
        have y0 := hcr 0 _ rfl
        have y1 := hcr 1 _ rfl
        have y2 := hcr 2 _ rfl
        have y3 := hcr 3 _ rfl
        have y4 := hcr 4 _ rfl
        have y5 := hcr 5 _ rfl
        simp only [Nat.add_zero] at y0
        have HLE := Lib.hid hle
        clear hle
        clear hc hcr ha1 ha2
        obtain ⟨W, hW⟩ : ∃ W, W = wr.alloc (.cells #[.string k1, .int .u64 v1, .int .i64 o1, .int .i64 a1, .bool g1, .string d1] 33) := ⟨_, rfl⟩
        have hbW : W.heap[wr.heap.size]? = some (.cells #[.string k1, .int .u64 v1, .int .i64 o1, .int .i64 a1, .bool g1, .string d1] 33 (0, 0)) := by rw [hW]; exact heap_alloc_new wr _
        have hoW : Only (fun _ => False) wr W := by rw [hW]; exact (Only.refl _ _).alloc _
        have hsW : W.heap.size = wr.heap.size + 1 := by rw [hW]; simp
        have hoA := HO.out.trans hoW
        have hrowA := owns_only HROW.out hoW (fun _ _ => id)
        have HOA := Lib.hid hoA
        have HRA := Lib.hid hrowA
        clear hoA hrowA
        go_upto_region 5 with (fail)
        rw [← hW]
        clear hW y0 y1 y2 y3 y4 y5 hoW
        have x0 : W.cell? ⟨wr.heap.size, 0, none⟩ = some (.string k1) := cell_at hbW 0
        have x1 : W.cell? ⟨wr.heap.size, 1, none⟩ = some (.int .u64 v1) := cell_at hbW 1
        have x2 : W.cell? ⟨wr.heap.size, 2, none⟩ = some (.int .i64 o1) := cell_at hbW 2
        have x3 : W.cell? ⟨wr.heap.size, 3, none⟩ = some (.int .i64 a1) := cell_at hbW 3
        have x4 : W.cell? ⟨wr.heap.size, 4, none⟩ = some (.bool g1) := cell_at hbW 4
        have x5 : W.cell? ⟨wr.heap.size, 5, none⟩ = some (.string d1) := cell_at hbW 5
        clear hbW hsW
        go_wp2_with fail
        refine (HSN.out W).mono ?_
        rintro e w2 ⟨rfl, ho2⟩
        obtain ⟨W2, hW2⟩ : ∃ W2, W2 = w2.alloc (.cells #[.string k1, .int .u64 v1, .int .i64 o1, .int .i64 a2, .bool g1, .string d1] 33) := ⟨_, rfl⟩
        have hbW2 : W2.heap[w2.heap.size]? = some (.cells #[.string k1, .int .u64 v1, .int .i64 o1, .int .i64 a2, .bool g1, .string d1] 33 (0, 0)) := by rw [hW2]; exact heap_alloc_new w2 _
        have hoW2 : Only (fun _ => False) w2 W2 := by rw [hW2]; exact (Only.refl _ _).alloc _
        have hsW2 : W2.heap.size = w2.heap.size + 1 := by rw [hW2]; simp
        have hoB := HOA.out.trans (ho2.trans hoW2)
        have hrowB := owns_only HRA.out (ho2.trans hoW2) (fun _ _ => id)
        have HTT := Lib.hid (HT.out.new hoB)
        have HOB := Lib.hid hoB
        have HRB := Lib.hid hrowB
        have HB2 := Lib.hid hbW2
        clear hoB hrowB hbW2
        clear ho2 hoW2 hsW2 x0 x1 x2 x3 x4 x5 HSN
        go_upto_region 6 with (fail)
        rw [← hW2]
        clear hW2
        have x2 : W2.cell? ⟨w2.heap.size, 3, none⟩ = some (.int .i64 a2) := cell_at HB2.out 3
        go_quiet ((go_at_call 24; exact quiet_id (HTT.out _ ((Only.refl _ _).drewN _))))
        obtain ⟨w6, hw6⟩ : ∃ w6, w6 = W2.drewN nq := ⟨_, rfl⟩
        have ho6 : Only (fun _ => False) W2 w6 := by rw [hw6]; exact (Only.refl _ _).drewN _
        rw [← hw6]
        clear hw6 x2
        have hb6 := ho6.old HB2.out id
        have hrow6 := owns_only HRB.out ho6 (fun _ _ => id)
        have hoC := HOB.out.trans ho6
        have x0 : w6.cell? ⟨w2.heap.size, 0, none⟩ = some (.string k1) := cell_at hb6 0
        have x1 : w6.cell? ⟨w2.heap.size, 1, none⟩ = some (.int .u64 v1) := cell_at hb6 1
        have x2 : w6.cell? ⟨w2.heap.size, 2, none⟩ = some (.int .i64 o1) := cell_at hb6 2
        have x3 : w6.cell? ⟨w2.heap.size, 3, none⟩ = some (.int .i64 a2) := cell_at hb6 3
        have x4 : w6.cell? ⟨w2.heap.size, 4, none⟩ = some (.bool g1) := cell_at hb6 4
        have x5 : w6.cell? ⟨w2.heap.size, 5, none⟩ = some (.string d1) := cell_at hb6 5
        have HOC := Lib.hid hoC
        have HR6 := Lib.hid hrow6
        clear hoC hrow6
        clear ho6 hb6
        by_cases c : a2 < ttl
        · have HCC := Lib.hid c
          clear c
          have c' := HCC.out
          go_wp2_with (at_builtin; refine Wait.mk ?_)
          refine Wait.go (wpList_append_src _ rfl (.tmp 26) (.tmp 28) 28 28 rfl w.heap.size 33 i0 _ 6 64 Tryd.underlying28 hi0 iz0 iz1 iz2 rfl _ (sentL ttl (l.take k)).length ((sentL ttl (l.take k)).flatMap recC) rfl (HR6.out.alloc _) _ 1 (recC ⟨k1, v1, o1, a2, g1, d1⟩) rfl ?src4 ?m4 ?b4 ?base4 ?_)
          case src4 => exact Src.ofSlice _ Tryd.underlying28 _ _ _ _ rfl (news_new _ _ _) (recC_one _)
          case m4 => have := HLE.out; unfold maxLen; omega
          case b4 => have := HLE.out; omega
          case base4 => have := HOC.out.size; simp; omega
          intro v4 w5 own4 gr4 _
          have ho5 : Only (fun _ => False) w w5 := (HOC.out.alloc _).own (HR6.out.alloc _) (Nat.le_refl _) gr4
          have HO5 := Lib.hid ho5
          have HW5 := Lib.hid own4
          clear ho5 own4
          clear gr4 x0 x1 x2 x3 x4 x5
          go_wp2_with fail
          go_roundg (l.length - (k + 1))
          case measure => rw [Hg.out]; omega
          case rel =>
            refine ⟨k + 1, by go_num, by omega, HO5.out, ?_, rfl⟩
            unfold RecRow
            rw [HTS.out, if_pos HCC.out, List.length_append, List.flatMap_append]
            have e1 : [RecT.mk k1 v1 o1 a2 g1 d1].flatMap recC = recC ⟨k1, v1, o1, a2, g1, d1⟩ := by simp
            rw [e1]
            exact HW5.out
        · have HCC := Lib.hid c
          clear c
          have c' := HCC.out
          clear x0 x1 x2 x3 x4 x5
          go_wp2_with fail
          go_roundg (l.length - (k + 1))
          case measure => rw [Hg.out]; omega
          case rel =>
            refine ⟨k + 1, by go_num, by omega, HOC.out, ?_, rfl⟩
            rw [HTS.out, if_neg (Int.not_lt.2 HCC.out), List.append_nil]
            exact HR6.out
      · have hke : k = l.length := by omega
        have hlt' : ¬ (k : Int) < (l.length : Int) := by omega
        have hW := HROW.out
        rw [hke, List.take_length] at hW
        have HW2 := Lib.hid hW
        clear hW
        clear hke
        go_wp2_with fail
        go_meet
        exact ⟨HO.out, HW2.out⟩
  case rest =>
  obtain ⟨ho, hrow⟩ := hcut
  have hSl : (sentL ttl l).length ≤ 1000000 := Nat.le_trans (sentL_length _ _) hl
  generalize hS : sentL ttl l = S at *
  have hsl := Sl.of_owns hrow
  have HS := Lib.hid hS
  have HO := Lib.hid ho
  have HROW := Lib.hid hrow
  have HSL := Lib.hid hsl
  clear hS ho hrow hsl
  clear HT HC HA h1 hl
  go_wp2_with fail
  go_loopg [7, 11] S.length (fun g v7 v11 wr => ∃ i : Nat, (i = 0 ∨ 16 * (i - 1) < S.length) ∧ Only (fun _ => False) w wr ∧ RSl wr v7 (S.drop (16 * i)) ∧ RecBlk wr v7 ∧ MsgRow wr w.heap.size v11 ((List.range i).map (chunkM kind S)) ∧ g = S.length - 16 * i)
  case atStart => exact ⟨0, .inl rfl, HO.out, HSL.out, RecBlk.of_row HROW.out, MsgRow.nil _ _, rfl⟩
  case round =>
    obtain ⟨i, hi, ho, hrs, hrb, hms, hg⟩ := hrel
    have hdl : (S.drop (16 * i)).length = S.length - 16 * i := List.length_drop
    by_cases hlt : 16 * i < S.length
    · -- more
      have hms1 := pack_one kind S i
      have hck : (chunkM kind S i) = ⟨kind, 0, 0, false, [], [], (S.drop (16 * i)).take 16⟩ := rfl
      have hnx : (S.drop (16 * i)).drop (min (S.drop (16 * i)).length 16) = S.drop (16 * (i + 1)) := by
        rw [hdl]
        rcases Nat.le_total (S.length - 16 * i) 16 with h | h
        · rw [Nat.min_eq_left h, List.drop_drop, List.drop_eq_nil_of_le (by omega), List.drop_eq_nil_of_le (by omega)]
        · rw [Nat.min_eq_right h, List.drop_drop]
          congr 1
      have htk : (S.drop (16 * i)).take 16 = (S.drop (16 * i)).take (min (S.drop (16 * i)).length 16) := by
        rcases Nat.le_total (S.drop (16 * i)).length 16 with h | h
        · rw [Nat.min_eq_left h, List.take_of_length_le h, List.take_length]
        · rw [Nat.min_eq_right h]
      rw [htk] at hck
      have hD0 : 0 < (S.drop (16 * i)).length := by omega
      have hDl : (S.drop (16 * i)).length ≤ 1000000 := by omega
      have hi16 : i ≤ 1000000 := by omega
      obtain ⟨m, hm⟩ : ∃ m, m = min (S.drop (16 * i)).length 16 := ⟨_, rfl⟩
      have hmi : min ((S.drop (16 * i)).length : Int) 16 = (m : Nat) := by omega
      have hmd : m ≤ (S.drop (16 * i)).length := by omega
      have hm0 : 0 < m := by omega
      rw [← hm] at hnx hck
      generalize hck2 : chunkM kind S i = ck at *
      generalize S.drop (16 * i) = D at *
      obtain ⟨da, dcap, rfl, d1, d2, d3⟩ := Sl.cells recC_length hrs
      obtain ⟨db, doff, rfl, _⟩ := d3.at 0 hD0
      unfold maxLen at d2
      have hs1 := Sl.take hrs hmd
      have hs2 := Sl.drop hrs hmd
      rw [fl_take recC_length] at hs1
      rw [fl_drop recC_length] at hs2
      have HDN := Lib.hid hnx
      obtain ⟨P, hP, hown, heach⟩ := hms.out
      have hPl : P.length = i := by have := congrArg List.length hP; simpa using this
      have hrb2 : RecBlk wr (.slice (some ⟨db, doff + m * 6, none⟩) (D.length - m) (dcap - m)) := ⟨fun b e => hrb.out b e⟩
      have hdm : (D.drop m).length = D.length - m := List.length_drop
      have HDM := Lib.hid hdm
      have HS1 := Lib.hid hs1
      have HS2 := Lib.hid hs2
      have HRBK := Lib.hid hrb2
      have HO := Lib.hid ho
      have HP := Lib.hid hP
      have HOWN := Lib.hid hown
      have HEACH := Lib.hid heach
      have Hg := Lib.hid hg
      have HLT := Lib.hid hlt
      have HCK := Lib.hid hck
      have HM1 := Lib.hid hms1
      have HPL := Lib.hid hPl
      clear hdm hs1 hs2 hrb2 ho hP hown heach hg hlt hck hms1 hPl
      clear hms hrs hrb d3 hnx htk hm hdl hi hck2
      have hD63 : (D.length : Int) ≤ 1000000 := by omega
      have m1 : (0 : Int) ≤ (m : Int) := by omega
      have m2 : (m : Int) ≤ (D.length : Int) := by omega
      have m3 : (m : Int) ≤ (dcap : Int) := by omega
      have htl : (D.take m).length = m := by simp; omega
      have hs1' : RSl wr (.slice (some ⟨db, doff, none⟩) (D.take m).length dcap) (D.take m) := by rw [htl]; exact HS1.out.cast htl.symm
      have HCL := Lib.hid (rclone_any wr _ dcap (D.take m) hs1' (by omega) (by omega))
      rw [htl] at HCL
      have HTL := Lib.hid htl
      clear htl
      clear hs1'
      go_upto_region 12 with (fail)
      go_wp2_with fail
      refine HCL.out.mono ?_
      rintro e w2 ⟨vr, rfl, ho2, hrr⟩
      have hoA := HO.out.trans ho2
      have hown2 := owns_only HOWN.out ho2 (fun _ _ => id)
      have HE2 := Lib.hid (fun p hp => (HEACH.out p hp).only ho2 (fun _ _ => id))
      have hs2' := HS2.out.new ho2
      have hrb2 := HRBK.out.new ho2
      have hrb := ownsRow_base_a hrr HO.out.size
      obtain ⟨ra, rcap, hv, _⟩ := Sl.cells recC_length (Sl.of_owns hrr)
      rw [HTL.out] at hv
      subst hv
      have HOA := Lib.hid hoA
      have HOWN2 := Lib.hid hown2
      have HS22 := Lib.hid hs2'
      have HRB := Lib.hid hrb
      have HRBK2 := Lib.hid hrb2
      clear hoA hown2 hs2' hrb hrb2
      clear ho2 hrr
      go_wp2_with (at_builtin; refine Wait.mk ?_)
      have hp0 : MsgOwn w2 w.heap.size (⟨kind, 0, 0, false, [], [], D.take m⟩, .slice none 0 0, .slice none 0 0, .slice ra m rcap) := ⟨World.ownsRow_nil _ _ _ _, World.ownsRow_nil _ _ _ _, HRB.out⟩
      have hp1 := hp0.one
      refine Wait.go (wpList_append_src _ rfl (.tmp 37) (.tmp 44) 85 85 rfl w.heap.size 56 j0 _ 7 104 Tryd.underlying85 hj0 jz0 jz1 jz2 rfl _ P.length (P.flatMap cellsM) rfl (HOWN2.out.alloc _) _ 1 (cellsM (⟨kind, 0, 0, false, [], [], D.take m⟩, .slice none 0 0, .slice none 0 0, .slice ra m rcap)) rfl ?src4 ?m4 ?b4 ?base4 ?_)
      case src4 => exact Src.ofSlice _ Tryd.underlying85 _ _ _ _ rfl (news_new _ _ _) hp1
      case m4 => have := HPL.out; unfold maxLen; omega
      case b4 => have := HPL.out; omega
      case base4 => have := HOA.out.size; simp; omega
      intro v4 w5 own4 gr4 _
      have ho5 : Only (fun _ => False) w w5 := (HOA.out.alloc _).own (HOWN2.out.alloc _) (Nat.le_refl _) gr4
      have hrow5 := msgRow_snoc HP.out HOWN2.out HE2.out hp0 own4 gr4
      obtain ⟨hs5, hb5⟩ := recBlk_grown HRBK2.out HS22.out HOWN2.out gr4
      have HO5 := Lib.hid ho5
      have HROW5 := Lib.hid hrow5
      have HS5 := Lib.hid hs5
      have HB5 := Lib.hid hb5
      clear ho5 hrow5 hs5 hb5
      clear gr4 own4 hp0 hp1
      have m4 : (0 : Int) ≤ (D.length : Int) - (m : Int) := by omega
      by_cases hcm : dcap = m
      · have HZ := Lib.hid (show D.length = m by omega)
        go_wp2_with fail
        go_roundg (S.length - 16 * (i + 1))
        case measure => rw [Hg.out]; have := HLT.out; omega
        case rel =>
          have e1 : S.drop (16 * (i + 1)) = [] := by rw [← HDN.out, HZ.out.symm, List.drop_length]
          refine ⟨i + 1, .inr (by have := HLT.out; omega), HO5.out, ?_, ?_, ?_, rfl⟩
          · rw [e1, HZ.out, Nat.sub_self]
            exact Sl.zero w5 6 _ 0 (Nat.zero_le _)
          · exact ⟨fun b e => HB5.out.out b e⟩
          · rw [HM1.out, HCK.out]
            exact HROW5.out
      · go_wp2_with fail
        go_roundg (S.length - 16 * (i + 1))
        case measure => rw [Hg.out]; have := HLT.out; omega
        case rel =>
          refine ⟨i + 1, .inr (by have := HLT.out; omega), HO5.out, ?_, ?_, ?_, rfl⟩
          · rw [← HDN.out]
            exact HS5.out.cast HDM.out.symm
          · exact HB5.out
          · rw [HM1.out, HCK.out]
            exact HROW5.out
    · have hnl : S.drop (16 * i) = [] := List.drop_eq_nil_of_le (by omega)
      have HEND := Lib.hid (pack_end (kind := kind) (S := S) (i := i) (by omega) hi)
      rw [hnl] at hrs
      obtain ⟨da, dcap, rfl, _⟩ := Sl.cells recC_length hrs
      have HO := Lib.hid ho
      have HMS := Lib.hid hms
      clear ho hms
      clear hrs hrb hnl hdl
      go_wp2_with fail
      go_ret
      refine ⟨_, rfl, HO.out, ?_⟩
      rw [HS.out, ← HEND.out]
      exact HMS.out
end Go.Proofs.YtjdlcfllmpdffaaDoor
