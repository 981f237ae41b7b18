/- cluster.New of a good config. -/
import Derived.Test.YtegechmdboccbaaGreatDoorRG
import Derived.Test.YtegechmdboccbaaGreatDoorRI
import Derived.Laws.MakeOwn
/-! cluster: a good config; a node is started. -/
namespace Go.Proofs.YtegechmdboccbaaGreatDoor
open Go.Conc Go.RowKit Go.Maps

/-- A node: its agent's block, its life, its map's block. -/
structure NodeS where
  ag : Option Nat
  life : Nat
  inb : Option Nat
def nodeC (n : NodeS) : List Value := [.pointer (n.ag.map fun a => ⟨a, 0, none⟩), .int .u32 n.life, .map n.inb]
theorem nodeC_length (n : NodeS) : (nodeC n).length = 3 := rfl
def clusC (c : ACfgT) (v : Value) (m nb n : Nat) : List Value := c.cells v ++ [.pointer (some ⟨m, 0, none⟩), .slice (some ⟨nb, 0, none⟩) n n]
/-- A cluster: its block x, its config, its mesh's block, its nodes' row. -/
structure ClusAt (w : World) (x : Nat) (c : ACfgT) (m nb : Nat) (N : List NodeS) : Prop where
  blk : ∃ v, w.heap[x]? = some (.cells (clusC c v m nb N.length).toArray 76 (0, 0)) ∧ IR w v c.o.seeds
  row : w.heap[nb]? = some (.cells (N.flatMap nodeC).toArray 89 (0, 0))
set_option maxRecDepth 100000 in
set_option maxHeartbeats 2000000 in
theorem acgood_ok (w : World) (c : ACfgT) (v : Value) (h : Sl w 1 v c.o.seeds.length (rowI c.o.seeds)) (hk : c.ok 1 1 = true) :
    Calls Tryz.prog 27 #[.agg (c.cells v).toArray] w fun e w' => e = .returned (.bool true) ∧ Only (fun _ => False) w w' := by
  obtain ⟨W, hW⟩ : ∃ W, W = w.alloc (.cells (c.cells v).toArray 41) := ⟨_, rfl⟩
  have hbW : W.heap[w.heap.size]? = some (.cells (c.cells v).toArray 41 (0, 0)) := by rw [hW]; exact heap_alloc_new w _
  have hoW : Only (fun _ => False) w W := by rw [hW]; exact (Only.refl _ _).alloc _
  have hsW : W.heap.size = w.heap.size + 1 := by rw [hW]; simp
  have hn := anew_ok W 1 1 c v (h.new hoW) (by decide) hk
  rw [show (((1 : Nat) : Int)) = 1 from rfl] at hn
  unfold AgNew at hn
  have HN := Lib.hid hn
  have HB := Lib.hid hbW
  have HO := Lib.hid hoW
  clear hn hbW hoW
  clear hsW
  go_enter Tryz.func27, Tryz.ntmps27
  go_upto_region 1 with (fail)
  rw [← hW]
  clear hW
  go_wp2_with ((with_reducible refine wpList_load_row (o := ⟨some 6, .load 41 (.tmp 1), _, _, _, none⟩) rfl _ _ rfl (w.heap.size) ?_ 41 _ (0, 0) _ HB.out Tryz.underlying41 ?_ (infoACfg _ _) ?_); (· rfl); (· rfl))
  refine HN.out.mono ?_
  rintro e w1 ⟨B, rfl, ho1, -⟩
  have HO1 := Lib.hid (HO.out.trans ho1)
  clear ho1
  go_wp2_with fail
  go_ret
  exact ⟨rfl, HO1.out⟩
theorem fl_set1 {α : Type} {size : Nat} {enc : α → List Value} (hs : ∀ a, (enc a).length = size) : ∀ (l : List α) (k : Nat) (hk : k < l.length) (j : Nat) (u : Value) (b : α), j < size → enc b = (enc l[k]).set j u → (l.flatMap enc).set (k * size + j) u = (l.set k b).flatMap enc
  | [], k, hk, _, _, _, _, _ => absurd hk (Nat.not_lt_zero _)
  | x :: l, 0, _, j, u, b, hj, he => by
    rw [List.flatMap_cons, Nat.zero_mul, Nat.zero_add, List.set_append_left _ _ (by rw [hs]; exact hj), List.set_cons_zero, List.flatMap_cons, he]
    rfl
  | x :: l, k + 1, hk, j, u, b, hj, he => by
    have ih := fl_set1 hs l k (by simpa using hk) j u b hj (by simpa using he)
    rw [List.flatMap_cons, List.set_append_right _ _ (by rw [hs, Nat.succ_mul]; omega), hs, show (k + 1) * size + j - size = k * size + j by rw [Nat.succ_mul]; omega, ih, List.set_cons_succ, List.flatMap_cons]
theorem ClusAt.ne {w : World} {x : Nat} {c : ACfgT} {m nb : Nat} {N : List NodeS} (h : ClusAt w x c m nb N) : x ≠ nb := by
  rintro rfl
  obtain ⟨v, hb, _⟩ := h.blk
  rw [h.row] at hb
  simp at hb
theorem ClusAt.kept {S : Nat → Prop} {w w' : World} {x : Nat} {c : ACfgT} {m nb : Nat} {N : List NodeS} (h : ClusAt w x c m nb N) (ho : Only S w w') (h1 : ¬ S x) (h2 : ¬ S nb) (hn : ∀ k, S k → ∀ cs f, w.heap[k]? ≠ some (.cells cs 3 f)) : ClusAt w' x c m nb N := by
  obtain ⟨v, hb, hv⟩ := h.blk
  exact ⟨⟨v, ho.old hb h1, hv.kept ho hn⟩, ho.old h.row h2⟩
theorem ClusAt.new {w w' : World} {x : Nat} {c : ACfgT} {m nb : Nat} {N : List NodeS} (h : ClusAt w x c m nb N) (ho : Only (fun _ => False) w w') : ClusAt w' x c m nb N := h.kept ho id id (fun _ => False.elim)
/-- A node's cell is written. -/
theorem ClusAt.put {w : World} {x : Nat} {c : ACfgT} {m nb : Nat} {N : List NodeS} (h : ClusAt w x c m nb N) (i : Nat) (hi : i < N.length) (j : Nat) (u : Value) (b : NodeS) (hj : j < 3) (he : nodeC b = (nodeC N[i]).set j u) :
    ClusAt (w.setCell ⟨nb, i * 3 + j, none⟩ u) x c m nb (N.set i b) ∧ Only (fun k => k = nb) w (w.setCell ⟨nb, i * 3 + j, none⟩ u) := by
  have ho : Only (fun k => k = nb) w (w.setCell ⟨nb, i * 3 + j, none⟩ u) := (Only.refl (fun k => k = nb) w).setCell (p := ⟨nb, i * 3 + j, none⟩) (.inr rfl) _
  obtain ⟨v, hb, hv⟩ := h.blk
  refine ⟨⟨⟨v, ?_, hv.kept ho (cells_not h.row (by decide))⟩, ?_⟩, ho⟩
  · rw [List.length_set]
    exact ho.old hb h.ne
  · have := set_at h.row (i * 3 + j) u
    rw [List.setIfInBounds_toArray, fl_set1 nodeC_length N i hi j u b hj he] at this
    exact this
theorem ClusAt.cell {w : World} {x : Nat} {c : ACfgT} {m nb : Nat} {N : List NodeS} (h : ClusAt w x c m nb N) (i : Nat) (hi : i < N.length) (j : Nat) (hj : j < 3) : w.cell? ⟨nb, i * 3 + j, none⟩ = (nodeC N[i])[j]? := by
  rw [cell_at h.row, List.getElem?_toArray, fl_get nodeC_length N i hi j hj]
/-- What a start leaves: the node's agent and map are new, its life is one more. -/
structure Started (w w' : World) (n : Nat) (c : ACfgT) (m nb lb x : Nat) (N : List NodeS) (B : AgBlk) (ib : Nat) : Prop where
  clus : ClusAt w' x c m nb (N.set (n - 1) ⟨some B.a, (N.getD (n - 1) ⟨none, 0, none⟩).life + 1, some ib⟩)
  ag : AgentAt w' B (newA n ((N.getD (n - 1) ⟨none, 0, none⟩).life + 1) c)
  inm : w'.heap[ib]? = some (.map #[] 0)
  from_ : B.from w.heap.size
  new : w.heap.size ≤ ib
  only : Only (fun i => i = nb ∨ i = lb) w w'
set_option maxRecDepth 100000 in
set_option maxHeartbeats 4000000 in
theorem cstart_any (w : World) (x m nb lb pb : Nat) (c : ACfgT) (N : List NodeS) (lv : List Int) (L : PMap) (h : ClusAt w x c m nb N) (hm : MeshAt w m lb pb lv L) (n : Nat) (hn : 1 ≤ n) (hn2 : n ≤ N.length) (hN : N.length ≤ 1000) (hlv : lv.length < 100000) (hl : (N.getD (n - 1) ⟨none, 0, none⟩).life + 1 < 4294967296) (hk : c.ok n ((N.getD (n - 1) ⟨none, 0, none⟩).life + 1) = true) :
    Calls Tryz.prog 29 #[.pointer (some ⟨x, 0, none⟩), .int .i64 n] w fun e w' => ∃ B ib, e = .returned (.tuple #[]) ∧ Started w w' n c m nb lb x N B ib ∧ MeshAt w' m lb pb (upL lv n) L := by
  obtain ⟨i, rfl⟩ : ∃ i, n = i + 1 := ⟨n - 1, by omega⟩
  have hi : i < N.length := by omega
  simp only [Nat.add_sub_cancel] at hl hk ⊢
  have hgd : N.getD i ⟨none, 0, none⟩ = N[i] := by rw [List.getD_eq_getElem?_getD, List.getElem?_eq_getElem hi]; rfl
  rw [hgd] at hl hk
  obtain ⟨n0, hn0⟩ : ∃ n0, n0 = N[i] := ⟨_, rfl⟩
  rw [← hn0] at hl hk
  obtain ⟨ag0, lf, in0⟩ := n0
  simp only at hl hk
  obtain ⟨l1, hl1⟩ : ∃ l1, l1 = lf + 1 := ⟨_, rfl⟩
  rw [← hl1] at hl hk
  obtain ⟨v, hb, hv⟩ := h.blk
  have y15 : w.cell? ⟨x, 15, none⟩ = some (.slice (some ⟨nb, 0, none⟩) N.length N.length) := cell_at hb 15
  have y1 := h.cell i hi 1 (by decide)
  rw [← hn0] at y1
  simp only [nodeC, List.getElem?_cons_succ, List.getElem?_cons_zero] at y1
  have f1 : w.frozen? ⟨nb, i * 3 + 1, none⟩ = false := free_at h.row _
  have hxl : nb < w.heap.size := lt_of_block h.row
  have hwr : IntKind.u32.wrap ((lf : Int) + 1) = (l1 : Int) := by rw [IntKind.wrap_u32]; omega
  obtain ⟨hc1, ho1⟩ := h.put i hi 1 (.int .u32 l1) ⟨ag0, l1, in0⟩ (by decide) (by rw [← hn0]; rfl)
  obtain ⟨W, hW⟩ : ∃ W, W = w.setCell ⟨nb, i * 3 + 1, none⟩ (.int .u32 l1) := ⟨_, rfl⟩
  rw [← hW] at hc1 ho1
  have hlen : (N.set i ⟨ag0, l1, in0⟩).length = N.length := List.length_set
  obtain ⟨v', hb2, hv2⟩ := hc1.blk
  have hvv : v' = v := by
    have h1 := ho1.old hb h.ne
    rw [h1] at hb2
    have := congrArg (fun o => match o with | some (Obj.cells cs _ _) => cs[7]? | _ => none) hb2
    simpa [clusC, ACfgT.cells, OCfgT.cells] using this.symm
  subst hvv
  unfold clusC ACfgT.cells OCfgT.cells at hb2
  have z0 : W.cell? ⟨x, 0, none⟩ = some (.int .i64 c.o.act) := cell_at hb2 0
  have z1 : W.cell? ⟨x, 1, none⟩ = some (.int .i64 c.o.pas) := cell_at hb2 1
  have z2 : W.cell? ⟨x, 2, none⟩ = some (.int .i64 c.o.far) := cell_at hb2 2
  have z3 : W.cell? ⟨x, 3, none⟩ = some (.int .i64 c.o.near) := cell_at hb2 3
  have z4 : W.cell? ⟨x, 4, none⟩ = some (.int .i64 c.o.mixA) := cell_at hb2 4
  have z5 : W.cell? ⟨x, 5, none⟩ = some (.int .i64 c.o.mixP) := cell_at hb2 5
  have z6 : W.cell? ⟨x, 6, none⟩ = some (.int .i64 c.o.every) := cell_at hb2 6
  have z7 : W.cell? ⟨x, 7, none⟩ = some (v') := cell_at hb2 7
  have z8 : W.cell? ⟨x, 8, none⟩ = some (.int .i64 c.most) := cell_at hb2 8
  have z9 : W.cell? ⟨x, 9, none⟩ = some (.int .i64 c.ttl) := cell_at hb2 9
  have z10 : W.cell? ⟨x, 10, none⟩ = some (.int .i64 c.wait) := cell_at hb2 10
  have z11 : W.cell? ⟨x, 11, none⟩ = some (.int .i64 c.tell) := cell_at hb2 11
  have z12 : W.cell? ⟨x, 12, none⟩ = some (.int .i64 c.sync) := cell_at hb2 12
  have z13 : W.cell? ⟨x, 13, none⟩ = some (.int .i64 c.refresh) := cell_at hb2 13
  have y15 : W.cell? ⟨x, 15, none⟩ = some (.slice (some ⟨nb, 0, none⟩) N.length N.length) := by rw [← hlen]; exact cell_at hb2 15
  have y14 : W.cell? ⟨x, 14, none⟩ = some (.pointer (some ⟨m, 0, none⟩)) := cell_at hb2 14
  have hi2 : i < (N.set i ⟨ag0, l1, in0⟩).length := by rw [hlen]; exact hi
  have hg2 : (N.set i ⟨ag0, l1, in0⟩)[i] = ⟨ag0, l1, in0⟩ := List.getElem_set_self hi2
  have y2 := hc1.cell i hi2 1 (by decide)
  rw [hg2] at y2
  simp only [nodeC, List.getElem?_cons_succ, List.getElem?_cons_zero] at y2
  have han : ∀ V, Only (fun _ => False) W V → Calls Tryz.prog 45 #[.int .i64 ((i + 1 : Nat) : Int), .int .u32 l1, .agg #[.int .i64 c.o.act, .int .i64 c.o.pas, .int .i64 c.o.far, .int .i64 c.o.near, .int .i64 c.o.mixA, .int .i64 c.o.mixP, .int .i64 c.o.every, v', .int .i64 c.most, .int .i64 c.ttl, .int .i64 c.wait, .int .i64 c.tell, .int .i64 c.sync, .int .i64 c.refresh]] V fun e w' => ∃ B : AgBlk, e = .returned (.tuple #[.pointer (some ⟨B.a, 0, none⟩), .int .i64 0]) ∧ Only (fun _ => False) V w' ∧ AgentAt w' B (newA (i + 1 : Nat) l1 c) ∧ B.from W.heap.size :=
    fun V hV => (anew_ok V (i + 1 : Nat) l1 c v' (hv2.sl.new hV) hl hk).mono fun e w' ⟨B, q1, q2, q3, q4⟩ => ⟨B, q1, q2, q3, q4.mono hV.size⟩
  have hcc : ∀ w', Only (fun _ => False) W w' → w'.cell? ⟨nb, i * 3 + 1, none⟩ = some (.int .u32 l1) ∧ w'.cell? ⟨x, 0, none⟩ = some (.int .i64 c.o.act) ∧ w'.cell? ⟨x, 1, none⟩ = some (.int .i64 c.o.pas) ∧ w'.cell? ⟨x, 2, none⟩ = some (.int .i64 c.o.far) ∧ w'.cell? ⟨x, 3, none⟩ = some (.int .i64 c.o.near) ∧ w'.cell? ⟨x, 4, none⟩ = some (.int .i64 c.o.mixA) ∧ w'.cell? ⟨x, 5, none⟩ = some (.int .i64 c.o.mixP) ∧ w'.cell? ⟨x, 6, none⟩ = some (.int .i64 c.o.every) ∧ w'.cell? ⟨x, 7, none⟩ = some v' ∧ w'.cell? ⟨x, 8, none⟩ = some (.int .i64 c.most) ∧ w'.cell? ⟨x, 9, none⟩ = some (.int .i64 c.ttl) ∧ w'.cell? ⟨x, 10, none⟩ = some (.int .i64 c.wait) ∧ w'.cell? ⟨x, 11, none⟩ = some (.int .i64 c.tell) ∧ w'.cell? ⟨x, 12, none⟩ = some (.int .i64 c.sync) ∧ w'.cell? ⟨x, 13, none⟩ = some (.int .i64 c.refresh) := fun w' h => ⟨h.cell y2 id, h.cell z0 id, h.cell z1 id, h.cell z2 id, h.cell z3 id, h.cell z4 id, h.cell z5 id, h.cell z6 id, h.cell z7 id, h.cell z8 id, h.cell z9 id, h.cell z10 id, h.cell z11 id, h.cell z12 id, h.cell z13 id⟩
  have hfz : ∀ w', Only (fun _ => False) W w' → w'.frozen? ⟨nb, i * 3, none⟩ = false := fun w' h => free_at (h.old hc1.row id) _
  have hnl : ∀ w', Only (fun _ => False) W w' → nb < w'.heap.size := fun w' h => lt_of_block (h.old hc1.row id)
  have hnbw := lt_of_block hc1.row
  have y0 := hc1.cell i hi2 0 (by decide)
  rw [hg2, Nat.add_zero] at y0
  simp only [nodeC, List.getElem?_cons_zero] at y0
  have hy0 : ∀ w', Only (fun _ => False) W w' → w'.cell? ⟨nb, i * 3, none⟩ = some (.pointer (ag0.map fun a => ⟨a, 0, none⟩)) := fun w' h => h.cell y0 id
  have HL1 := Lib.hid hl1
  clear hl1
  have HY0 := Lib.hid hy0
  have HAN := Lib.hid han
  have HCC := Lib.hid hcc
  have HFZ := Lib.hid hfz
  have HNL := Lib.hid hnl
  have HC1 := Lib.hid hc1
  have HO1 := Lib.hid ho1
  have HNBW := Lib.hid hnbw
  have HM := Lib.hid hm
  have HH := Lib.hid h
  clear hy0 han hcc hfz hnl hc1 ho1 hnbw hm h
  clear hb hb2 hv hv2 z0 z1 z2 z3 z4 z5 z6 z7 z8 z9 z10 z11 z12 z13 y0
  go_enter Tryz.func29, Tryz.ntmps29
  go_upto_region 1 with (fail)
  go_upto_region 2 with (fail)
  rw [← hW]
  clear hW
  refine wp_region_G_drew (fun w' => w'.cell? ⟨nb, i * 3 + 1, none⟩ = some (.int .u32 l1) ∧ w'.cell? ⟨x, 0, none⟩ = some (.int .i64 c.o.act) ∧ w'.cell? ⟨x, 1, none⟩ = some (.int .i64 c.o.pas) ∧ w'.cell? ⟨x, 2, none⟩ = some (.int .i64 c.o.far) ∧ w'.cell? ⟨x, 3, none⟩ = some (.int .i64 c.o.near) ∧ w'.cell? ⟨x, 4, none⟩ = some (.int .i64 c.o.mixA) ∧ w'.cell? ⟨x, 5, none⟩ = some (.int .i64 c.o.mixP) ∧ w'.cell? ⟨x, 6, none⟩ = some (.int .i64 c.o.every) ∧ w'.cell? ⟨x, 7, none⟩ = some v' ∧ w'.cell? ⟨x, 8, none⟩ = some (.int .i64 c.most) ∧ w'.cell? ⟨x, 9, none⟩ = some (.int .i64 c.ttl) ∧ w'.cell? ⟨x, 10, none⟩ = some (.int .i64 c.wait) ∧ w'.cell? ⟨x, 11, none⟩ = some (.int .i64 c.tell) ∧ w'.cell? ⟨x, 12, none⟩ = some (.int .i64 c.sync) ∧ w'.cell? ⟨x, 13, none⟩ = some (.int .i64 c.refresh)) (fun w' => True) 16 (by kernel_rfl) (by exact HCC.out _ (by (repeat (first | (with_reducible assumption) | (with_reducible exact Only.refl _ _) | (with_reducible refine Only.drew ?_) | (with_reducible refine Only.alloc ?_ _) | (with_reducible refine onlySet ?_ (by first | (with_reducible assumption) | omega) _) | (with_reducible refine Only.trans ?_ (by with_reducible assumption)))))) (fun hHeld => ?_)
  refine wpAnyG_takeWD (d := some 20) (i := 0) (oi := _) (v := ?v1) rfl (by kernel_rfl) (by kernel_rfl) (by kernel_rfl) (by kernel_rfl) (by kernel_rfl) (fun _ _ _ h => h) (Or.inl ⟨by rfl, ?hy1⟩) (Gn.start (by kernel_rfl) hHeld) ?rest1
  case hy1 =>
    intro w _
    go_simp
    try with_reducible rfl
  refine wpAnyG_act (a' := ?na1) ?ne1 ?nr1
  case ne1 =>
    try simp [Act.put]
    try rfl
  refine wpAnyG_takeWD (d := some 21) (i := 1) (oi := _) (v := ?v2) rfl (by kernel_rfl) (by kernel_rfl) (by kernel_rfl) (by kernel_rfl) (by kernel_rfl) (fun _ _ _ h => h) (Or.inl ⟨by rfl, ?hy2⟩) (Gn.start (by kernel_rfl) hHeld) ?rest2
  case hy2 =>
    intro w _
    go_simp
    try with_reducible rfl
  refine wpAnyG_act (a' := ?na2) ?ne2 ?nr2
  case ne2 =>
    try simp [Act.put]
    try rfl
  refine wpAnyG_takeWD (d := some 22) (i := 2) (oi := _) (v := ?v3) rfl (by kernel_rfl) (by kernel_rfl) (by kernel_rfl) (by kernel_rfl) (by kernel_rfl) (fun _ _ _ h => h) (Or.inl ⟨by rfl, ?hy3⟩) (Gn.start (by kernel_rfl) hHeld) ?rest3
  case hy3 =>
    intro w _
    go_simp
    try with_reducible rfl
  refine wpAnyG_act (a' := ?na3) ?ne3 ?nr3
  case ne3 =>
    try simp [Act.put]
    try rfl
  refine wpAnyG_takeWD (d := some 23) (i := 3) (oi := _) (v := ?v4) rfl (by kernel_rfl) (by kernel_rfl) (by kernel_rfl) (by kernel_rfl) (by kernel_rfl) (fun _ _ _ h => h) (Or.inl ⟨by rfl, ?hy4⟩) (Gn.start (by kernel_rfl) hHeld) ?rest4
  case hy4 =>
    intro w _
    go_simp
    try with_reducible rfl
  refine wpAnyG_act (a' := ?na4) ?ne4 ?nr4
  case ne4 =>
    try simp [Act.put]
    try rfl
  refine wpAnyG_takeWD (d := some 24) (i := 4) (oi := _) (v := ?v5) rfl (by kernel_rfl) (by kernel_rfl) (by kernel_rfl) (by kernel_rfl) (by kernel_rfl) (fun _ _ _ h => h) (Or.inl ⟨by rfl, ?hy5⟩) (Gn.start (by kernel_rfl) hHeld) ?rest5
  case hy5 =>
    intro w _
    go_simp
    try with_reducible rfl
  refine wpAnyG_act (a' := ?na5) ?ne5 ?nr5
  case ne5 =>
    try simp [Act.put]
    try rfl
  refine wpAnyG_takeD (d := some 25) (i := 5) (oi := _) (v := ?v6) rfl (by kernel_rfl) (by kernel_rfl) (by kernel_rfl) (by kernel_rfl) (by kernel_rfl) rfl (by rfl) (fun _ _ _ h => h) (Or.inl ⟨by rfl, ?hy6⟩) hHeld ?rest6
  case hy6 =>
    intro w hSw
    try dsimp only at hSw
    go_simp
    try with_reducible rfl
  refine wpAnyG_act (a' := ?na6) ?ne6 ?nr6
  case ne6 =>
    try simp [Act.put]
    try rfl
  refine wpAnyG_takeWD (d := some 26) (i := 6) (oi := _) (v := ?v7) rfl (by kernel_rfl) (by kernel_rfl) (by kernel_rfl) (by kernel_rfl) (by kernel_rfl) (fun _ _ _ h => h) (Or.inl ⟨by rfl, ?hy7⟩) (Gn.start (by kernel_rfl) hHeld) ?rest7
  case hy7 =>
    intro w _
    go_simp
    try with_reducible rfl
  refine wpAnyG_act (a' := ?na7) ?ne7 ?nr7
  case ne7 =>
    try simp [Act.put]
    try rfl
  refine wpAnyG_takeWD (d := some 27) (i := 7) (oi := _) (v := ?v8) rfl (by kernel_rfl) (by kernel_rfl) (by kernel_rfl) (by kernel_rfl) (by kernel_rfl) (fun _ _ _ h => h) (Or.inl ⟨by rfl, ?hy8⟩) (Gn.start (by kernel_rfl) hHeld) ?rest8
  case hy8 =>
    intro w _
    go_simp
    try with_reducible rfl
  refine wpAnyG_act (a' := ?na8) ?ne8 ?nr8
  case ne8 =>
    try simp [Act.put]
    try rfl
  refine wpAnyG_takeWD (d := some 28) (i := 8) (oi := _) (v := ?v9) rfl (by kernel_rfl) (by kernel_rfl) (by kernel_rfl) (by kernel_rfl) (by kernel_rfl) (fun _ _ _ h => h) (Or.inl ⟨by rfl, ?hy9⟩) (Gn.start (by kernel_rfl) hHeld) ?rest9
  case hy9 =>
    intro w _
    go_simp
    try with_reducible rfl
  refine wpAnyG_act (a' := ?na9) ?ne9 ?nr9
  case ne9 =>
    try simp [Act.put]
    try rfl
  refine wpAnyG_takeD (d := some 29) (i := 9) (oi := _) (v := ?v10) rfl (by kernel_rfl) (by kernel_rfl) (by kernel_rfl) (by kernel_rfl) (by kernel_rfl) rfl (by rfl) (fun _ _ _ h => h) (Or.inl ⟨by rfl, ?hy10⟩) hHeld ?rest10
  case hy10 =>
    intro w hSw
    try dsimp only at hSw
    go_simp
    try with_reducible rfl
  refine wpAnyG_act (a' := ?na10) ?ne10 ?nr10
  case ne10 =>
    try simp [Act.put]
    try rfl
  refine wpAnyG_ready (rs := [10]) (by kernel_rfl) (by simp) ?_
  refine AllReadyG.cons (o := _) rfl (fun K hK => ?_) AllReadyG.nil
  go_simp
  refine (HAN.out _ (by (repeat (first | (with_reducible assumption) | (with_reducible exact Only.refl _ _) | (with_reducible refine Only.drew ?_) | (with_reducible refine Only.alloc ?_ _) | (with_reducible refine onlySet ?_ (by first | (with_reducible assumption) | omega) _) | (with_reducible refine Only.trans ?_ (by with_reducible assumption)))))).mono ?_
  rintro e9 w6 ⟨B, rfl, ho6, hag6, hfr6⟩
  have q6 := HY0.out w6 (by (repeat (first | (with_reducible assumption) | (with_reducible exact Only.refl _ _) | (with_reducible refine Only.drew ?_) | (with_reducible refine Only.alloc ?_ _) | (with_reducible refine onlySet ?_ (by first | (with_reducible assumption) | omega) _) | (with_reducible refine Only.trans ?_ (by with_reducible assumption)))))
  have f6 := HFZ.out w6 (by (repeat (first | (with_reducible assumption) | (with_reducible exact Only.refl _ _) | (with_reducible refine Only.drew ?_) | (with_reducible refine Only.alloc ?_ _) | (with_reducible refine onlySet ?_ (by first | (with_reducible assumption) | omega) _) | (with_reducible refine Only.trans ?_ (by with_reducible assumption)))))
  have l6 := HNL.out w6 (by (repeat (first | (with_reducible assumption) | (with_reducible exact Only.refl _ _) | (with_reducible refine Only.drew ?_) | (with_reducible refine Only.alloc ?_ _) | (with_reducible refine onlySet ?_ (by first | (with_reducible assumption) | omega) _) | (with_reducible refine Only.trans ?_ (by with_reducible assumption)))))
  go_wp2_with fail
  refine hK.out _ _ (Gn.start (by kernel_rfl) (by exact HCC.out _ (by (repeat (first | (with_reducible assumption) | (with_reducible exact Only.refl _ _) | (with_reducible refine Only.drew ?_) | (with_reducible refine Only.alloc ?_ _) | (with_reducible refine onlySet ?_ (by first | (with_reducible assumption) | omega) _) | (with_reducible refine Only.trans ?_ (by with_reducible assumption))))))) (fun hNew => ?_)
  clear hK K hHeld
  have hHeld := Gn.outS (by kernel_rfl) hNew
  clear hNew
  refine wpAnyG_act (a' := ?na11) ?ne11 ?nr11
  case ne11 =>
    try simp [Act.put]
    try rfl
  refine wpAnyG_takeWD (d := some 19) (i := 11) (oi := _) (v := ?v11) rfl (by kernel_rfl) (by kernel_rfl) (by kernel_rfl) (by kernel_rfl) (by kernel_rfl) (fun _ _ _ h => h) (Or.inl ⟨by rfl, ?hy11⟩) (Gn.start (by kernel_rfl) hHeld) ?rest11
  case hy11 =>
    intro w _
    go_simp
    try with_reducible rfl
  refine wpAnyG_act (a' := ?na12) ?ne12 ?nr12
  case ne12 =>
    try simp [Act.put]
    try rfl
  refine wpAnyG_takeWD (d := some 31) (i := 12) (oi := _) (v := ?v12) rfl (by kernel_rfl) (by kernel_rfl) (by kernel_rfl) (by kernel_rfl) (by kernel_rfl) (fun _ _ _ h => h) (Or.inl ⟨by rfl, ?hy12⟩) (Gn.start (by kernel_rfl) hHeld) ?rest12
  case hy12 =>
    intro w _
    go_simp
    try with_reducible rfl
  refine wpAnyG_act (a' := ?na13) ?ne13 ?nr13
  case ne13 =>
    try simp [Act.put]
    try rfl
  refine wpAnyG_takeWD (d := some 32) (i := 13) (oi := _) (v := ?v13) rfl (by kernel_rfl) (by kernel_rfl) (by kernel_rfl) (by kernel_rfl) (by kernel_rfl) (fun _ _ _ h => h) (Or.inl ⟨by rfl, ?hy13⟩) (Gn.start (by kernel_rfl) hHeld) ?rest13
  case hy13 =>
    intro w _
    go_simp
    try with_reducible rfl
  refine wpAnyG_act (a' := ?na14) ?ne14 ?nr14
  case ne14 =>
    try simp [Act.put]
    try rfl
  refine wpAnyG_takeWD (d := some 33) (i := 14) (oi := _) (v := ?v14) rfl (by kernel_rfl) (by kernel_rfl) (by kernel_rfl) (by kernel_rfl) (by kernel_rfl) (fun _ _ _ h => h) (Or.inl ⟨by rfl, ?hy14⟩) (Gn.start (by kernel_rfl) hHeld) ?rest14
  case hy14 =>
    intro w _
    go_simp
    try with_reducible rfl
  refine wpAnyG_act (a' := ?na15) ?ne15 ?nr15
  case ne15 =>
    try simp [Act.put]
    try rfl
  refine wpAnyG_takeWD (d := some 34) (i := 15) (oi := _) (v := ?v15) rfl (by kernel_rfl) (by kernel_rfl) (by kernel_rfl) (by kernel_rfl) (by kernel_rfl) (fun _ _ _ h => h) (Or.inl ⟨by rfl, ?hy15⟩) (Gn.start (by kernel_rfl) hHeld) ?rest15
  case hy15 =>
    intro w _
    go_simp
    try with_reducible rfl
  refine wpAnyG_act (a' := ?na16) ?ne16 ?nr16
  case ne16 =>
    try simp [Act.put]
    try rfl
  refine wpAnyG_ready (rs := [16]) (by kernel_rfl) (by simp) ?_
  refine AllReadyG.cons (o := _) rfl (fun K hK => ?_) AllReadyG.nil
  go_simp
  refine hK.out _ _ (Gn.tail (by kernel_rfl) (trivial)) (fun hNew => ?_)
  clear hK K hHeld hNew
  refine wpAnyG_act (a' := ?na17) ?ne17 ?nr17
  case ne17 =>
    try simp [Act.put]
    try rfl
  refine wpAnyG_done (by kernel_rfl) ?_ _
  have hoW6 : Only (fun _ => False) W w6 := by (repeat (first | (with_reducible assumption) | (with_reducible exact Only.refl _ _) | (with_reducible refine Only.drew ?_) | (with_reducible refine Only.alloc ?_ _) | (with_reducible refine onlySet ?_ (by first | (with_reducible assumption) | omega) _) | (with_reducible refine Only.trans ?_ (by with_reducible assumption))))
  obtain ⟨hc7, ho7⟩ := (HC1.out.new hoW6).put i hi2 0 (.pointer (some ⟨B.a, 0, none⟩)) ⟨some B.a, l1, in0⟩ (by decide) (by rw [hg2]; rfl)
  rw [Nat.add_zero] at hc7 ho7
  rw [List.set_set] at hc7
  obtain ⟨W7, hW7⟩ : ∃ W7, W7 = w6.setCell ⟨nb, i * 3, none⟩ (.pointer (some ⟨B.a, 0, none⟩)) := ⟨_, rfl⟩
  rw [← hW7] at hc7 ho7
  have hnbl : nb < w6.heap.size := l6
  have hag7 : AgentAt W7 B (newA (i + 1 : Nat) l1 c) := hag6.keptNew hfr6 (fun k e => by have := HNBW.out; subst e; omega) ho7 (cells_not (HC1.out.new hoW6).row (by decide))
  have hmm := @run_makeMap Tryz.prog
  have hN7 : (N.set i ⟨some B.a, l1, in0⟩).length = N.length := List.length_set
  have f7 : W7.frozen? ⟨nb, i * 3 + 2, none⟩ = false := free_at hc7.row _
  have hi7 : i < (N.set i ⟨some B.a, l1, in0⟩).length := by rw [hN7]; exact hi
  have hg7 : (N.set i ⟨some B.a, l1, in0⟩)[i] = ⟨some B.a, l1, in0⟩ := List.getElem_set_self hi7
  have y7 := hc7.cell i hi7 2 (by decide)
  rw [hg7] at y7
  simp only [nodeC, List.getElem?_cons_succ, List.getElem?_cons_zero] at y7
  have hl7 : nb < W7.heap.size := lt_of_block hc7.row
  have hoA : Only (fun k => k = nb) w W7 := HO1.out.trans ((hoW6.weaken (fun _ _ => False.elim)).trans ho7)
  have HC7 := Lib.hid hc7
  have HOA := Lib.hid hoA
  have HAG7 := Lib.hid hag7
  have HFR := Lib.hid hfr6
  clear hc7 hoA hag7 hfr6
  clear hag6 ho6
  go_upto_region 3 with (fail)
  rw [← hW7]
  clear hW7
  go_upto_region 4 with (fail)
  obtain ⟨hc8, ho8⟩ := HC7.out.put i hi7 2 (.map (some W7.heap.size)) ⟨some B.a, l1, some W7.heap.size⟩ (by decide) (by rw [hg7]; rfl)
  rw [List.set_set] at hc8
  obtain ⟨W8, hW8⟩ : ∃ W8, W8 = (W7.setCell ⟨nb, i * 3 + 2, none⟩ (.map (some W7.heap.size))).alloc (.map #[] 0) := ⟨_, rfl⟩
  have ho9 : Only (fun k => k = nb) W7 W8 := by rw [hW8]; exact ho8.alloc _
  have hc9 : ClusAt W8 x c m nb (N.set i ⟨some B.a, l1, some W7.heap.size⟩) := by rw [hW8]; exact hc8.new ((Only.refl _ _).alloc _)
  have hib : W8.heap[W7.heap.size]? = some (.map #[] 0) := by
    rw [hW8]
    have := heap_alloc_new (W7.setCell ⟨nb, i * 3 + 2, none⟩ (.map (some W7.heap.size))) (.map #[] 0)
    rwa [show (W7.setCell ⟨nb, i * 3 + 2, none⟩ (.map (some W7.heap.size))).heap.size = W7.heap.size by simp] at this
  have hoB : Only (fun k => k = nb) w W8 := HOA.out.trans ho9
  have hm8 : MeshAt W8 m lb pb lv L := HM.out.kept hoB (fun e => by have h1 := HM.out.blk; rw [e, HH.out.row] at h1; simp at h1) (fun k hk e => by subst e; exact HM.out.foot_cells hk HH.out.row) (fun e he d hd e2 => by
    obtain ⟨d', h1, h2, _⟩ := HM.out.pipe e he
    rw [hd] at h1
    obtain rfl : d = d' := by simpa using h1
    have h3 := h2.blk
    rw [e2, HH.out.row] at h3
    simp at h3)
  have hup := mup_any W8 m lb pb lv L hm8 (i + 1 : Nat) (by omega) (by omega) hlv
  have hagn := HAG7.out.keptNew HFR.out (fun k e => by have := HNBW.out; subst e; omega) ho9 (cells_not HC7.out.row (by decide))
  obtain ⟨v9, hb9, _⟩ := hc9.blk
  have y14' : W8.cell? ⟨x, 14, none⟩ = some (.pointer (some ⟨m, 0, none⟩)) := cell_at hb9 14
  rw [← hW8]
  have HUP := Lib.hid hup
  have HAGN := Lib.hid hagn
  have HC9 := Lib.hid hc9
  have HIB := Lib.hid hib
  have HOB := Lib.hid hoB
  have HM8 := Lib.hid hm8
  clear hup hagn hc9 hib hoB hm8
  clear hW8 hc8 ho8 ho9 hb9
  go_wp2_with fail
  refine HUP.out.mono ?_
  rintro e w10 ⟨rfl, hm10, ho10⟩
  have HM10 := Lib.hid hm10
  have HO10 := Lib.hid ho10
  clear hm10 ho10
  go_wp2_with fail
  go_end0
  have hlbl : lb < w.heap.size := HM.out.foot_lt (.inl rfl)
  have hs7 := HOA.out.size
  have hsw := HO1.out.size
  have hnl8 : ∀ k, k = lb → ∀ cs f, W8.heap[k]? ≠ some (.cells cs 3 f) := fun k e cs f => by subst e; exact HM8.out.foot_cells (.inl rfl)
  have hlx : ¬ x = lb := fun e => by
    obtain ⟨v9, hb9, _⟩ := HC9.out.blk
    rw [e] at hb9
    exact HM8.out.foot_cells (.inl rfl) hb9
  have hln : ¬ nb = lb := fun e => HM8.out.foot_cells (.inl rfl) (e ▸ HC9.out.row)
  refine ⟨B, W7.heap.size, rfl, ⟨?_, ?_, HO10.out.old HIB.out (by omega), HFR.out.mono hsw, hs7, (HOB.out.weaken (fun _ _ => .inl)).trans (HO10.out.weaken (fun _ _ => .inr))⟩, HM10.out⟩
  · rw [Nat.add_sub_cancel, hgd, ← hn0, ← HL1.out]
    exact HC9.out.kept HO10.out hlx hln hnl8
  · rw [Nat.add_sub_cancel, hgd, ← hn0, ← HL1.out]
    exact HAGN.out.keptNew (HFR.out.mono hsw) (fun k e => by omega) HO10.out hnl8
end Go.Proofs.YtegechmdboccbaaGreatDoor
/-! cluster.New of a good config. -/
namespace Go.Proofs.YtegechmdboccbaaGreatDoor
open Go.Conc Go.RowKit Go.Maps

def node0 : NodeS := ⟨none, 0, none⟩
def nodes0 (n : Nat) : List NodeS := List.replicate n node0
theorem infoNode : (Tryz.prog.info? 89).map (fun i => (i.zero, i.size, i.bytes)) = some (some (.agg #[.pointer none, .int .u32 0, .map none]), 3, 24) := by kernel_rfl
theorem made_nodes (n : Nat) (hn : n ≤ 12) : madeCells (Value.agg #[.pointer none, .int .u32 0, .map none]).cells (n * 3) = ((nodes0 n).flatMap nodeC).toArray := by
  rcases (by omega : n = 0 ∨ n = 1 ∨ n = 2 ∨ n = 3 ∨ n = 4 ∨ n = 5 ∨ n = 6 ∨ n = 7 ∨ n = 8 ∨ n = 9 ∨ n = 10 ∨ n = 11 ∨ n = 12) with rfl | rfl | rfl | rfl | rfl | rfl | rfl | rfl | rfl | rfl | rfl | rfl | rfl <;> kernel_rfl
theorem make_nodes (n : Nat) (hn : n ≤ 12) : ∀ w, (Instr.makeSlice 74 (.int .i64 n) (.int .i64 n)).run Tryz.prog w = .ok (.slice (some ⟨w.heap.size, 0, none⟩) n n) (w.alloc (.cells ((nodes0 n).flatMap nodeC).toArray 89)) := by
  intro w
  obtain ⟨i0, hi0, iz0, iz1, iz2⟩ := info_parts infoNode
  have := run_makeSlice (P := Tryz.prog) w 74 89 i0 _ Tryz.underlying74 hi0 iz0 .i64 .i64 n n (by omega) (by omega) (by rw [iz1]; simp; omega) (by rw [iz2]; omega) (by omega)
  rw [this]
  simp only [Int.toNat_natCast, iz1]
  rw [made_nodes n hn]
/-- Who is there behind so many starts. -/
def lvUp : Nat → List Int
  | 0 => []
  | k + 1 => upL (lvUp k) (k + 1 : Nat)
theorem lvUp_len : ∀ k, (lvUp k).length ≤ k
  | 0 => Nat.le_refl _
  | k + 1 => by
    have := lvUp_len k
    unfold lvUp upL
    rw [List.length_append]
    have h2 := List.length_filter_le (fun x => !decide (x = ((k + 1 : Nat) : Int))) (lvUp k)
    simp only [List.length_cons, List.length_nil]
    omega
/-- A cluster of which k nodes were started once, all of it new since a world of so many blocks. -/
structure ClusK (w : World) (b0 x m nb lb pb n : Nat) (c : ACfgT) (k : Nat) : Prop where
  nodes : ∃ N : List NodeS, ClusAt w x c m nb N ∧ N.length = n ∧ (∀ i (hi : i < N.length), i < k → ∃ B ib, N[i] = ⟨some B.a, 1, some ib⟩ ∧ AgentAt w B (newA (i + 1 : Nat) 1 c) ∧ w.heap[ib]? = some (.map #[] 0) ∧ (b0 ≤ ib ∧ ib ≠ nb ∧ ib ≠ lb) ∧ B.from b0 ∧ ∀ j, B.foot j → j ≠ nb ∧ j ≠ lb) ∧ (∀ i (hi : i < N.length), k ≤ i → N[i] = node0)
  mesh : MeshAt w m lb pb (lvUp k) []
  xB : b0 ≤ x
  mB : b0 ≤ m
  nbB : b0 ≤ nb
  lbB : b0 ≤ lb
  pbB : b0 ≤ pb
theorem ClusK.start {V : World} {b0 x m nb lb pb n : Nat} {c : ACfgT} {v : Value} (hb : V.heap[x]? = some (.cells (clusC c v m nb n).toArray 76 (0, 0))) (hr : V.heap[nb]? = some (.cells ((nodes0 n).flatMap nodeC).toArray 89 (0, 0))) (hv : IR V v c.o.seeds) (hm : MeshAt V m lb pb [] [])
    (h1 : b0 ≤ x) (h2 : b0 ≤ m) (h3 : b0 ≤ nb) (h4 : b0 ≤ lb) (h5 : b0 ≤ pb) : ClusK V b0 x m nb lb pb n c 0 := by
  have hl : (nodes0 n).length = n := List.length_replicate
  exact ⟨⟨nodes0 n, ⟨⟨v, by rw [hl]; exact hb, hv⟩, hr⟩, hl, fun i _ h => absurd h (Nat.not_lt_zero _), fun i hi _ => List.getElem_replicate hi⟩, hm, h1, h2, h3, h4, h5⟩
theorem ClusK.next {w w' : World} {b0 x m nb lb pb n : Nat} {c : ACfgT} {k : Nat} {N : List NodeS} {B : AgBlk} {ib : Nat} (h : ClusK w b0 x m nb lb pb n c k) (hb0 : b0 ≤ w.heap.size) (hk : k < n) (hN1 : ClusAt w x c m nb N) (hN2 : N.length = n)
    (hN3 : ∀ i (hi : i < N.length), i < k → ∃ B ib, N[i] = ⟨some B.a, 1, some ib⟩ ∧ AgentAt w B (newA (i + 1 : Nat) 1 c) ∧ w.heap[ib]? = some (.map #[] 0) ∧ (b0 ≤ ib ∧ ib ≠ nb ∧ ib ≠ lb) ∧ B.from b0 ∧ ∀ j, B.foot j → j ≠ nb ∧ j ≠ lb) (hN4 : ∀ i (hi : i < N.length), k ≤ i → N[i] = node0)
    (hs : Started w w' (k + 1) c m nb lb x N B ib) (hgd : N.getD (k + 1 - 1) ⟨none, 0, none⟩ = node0) (hm : MeshAt w' m lb pb (upL (lvUp k) (k + 1 : Nat)) []) : ClusK w' b0 x m nb lb pb n c (k + 1) := by
  have hnb := lt_of_block hN1.row
  have hlb : lb < w.heap.size := h.mesh.foot_lt (.inl rfl)
  have hc := hs.clus
  have ha := hs.ag
  rw [hgd, Nat.add_sub_cancel] at hc
  rw [hgd] at ha
  have hni : ∀ q, (q = nb ∨ q = lb) → ∀ cs f, w.heap[q]? ≠ some (.cells cs 3 f) := by
    rintro q (rfl | rfl) cs f
    · rw [hN1.row]; simp
    · exact h.mesh.foot_cells (.inl rfl)
  refine ⟨⟨_, hc, by rw [List.length_set]; exact hN2, fun i hi hik => ?_, fun i hi hik => ?_⟩, hm, h.xB, h.mB, h.nbB, h.lbB, h.pbB⟩
  · have hi2 : i < N.length := by rw [List.length_set] at hi; exact hi
    by_cases e : i = k
    · subst e
      refine ⟨B, ib, ?_, ha, hs.inm, ⟨Nat.le_trans hb0 hs.new, ?_, ?_⟩, hs.from_.mono hb0, fun j hj => ?_⟩
      · rw [List.getElem_set_self hi]; rfl
      · have := hs.new; omega
      · have := hs.new; omega
      · have := hs.from_.foot j hj; omega
    · obtain ⟨B', ib', h1, h2, h3, h4, h5, h6⟩ := hN3 i hi2 (by omega)
      refine ⟨B', ib', ?_, h2.kept hs.only (fun j hj e2 => ?_) hni, hs.only.old h3 (fun e2 => ?_), h4, h5, h6⟩
      · rw [List.getElem_set_ne (by omega) hi]; exact h1
      · have := h6 j hj; omega
      · omega
  · have hi2 : i < N.length := by rw [List.length_set] at hi; exact hi
    rw [List.getElem_set_ne (by omega) hi]
    exact hN4 i hi2 (by omega)
theorem ClusK.lower {w : World} {b0 b1 x m nb lb pb n : Nat} {c : ACfgT} {k : Nat} (h : ClusK w b0 x m nb lb pb n c k) (hb : b1 ≤ b0) : ClusK w b1 x m nb lb pb n c k := by
  obtain ⟨⟨N, h1, h2, h3, h4⟩, h5, h6, h7, h8, h9, h10⟩ := h
  refine ⟨⟨N, h1, h2, fun i hi hk => ?_, h4⟩, h5, by omega, by omega, by omega, by omega, by omega⟩
  obtain ⟨B, ib, q1, q2, q3, q4, q5, q6⟩ := h3 i hi hk
  exact ⟨B, ib, q1, q2, q3, ⟨by omega, q4.2⟩, q5.mono hb, q6⟩
theorem two_last (w : World) (o o' : Obj) : ((w.alloc o).alloc o').heap[w.heap.size + 1]? = some o' := (two_new w o o').2
def ClusNew (w w' : World) (n : Nat) (c : ACfgT) (e : Ending) : Prop :=
  ∃ x m nb lb pb, e = .returned (.tuple #[.pointer (some ⟨x, 0, none⟩), .int .i64 0]) ∧ Only (fun _ => False) w w' ∧ ClusK w' w.heap.size x m nb lb pb n c n
set_option maxRecDepth 100000 in
set_option maxHeartbeats 4000000 in
theorem cnew_ok (w : World) (n : Nat) (c : ACfgT) (v : Value) (h : IR w v c.o.seeds) (hn1 : 1 ≤ n) (hn2 : n ≤ 12) (hk : ∀ k, k < n → c.ok (k + 1 : Nat) 1 = true) :
    Calls Tryz.prog 9 #[.int .i64 n, .agg (c.cells v).toArray] w fun e w' => ClusNew w w' n c e := by
  have HP := Lib.hid (show ∀ w' e, (∃ x m nb lb pb, e = .returned (.tuple #[.pointer (some ⟨x, 0, none⟩), .int .i64 0]) ∧ Only (fun _ => False) w w' ∧ ClusK w' w.heap.size x m nb lb pb n c n) → ClusNew w w' n c e from fun _ _ h => h)
  obtain ⟨W, hW⟩ : ∃ W, W = w.alloc (.cells (c.cells v).toArray 41) := ⟨_, rfl⟩
  have hbW : W.heap[w.heap.size]? = some (.cells (c.cells v).toArray 41 (0, 0)) := by rw [hW]; exact heap_alloc_new w _
  have hoW : Only (fun _ => False) w W := by rw [hW]; exact (Only.refl _ _).alloc _
  have hsW : W.heap.size = w.heap.size + 1 := by rw [hW]; simp
  have hg := acgood_ok W c v ((h.new hoW).sl) (hk 0 (by omega))
  have hmk := make_nodes n hn2
  have hir := h.new hoW
  have hbs : w.heap.size ≤ W.heap.size := hoW.size
  unfold ACfgT.cells OCfgT.cells at hg
  have z0 : W.cell? ⟨w.heap.size, 0, none⟩ = some (.int .i64 c.o.act) := cell_at hbW 0
  have z1 : W.cell? ⟨w.heap.size, 1, none⟩ = some (.int .i64 c.o.pas) := cell_at hbW 1
  have z2 : W.cell? ⟨w.heap.size, 2, none⟩ = some (.int .i64 c.o.far) := cell_at hbW 2
  have z3 : W.cell? ⟨w.heap.size, 3, none⟩ = some (.int .i64 c.o.near) := cell_at hbW 3
  have z4 : W.cell? ⟨w.heap.size, 4, none⟩ = some (.int .i64 c.o.mixA) := cell_at hbW 4
  have z5 : W.cell? ⟨w.heap.size, 5, none⟩ = some (.int .i64 c.o.mixP) := cell_at hbW 5
  have z6 : W.cell? ⟨w.heap.size, 6, none⟩ = some (.int .i64 c.o.every) := cell_at hbW 6
  have z7 : W.cell? ⟨w.heap.size, 7, none⟩ = some (v) := cell_at hbW 7
  have z8 : W.cell? ⟨w.heap.size, 8, none⟩ = some (.int .i64 c.most) := cell_at hbW 8
  have z9 : W.cell? ⟨w.heap.size, 9, none⟩ = some (.int .i64 c.ttl) := cell_at hbW 9
  have z10 : W.cell? ⟨w.heap.size, 10, none⟩ = some (.int .i64 c.wait) := cell_at hbW 10
  have z11 : W.cell? ⟨w.heap.size, 11, none⟩ = some (.int .i64 c.tell) := cell_at hbW 11
  have z12 : W.cell? ⟨w.heap.size, 12, none⟩ = some (.int .i64 c.sync) := cell_at hbW 12
  have z13 : W.cell? ⟨w.heap.size, 13, none⟩ = some (.int .i64 c.refresh) := cell_at hbW 13
  have hd1 : ¬ (n : Int) < 1 := by omega
  have hd2 : ¬ (n : Int) > 12 := by omega
  have HG := Lib.hid hg
  have HBW := Lib.hid hbW
  have HOW := Lib.hid hoW
  have HMK := Lib.hid hmk
  have HIR := Lib.hid hir
  have HK := Lib.hid hk
  have HBS := Lib.hid hbs
  clear hg hbW hoW hmk hir hk hbs
  clear h hsW
  go_enter Tryz.func9, Tryz.ntmps9
  go_upto_region 1 with (fail)
  rw [← hW]
  clear hW
  go_wp2_with fail
  refine HG.out.mono ?_
  rintro e w1 ⟨rfl, ho1⟩
  have hcc : ∀ w', Only (fun _ => False) w1 w' → w'.cell? ⟨w.heap.size, 0, none⟩ = some (.int .i64 c.o.act) ∧ w'.cell? ⟨w.heap.size, 1, none⟩ = some (.int .i64 c.o.pas) ∧ w'.cell? ⟨w.heap.size, 2, none⟩ = some (.int .i64 c.o.far) ∧ w'.cell? ⟨w.heap.size, 3, none⟩ = some (.int .i64 c.o.near) ∧ w'.cell? ⟨w.heap.size, 4, none⟩ = some (.int .i64 c.o.mixA) ∧ w'.cell? ⟨w.heap.size, 5, none⟩ = some (.int .i64 c.o.mixP) ∧ w'.cell? ⟨w.heap.size, 6, none⟩ = some (.int .i64 c.o.every) ∧ w'.cell? ⟨w.heap.size, 7, none⟩ = some v ∧ w'.cell? ⟨w.heap.size, 8, none⟩ = some (.int .i64 c.most) ∧ w'.cell? ⟨w.heap.size, 9, none⟩ = some (.int .i64 c.ttl) ∧ w'.cell? ⟨w.heap.size, 10, none⟩ = some (.int .i64 c.wait) ∧ w'.cell? ⟨w.heap.size, 11, none⟩ = some (.int .i64 c.tell) ∧ w'.cell? ⟨w.heap.size, 12, none⟩ = some (.int .i64 c.sync) ∧ w'.cell? ⟨w.heap.size, 13, none⟩ = some (.int .i64 c.refresh) := fun w' h => ⟨(ho1.trans h).cell z0 id, (ho1.trans h).cell z1 id, (ho1.trans h).cell z2 id, (ho1.trans h).cell z3 id, (ho1.trans h).cell z4 id, (ho1.trans h).cell z5 id, (ho1.trans h).cell z6 id, (ho1.trans h).cell z7 id, (ho1.trans h).cell z8 id, (ho1.trans h).cell z9 id, (ho1.trans h).cell z10 id, (ho1.trans h).cell z11 id, (ho1.trans h).cell z12 id, (ho1.trans h).cell z13 id⟩
  have hir1 := HIR.out.new ho1
  have hs1 := ho1.size
  have HCC := Lib.hid hcc
  have HO1 := Lib.hid ho1
  have HIR1 := Lib.hid hir1
  have HS1 := Lib.hid hs1
  clear hcc ho1 hir1 hs1
  clear z0 z1 z2 z3 z4 z5 z6 z7 z8 z9 z10 z11 z12 z13
  have hm := HMK.out
  go_upto_region 3 with (fail)
  go_cut [6] (fun v6 wx => ∃ x m nb lb pb, v6 = .pointer (some ⟨x, 0, none⟩) ∧ Only (fun _ => False) w1 wx ∧ ClusK wx w1.heap.size x m nb lb pb n c 0)
  case first =>
    go_region_held3 (fun w' => Only (fun _ => False) w1 w' ∧ w'.cell? ⟨w.heap.size, 0, none⟩ = some (.int .i64 c.o.act) ∧ w'.cell? ⟨w.heap.size, 1, none⟩ = some (.int .i64 c.o.pas) ∧ w'.cell? ⟨w.heap.size, 2, none⟩ = some (.int .i64 c.o.far) ∧ w'.cell? ⟨w.heap.size, 3, none⟩ = some (.int .i64 c.o.near) ∧ w'.cell? ⟨w.heap.size, 4, none⟩ = some (.int .i64 c.o.mixA) ∧ w'.cell? ⟨w.heap.size, 5, none⟩ = some (.int .i64 c.o.mixP) ∧ w'.cell? ⟨w.heap.size, 6, none⟩ = some (.int .i64 c.o.every) ∧ w'.cell? ⟨w.heap.size, 7, none⟩ = some v ∧ w'.cell? ⟨w.heap.size, 8, none⟩ = some (.int .i64 c.most) ∧ w'.cell? ⟨w.heap.size, 9, none⟩ = some (.int .i64 c.ttl) ∧ w'.cell? ⟨w.heap.size, 10, none⟩ = some (.int .i64 c.wait) ∧ w'.cell? ⟨w.heap.size, 11, none⟩ = some (.int .i64 c.tell) ∧ w'.cell? ⟨w.heap.size, 12, none⟩ = some (.int .i64 c.sync) ∧ w'.cell? ⟨w.heap.size, 13, none⟩ = some (.int .i64 c.refresh))
      ((go_split_ands; (refine heldO HCC.out ?_); (repeat (first | (with_reducible assumption) | (with_reducible exact Only.refl _ _) | (with_reducible refine Only.drew ?_) | (with_reducible refine Only.alloc ?_ _) | (with_reducible refine onlySet ?_ (by first | (with_reducible assumption) | omega) _) | (with_reducible refine Only.trans ?_ (by with_reducible assumption))))))
      (first
        | (go_at_call 28; (with_reducible refine (mnew_any _).mono ?_); rintro e w6 ⟨m, lb, pb, rfl, ho6, hm6, q1, q2, q3⟩))
    all_goals
      go_split_ands
      go_wp2_with fail
      go_meet
    · have hz := Only.size (show Only (fun _ => False) w1 w6 by (repeat (first | (with_reducible assumption) | (with_reducible exact Only.refl _ _) | (with_reducible refine Only.drew ?_) | (with_reducible refine Only.alloc ?_ _) | (with_reducible refine onlySet ?_ (by first | (with_reducible assumption) | omega) _) | (with_reducible refine Only.trans ?_ (by with_reducible assumption)))))
      have h5 : w1.heap.size ≤ m ∧ w1.heap.size ≤ lb ∧ w1.heap.size ≤ pb := ⟨q1, q2, q3⟩
      exact ⟨w6.heap.size + 1, m, w6.heap.size, lb, pb, rfl, by (repeat (first | (with_reducible assumption) | (with_reducible exact Only.refl _ _) | (with_reducible refine Only.drew ?_) | (with_reducible refine Only.alloc ?_ _) | (with_reducible refine onlySet ?_ (by first | (with_reducible assumption) | omega) _) | (with_reducible refine Only.trans ?_ (by with_reducible assumption)))), ClusK.start (v := v) ((two_last w6 _ _).trans rfl) ((two_new w6 _ _).1) (HIR1.out.new (by (repeat (first | (with_reducible assumption) | (with_reducible exact Only.refl _ _) | (with_reducible refine Only.drew ?_) | (with_reducible refine Only.alloc ?_ _) | (with_reducible refine onlySet ?_ (by first | (with_reducible assumption) | omega) _) | (with_reducible refine Only.trans ?_ (by with_reducible assumption)))))) (hm6.new (by (repeat (first | (with_reducible assumption) | (with_reducible exact Only.refl _ _) | (with_reducible refine Only.drew ?_) | (with_reducible refine Only.alloc ?_ _) | (with_reducible refine onlySet ?_ (by first | (with_reducible assumption) | omega) _) | (with_reducible refine Only.trans ?_ (by with_reducible assumption)))))) (by omega) (by omega) (by omega) (by omega) (by omega)⟩
    · have hz := Only.size (show Only (fun _ => False) (w1.alloc (.cells ((nodes0 n).flatMap nodeC).toArray 89)) w6 by (repeat (first | (with_reducible assumption) | (with_reducible exact Only.refl _ _) | (with_reducible refine Only.drew ?_) | (with_reducible refine Only.alloc ?_ _) | (with_reducible refine onlySet ?_ (by first | (with_reducible assumption) | omega) _) | (with_reducible refine Only.trans ?_ (by with_reducible assumption)))))
      rw [size_alloc] at hz
      have hA : ∀ y, w1.heap.size + 1 ≤ y → w1.heap.size ≤ y := fun y h => by omega
      have e1 := q1
      have e2 := q2
      have e3 := q3
      simp only [size_drew, size_alloc] at e1 e2 e3
      refine ⟨w6.heap.size, m, w1.heap.size, lb, pb, rfl, by (repeat (first | (with_reducible assumption) | (with_reducible exact Only.refl _ _) | (with_reducible refine Only.drew ?_) | (with_reducible refine Only.alloc ?_ _) | (with_reducible refine onlySet ?_ (by first | (with_reducible assumption) | omega) _) | (with_reducible refine Only.trans ?_ (by with_reducible assumption)))), ClusK.start (v := v) ((heap_alloc_new w6 _).trans rfl) ?_ (HIR1.out.new (by (repeat (first | (with_reducible assumption) | (with_reducible exact Only.refl _ _) | (with_reducible refine Only.drew ?_) | (with_reducible refine Only.alloc ?_ _) | (with_reducible refine onlySet ?_ (by first | (with_reducible assumption) | omega) _) | (with_reducible refine Only.trans ?_ (by with_reducible assumption)))))) (hm6.new (by (repeat (first | (with_reducible assumption) | (with_reducible exact Only.refl _ _) | (with_reducible refine Only.drew ?_) | (with_reducible refine Only.alloc ?_ _) | (with_reducible refine onlySet ?_ (by first | (with_reducible assumption) | omega) _) | (with_reducible refine Only.trans ?_ (by with_reducible assumption)))))) (by omega) (by omega) (by omega) (by omega) (by omega)⟩
      exact Only.old (show Only (fun _ => False) (w1.alloc (.cells ((nodes0 n).flatMap nodeC).toArray 89)) _ by (repeat (first | (with_reducible assumption) | (with_reducible exact Only.refl _ _) | (with_reducible refine Only.drew ?_) | (with_reducible refine Only.alloc ?_ _) | (with_reducible refine onlySet ?_ (by first | (with_reducible assumption) | omega) _) | (with_reducible refine Only.trans ?_ (by with_reducible assumption))))) (heap_alloc_new w1 _) id
  case rest =>
  obtain ⟨x, m, nb, lb, pb, rfl, ho2, hck⟩ := hcut
  have hs2 := ho2.size
  have ho12 := HOW.out.trans (HO1.out.trans ho2)
  have HO2 := Lib.hid ho12
  have HCK := Lib.hid hck
  clear ho12 hck
  clear ho2 hm
  go_wp2_with fail
  go_loopg [26] n (fun g v26 wr => ∃ k : Nat, v26 = .int .i64 k ∧ k ≤ n ∧ Only (fun _ => False) w wr ∧ ClusK wr w1.heap.size x m nb lb pb n c k ∧ g = n - k)
  case atStart => exact ⟨0, rfl, Nat.zero_le _, HO2.out, HCK.out, rfl⟩
  case round =>
    obtain ⟨k, rfl, hkn, ho, hck2, hg⟩ := hrel
    have HO := Lib.hid ho
    have Hg := Lib.hid hg
    have HC2 := Lib.hid hck2
    clear ho hg hck2
    by_cases hlt : k < n
    · have hlt' : (k : Int) < (n : Int) := by omega
      obtain ⟨N, hN1, hN2, hN3, hN4⟩ := HC2.out.nodes
      have hkN : k < N.length := by omega
      have hgd : N.getD (k + 1 - 1) ⟨none, 0, none⟩ = node0 := by
        rw [Nat.add_sub_cancel, List.getD_eq_getElem?_getD, List.getElem?_eq_getElem hkN, hN4 k hkN (Nat.le_refl _)]
        rfl
      have hst := cstart_any wr x m nb lb pb c N (lvUp k) [] hN1 HC2.out.mesh (k + 1) (by omega) (by omega) (by omega) (by have := lvUp_len k; omega) (by rw [hgd]; decide) (by rw [hgd]; exact HK.out k hlt)
      have HST := Lib.hid hst
      have HGD := Lib.hid hgd
      have HN1 := Lib.hid hN1
      have HN2 := Lib.hid hN2
      have HN3 := Lib.hid hN3
      have HN4 := Lib.hid hN4
      clear hst hgd hN1 hN2 hN3 hN4
      go_wp2_with fail
      refine HST.out.mono ?_
      rintro e w5 ⟨B, ib, rfl, hs5, hm5⟩
      have HS5 := Lib.hid hs5
      have HM5 := Lib.hid hm5
      clear hs5 hm5
      go_wp2_with fail
      go_roundg (n - (k + 1))
      case measure => rw [Hg.out]; omega
      case rel =>
        have hb1 : w1.heap.size ≤ wr.heap.size := Nat.le_trans HC2.out.xB (Nat.le_of_lt (by obtain ⟨v9, hb9, _⟩ := HN1.out.blk; exact lt_of_block hb9))
        have hb2 := HBS.out
        have hb3 := HS1.out
        have hb4 := HC2.out.nbB
        have hb5 := HC2.out.lbB
        exact ⟨k + 1, by go_num, by omega, HO.out.tr HS5.out.only (fun i hi e => by omega), ClusK.next HC2.out hb1 hlt HN1.out HN2.out HN3.out HN4.out HS5.out HGD.out HM5.out, rfl⟩
    · have hke : k = n := by omega
      subst hke
      go_wp2_with fail
      go_ret2
      have hb2 := HBS.out
      have hb3 := HS1.out
      exact HP.out _ _ ⟨x, m, nb, lb, pb, rfl, HO.out, HC2.out.lower (by omega)⟩
end Go.Proofs.YtegechmdboccbaaGreatDoor
