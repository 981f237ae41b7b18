/- bellhoplaw16.ids. -/
import Derived.Test.YtjdlcfllmpdffaaGreatDoorMH
import Derived.Test.YtjdlcfllmpdffaaGreatDoorMA
import Derived.Test.YtjdlcfllmpdffaaGreatDoorME
/-! digest's reference, plainly: what is told, wanted, newer, given, sent. -/
namespace Go.Proofs.YtjdlcfllmpdffaaGreatDoor
open Go.Conc Go.RowKit Go.Maps

theorem told_has {L : List RecT} (h : Rising L) (k : ByteArray) (v : Nat) : toldB (L.map toId) k v = hasB L k v := by
  unfold toldB hasB findV
  rw [List.any_map]
  cases hf : findS L k with
  | none =>
    have hn := findS_none hf
    simp only [Option.isSome_none, Bool.false_and]
    rw [List.any_eq_false]
    intro x hx
    simp [toId, hn x hx]
  | some y =>
    obtain ⟨h1, h2⟩ := findS_some hf
    simp only [Option.isSome_some, Bool.true_and, Option.getD_some]
    rw [Bool.eq_iff_iff, List.any_eq_true]
    constructor
    · rintro ⟨x, hx, hp⟩
      obtain ⟨e1, e2⟩ := Bool.and_eq_true_iff.1 hp
      have e1 : x.key = k := of_decide_eq_true e1
      have e2 : v ≤ x.ver := of_decide_eq_true e2
      have h3 := findS_mem h hx
      rw [e1, hf] at h3
      cases h3
      exact decide_eq_true e2
    · intro hv
      have hv := of_decide_eq_true hv
      exact ⟨y, h1, Bool.and_eq_true_iff.2 ⟨decide_eq_true h2, decide_eq_true hv⟩⟩
theorem wantedT {L : List RecT} (h : Rising L) (I : List (ByteArray × Nat)) : wantedL L I = I.filter (fun p => !toldB (L.map toId) p.1 p.2) := by
  unfold wantedL
  congr 1
  funext p
  rw [told_has h]
theorem told_snocB (I : List (ByteArray × Nat)) (key : ByteArray) (ver : Nat) (k : Nat) (hk : k < I.length) : toldB (I.take (k + 1)) key ver = (toldB (I.take k) key ver || (decide (I[k].1 = key) && decide (ver ≤ I[k].2))) := by
  unfold toldB
  rw [List.take_add_one, List.getElem?_eq_getElem hk, List.any_append]
  simp
theorem newer_snoc (L : List RecT) (I : List (ByteArray × Nat)) (k : Nat) (hk : k < L.length) : newerL (L.take (k + 1)) I = newerL (L.take k) I ++ if toldB I L[k].key L[k].ver then [] else [L[k]] := by
  unfold newerL
  rw [List.take_add_one, List.getElem?_eq_getElem hk, List.filter_append]
  congr 1
  cases h : toldB I L[k].key L[k].ver <;> simp [h]
theorem metB_snoc (I : List (ByteArray × Nat)) (key : ByteArray) (k : Nat) (hk : k < I.length) : metB (I.take (k + 1)) key = (metB (I.take k) key || decide (I[k].1 = key)) := by
  unfold metB
  rw [List.take_add_one, List.getElem?_eq_getElem hk, List.any_append]
  simp
theorem map_snoc (L : List RecT) (k : Nat) (hk : k < L.length) : (L.take (k + 1)).map toId = (L.take k).map toId ++ [toId L[k]] := by
  rw [List.take_add_one, List.getElem?_eq_getElem hk, List.map_append]
  rfl
/-- Records as the reference sends them. -/
def rsentL (ttl : Int) (l : List RecT) : List RecT := l.flatMap (fun x => if x.age < ttl - 2 then [{ x with age := x.age + 2 }] else [])
theorem rsent_snoc (ttl : Int) (l : List RecT) (k : Nat) (hk : k < l.length) : rsentL ttl (l.take (k + 1)) = rsentL ttl (l.take k) ++ if l[k].age < ttl - 2 then [{ l[k] with age := l[k].age + 2 }] else [] := by
  unfold rsentL
  rw [List.take_add_one, List.getElem?_eq_getElem hk, List.flatMap_append]
  simp
theorem rsent_len (ttl : Int) (l : List RecT) : (rsentL ttl l).length ≤ l.length := by
  induction l with
  | nil => exact Nat.le_refl _
  | cons x l ih =>
    have e : rsentL ttl (x :: l) = (if x.age < ttl - 2 then [{ x with age := x.age + 2 }] else []) ++ rsentL ttl l := rfl
    rw [e, List.length_append, List.length_cons]
    have : (if x.age < ttl - 2 then [{ x with age := x.age + 2 }] else []).length ≤ 1 := by split <;> simp
    omega
theorem rsent_eq (ttl : Int) (l : List RecT) (h : ∀ x ∈ l, 0 ≤ x.age ∧ x.age ≤ 65533) : rsentL ttl l = sentL ttl l := by
  unfold rsentL sentL
  induction l with
  | nil => rfl
  | cons x l ih =>
    have hx := h x List.mem_cons_self
    have e : sentR x = { x with age := x.age + 2 } := by
      unfold sentR
      rw [show min (max x.age 0) 65533 = x.age by omega]
    rw [List.flatMap_cons, ih (fun y hy => h y (List.mem_cons_of_mem _ hy)), List.map_cons, List.filter_cons, e]
    by_cases c : x.age < ttl - 2
    · rw [if_pos c, if_pos (decide_eq_true (show x.age + 2 < ttl by omega))]
      rfl
    · rw [if_neg c, if_neg (by simp; omega)]
      rfl
end Go.Proofs.YtjdlcfllmpdffaaGreatDoor
/-! bellhopref16: Has, Ids, Wanted, Newer, Sent. -/
namespace Go.Proofs.YtjdlcfllmpdffaaGreatDoor
open Go.Conc Go.RowKit Go.Maps
abbrev ISl (w : World) (v : Value) (I : List (ByteArray × Nat)) : Prop := Sl w 2 v I.length (I.flatMap idT)
theorem toldB_yes {I : List (ByteArray × Nat)} {k : Nat} (hk : k < I.length) {key : ByteArray} {ver : Nat} (h1 : I[k].1 = key) (h2 : ver ≤ I[k].2) : toldB I key ver = true := by
  unfold toldB
  rw [List.any_eq_true]
  exact ⟨I[k], List.getElem_mem hk, by simp [h1, h2]⟩
theorem wantB_snoc (M I : List (ByteArray × Nat)) (k : Nat) (hk : k < I.length) : (I.take (k + 1)).filter (fun p => !toldB M p.1 p.2) = (I.take k).filter (fun p => !toldB M p.1 p.2) ++ if toldB M I[k].1 I[k].2 then [] else [I[k]] := by
  rw [List.take_add_one, List.getElem?_eq_getElem hk, List.filter_append]
  congr 1
  cases h : toldB M I[k].1 I[k].2 <;> simp [h]
end Go.Proofs.YtjdlcfllmpdffaaGreatDoor
/-! bellhoplaw16: name, rec, told. -/
namespace Go.Proofs.YtjdlcfllmpdffaaGreatDoor
open Go.Conc Go.RowKit Go.Maps

set_option maxRecDepth 100000 in
theorem name16_any (w : World) (n : Nat) (hn : n < 256) : Calls Tryz.prog 32 #[.int .u8 n] w fun e w' => e = .returned (.string (nameB (n % 4))) ∧ Only (fun _ => False) w w' := by
  have hb := and3_u8 n hn
  have h4 : n % 4 < 4 := Nat.mod_lt _ (by omega)
  generalize hq : n % 4 = q at *
  clear hq hn
  rcases (by omega : q = 0 ∨ q = 1 ∨ q = 2 ∨ q = 3) with rfl | rfl | rfl | rfl
  all_goals
    clear h4
    go_enter Tryz.func32, Tryz.ntmps32
    go_wp2_with fail
    go_ret
    exact ⟨rfl, (Only.refl _ _).alloc _⟩
structure RecA where
  org : Nat
  nm : Nat
  life : Nat
  cnt : Nat
  age : Nat
def recAC (a : RecA) : List Value := [.int .u8 a.org, .int .u8 a.nm, .int .u8 a.life, .int .u8 a.cnt, .int .u16 a.age]
theorem recAC_length (a : RecA) : (recAC a).length = 5 := rfl
def rowA (a : RecA) : Prop := a.org < 256 ∧ a.nm < 256 ∧ a.life < 256 ∧ a.cnt < 256 ∧ a.age < 65536
def data16 (g : Bool) : ByteArray := if g then ⟨#[]⟩ else dataS
def rec16 (a : RecA) : RecT := ⟨keyB (1 + (a.org % 4 : Nat)) (nameB (a.nm % 4)), (1 + a.life % 2) * 4294967296 + a.cnt, 1 + (a.org % 4 : Nat), (a.age % 120 : Nat), decide (a.cnt % 4 = 3), data16 (decide (a.cnt % 4 = 3))⟩
theorem nameB_size (n : Nat) : (nameB n).size ≤ 3 := by
  match n with
  | 0 => decide
  | 1 => decide
  | 2 => decide
  | n + 3 => exact Nat.le_refl 3
set_option maxRecDepth 100000 in
set_option maxHeartbeats 4000000 in
theorem rec16_any (w : World) (a : RecA) (h : rowA a) :
    Calls Tryz.prog 20 #[.agg #[.int .u8 a.org, .int .u8 a.nm, .int .u8 a.life, .int .u8 a.cnt, .int .u16 a.age]] w fun e w' => e = .returned (recT (rec16 a)) ∧ Only (fun _ => False) w w' := by
  obtain ⟨org, nm, life, cnt, age⟩ := a
  obtain ⟨h1, h2, h3, h4, h5⟩ := h
  unfold rec16 recT
  simp only at h1 h2 h3 h4 h5 ⊢
  have hb1 := and3_u8 org h1
  have hb2 := and1_u8 life h3
  have hb3 := and3_u8 cnt h4
  have HNM := Lib.hid (fun w => name16_any w nm h2)
  have hq4 : org % 4 < 4 := Nat.mod_lt _ (by omega)
  have hl2 : life % 2 < 2 := Nat.mod_lt _ (by omega)
  generalize org % 4 = q at *
  generalize life % 2 = lf at *
  have HKY := Lib.hid (fun w => rkey_any w (1 + (q : Int)) (nameB (nm % 4)) (by omega) (by omega) (Nat.le_trans (nameB_size _) (by omega)))
  generalize nameB (nm % 4) = N at *
  generalize keyB (1 + (q : Int)) N = K at *
  have hw1 : IntKind.u8.wrap (1 + (lf : Int)) = 1 + (lf : Int) := by
    rcases (by omega : lf = 0 ∨ lf = 1) with e | e <;> rw [e] <;> rfl
  have hver : IntKind.u64.wrap (IntKind.u64.wrap (IntKind.u64.wrap (1 + (lf : Int)) * 4294967296) + IntKind.u64.wrap (cnt : Int)) = (((1 + lf) * 4294967296 + cnt : Nat) : Int) := by
    show ((((1 + (lf : Int)) % 18446744073709551616) * 4294967296) % 18446744073709551616 + (cnt : Int) % 18446744073709551616) % 18446744073709551616 = _
    omega
  have HVER := Lib.hid hver
  have HAGE := Lib.hid (show ((age % 120 : Nat) : Int) = (age : Int) % 120 by omega)
  rw [HAGE.out]
  have hag2 : (IntKind.i64.wrap (age : Int)).tmod 120 = (age : Int) % 120 := by
    rw [IntWalk.i64_in _ (by omega), Int.tmod_eq_emod_of_nonneg (by omega)]
  have HAGE2 := Lib.hid hag2
  clear hag2
  generalize ((1 + lf) * 4294967296 + cnt) = VV at *
  obtain ⟨g, hg⟩ : ∃ g, decide (cnt % 4 = 3) = g := ⟨_, rfl⟩
  obtain ⟨dd, hdd⟩ : ∃ dd, data16 g = dd := ⟨_, rfl⟩
  rw [hg, hdd]
  have HB1 := Lib.hid hb1
  have HB2 := Lib.hid hb2
  have HB3 := Lib.hid hb3
  have HW1 := Lib.hid hw1
  have HG := Lib.hid hg
  have HDT := Lib.hid hdd
  clear hb1 hb2 hb3 hw1 hg hdd
  clear hver
  obtain ⟨W, hW⟩ : ∃ W, W = w.alloc (.cells #[.int .u8 org, .int .u8 nm, .int .u8 life, .int .u8 cnt, .int .u16 age] 63) := ⟨_, rfl⟩
  have hbW : W.heap[w.heap.size]? = some (.cells #[.int .u8 org, .int .u8 nm, .int .u8 life, .int .u8 cnt, .int .u16 age] 63 (0, 0)) := by rw [hW]; exact heap_alloc_new w _
  have hoW : Only (fun _ => False) w W := by rw [hW]; exact (Only.refl _ _).alloc _
  have hsW : W.heap.size = w.heap.size + 1 := by rw [hW]; simp
  obtain ⟨W1, hW1⟩ : ∃ W1, W1 = W.alloc (.cells #[.string ⟨#[]⟩, .int .u64 0, .int .i64 0, .int .i64 0, .bool false, .string ⟨#[]⟩] 51) := ⟨_, rfl⟩
  have hbW1 : W1.heap[W.heap.size]? = some (.cells #[.string ⟨#[]⟩, .int .u64 0, .int .i64 0, .int .i64 0, .bool false, .string ⟨#[]⟩] 51 (0, 0)) := by rw [hW1]; exact heap_alloc_new W _
  have hoW1 : Only (fun _ => False) W W1 := by rw [hW1]; exact (Only.refl _ _).alloc _
  have hsW1 : W1.heap.size = W.heap.size + 1 := by rw [hW1]; simp
  have hbX := hoW1.old hbW id
  have hoA := hoW.trans hoW1
  rw [hsW] at hbW1
  have x0 : W1.cell? ⟨w.heap.size, 0, none⟩ = some (.int .u8 org) := cell_at hbX 0
  have x1 : W1.cell? ⟨w.heap.size, 1, none⟩ = some (.int .u8 nm) := cell_at hbX 1
  have x2 : W1.cell? ⟨w.heap.size, 2, none⟩ = some (.int .u8 life) := cell_at hbX 2
  have x3 : W1.cell? ⟨w.heap.size, 3, none⟩ = some (.int .u8 cnt) := cell_at hbX 3
  have x4 : W1.cell? ⟨w.heap.size, 4, none⟩ = some (.int .u16 age) := cell_at hbX 4
  have hsz : W1.heap.size = w.heap.size + 2 := by omega
  have HBX := Lib.hid hbX
  have HBR := Lib.hid hbW1
  have HOA := Lib.hid hoA
  have HSZ := Lib.hid hsz
  clear hbX hbW1 hoA hsz
  go_enter Tryz.func20, Tryz.ntmps20
  go_upto_region 1 with (fail)
  rw [← hW, ← hW1]
  clear hW hW1 hoW hoW1 hsW hsW1 hbW
  generalize hX : w.heap.size = X at *
  have HXW := Lib.hid hX
  clear hX
  have hb1 := HB1.out
  go_upto_region 2 with (fail)
  clear hb1
  have HCC : ∀ w', Only (fun _ => False) W1 w' → w'.cell? ⟨X, 1, none⟩ = some (.int .u8 nm) ∧ w'.cell? ⟨X, 2, none⟩ = some (.int .u8 life) ∧ w'.cell? ⟨X, 3, none⟩ = some (.int .u8 cnt) ∧ w'.cell? ⟨X, 4, none⟩ = some (.int .u16 age) := fun w' h => ⟨h.cell x1 id, h.cell x2 id, h.cell x3 id, h.cell x4 id⟩
  have HC0 := Lib.hid HCC
  clear HCC
  have hag : (age : Int) < 65536 := by omega
  go_cut [4] (fun v4 wx => ∃ B, v4 = .pointer (some ⟨B, 0, none⟩) ∧ wx.heap[B]? = some (.cells #[.string K, .int .u64 VV, .int .i64 (1 + (q : Int)), .int .i64 ((age : Int) % 120), .bool false, .string ⟨#[97, 98, 99, 100, 101, 102, 103, 104, 105, 106]⟩] 51 (0, 0)) ∧ Only (fun _ => False) W1 wx ∧ W1.heap.size ≤ B)
  case first =>
    have hb2 := HB2.out
    have hw1 := HW1.out
    go_region_held3 (fun w' => Only (fun _ => False) W1 w' ∧ w'.cell? ⟨X, 1, none⟩ = some (.int .u8 nm) ∧ w'.cell? ⟨X, 2, none⟩ = some (.int .u8 life) ∧ w'.cell? ⟨X, 3, none⟩ = some (.int .u8 cnt) ∧ w'.cell? ⟨X, 4, none⟩ = some (.int .u16 age))
      ((go_split_ands; (refine heldO HC0.out ?_); (repeat (first | (with_reducible assumption) | (with_reducible exact Only.refl _ _) | (with_reducible refine Only.drew ?_) | (with_reducible refine Only.alloc ?_ _) | (with_reducible refine onlySet ?_ (by first | (with_reducible assumption) | omega) _) | (with_reducible refine Only.trans ?_ (by with_reducible assumption))))))
      (first
        | (go_at_call 32; (with_reducible refine (HNM.out _).mono ?_); rintro e w2 ⟨rfl, ho2⟩; have hz2 : W1.heap.size ≤ w2.heap.size := (by have h7 := Only.size ho2; first | exact h7 | (simp at h7; omega)); (try (have ha2 : w2.heap[W1.heap.size]? = some (.cells #[.string ⟨#[]⟩, .int .u64 0, .int .i64 0, .int .i64 0, .bool false, .string ⟨#[]⟩] 51 (0, 0)) := Only.old ho2 (heap_alloc_new W1 _) id)))
        | (go_at_call 17; (with_reducible refine (HKY.out _).mono ?_); rintro e w3 ⟨rfl, ho3⟩; have hz3 : W1.heap.size ≤ w3.heap.size := (by have h7 := Only.size ho3; first | exact Nat.le_trans hz2 h7 | (simp at h7; omega)); (try (have ha3 : w3.heap[w2.heap.size]? = some (.cells #[.string ⟨#[]⟩, .int .u64 0, .int .i64 0, .int .i64 0, .bool false, .string ⟨#[]⟩] 51 (0, 0)) := Only.old ho3 (heap_alloc_new w2 _) id; have q0 := cell_at ha3 0; have q1 := cell_at ha3 1; have q2 := cell_at ha3 2; have q3 := cell_at ha3 3; have q4 := cell_at ha3 4; have q5 := cell_at ha3 5; have qf := free_at ha3; have ql := lt_of_block ha3)); (try (have ha4 : w3.heap[W1.heap.size]? = some (.cells #[.string ⟨#[]⟩, .int .u64 0, .int .i64 0, .int .i64 0, .bool false, .string ⟨#[]⟩] 51 (0, 0)) := Only.old ho3 ha2 id; have r0 := cell_at ha4 0; have r1 := cell_at ha4 1; have r2 := cell_at ha4 2; have r3 := cell_at ha4 3; have r4 := cell_at ha4 4; have r5 := cell_at ha4 5; have rf := free_at ha4; have rl := lt_of_block ha4))))
    all_goals
      go_split_ands
      go_wp2_with fail
      go_meet
      refine ⟨_, rfl, ?_, ?_, ?_⟩
      · rw [← HVER.out, ← HAGE2.out]
        (apply Eq.trans; (case h₁ => repeat (first | (with_reducible assumption) | (with_reducible exact heap_alloc_new _ _) | (with_reducible apply blk_new; (repeat (first | (with_reducible rfl) | (with_reducible apply sz_set) | (with_reducible apply sz_alloc) | (with_reducible apply sz_drew))); done) | (with_reducible apply blk_same) | (with_reducible apply blk_ne; case hn => (first | assumption | omega)) | (with_reducible apply blk_old) | (with_reducible apply blk_drew))); (case h₂ => rfl))
      · (repeat (first | (with_reducible assumption) | (with_reducible exact Only.refl _ _) | (with_reducible refine Only.drew ?_) | (with_reducible refine Only.alloc ?_ _) | (with_reducible refine onlySet ?_ (by first | (with_reducible assumption) | omega) _) | (with_reducible refine Only.trans ?_ (by with_reducible assumption))))
      · first
          | with_reducible assumption
          | exact Nat.le_refl _
  case rest =>
  obtain ⟨B, rfl, hB, hoB, hBs⟩ := hcut
  have hR := hoB.old HBR.out id
  have hbx := hoB.old HBX.out id
  have hoC := HOA.out.trans hoB
  have x3' : wc.cell? ⟨X, 3, none⟩ = some (.int .u8 cnt) := cell_at hbx 3
  have hn : ¬ B = X + 1 := by have := HSZ.out; have := HXW.out; omega
  have hbw : w.heap.size ≤ B ∧ w.heap.size ≤ X + 1 := by have := HSZ.out; have := HXW.out; omega
  clear x0 x1 x2 x3 x4
  have hb3 := HB3.out
  have HBB := Lib.hid hB
  have HRR := Lib.hid hR
  have HOC := Lib.hid hoC
  have HBW := Lib.hid hbw
  clear hB hR hoC hbw
  clear hoB hbx
  by_cases h3 : cnt % 4 = 3
  · have e3 : ((cnt % 4 : Nat) : Int) = 3 := by omega
    have HGG := Lib.hid (show g = true by rw [← HG.out]; exact decide_eq_true h3)
    have HDD := Lib.hid (show dd = ⟨#[]⟩ by rw [← HDT.out, HGG.out]; rfl)
    rw [e3] at hb3
    clear e3 h3
    have bf : ∀ i, wc.frozen? ⟨B, i, none⟩ = false := free_at HBB.out
    have y0 : wc.cell? ⟨B, 0, none⟩ = some (.string K) := cell_at HBB.out 0
    have y1 : wc.cell? ⟨B, 1, none⟩ = some (.int .u64 VV) := cell_at HBB.out 1
    have y2 : wc.cell? ⟨B, 2, none⟩ = some (.int .i64 (1 + (q : Int))) := cell_at HBB.out 2
    have y3 : wc.cell? ⟨B, 3, none⟩ = some (.int .i64 ((age : Int) % 120)) := cell_at HBB.out 3
    have y4 : wc.cell? ⟨B, 4, none⟩ = some (.bool false) := cell_at HBB.out 4
    have y5 : wc.cell? ⟨B, 5, none⟩ = some (.string ⟨#[97, 98, 99, 100, 101, 102, 103, 104, 105, 106]⟩) := cell_at HBB.out 5
    obtain ⟨W5, hW5⟩ : ∃ W5, W5 = (wc.setCell ⟨B, 4, none⟩ (.bool true)).setCell ⟨B, 5, none⟩ (.string ⟨#[]⟩) := ⟨_, rfl⟩
    have ho5 : Only (fun i => i = B) wc W5 := by rw [hW5]; exact ((Only.refl _ _).setCell (S := fun i => i = B) (p := ⟨B, 4, none⟩) (.inr rfl) _).setCell (S := fun i => i = B) (p := ⟨B, 5, none⟩) (.inr rfl) _
    have hb5 : W5.heap[B]? = some (.cells #[.string K, .int .u64 VV, .int .i64 (1 + (q : Int)), .int .i64 ((age : Int) % 120), .bool true, .string ⟨#[]⟩] 51 (0, 0)) := by rw [hW5]; exact set_at (set_at HBB.out 4 _) 5 _
    have hr5 := ho5.old HRR.out (fun e => hn e.symm)
    have HB5 := Lib.hid hb5
    have HR5 := Lib.hid hr5
    have HO5 := Lib.hid ho5
    clear hb5 hr5 ho5
    go_upto_region 5 with (fail)
    rw [← hW5]
    clear hW5 y0 y1 y2 y3 y4 y5 bf
    have y0 : W5.cell? ⟨B, 0, none⟩ = some (.string K) := cell_at HB5.out 0
    have y1 : W5.cell? ⟨B, 1, none⟩ = some (.int .u64 VV) := cell_at HB5.out 1
    have y2 : W5.cell? ⟨B, 2, none⟩ = some (.int .i64 (1 + (q : Int))) := cell_at HB5.out 2
    have y3 : W5.cell? ⟨B, 3, none⟩ = some (.int .i64 ((age : Int) % 120)) := cell_at HB5.out 3
    have y4 : W5.cell? ⟨B, 4, none⟩ = some (.bool true) := cell_at HB5.out 4
    have y5 : W5.cell? ⟨B, 5, none⟩ = some (.string ⟨#[]⟩) := cell_at HB5.out 5
    have z0 : W5.cell? ⟨(X + 1), 0, none⟩ = some (.string ⟨#[]⟩) := cell_at HR5.out 0
    have z1 : W5.cell? ⟨(X + 1), 1, none⟩ = some (.int .u64 0) := cell_at HR5.out 1
    have z2 : W5.cell? ⟨(X + 1), 2, none⟩ = some (.int .i64 0) := cell_at HR5.out 2
    have z3 : W5.cell? ⟨(X + 1), 3, none⟩ = some (.int .i64 0) := cell_at HR5.out 3
    have z4 : W5.cell? ⟨(X + 1), 4, none⟩ = some (.bool false) := cell_at HR5.out 4
    have z5 : W5.cell? ⟨(X + 1), 5, none⟩ = some (.string ⟨#[]⟩) := cell_at HR5.out 5
    have zf : ∀ i, W5.frozen? ⟨X + 1, i, none⟩ = false := free_at HR5.out
    go_wp2_with fail
    obtain ⟨s1, s2⟩ := six_set HR5.out (.string K) (.int .u64 VV) (.int .i64 (1 + (q : Int))) (.int .i64 ((age : Int) % 120)) (.bool true) (.string ⟨#[]⟩)
    generalize ((((((W5.setCell ⟨(X + 1), 0, none⟩ (.string K)).setCell ⟨(X + 1), 1, none⟩ (.int .u64 VV)).setCell ⟨(X + 1), 2, none⟩ (.int .i64 (1 + (q : Int)))).setCell ⟨(X + 1), 3, none⟩ (.int .i64 ((age : Int) % 120))).setCell ⟨(X + 1), 4, none⟩ (.bool true)).setCell ⟨(X + 1), 5, none⟩ (.string ⟨#[]⟩)) = wz at *
    have p0 : wz.cell? ⟨(X + 1), 0, none⟩ = some (.string K) := cell_at s1 0
    have p1 : wz.cell? ⟨(X + 1), 1, none⟩ = some (.int .u64 VV) := cell_at s1 1
    have p2 : wz.cell? ⟨(X + 1), 2, none⟩ = some (.int .i64 (1 + (q : Int))) := cell_at s1 2
    have p3 : wz.cell? ⟨(X + 1), 3, none⟩ = some (.int .i64 ((age : Int) % 120)) := cell_at s1 3
    have p4 : wz.cell? ⟨(X + 1), 4, none⟩ = some (.bool true) := cell_at s1 4
    have p5 : wz.cell? ⟨(X + 1), 5, none⟩ = some (.string ⟨#[]⟩) := cell_at s1 5
    refine bodyPost_ret (v := .agg #[.string K, .int .u64 VV, .int .i64 (1 + (q : Int)), .int .i64 ((age : Int) % 120), .bool true, .string ⟨#[]⟩]) (by simp [results, Tryz.results20, go_sem, p0, p1, p2, p3, p4, p5]) rfl ?_
    exact ⟨by rw [HGG.out, HDD.out], (HOC.out.tr HO5.out (fun i hi e => by have := HBW.out; omega)).tr s2 (fun i hi e => by have := HBW.out; omega)⟩
  · have e3 : (((cnt % 4 : Nat) : Int) == 3) = false := by simp; omega
    have HGG := Lib.hid (show g = false by rw [← HG.out]; exact decide_eq_false h3)
    have HDD := Lib.hid (show dd = ⟨#[97, 98, 99, 100, 101, 102, 103, 104, 105, 106]⟩ by rw [← HDT.out, HGG.out]; rfl)
    generalize ((cnt % 4 : Nat) : Int) = c4 at *
    clear h3
    go_upto_region 5 with (fail)
    have y0 : wc.cell? ⟨B, 0, none⟩ = some (.string K) := cell_at HBB.out 0
    have y1 : wc.cell? ⟨B, 1, none⟩ = some (.int .u64 VV) := cell_at HBB.out 1
    have y2 : wc.cell? ⟨B, 2, none⟩ = some (.int .i64 (1 + (q : Int))) := cell_at HBB.out 2
    have y3 : wc.cell? ⟨B, 3, none⟩ = some (.int .i64 ((age : Int) % 120)) := cell_at HBB.out 3
    have y4 : wc.cell? ⟨B, 4, none⟩ = some (.bool false) := cell_at HBB.out 4
    have y5 : wc.cell? ⟨B, 5, none⟩ = some (.string ⟨#[97, 98, 99, 100, 101, 102, 103, 104, 105, 106]⟩) := cell_at HBB.out 5
    have z0 : wc.cell? ⟨(X + 1), 0, none⟩ = some (.string ⟨#[]⟩) := cell_at HRR.out 0
    have z1 : wc.cell? ⟨(X + 1), 1, none⟩ = some (.int .u64 0) := cell_at HRR.out 1
    have z2 : wc.cell? ⟨(X + 1), 2, none⟩ = some (.int .i64 0) := cell_at HRR.out 2
    have z3 : wc.cell? ⟨(X + 1), 3, none⟩ = some (.int .i64 0) := cell_at HRR.out 3
    have z4 : wc.cell? ⟨(X + 1), 4, none⟩ = some (.bool false) := cell_at HRR.out 4
    have z5 : wc.cell? ⟨(X + 1), 5, none⟩ = some (.string ⟨#[]⟩) := cell_at HRR.out 5
    have zf : ∀ i, wc.frozen? ⟨X + 1, i, none⟩ = false := free_at HRR.out
    clear x3'
    go_wp2_with fail
    obtain ⟨s1, s2⟩ := six_set HRR.out (.string K) (.int .u64 VV) (.int .i64 (1 + (q : Int))) (.int .i64 ((age : Int) % 120)) (.bool false) (.string ⟨#[97, 98, 99, 100, 101, 102, 103, 104, 105, 106]⟩)
    generalize ((((((wc.setCell ⟨(X + 1), 0, none⟩ (.string K)).setCell ⟨(X + 1), 1, none⟩ (.int .u64 VV)).setCell ⟨(X + 1), 2, none⟩ (.int .i64 (1 + (q : Int)))).setCell ⟨(X + 1), 3, none⟩ (.int .i64 ((age : Int) % 120))).setCell ⟨(X + 1), 4, none⟩ (.bool false)).setCell ⟨(X + 1), 5, none⟩ (.string ⟨#[97, 98, 99, 100, 101, 102, 103, 104, 105, 106]⟩)) = wz at *
    have p0 : wz.cell? ⟨(X + 1), 0, none⟩ = some (.string K) := cell_at s1 0
    have p1 : wz.cell? ⟨(X + 1), 1, none⟩ = some (.int .u64 VV) := cell_at s1 1
    have p2 : wz.cell? ⟨(X + 1), 2, none⟩ = some (.int .i64 (1 + (q : Int))) := cell_at s1 2
    have p3 : wz.cell? ⟨(X + 1), 3, none⟩ = some (.int .i64 ((age : Int) % 120)) := cell_at s1 3
    have p4 : wz.cell? ⟨(X + 1), 4, none⟩ = some (.bool false) := cell_at s1 4
    have p5 : wz.cell? ⟨(X + 1), 5, none⟩ = some (.string ⟨#[97, 98, 99, 100, 101, 102, 103, 104, 105, 106]⟩) := cell_at s1 5
    refine bodyPost_ret (v := .agg #[.string K, .int .u64 VV, .int .i64 (1 + (q : Int)), .int .i64 ((age : Int) % 120), .bool false, .string ⟨#[97, 98, 99, 100, 101, 102, 103, 104, 105, 106]⟩]) (by simp [results, Tryz.results20, go_sem, p0, p1, p2, p3, p4, p5]) rfl ?_
    exact ⟨by rw [HGG.out, HDD.out], HOC.out.tr s2 (fun i hi e => by have := HBW.out; omega)⟩
set_option maxRecDepth 100000 in
theorem told16_any (w : World) (x : RecT) : Calls Tryz.prog 19 #[recT x] w fun e w' => e = .returned (recT x) ∧ Only (fun _ => False) w w' := by
  obtain ⟨k1, v1, o1, a1, g1, d1⟩ := x
  unfold recT
  simp only
  obtain ⟨W, hW⟩ : ∃ W, W = w.alloc (.cells #[.string k1, .int .u64 v1, .int .i64 o1, .int .i64 a1, .bool g1, .string d1] 51) := ⟨_, rfl⟩
  have hbW : W.heap[w.heap.size]? = some (.cells #[.string k1, .int .u64 v1, .int .i64 o1, .int .i64 a1, .bool g1, .string d1] 51 (0, 0)) := by rw [hW]; exact heap_alloc_new w _
  have hoW : Only (fun _ => False) w W := by rw [hW]; exact (Only.refl _ _).alloc _
  have hsW : W.heap.size = w.heap.size + 1 := by rw [hW]; simp
  obtain ⟨W1, hW1⟩ : ∃ W1, W1 = W.alloc (.cells #[.string ⟨#[]⟩, .int .u64 0, .int .i64 0, .int .i64 0, .bool false, .string ⟨#[]⟩] 48) := ⟨_, rfl⟩
  have hbW1 : W1.heap[W.heap.size]? = some (.cells #[.string ⟨#[]⟩, .int .u64 0, .int .i64 0, .int .i64 0, .bool false, .string ⟨#[]⟩] 48 (0, 0)) := by rw [hW1]; exact heap_alloc_new W _
  have hoW1 : Only (fun _ => False) W W1 := by rw [hW1]; exact (Only.refl _ _).alloc _
  have hsW1 : W1.heap.size = W.heap.size + 1 := by rw [hW1]; simp
  have hbX := hoW1.old hbW id
  have hoA := hoW.trans hoW1
  rw [hsW] at hbW1
  have HBX := Lib.hid hbX
  have HBR := Lib.hid hbW1
  have HOA := Lib.hid hoA
  clear hbX hbW1 hoA
  go_enter Tryz.func19, Tryz.ntmps19
  go_upto_region 1 with (fail)
  rw [← hW, ← hW1]
  clear hW hW1 hoW hoW1 hsW hsW1 hbW
  have x0 : W1.cell? ⟨w.heap.size, 0, none⟩ = some (.string k1) := cell_at HBX.out 0
  have x1 : W1.cell? ⟨w.heap.size, 1, none⟩ = some (.int .u64 v1) := cell_at HBX.out 1
  have x2 : W1.cell? ⟨w.heap.size, 2, none⟩ = some (.int .i64 o1) := cell_at HBX.out 2
  have x3 : W1.cell? ⟨w.heap.size, 3, none⟩ = some (.int .i64 a1) := cell_at HBX.out 3
  have x4 : W1.cell? ⟨w.heap.size, 4, none⟩ = some (.bool g1) := cell_at HBX.out 4
  have x5 : W1.cell? ⟨w.heap.size, 5, none⟩ = some (.string d1) := cell_at HBX.out 5
  have z0 : W1.cell? ⟨(w.heap.size + 1), 0, none⟩ = some (.string ⟨#[]⟩) := cell_at HBR.out 0
  have z1 : W1.cell? ⟨(w.heap.size + 1), 1, none⟩ = some (.int .u64 0) := cell_at HBR.out 1
  have z2 : W1.cell? ⟨(w.heap.size + 1), 2, none⟩ = some (.int .i64 0) := cell_at HBR.out 2
  have z3 : W1.cell? ⟨(w.heap.size + 1), 3, none⟩ = some (.int .i64 0) := cell_at HBR.out 3
  have z4 : W1.cell? ⟨(w.heap.size + 1), 4, none⟩ = some (.bool false) := cell_at HBR.out 4
  have z5 : W1.cell? ⟨(w.heap.size + 1), 5, none⟩ = some (.string ⟨#[]⟩) := cell_at HBR.out 5
  have zf : ∀ i, W1.frozen? ⟨w.heap.size + 1, i, none⟩ = false := free_at HBR.out
  go_wp2_with fail
  obtain ⟨s1, s2⟩ := six_set HBR.out (.string k1) (.int .u64 v1) (.int .i64 o1) (.int .i64 a1) (.bool g1) (.string d1)
  generalize ((((((W1.setCell ⟨(w.heap.size + 1), 0, none⟩ (.string k1)).setCell ⟨(w.heap.size + 1), 1, none⟩ (.int .u64 v1)).setCell ⟨(w.heap.size + 1), 2, none⟩ (.int .i64 o1)).setCell ⟨(w.heap.size + 1), 3, none⟩ (.int .i64 a1)).setCell ⟨(w.heap.size + 1), 4, none⟩ (.bool g1)).setCell ⟨(w.heap.size + 1), 5, none⟩ (.string d1)) = wz at *
  have p0 : wz.cell? ⟨(w.heap.size + 1), 0, none⟩ = some (.string k1) := cell_at s1 0
  have p1 : wz.cell? ⟨(w.heap.size + 1), 1, none⟩ = some (.int .u64 v1) := cell_at s1 1
  have p2 : wz.cell? ⟨(w.heap.size + 1), 2, none⟩ = some (.int .i64 o1) := cell_at s1 2
  have p3 : wz.cell? ⟨(w.heap.size + 1), 3, none⟩ = some (.int .i64 a1) := cell_at s1 3
  have p4 : wz.cell? ⟨(w.heap.size + 1), 4, none⟩ = some (.bool g1) := cell_at s1 4
  have p5 : wz.cell? ⟨(w.heap.size + 1), 5, none⟩ = some (.string d1) := cell_at s1 5
  refine bodyPost_ret (v := .agg #[.string k1, .int .u64 v1, .int .i64 o1, .int .i64 a1, .bool g1, .string d1]) (by simp [results, Tryz.results19, go_sem, p0, p1, p2, p3, p4, p5]) rfl ?_
  exact ⟨rfl, HOA.out.tr s2 (fun i hi e => by omega)⟩
end Go.Proofs.YtjdlcfllmpdffaaGreatDoor
/-! bellhopref16.Given; bellhoplaw16.ids. -/
namespace Go.Proofs.YtjdlcfllmpdffaaGreatDoor
open Go.Conc Go.RowKit Go.Maps

theorem owns_gr {w w' : World} {base base' : Nat} {e e' : TypeId} {size n size' n' : Nat} {v v' : Value} {xs xs' : List Value} (h : w.ownsRow base e size v n xs) (hr : w.ownsRow base' e' size' v' n' xs') (he : e ≠ e') (gr : w.grownBy w' v'.ownBlock) : w'.ownsRow base e size v n xs := h.kept gr (own_type h hr he)
theorem blk_gr {w w' : World} {base' : Nat} {e e' : TypeId} {size' n' g : Nat} {v' : Value} {xs' : List Value} {cs : Array Value} {f : Nat × Nat} (h : w.heap[g]? = some (.cells cs e f)) (hr : w.ownsRow base' e' size' v' n' xs') (he : e ≠ e') (gr : w.grownBy w' v'.ownBlock) : w'.heap[g]? = some (.cells cs e f) := by
  rw [gr.block g (lt_of_block h) (fun hg => ?_)]
  · exact h
  · rcases hr.2 with ⟨rfl, _⟩ | ⟨g', cap', cur', rfl, _, hg', _⟩
    · cases hg
    · cases hg
      rw [h] at hg'
      injection hg' with hg'
      injection hg' with _ h2 _
      exact he h2
end Go.Proofs.YtjdlcfllmpdffaaGreatDoor
/-! bellhoplaw16.ids. -/
namespace Go.Proofs.YtjdlcfllmpdffaaGreatDoor
open Go.Conc Go.RowKit Go.Maps

theorem owns_dr {w : World} {base : Nat} {e : TypeId} {size n : Nat} {v : Value} {xs : List Value} (h : w.ownsRow base e size v n xs) : w.drew.ownsRow base e size v n xs := owns_kept h ((Only.refl (fun _ => False) w).drew) (fun _ _ => id)
theorem owns_al {w : World} {base : Nat} {e : TypeId} {size n : Nat} {v : Value} {xs : List Value} (h : w.ownsRow base e size v n xs) (o : Obj) : (w.alloc o).ownsRow base e size v n xs := owns_kept h ((Only.refl (fun _ => False) w).alloc o) (fun _ _ => id)
/-- The ids of the first so many records. -/
def idsL (l : List RecA) (k : Nat) : List (ByteArray × Nat) := (l.take k).map (fun a => toId (rec16 a))
theorem idsL_snoc (l : List RecA) (k : Nat) (hk : k < l.length) : idsL l (k + 1) = idsL l k ++ [toId (rec16 l[k])] := by
  unfold idsL
  rw [List.take_add_one, List.getElem?_eq_getElem hk, List.map_append]
  rfl
theorem idsL_end {l : List RecA} {k : Nat} (hk : k ≤ l.length) (hk2 : k ≤ 40) (h : ¬ (k < l.length ∧ k < 40)) : idsL l k = idsL l 40 := by
  unfold idsL
  rcases (by omega : k = l.length ∨ k = 40) with e | e
  · rw [e, List.take_length, List.take_of_length_le (by omega)]
  · rw [e]
end Go.Proofs.YtjdlcfllmpdffaaGreatDoor
