/- bellhoplaw15: name, rec. -/
import Derived.Test.YtianboachknfmaaDoorSto7
import Derived.Test.YtianboachknfmaaDoorSto6
import Derived.Test.YtianboachknfmaaDoorSto2
import Derived.Test.YtianboachknfmaaDoorBits
import Derived.Deep.RegionHeld3
namespace Go.Proofs.YtianboachknfmaaDoor
open Go.Conc Go.RowKit Go.Maps

def nameB : Nat → ByteArray
  | 0 => ⟨#[97]⟩
  | 1 => ⟨#[98]⟩
  | 2 => ⟨#[97, 46, 98]⟩
  | _ => ⟨#[99, 45, 49]⟩
set_option maxRecDepth 100000 in
theorem name_any (w : World) (n : Nat) (hn : n < 256) : Calls Tryd.prog 43 #[.int .u8 n] w fun e w' => e = .returned (.string (nameB (n % 4))) ∧ Only (fun _ => False) w w' := by
  have hb := and3_u8 n hn
  have h4 : n % 4 < 4 := Nat.mod_lt _ (by omega)
  generalize hq : n % 4 = q at *
  clear hq hn
  rcases (by omega : q = 0 ∨ q = 1 ∨ q = 2 ∨ q = 3) with rfl | rfl | rfl | rfl
  all_goals
    clear h4
    go_enter Tryd.func43, Tryd.ntmps43
    go_wp2_with fail
    go_ret
    exact ⟨rfl, (Only.refl _ _).alloc _⟩
structure ActT where
  what : Int
  org : Int
  nm : Nat
  life : Nat
  cnt : Nat
  age : Int
  gone : Bool
  bad : Bool
def actV (a : ActT) : Value := .agg #[.int .i64 a.what, .int .i64 a.org, .int .u8 a.nm, .int .u8 a.life, .int .u8 a.cnt, .int .i64 a.age, .bool a.gone, .bool a.bad]
/-- An act's eight cells. -/
def actC (a : ActT) : List Value := [.int .i64 a.what, .int .i64 a.org, .int .u8 a.nm, .int .u8 a.life, .int .u8 a.cnt, .int .i64 a.age, .bool a.gone, .bool a.bad]
theorem actC_length (a : ActT) : (actC a).length = 8 := rfl
def dataS : ByteArray := ⟨#[97, 98, 99, 100, 101, 102, 103, 104, 105, 106]⟩
def dataOf (g b : Bool) : ByteArray := if g = b then dataS else ⟨#[]⟩
def orgN (a : ActT) : Nat := (1 + a.org % 4).toNat
def recOf (a : ActT) : RecT := { key := keyB (orgN a) (nameB (a.nm % 4)), ver := (a.life % 4) * 2 ^ 32 + a.cnt, o := orgN a, age := a.age, gone := a.gone, data := dataOf a.gone a.bad }
theorem keepD {w : World} {p : Addr} {v : Value} (h : w.cell? p = some v) : w.drew.cell? p = some v := h
theorem keep6 {w w' : World} {B : Nat} {u0 u1 u2 u3 u4 u5 : Value} (hk : ∀ k u, w.cell? ⟨B, k, none⟩ = some u → w'.cell? ⟨B, k, none⟩ = some u)
    (h : w.cell? ⟨B, 0, none⟩ = some u0 ∧ w.cell? ⟨B, 1, none⟩ = some u1 ∧ w.cell? ⟨B, 2, none⟩ = some u2 ∧ w.cell? ⟨B, 3, none⟩ = some u3 ∧ w.cell? ⟨B, 4, none⟩ = some u4 ∧ w.cell? ⟨B, 5, none⟩ = some u5) :
    w'.cell? ⟨B, 0, none⟩ = some u0 ∧ w'.cell? ⟨B, 1, none⟩ = some u1 ∧ w'.cell? ⟨B, 2, none⟩ = some u2 ∧ w'.cell? ⟨B, 3, none⟩ = some u3 ∧ w'.cell? ⟨B, 4, none⟩ = some u4 ∧ w'.cell? ⟨B, 5, none⟩ = some u5 :=
  ⟨hk _ _ h.1, hk _ _ h.2.1, hk _ _ h.2.2.1, hk _ _ h.2.2.2.1, hk _ _ h.2.2.2.2.1, hk _ _ h.2.2.2.2.2⟩
theorem keepA {w : World} {o o' : Obj} {p : Addr} {v : Value} (hp : p.block < w.heap.size) (h : (w.alloc o).cell? p = some v) : (w.alloc o').cell? p = some v :=
  (World.cell?_of_block ((Below.heap_alloc w o' _ hp).trans (Below.heap_alloc w o _ hp).symm)).trans h
theorem keepN {w : World} {o : Obj} {p : Addr} {v : Value} (h : w.cell? p = some v) : (w.alloc o).cell? p = some v := Only.cell ((Only.refl (fun _ => False) _).alloc _) h id
theorem onlyA {S : Nat → Prop} {a w : World} {o o' : Obj} (h : Only S a (w.alloc o)) (hs : a.heap.size ≤ w.heap.size) : Only S a (w.alloc o') :=
  ⟨h.os, h.tape, h.output, by simp; omega, fun k hk hn => (Below.heap_alloc w o' _ (by omega)).trans ((Below.heap_alloc w o _ (by omega)).symm.trans (h.block k hk hn))⟩
set_option maxRecDepth 100000 in
set_option maxHeartbeats 4000000 in
theorem rec_any (w : World) (a : ActT) (hn : a.nm < 256) (hl : a.life < 256) (hc : a.cnt < 256) :
    Calls Tryd.prog 14 #[actV a] w fun e w' => e = .returned (.tuple #[recT (recOf a), recT (recOf a)]) ∧ Only (fun _ => False) w w' := by
  obtain ⟨what, org, nm, life, cnt, age, gone, bad⟩ := a
  unfold recOf orgN recT actV
  simp only at hn hl hc ⊢
  have h4 : 0 ≤ org % 4 ∧ org % 4 < 4 := ⟨Int.emod_nonneg _ (by omega), Int.emod_lt_of_pos _ (by omega)⟩
  have hb1 := and3_i64 org
  have hb2 := and3_u8 life hl
  have HNM := Lib.hid (fun w => name_any w nm hn)
  obtain ⟨q, hq⟩ : ∃ q : Nat, org % 4 = (q : Int) := ⟨(org % 4).toNat, by omega⟩
  rw [hq] at hb1 h4 ⊢
  have hq2 : q < 4 := by omega
  have e1 : ((1 : Int) + (q : Int)).toNat = 1 + q := by omega
  rw [e1]
  have hkey : (nameB (nm % 4)).size ≤ 1000 := by
    have : nm % 4 < 4 := Nat.mod_lt _ (by omega)
    generalize nm % 4 = z at *
    rcases (by omega : z = 0 ∨ z = 1 ∨ z = 2 ∨ z = 3) with rfl | rfl | rfl | rfl <;> decide
  have hl4 : life % 4 < 4 := Nat.mod_lt _ (by omega)
  have HKY := Lib.hid (fun w => rkey_any w (1 + (q : Int)) (nameB (nm % 4)) (by omega) (by omega) hkey)
  generalize nameB (nm % 4) = N at *
  generalize life % 4 = lf at *
  have HQ := Lib.hid hq
  have HB1 := Lib.hid hb1
  have HB2 := Lib.hid hb2
  have E1 := Lib.hid e1
  clear hq hb1 hb2 e1
  clear h4 hkey hn hl
  obtain ⟨W, hW⟩ : ∃ W, W = w.alloc (.cells #[.int .i64 what, .int .i64 org, .int .u8 nm, .int .u8 life, .int .u8 cnt, .int .i64 age, .bool gone, .bool bad] 39) := ⟨_, rfl⟩
  have hbW : W.heap[w.heap.size]? = some (.cells #[.int .i64 what, .int .i64 org, .int .u8 nm, .int .u8 life, .int .u8 cnt, .int .i64 age, .bool gone, .bool bad] 39 (0, 0)) := by rw [hW]; exact heap_alloc_new w _
  have hoW : Only (fun _ => False) w W := by rw [hW]; exact (Only.refl _ _).alloc _
  have hsW : W.heap.size = w.heap.size + 1 := by rw [hW]; simp
  obtain ⟨W1, hW1⟩ : ∃ W1, W1 = W.alloc (.cells #[.string ⟨#[]⟩, .int .u64 0, .int .i64 0, .int .i64 0, .bool false, .string ⟨#[]⟩] 33) := ⟨_, rfl⟩
  have hbW1 : W1.heap[W.heap.size]? = some (.cells #[.string ⟨#[]⟩, .int .u64 0, .int .i64 0, .int .i64 0, .bool false, .string ⟨#[]⟩] 33 (0, 0)) := by rw [hW1]; exact heap_alloc_new W _
  have hoW1 : Only (fun _ => False) W W1 := by rw [hW1]; exact (Only.refl _ _).alloc _
  have hsW1 : W1.heap.size = W.heap.size + 1 := by rw [hW1]; simp
  obtain ⟨W2, hW2⟩ : ∃ W2, W2 = W1.alloc (.cells #[.string ⟨#[]⟩, .int .u64 0, .int .i64 0, .int .i64 0, .bool false, .string ⟨#[]⟩] 35) := ⟨_, rfl⟩
  have hbW2 : W2.heap[W1.heap.size]? = some (.cells #[.string ⟨#[]⟩, .int .u64 0, .int .i64 0, .int .i64 0, .bool false, .string ⟨#[]⟩] 35 (0, 0)) := by rw [hW2]; exact heap_alloc_new W1 _
  have hoW2 : Only (fun _ => False) W1 W2 := by rw [hW2]; exact (Only.refl _ _).alloc _
  have hsW2 : W2.heap.size = W1.heap.size + 1 := by rw [hW2]; simp
  have hbX := hoW2.old (hoW1.old hbW id) id
  have hbR := hoW2.old hbW1 id
  have hoA := (hoW.trans hoW1).trans hoW2
  have hsX : W.heap.size = w.heap.size + 1 ∧ W1.heap.size = w.heap.size + 2 ∧ W2.heap.size = w.heap.size + 3 := by omega
  rw [hsX.1] at hbR
  rw [hsX.2.1] at hbW2
  have x0 : W2.cell? ⟨w.heap.size, 0, none⟩ = some (.int .i64 what) := cell_at hbX 0
  have x1 : W2.cell? ⟨w.heap.size, 1, none⟩ = some (.int .i64 org) := cell_at hbX 1
  have x2 : W2.cell? ⟨w.heap.size, 2, none⟩ = some (.int .u8 nm) := cell_at hbX 2
  have x3 : W2.cell? ⟨w.heap.size, 3, none⟩ = some (.int .u8 life) := cell_at hbX 3
  have x4 : W2.cell? ⟨w.heap.size, 4, none⟩ = some (.int .u8 cnt) := cell_at hbX 4
  have x5 : W2.cell? ⟨w.heap.size, 5, none⟩ = some (.int .i64 age) := cell_at hbX 5
  have x6 : W2.cell? ⟨w.heap.size, 6, none⟩ = some (.bool gone) := cell_at hbX 6
  have x7 : W2.cell? ⟨w.heap.size, 7, none⟩ = some (.bool bad) := cell_at hbX 7
  have HBX := Lib.hid hbX
  have HBR := Lib.hid hbR
  have HBR2 := Lib.hid hbW2
  have HOA := Lib.hid hoA
  have HSX := Lib.hid hsX
  clear hbX hbR hbW2 hoA hsX
  obtain ⟨D, hD⟩ : ∃ D, dataOf gone bad = D := ⟨_, rfl⟩
  rw [hD]
  have HD := Lib.hid hD
  clear hD
  go_enter Tryd.func14, Tryd.ntmps14
  go_upto_region 1 with (fail)
  rw [← hW, ← hW1, ← hW2]
  clear hW hW1 hW2 hoW hoW1 hoW2 hsW hsW1 hsW2 hbW hbW1
  generalize hX : w.heap.size = X at *
  have HXW := Lib.hid hX
  clear hX
  have hb1 := HB1.out
  go_upto_region 3 with (fail)
  clear hb1
  go_upto_if 15 with (fail)
  go_cut [5] (fun v5 wx => v5 = .string D ∧ W2 = wx)
  case first =>
    cases gone <;> cases bad
    all_goals
      go_wp2_with fail
      go_meet
      exact ⟨congrArg Value.string HD.out, rfl⟩
  case rest =>
  obtain ⟨rfl, rfl⟩ := hcut
  clear x0 x1 x7
  go_upto_region 5 with (fail)
  have hver : IntKind.u64.wrap (IntKind.u64.wrap (IntKind.u64.wrap (lf : Int) * 4294967296) + IntKind.u64.wrap (cnt : Int)) = ((lf * 2 ^ 32 + cnt : Nat) : Int) := by
    show ((((lf : Int) % 18446744073709551616) * 4294967296) % 18446744073709551616 + (cnt : Int) % 18446744073709551616) % 18446744073709551616 = _
    omega
  have HVER := Lib.hid hver
  clear hver
  go_cut [6] (fun v6 wx => ∃ B, v6 = .pointer (some ⟨B, 0, none⟩) ∧ wx.heap[B]? = some (.cells #[.string (keyB (1 + (q : Int)) N), .int .u64 ((lf * 2 ^ 32 + cnt : Nat)), .int .i64 (1 + (q : Int)), .int .i64 age, .bool gone, .string D] 35 (0, 0)) ∧ Only (fun _ => False) W2 wx ∧ W2.heap.size ≤ B)
  case first =>
    have hb2 := HB2.out
    have hlz : X < W2.heap.size := lt_of_block HBX.out
    have hrr := Only.refl (fun _ => False) W2
    go_region_held3 (fun w' => Only (fun _ => False) W2 w' ∧ w'.cell? ⟨X, 2, none⟩ = some (.int .u8 nm) ∧ w'.cell? ⟨X, 3, none⟩ = some (.int .u8 life) ∧ w'.cell? ⟨X, 4, none⟩ = some (.int .u8 cnt) ∧ w'.cell? ⟨X, 5, none⟩ = some (.int .i64 age) ∧ w'.cell? ⟨X, 6, none⟩ = some (.bool gone))
      (first
        | (go_split_ands; refine ⟨?_, ?_, ?_, ?_, ?_, ?_⟩ <;> (first
            | (with_reducible assumption)
            | (with_reducible apply keepD; with_reducible assumption)
            | (with_reducible exact Only.drew (by assumption))
            | (with_reducible exact Only.trans (by assumption) (by assumption))
            | (with_reducible exact Only.drew (Only.alloc (by assumption) _))
            | (with_reducible exact keepD (keepN (by assumption)))
            | (with_reducible exact Only.alloc (by assumption) _)
            | (with_reducible exact onlyA (by assumption) (by assumption))
            | (with_reducible exact Only.cell (by assumption) (by assumption) id)
            | (with_reducible exact keepN (by assumption))
            | (with_reducible exact keepA (by assumption) (by assumption))
            | (with_reducible exact Only.tr (by assumption) (six_set ha3 _ _ _ _ _ _).2 (fun i hi e => by omega))
            | (with_reducible exact Only.cell (six_set ha3 _ _ _ _ _ _).2 (by assumption) (fun e => by simp only at e; omega))))
        | go_keep)
      (first
        | (go_at_call 43; (with_reducible refine (HNM.out _).mono ?_); rintro e w2 ⟨rfl, hd2⟩; have hz2 : X < w2.heap.size := (by have h7 := Only.size hd2; first | exact Nat.lt_of_lt_of_le hlz h7 | (simp at h7; omega)); have hy2 : W2.heap.size ≤ w2.heap.size := (by have h7 := Only.size hd2; first | exact h7 | (simp at h7; omega)); (try have ha2 : w2.heap[W2.heap.size]? = some (.cells #[.string ⟨#[]⟩, .int .u64 0, .int .i64 0, .int .i64 0, .bool false, .string ⟨#[]⟩] 35 (0, 0)) := Only.old hd2 (heap_alloc_new W2 _) id))
        | (go_at_call 66; (with_reducible refine (HKY.out _).mono ?_); rintro e w3 ⟨rfl, hd3⟩; have hz3 : X < w3.heap.size := (by have h7 := Only.size hd3; first | exact Nat.lt_of_lt_of_le hz2 h7 | (simp at h7; omega)); have hy3 : W2.heap.size ≤ w3.heap.size := (by have h7 := Only.size hd3; first | exact Nat.le_trans hy2 h7 | (simp at h7; omega)); (first
            | (have ha3 : w3.heap[w2.heap.size]? = some (.cells #[.string ⟨#[]⟩, .int .u64 0, .int .i64 0, .int .i64 0, .bool false, .string ⟨#[]⟩] 35 (0, 0)) := Only.old hd3 (heap_alloc_new w2 _) id; have q0 := cell_at ha3 0; have q1 := cell_at ha3 1; have q2 := cell_at ha3 2; have q3 := cell_at ha3 3; have q4 := cell_at ha3 4; have q5 := cell_at ha3 5; have qf := free_at ha3)
            | (have ha3 : w3.heap[W2.heap.size]? = some (.cells #[.string ⟨#[]⟩, .int .u64 0, .int .i64 0, .int .i64 0, .bool false, .string ⟨#[]⟩] 35 (0, 0)) := Only.old hd3 ha2 id; have q0 := cell_at ha3 0; have q1 := cell_at ha3 1; have q2 := cell_at ha3 2; have q3 := cell_at ha3 3; have q4 := cell_at ha3 4; have q5 := cell_at ha3 5; have qf := free_at ha3)
            | skip)))
    all_goals (
      go_split_ands
      go_wp2_with fail
      go_meet
      first
        | (refine ⟨w3.heap.size, by with_reducible rfl, ?_, by with_reducible assumption, hy3⟩; rw [← HVER.out]; with_reducible exact heap_alloc_new w3 _)
        | (refine ⟨w2.heap.size, by with_reducible rfl, ?_, by with_reducible assumption, hy2⟩; rw [← HVER.out]; with_reducible exact (six_set ha3 _ _ _ _ _ _).1)
        | (refine ⟨W2.heap.size, by with_reducible rfl, ?_, by with_reducible assumption, Nat.le_refl _⟩; rw [← HVER.out]; with_reducible exact (six_set ha3 _ _ _ _ _ _).1))
  case rest =>
  obtain ⟨B, rfl, hB, hoB, hBs⟩ := hcut
  have hR1 := hoB.old HBR.out id
  have hR2 := hoB.old HBR2.out id
  have hsx := HSX.out
  have hrb : X + 1 < wc.heap.size ∧ X + 2 < wc.heap.size ∧ B < wc.heap.size := ⟨lt_of_block hR1, lt_of_block hR2, lt_of_block hB⟩
  have hn1 : ¬ B = X + 1 := by omega
  have hn2 : ¬ B = X + 1 + 1 := by omega
  have hn3 : ¬ X + 1 = B := by omega
  have hn4 : ¬ X + 1 + 1 = B := by omega
  have b0 : wc.cell? ⟨B, 0, none⟩ = some (.string (keyB (1 + (q : Int)) N)) := cell_at hB 0
  have b1 : wc.cell? ⟨B, 1, none⟩ = some (.int .u64 ((lf * 2 ^ 32 + cnt : Nat))) := cell_at hB 1
  have b2 : wc.cell? ⟨B, 2, none⟩ = some (.int .i64 (1 + (q : Int))) := cell_at hB 2
  have b3 : wc.cell? ⟨B, 3, none⟩ = some (.int .i64 age) := cell_at hB 3
  have b4 : wc.cell? ⟨B, 4, none⟩ = some (.bool gone) := cell_at hB 4
  have b5 : wc.cell? ⟨B, 5, none⟩ = some (.string D) := cell_at hB 5
  have r0 : wc.cell? ⟨(X + 1), 0, none⟩ = some (.string ⟨#[]⟩) := cell_at hR1 0
  have r1 : wc.cell? ⟨(X + 1), 1, none⟩ = some (.int .u64 0) := cell_at hR1 1
  have r2 : wc.cell? ⟨(X + 1), 2, none⟩ = some (.int .i64 0) := cell_at hR1 2
  have r3 : wc.cell? ⟨(X + 1), 3, none⟩ = some (.int .i64 0) := cell_at hR1 3
  have r4 : wc.cell? ⟨(X + 1), 4, none⟩ = some (.bool false) := cell_at hR1 4
  have r5 : wc.cell? ⟨(X + 1), 5, none⟩ = some (.string ⟨#[]⟩) := cell_at hR1 5
  have s0 : wc.cell? ⟨(X + 1 + 1), 0, none⟩ = some (.string ⟨#[]⟩) := cell_at hR2 0
  have s1 : wc.cell? ⟨(X + 1 + 1), 1, none⟩ = some (.int .u64 0) := cell_at hR2 1
  have s2 : wc.cell? ⟨(X + 1 + 1), 2, none⟩ = some (.int .i64 0) := cell_at hR2 2
  have s3 : wc.cell? ⟨(X + 1 + 1), 3, none⟩ = some (.int .i64 0) := cell_at hR2 3
  have s4 : wc.cell? ⟨(X + 1 + 1), 4, none⟩ = some (.bool false) := cell_at hR2 4
  have s5 : wc.cell? ⟨(X + 1 + 1), 5, none⟩ = some (.string ⟨#[]⟩) := cell_at hR2 5
  have rf : ∀ i, wc.frozen? ⟨X + 1, i, none⟩ = false := free_at hR1
  have sf : ∀ i, wc.frozen? ⟨X + 1 + 1, i, none⟩ = false := free_at hR2
  have HHB := Lib.hid hB
  have HOB := Lib.hid hoB
  have HR1 := Lib.hid hR1
  have HR2 := Lib.hid hR2
  have HSXX := Lib.hid hsx
  clear hB hoB hR1 hR2 hsx
  clear hrb
  go_upto_region 6 with (fail)
  have hR1d : wc.drew.heap[X + 1]? = some (.cells #[.string ⟨#[]⟩, .int .u64 0, .int .i64 0, .int .i64 0, .bool false, .string ⟨#[]⟩] 33 (0, 0)) := HR1.out
  have hR2d : wc.drew.heap[X + 1 + 1]? = some (.cells #[.string ⟨#[]⟩, .int .u64 0, .int .i64 0, .int .i64 0, .bool false, .string ⟨#[]⟩] 35 (0, 0)) := HR2.out
  have hn5 : ¬ X + 1 + 1 = X + 1 := by omega
  go_region_held3 (fun w' => w'.cell? ⟨B, 0, none⟩ = some (.string (keyB (1 + (q : Int)) N)) ∧ w'.cell? ⟨B, 1, none⟩ = some (.int .u64 ((lf * 2 ^ 32 + cnt : Nat))) ∧ w'.cell? ⟨B, 2, none⟩ = some (.int .i64 (1 + (q : Int))) ∧ w'.cell? ⟨B, 3, none⟩ = some (.int .i64 age) ∧ w'.cell? ⟨B, 4, none⟩ = some (.bool gone) ∧ w'.cell? ⟨B, 5, none⟩ = some (.string D))
    (first
      | (with_reducible assumption)
      | (with_reducible exact ⟨keepD b0, keepD b1, keepD b2, keepD b3, keepD b4, keepD b5⟩)
      | (with_reducible exact keep6 (fun _ _ h => keepD (Only.cell (six_set HR1.out _ _ _ _ _ _).2 h hn1)) ⟨b0, b1, b2, b3, b4, b5⟩)
      | (with_reducible exact keep6 (fun _ _ h => keepD (Only.cell (six_set (Only.old (six_set HR1.out _ _ _ _ _ _).2 HR2.out hn5) _ _ _ _ _ _).2 (Only.cell (six_set HR1.out _ _ _ _ _ _).2 h hn1) hn2)) ⟨b0, b1, b2, b3, b4, b5⟩))
    (fail)
  go_wp2_with fail
  clear s0 s1 s3 s4 s5 r0 r1 r2 r3 r4 r5 sf rf
  clear s2
  obtain ⟨s1, s2⟩ := six_set HR1.out (.string (keyB (1 + (q : Int)) N)) (.int .u64 ((lf : Int) * 4294967296 + (cnt : Int))) (.int .i64 (1 + (q : Int))) (.int .i64 age) (.bool gone) (.string D)
  generalize ((((((wc.setCell ⟨(X + 1), 0, none⟩ (.string (keyB (1 + (q : Int)) N))).setCell ⟨(X + 1), 1, none⟩ (.int .u64 ((lf : Int) * 4294967296 + (cnt : Int)))).setCell ⟨(X + 1), 2, none⟩ (.int .i64 (1 + (q : Int)))).setCell ⟨(X + 1), 3, none⟩ (.int .i64 age)).setCell ⟨(X + 1), 4, none⟩ (.bool gone)).setCell ⟨(X + 1), 5, none⟩ (.string D)) = wy at *
  have p0 : wy.cell? ⟨(X + 1), 0, none⟩ = some (.string (keyB (1 + (q : Int)) N)) := cell_at s1 0
  have p1 : wy.cell? ⟨(X + 1), 1, none⟩ = some (.int .u64 ((lf : Int) * 4294967296 + (cnt : Int))) := cell_at s1 1
  have p2 : wy.cell? ⟨(X + 1), 2, none⟩ = some (.int .i64 (1 + (q : Int))) := cell_at s1 2
  have p3 : wy.cell? ⟨(X + 1), 3, none⟩ = some (.int .i64 age) := cell_at s1 3
  have p4 : wy.cell? ⟨(X + 1), 4, none⟩ = some (.bool gone) := cell_at s1 4
  have p5 : wy.cell? ⟨(X + 1), 5, none⟩ = some (.string D) := cell_at s1 5
  have t1 := s2
  have hR2' := t1.old HR2.out (by omega)
  have hR1' := s1
  clear s1 s2 p0 p1 p2 p3 p4 p5
  obtain ⟨s1, s2⟩ := six_set hR2' (.string (keyB (1 + (q : Int)) N)) (.int .u64 ((lf : Int) * 4294967296 + (cnt : Int))) (.int .i64 (1 + (q : Int))) (.int .i64 age) (.bool gone) (.string D)
  generalize ((((((wy.setCell ⟨(X + 1 + 1), 0, none⟩ (.string (keyB (1 + (q : Int)) N))).setCell ⟨(X + 1 + 1), 1, none⟩ (.int .u64 ((lf : Int) * 4294967296 + (cnt : Int)))).setCell ⟨(X + 1 + 1), 2, none⟩ (.int .i64 (1 + (q : Int)))).setCell ⟨(X + 1 + 1), 3, none⟩ (.int .i64 age)).setCell ⟨(X + 1 + 1), 4, none⟩ (.bool gone)).setCell ⟨(X + 1 + 1), 5, none⟩ (.string D)) = wz at *
  have p0 : wz.cell? ⟨(X + 1 + 1), 0, none⟩ = some (.string (keyB (1 + (q : Int)) N)) := cell_at s1 0
  have p1 : wz.cell? ⟨(X + 1 + 1), 1, none⟩ = some (.int .u64 ((lf : Int) * 4294967296 + (cnt : Int))) := cell_at s1 1
  have p2 : wz.cell? ⟨(X + 1 + 1), 2, none⟩ = some (.int .i64 (1 + (q : Int))) := cell_at s1 2
  have p3 : wz.cell? ⟨(X + 1 + 1), 3, none⟩ = some (.int .i64 age) := cell_at s1 3
  have p4 : wz.cell? ⟨(X + 1 + 1), 4, none⟩ = some (.bool gone) := cell_at s1 4
  have p5 : wz.cell? ⟨(X + 1 + 1), 5, none⟩ = some (.string D) := cell_at s1 5
  have hR1z := s2.old hR1' (by omega)
  have o0 : wz.cell? ⟨(X + 1), 0, none⟩ = some (.string (keyB (1 + (q : Int)) N)) := cell_at hR1z 0
  have o1 : wz.cell? ⟨(X + 1), 1, none⟩ = some (.int .u64 ((lf : Int) * 4294967296 + (cnt : Int))) := cell_at hR1z 1
  have o2 : wz.cell? ⟨(X + 1), 2, none⟩ = some (.int .i64 (1 + (q : Int))) := cell_at hR1z 2
  have o3 : wz.cell? ⟨(X + 1), 3, none⟩ = some (.int .i64 age) := cell_at hR1z 3
  have o4 : wz.cell? ⟨(X + 1), 4, none⟩ = some (.bool gone) := cell_at hR1z 4
  have o5 : wz.cell? ⟨(X + 1), 5, none⟩ = some (.string D) := cell_at hR1z 5
  refine bodyPost_ret (v := .tuple #[.agg #[.string (keyB (1 + (q : Int)) N), .int .u64 ((lf : Int) * 4294967296 + (cnt : Int)), .int .i64 (1 + (q : Int)), .int .i64 age, .bool gone, .string D], .agg #[.string (keyB (1 + (q : Int)) N), .int .u64 ((lf : Int) * 4294967296 + (cnt : Int)), .int .i64 (1 + (q : Int)), .int .i64 age, .bool gone, .string D]]) (by simp [results, Tryd.results14, go_sem, p0, p1, p2, p3, p4, p5, o0, o1, o2, o3, o4, o5]) rfl ?_
  refine ⟨rfl, ?_⟩
  have h1 := HOA.out.trans HOB.out
  have h2 := HSXX.out
  have h3 := HXW.out
  exact ((h1.tr t1 (fun i hi e => by omega)).tr s2 (fun i hi e => by omega)).drew
end Go.Proofs.YtianboachknfmaaDoor
