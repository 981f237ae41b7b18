/- SeedsRepair, plainly: how many letters are on their way, and how great they are. -/
import Derived.Test.YtjdlcfllmpdffaaDoorME
import Derived.Test.YtjdlcfllmpdffaaDoorMD
import Derived.Test.YtjdlcfllmpdffaaDoorMA
import Derived.Deep.RegionHeld3
import Derived.Test.YtjdlcfllmpdffaaDoorMC
import Derived.Test.YtjdlcfllmpdffaaDoorMH
/-! bellhoplaw15: name, rec. -/
namespace Go.Proofs.YtjdlcfllmpdffaaDoor
open Go.Conc Go.RowKit Go.Maps

def nameB : Nat → ByteArray
  | 0 => ⟨#[97]⟩
  | 1 => ⟨#[98]⟩
  | 2 => ⟨#[97, 46, 98]⟩
  | _ => ⟨#[99, 45, 49]⟩
set_option maxRecDepth 100000 in
theorem name_any (w : World) (n : Nat) (hn : n < 256) : Calls Tryd.prog 30 #[.int .u8 n] w fun e w' => e = .returned (.string (nameB (n % 4))) ∧ Only (fun _ => False) w w' := by
  have hb := and3_u8 n hn
  have h4 : n % 4 < 4 := Nat.mod_lt _ (by omega)
  generalize hq : n % 4 = q at *
  clear hq hn
  rcases (by omega : q = 0 ∨ q = 1 ∨ q = 2 ∨ q = 3) with rfl | rfl | rfl | rfl
  all_goals
    clear h4
    go_enter Tryd.func30, Tryd.ntmps30
    go_wp2_with fail
    go_ret
    exact ⟨rfl, (Only.refl _ _).alloc _⟩
structure ActT where
  what : Int
  org : Int
  nm : Nat
  life : Nat
  cnt : Nat
  age : Int
  gone : Bool
  bad : Bool
def actV (a : ActT) : Value := .agg #[.int .i64 a.what, .int .i64 a.org, .int .u8 a.nm, .int .u8 a.life, .int .u8 a.cnt, .int .i64 a.age, .bool a.gone, .bool a.bad]
/-- An act's eight cells. -/
def actC (a : ActT) : List Value := [.int .i64 a.what, .int .i64 a.org, .int .u8 a.nm, .int .u8 a.life, .int .u8 a.cnt, .int .i64 a.age, .bool a.gone, .bool a.bad]
theorem actC_length (a : ActT) : (actC a).length = 8 := rfl
def dataS : ByteArray := ⟨#[97, 98, 99, 100, 101, 102, 103, 104, 105, 106]⟩
def dataOf (g b : Bool) : ByteArray := if g = b then dataS else ⟨#[]⟩
def orgN (a : ActT) : Nat := (1 + a.org % 4).toNat
def recOf (a : ActT) : RecT := { key := keyB (orgN a) (nameB (a.nm % 4)), ver := (a.life % 4) * 2 ^ 32 + a.cnt, o := orgN a, age := a.age, gone := a.gone, data := dataOf a.gone a.bad }
theorem keepD {w : World} {p : Addr} {v : Value} (h : w.cell? p = some v) : w.drew.cell? p = some v := h
theorem keep6 {w w' : World} {B : Nat} {u0 u1 u2 u3 u4 u5 : Value} (hk : ∀ k u, w.cell? ⟨B, k, none⟩ = some u → w'.cell? ⟨B, k, none⟩ = some u)
    (h : w.cell? ⟨B, 0, none⟩ = some u0 ∧ w.cell? ⟨B, 1, none⟩ = some u1 ∧ w.cell? ⟨B, 2, none⟩ = some u2 ∧ w.cell? ⟨B, 3, none⟩ = some u3 ∧ w.cell? ⟨B, 4, none⟩ = some u4 ∧ w.cell? ⟨B, 5, none⟩ = some u5) :
    w'.cell? ⟨B, 0, none⟩ = some u0 ∧ w'.cell? ⟨B, 1, none⟩ = some u1 ∧ w'.cell? ⟨B, 2, none⟩ = some u2 ∧ w'.cell? ⟨B, 3, none⟩ = some u3 ∧ w'.cell? ⟨B, 4, none⟩ = some u4 ∧ w'.cell? ⟨B, 5, none⟩ = some u5 :=
  ⟨hk _ _ h.1, hk _ _ h.2.1, hk _ _ h.2.2.1, hk _ _ h.2.2.2.1, hk _ _ h.2.2.2.2.1, hk _ _ h.2.2.2.2.2⟩
theorem keepA {w : World} {o o' : Obj} {p : Addr} {v : Value} (hp : p.block < w.heap.size) (h : (w.alloc o).cell? p = some v) : (w.alloc o').cell? p = some v :=
  (World.cell?_of_block ((Below.heap_alloc w o' _ hp).trans (Below.heap_alloc w o _ hp).symm)).trans h
theorem keepN {w : World} {o : Obj} {p : Addr} {v : Value} (h : w.cell? p = some v) : (w.alloc o).cell? p = some v := Only.cell ((Only.refl (fun _ => False) _).alloc _) h id
theorem onlyA {S : Nat → Prop} {a w : World} {o o' : Obj} (h : Only S a (w.alloc o)) (hs : a.heap.size ≤ w.heap.size) : Only S a (w.alloc o') :=
  ⟨h.os, h.tape, h.output, by simp; omega, fun k hk hn => (Below.heap_alloc w o' _ (by omega)).trans ((Below.heap_alloc w o _ (by omega)).symm.trans (h.block k hk hn))⟩
set_option maxRecDepth 100000 in
set_option maxHeartbeats 4000000 in
theorem rec_any (w : World) (a : ActT) (hn : a.nm < 256) (hl : a.life < 256) (hc : a.cnt < 256) :
    Calls Tryd.prog 13 #[actV a] w fun e w' => e = .returned (.tuple #[recT (recOf a), recT (recOf a)]) ∧ Only (fun _ => False) w w' := by
  obtain ⟨what, org, nm, life, cnt, age, gone, bad⟩ := a
  unfold recOf orgN recT actV
  simp only at hn hl hc ⊢
  have h4 : 0 ≤ org % 4 ∧ org % 4 < 4 := ⟨Int.emod_nonneg _ (by omega), Int.emod_lt_of_pos _ (by omega)⟩
  have hb1 := and3_i64 org
  have hb2 := and3_u8 life hl
  have HNM := Lib.hid (fun w => name_any w nm hn)
  obtain ⟨q, hq⟩ : ∃ q : Nat, org % 4 = (q : Int) := ⟨(org % 4).toNat, by omega⟩
  rw [hq] at hb1 h4 ⊢
  have hq2 : q < 4 := by omega
  have e1 : ((1 : Int) + (q : Int)).toNat = 1 + q := by omega
  rw [e1]
  have hkey : (nameB (nm % 4)).size ≤ 1000 := by
    have : nm % 4 < 4 := Nat.mod_lt _ (by omega)
    generalize nm % 4 = z at *
    rcases (by omega : z = 0 ∨ z = 1 ∨ z = 2 ∨ z = 3) with rfl | rfl | rfl | rfl <;> decide
  have hl4 : life % 4 < 4 := Nat.mod_lt _ (by omega)
  have HKY := Lib.hid (fun w => rkey_any w (1 + (q : Int)) (nameB (nm % 4)) (by omega) (by omega) hkey)
  generalize nameB (nm % 4) = N at *
  generalize life % 4 = lf at *
  have HQ := Lib.hid hq
  have HB1 := Lib.hid hb1
  have HB2 := Lib.hid hb2
  have E1 := Lib.hid e1
  clear hq hb1 hb2 e1
  clear h4 hkey hn hl
  obtain ⟨W, hW⟩ : ∃ W, W = w.alloc (.cells #[.int .i64 what, .int .i64 org, .int .u8 nm, .int .u8 life, .int .u8 cnt, .int .i64 age, .bool gone, .bool bad] 39) := ⟨_, rfl⟩
  have hbW : W.heap[w.heap.size]? = some (.cells #[.int .i64 what, .int .i64 org, .int .u8 nm, .int .u8 life, .int .u8 cnt, .int .i64 age, .bool gone, .bool bad] 39 (0, 0)) := by rw [hW]; exact heap_alloc_new w _
  have hoW : Only (fun _ => False) w W := by rw [hW]; exact (Only.refl _ _).alloc _
  have hsW : W.heap.size = w.heap.size + 1 := by rw [hW]; simp
  obtain ⟨W1, hW1⟩ : ∃ W1, W1 = W.alloc (.cells #[.string ⟨#[]⟩, .int .u64 0, .int .i64 0, .int .i64 0, .bool false, .string ⟨#[]⟩] 33) := ⟨_, rfl⟩
  have hbW1 : W1.heap[W.heap.size]? = some (.cells #[.string ⟨#[]⟩, .int .u64 0, .int .i64 0, .int .i64 0, .bool false, .string ⟨#[]⟩] 33 (0, 0)) := by rw [hW1]; exact heap_alloc_new W _
  have hoW1 : Only (fun _ => False) W W1 := by rw [hW1]; exact (Only.refl _ _).alloc _
  have hsW1 : W1.heap.size = W.heap.size + 1 := by rw [hW1]; simp
  obtain ⟨W2, hW2⟩ : ∃ W2, W2 = W1.alloc (.cells #[.string ⟨#[]⟩, .int .u64 0, .int .i64 0, .int .i64 0, .bool false, .string ⟨#[]⟩] 35) := ⟨_, rfl⟩
  have hbW2 : W2.heap[W1.heap.size]? = some (.cells #[.string ⟨#[]⟩, .int .u64 0, .int .i64 0, .int .i64 0, .bool false, .string ⟨#[]⟩] 35 (0, 0)) := by rw [hW2]; exact heap_alloc_new W1 _
  have hoW2 : Only (fun _ => False) W1 W2 := by rw [hW2]; exact (Only.refl _ _).alloc _
  have hsW2 : W2.heap.size = W1.heap.size + 1 := by rw [hW2]; simp
  have hbX := hoW2.old (hoW1.old hbW id) id
  have hbR := hoW2.old hbW1 id
  have hoA := (hoW.trans hoW1).trans hoW2
  have hsX : W.heap.size = w.heap.size + 1 ∧ W1.heap.size = w.heap.size + 2 ∧ W2.heap.size = w.heap.size + 3 := by omega
  rw [hsX.1] at hbR
  rw [hsX.2.1] at hbW2
  have x0 : W2.cell? ⟨w.heap.size, 0, none⟩ = some (.int .i64 what) := cell_at hbX 0
  have x1 : W2.cell? ⟨w.heap.size, 1, none⟩ = some (.int .i64 org) := cell_at hbX 1
  have x2 : W2.cell? ⟨w.heap.size, 2, none⟩ = some (.int .u8 nm) := cell_at hbX 2
  have x3 : W2.cell? ⟨w.heap.size, 3, none⟩ = some (.int .u8 life) := cell_at hbX 3
  have x4 : W2.cell? ⟨w.heap.size, 4, none⟩ = some (.int .u8 cnt) := cell_at hbX 4
  have x5 : W2.cell? ⟨w.heap.size, 5, none⟩ = some (.int .i64 age) := cell_at hbX 5
  have x6 : W2.cell? ⟨w.heap.size, 6, none⟩ = some (.bool gone) := cell_at hbX 6
  have x7 : W2.cell? ⟨w.heap.size, 7, none⟩ = some (.bool bad) := cell_at hbX 7
  have HBX := Lib.hid hbX
  have HBR := Lib.hid hbR
  have HBR2 := Lib.hid hbW2
  have HOA := Lib.hid hoA
  have HSX := Lib.hid hsX
  clear hbX hbR hbW2 hoA hsX
  obtain ⟨D, hD⟩ : ∃ D, dataOf gone bad = D := ⟨_, rfl⟩
  rw [hD]
  have HD := Lib.hid hD
  clear hD
  go_enter Tryd.func13, Tryd.ntmps13
  go_upto_region 1 with (fail)
  rw [← hW, ← hW1, ← hW2]
  clear hW hW1 hW2 hoW hoW1 hoW2 hsW hsW1 hsW2 hbW hbW1
  generalize hX : w.heap.size = X at *
  have HXW := Lib.hid hX
  clear hX
  have hb1 := HB1.out
  go_upto_region 3 with (fail)
  clear hb1
  go_upto_if 15 with (fail)
  go_cut [5] (fun v5 wx => v5 = .string D ∧ W2 = wx)
  case first =>
    cases gone <;> cases bad
    all_goals
      go_wp2_with fail
      go_meet
      exact ⟨congrArg Value.string HD.out, rfl⟩
  case rest =>
  obtain ⟨rfl, rfl⟩ := hcut
  clear x0 x1 x7
  go_upto_region 5 with (fail)
  have hver : IntKind.u64.wrap (IntKind.u64.wrap (IntKind.u64.wrap (lf : Int) * 4294967296) + IntKind.u64.wrap (cnt : Int)) = ((lf * 2 ^ 32 + cnt : Nat) : Int) := by
    show ((((lf : Int) % 18446744073709551616) * 4294967296) % 18446744073709551616 + (cnt : Int) % 18446744073709551616) % 18446744073709551616 = _
    omega
  have HVER := Lib.hid hver
  clear hver
  go_cut [6] (fun v6 wx => ∃ B, v6 = .pointer (some ⟨B, 0, none⟩) ∧ wx.heap[B]? = some (.cells #[.string (keyB (1 + (q : Int)) N), .int .u64 ((lf * 2 ^ 32 + cnt : Nat)), .int .i64 (1 + (q : Int)), .int .i64 age, .bool gone, .string D] 35 (0, 0)) ∧ Only (fun _ => False) W2 wx ∧ W2.heap.size ≤ B)
  case first =>
    have hb2 := HB2.out
    have hlz : X < W2.heap.size := lt_of_block HBX.out
    have hrr := Only.refl (fun _ => False) W2
    go_region_held3 (fun w' => Only (fun _ => False) W2 w' ∧ w'.cell? ⟨X, 2, none⟩ = some (.int .u8 nm) ∧ w'.cell? ⟨X, 3, none⟩ = some (.int .u8 life) ∧ w'.cell? ⟨X, 4, none⟩ = some (.int .u8 cnt) ∧ w'.cell? ⟨X, 5, none⟩ = some (.int .i64 age) ∧ w'.cell? ⟨X, 6, none⟩ = some (.bool gone))
      (first
        | (go_split_ands; refine ⟨?_, ?_, ?_, ?_, ?_, ?_⟩ <;> (first
            | (with_reducible assumption)
            | (with_reducible apply keepD; with_reducible assumption)
            | (with_reducible exact Only.drew (by assumption))
            | (with_reducible exact Only.trans (by assumption) (by assumption))
            | (with_reducible exact Only.drew (Only.alloc (by assumption) _))
            | (with_reducible exact keepD (keepN (by assumption)))
            | (with_reducible exact Only.alloc (by assumption) _)
            | (with_reducible exact onlyA (by assumption) (by assumption))
            | (with_reducible exact Only.cell (by assumption) (by assumption) id)
            | (with_reducible exact keepN (by assumption))
            | (with_reducible exact keepA (by assumption) (by assumption))
            | (with_reducible exact Only.tr (by assumption) (six_set ha3 _ _ _ _ _ _).2 (fun i hi e => by omega))
            | (with_reducible exact Only.cell (six_set ha3 _ _ _ _ _ _).2 (by assumption) (fun e => by simp only at e; omega))))
        | go_keep)
      (first
        | (go_at_call 30; (with_reducible refine (HNM.out _).mono ?_); rintro e w2 ⟨rfl, hd2⟩; have hz2 : X < w2.heap.size := (by have h7 := Only.size hd2; first | exact Nat.lt_of_lt_of_le hlz h7 | (simp at h7; omega)); have hy2 : W2.heap.size ≤ w2.heap.size := (by have h7 := Only.size hd2; first | exact h7 | (simp at h7; omega)); (try have ha2 : w2.heap[W2.heap.size]? = some (.cells #[.string ⟨#[]⟩, .int .u64 0, .int .i64 0, .int .i64 0, .bool false, .string ⟨#[]⟩] 35 (0, 0)) := Only.old hd2 (heap_alloc_new W2 _) id))
        | (go_at_call 62; (with_reducible refine (HKY.out _).mono ?_); rintro e w3 ⟨rfl, hd3⟩; have hz3 : X < w3.heap.size := (by have h7 := Only.size hd3; first | exact Nat.lt_of_lt_of_le hz2 h7 | (simp at h7; omega)); have hy3 : W2.heap.size ≤ w3.heap.size := (by have h7 := Only.size hd3; first | exact Nat.le_trans hy2 h7 | (simp at h7; omega)); (first
            | (have ha3 : w3.heap[w2.heap.size]? = some (.cells #[.string ⟨#[]⟩, .int .u64 0, .int .i64 0, .int .i64 0, .bool false, .string ⟨#[]⟩] 35 (0, 0)) := Only.old hd3 (heap_alloc_new w2 _) id; have q0 := cell_at ha3 0; have q1 := cell_at ha3 1; have q2 := cell_at ha3 2; have q3 := cell_at ha3 3; have q4 := cell_at ha3 4; have q5 := cell_at ha3 5; have qf := free_at ha3)
            | (have ha3 : w3.heap[W2.heap.size]? = some (.cells #[.string ⟨#[]⟩, .int .u64 0, .int .i64 0, .int .i64 0, .bool false, .string ⟨#[]⟩] 35 (0, 0)) := Only.old hd3 ha2 id; have q0 := cell_at ha3 0; have q1 := cell_at ha3 1; have q2 := cell_at ha3 2; have q3 := cell_at ha3 3; have q4 := cell_at ha3 4; have q5 := cell_at ha3 5; have qf := free_at ha3)
            | skip)))
    all_goals (
      go_split_ands
      go_wp2_with fail
      go_meet
      first
        | (refine ⟨w3.heap.size, by with_reducible rfl, ?_, by with_reducible assumption, hy3⟩; rw [← HVER.out]; with_reducible exact heap_alloc_new w3 _)
        | (refine ⟨w2.heap.size, by with_reducible rfl, ?_, by with_reducible assumption, hy2⟩; rw [← HVER.out]; with_reducible exact (six_set ha3 _ _ _ _ _ _).1)
        | (refine ⟨W2.heap.size, by with_reducible rfl, ?_, by with_reducible assumption, Nat.le_refl _⟩; rw [← HVER.out]; with_reducible exact (six_set ha3 _ _ _ _ _ _).1))
  case rest =>
  obtain ⟨B, rfl, hB, hoB, hBs⟩ := hcut
  have hR1 := hoB.old HBR.out id
  have hR2 := hoB.old HBR2.out id
  have hsx := HSX.out
  have hrb : X + 1 < wc.heap.size ∧ X + 2 < wc.heap.size ∧ B < wc.heap.size := ⟨lt_of_block hR1, lt_of_block hR2, lt_of_block hB⟩
  have hn1 : ¬ B = X + 1 := by omega
  have hn2 : ¬ B = X + 1 + 1 := by omega
  have hn3 : ¬ X + 1 = B := by omega
  have hn4 : ¬ X + 1 + 1 = B := by omega
  have b0 : wc.cell? ⟨B, 0, none⟩ = some (.string (keyB (1 + (q : Int)) N)) := cell_at hB 0
  have b1 : wc.cell? ⟨B, 1, none⟩ = some (.int .u64 ((lf * 2 ^ 32 + cnt : Nat))) := cell_at hB 1
  have b2 : wc.cell? ⟨B, 2, none⟩ = some (.int .i64 (1 + (q : Int))) := cell_at hB 2
  have b3 : wc.cell? ⟨B, 3, none⟩ = some (.int .i64 age) := cell_at hB 3
  have b4 : wc.cell? ⟨B, 4, none⟩ = some (.bool gone) := cell_at hB 4
  have b5 : wc.cell? ⟨B, 5, none⟩ = some (.string D) := cell_at hB 5
  have r0 : wc.cell? ⟨(X + 1), 0, none⟩ = some (.string ⟨#[]⟩) := cell_at hR1 0
  have r1 : wc.cell? ⟨(X + 1), 1, none⟩ = some (.int .u64 0) := cell_at hR1 1
  have r2 : wc.cell? ⟨(X + 1), 2, none⟩ = some (.int .i64 0) := cell_at hR1 2
  have r3 : wc.cell? ⟨(X + 1), 3, none⟩ = some (.int .i64 0) := cell_at hR1 3
  have r4 : wc.cell? ⟨(X + 1), 4, none⟩ = some (.bool false) := cell_at hR1 4
  have r5 : wc.cell? ⟨(X + 1), 5, none⟩ = some (.string ⟨#[]⟩) := cell_at hR1 5
  have s0 : wc.cell? ⟨(X + 1 + 1), 0, none⟩ = some (.string ⟨#[]⟩) := cell_at hR2 0
  have s1 : wc.cell? ⟨(X + 1 + 1), 1, none⟩ = some (.int .u64 0) := cell_at hR2 1
  have s2 : wc.cell? ⟨(X + 1 + 1), 2, none⟩ = some (.int .i64 0) := cell_at hR2 2
  have s3 : wc.cell? ⟨(X + 1 + 1), 3, none⟩ = some (.int .i64 0) := cell_at hR2 3
  have s4 : wc.cell? ⟨(X + 1 + 1), 4, none⟩ = some (.bool false) := cell_at hR2 4
  have s5 : wc.cell? ⟨(X + 1 + 1), 5, none⟩ = some (.string ⟨#[]⟩) := cell_at hR2 5
  have rf : ∀ i, wc.frozen? ⟨X + 1, i, none⟩ = false := free_at hR1
  have sf : ∀ i, wc.frozen? ⟨X + 1 + 1, i, none⟩ = false := free_at hR2
  have HHB := Lib.hid hB
  have HOB := Lib.hid hoB
  have HR1 := Lib.hid hR1
  have HR2 := Lib.hid hR2
  have HSXX := Lib.hid hsx
  clear hB hoB hR1 hR2 hsx
  clear hrb
  go_upto_region 6 with (fail)
  have hR1d : wc.drew.heap[X + 1]? = some (.cells #[.string ⟨#[]⟩, .int .u64 0, .int .i64 0, .int .i64 0, .bool false, .string ⟨#[]⟩] 33 (0, 0)) := HR1.out
  have hR2d : wc.drew.heap[X + 1 + 1]? = some (.cells #[.string ⟨#[]⟩, .int .u64 0, .int .i64 0, .int .i64 0, .bool false, .string ⟨#[]⟩] 35 (0, 0)) := HR2.out
  have hn5 : ¬ X + 1 + 1 = X + 1 := by omega
  go_region_held3 (fun w' => w'.cell? ⟨B, 0, none⟩ = some (.string (keyB (1 + (q : Int)) N)) ∧ w'.cell? ⟨B, 1, none⟩ = some (.int .u64 ((lf * 2 ^ 32 + cnt : Nat))) ∧ w'.cell? ⟨B, 2, none⟩ = some (.int .i64 (1 + (q : Int))) ∧ w'.cell? ⟨B, 3, none⟩ = some (.int .i64 age) ∧ w'.cell? ⟨B, 4, none⟩ = some (.bool gone) ∧ w'.cell? ⟨B, 5, none⟩ = some (.string D))
    (first
      | (with_reducible assumption)
      | (with_reducible exact ⟨keepD b0, keepD b1, keepD b2, keepD b3, keepD b4, keepD b5⟩)
      | (with_reducible exact keep6 (fun _ _ h => keepD (Only.cell (six_set HR1.out _ _ _ _ _ _).2 h hn1)) ⟨b0, b1, b2, b3, b4, b5⟩)
      | (with_reducible exact keep6 (fun _ _ h => keepD (Only.cell (six_set (Only.old (six_set HR1.out _ _ _ _ _ _).2 HR2.out hn5) _ _ _ _ _ _).2 (Only.cell (six_set HR1.out _ _ _ _ _ _).2 h hn1) hn2)) ⟨b0, b1, b2, b3, b4, b5⟩))
    (fail)
  go_wp2_with fail
  clear s0 s1 s3 s4 s5 r0 r1 r2 r3 r4 r5 sf rf
  clear s2
  obtain ⟨s1, s2⟩ := six_set HR1.out (.string (keyB (1 + (q : Int)) N)) (.int .u64 ((lf : Int) * 4294967296 + (cnt : Int))) (.int .i64 (1 + (q : Int))) (.int .i64 age) (.bool gone) (.string D)
  generalize ((((((wc.setCell ⟨(X + 1), 0, none⟩ (.string (keyB (1 + (q : Int)) N))).setCell ⟨(X + 1), 1, none⟩ (.int .u64 ((lf : Int) * 4294967296 + (cnt : Int)))).setCell ⟨(X + 1), 2, none⟩ (.int .i64 (1 + (q : Int)))).setCell ⟨(X + 1), 3, none⟩ (.int .i64 age)).setCell ⟨(X + 1), 4, none⟩ (.bool gone)).setCell ⟨(X + 1), 5, none⟩ (.string D)) = wy at *
  have p0 : wy.cell? ⟨(X + 1), 0, none⟩ = some (.string (keyB (1 + (q : Int)) N)) := cell_at s1 0
  have p1 : wy.cell? ⟨(X + 1), 1, none⟩ = some (.int .u64 ((lf : Int) * 4294967296 + (cnt : Int))) := cell_at s1 1
  have p2 : wy.cell? ⟨(X + 1), 2, none⟩ = some (.int .i64 (1 + (q : Int))) := cell_at s1 2
  have p3 : wy.cell? ⟨(X + 1), 3, none⟩ = some (.int .i64 age) := cell_at s1 3
  have p4 : wy.cell? ⟨(X + 1), 4, none⟩ = some (.bool gone) := cell_at s1 4
  have p5 : wy.cell? ⟨(X + 1), 5, none⟩ = some (.string D) := cell_at s1 5
  have t1 := s2
  have hR2' := t1.old HR2.out (by omega)
  have hR1' := s1
  clear s1 s2 p0 p1 p2 p3 p4 p5
  obtain ⟨s1, s2⟩ := six_set hR2' (.string (keyB (1 + (q : Int)) N)) (.int .u64 ((lf : Int) * 4294967296 + (cnt : Int))) (.int .i64 (1 + (q : Int))) (.int .i64 age) (.bool gone) (.string D)
  generalize ((((((wy.setCell ⟨(X + 1 + 1), 0, none⟩ (.string (keyB (1 + (q : Int)) N))).setCell ⟨(X + 1 + 1), 1, none⟩ (.int .u64 ((lf : Int) * 4294967296 + (cnt : Int)))).setCell ⟨(X + 1 + 1), 2, none⟩ (.int .i64 (1 + (q : Int)))).setCell ⟨(X + 1 + 1), 3, none⟩ (.int .i64 age)).setCell ⟨(X + 1 + 1), 4, none⟩ (.bool gone)).setCell ⟨(X + 1 + 1), 5, none⟩ (.string D)) = wz at *
  have p0 : wz.cell? ⟨(X + 1 + 1), 0, none⟩ = some (.string (keyB (1 + (q : Int)) N)) := cell_at s1 0
  have p1 : wz.cell? ⟨(X + 1 + 1), 1, none⟩ = some (.int .u64 ((lf : Int) * 4294967296 + (cnt : Int))) := cell_at s1 1
  have p2 : wz.cell? ⟨(X + 1 + 1), 2, none⟩ = some (.int .i64 (1 + (q : Int))) := cell_at s1 2
  have p3 : wz.cell? ⟨(X + 1 + 1), 3, none⟩ = some (.int .i64 age) := cell_at s1 3
  have p4 : wz.cell? ⟨(X + 1 + 1), 4, none⟩ = some (.bool gone) := cell_at s1 4
  have p5 : wz.cell? ⟨(X + 1 + 1), 5, none⟩ = some (.string D) := cell_at s1 5
  have hR1z := s2.old hR1' (by omega)
  have o0 : wz.cell? ⟨(X + 1), 0, none⟩ = some (.string (keyB (1 + (q : Int)) N)) := cell_at hR1z 0
  have o1 : wz.cell? ⟨(X + 1), 1, none⟩ = some (.int .u64 ((lf : Int) * 4294967296 + (cnt : Int))) := cell_at hR1z 1
  have o2 : wz.cell? ⟨(X + 1), 2, none⟩ = some (.int .i64 (1 + (q : Int))) := cell_at hR1z 2
  have o3 : wz.cell? ⟨(X + 1), 3, none⟩ = some (.int .i64 age) := cell_at hR1z 3
  have o4 : wz.cell? ⟨(X + 1), 4, none⟩ = some (.bool gone) := cell_at hR1z 4
  have o5 : wz.cell? ⟨(X + 1), 5, none⟩ = some (.string D) := cell_at hR1z 5
  refine bodyPost_ret (v := .tuple #[.agg #[.string (keyB (1 + (q : Int)) N), .int .u64 ((lf : Int) * 4294967296 + (cnt : Int)), .int .i64 (1 + (q : Int)), .int .i64 age, .bool gone, .string D], .agg #[.string (keyB (1 + (q : Int)) N), .int .u64 ((lf : Int) * 4294967296 + (cnt : Int)), .int .i64 (1 + (q : Int)), .int .i64 age, .bool gone, .string D]]) (by simp [results, Tryd.results13, go_sem, p0, p1, p2, p3, p4, p5, o0, o1, o2, o3, o4, o5]) rfl ?_
  refine ⟨rfl, ?_⟩
  have h1 := HOA.out.trans HOB.out
  have h2 := HSXX.out
  have h3 := HXW.out
  exact ((h1.tr t1 (fun i hi e => by omega)).tr s2 (fun i hi e => by omega)).drew
end Go.Proofs.YtjdlcfllmpdffaaDoor
/-! Records put in any order make the same store, plainly. -/
namespace Go.Proofs.YtjdlcfllmpdffaaDoor
open Go.Conc Go.RowKit

theorem nodup_le {α : Type} [DecidableEq α] : ∀ (l K : List α), l.Nodup → (∀ x ∈ l, x ∈ K) → l.length ≤ K.length
  | [], _, _, _ => Nat.zero_le _
  | x :: l, K, h, hs => by
    obtain ⟨h1, h2⟩ := List.nodup_cons.1 h
    have hx := hs x (by simp)
    have := nodup_le l (K.erase x) h2 (fun y hy => by
      have hne : y ≠ x := fun e => h1 (e ▸ hy)
      exact (List.mem_erase_of_ne hne).2 (hs y (by simp [hy])))
    rw [List.length_erase_of_mem hx] at this
    have := List.length_pos_of_mem hx
    simp
    omega
/-- What a store holds in which all of P were put: of each key the greatest. -/
structure Mrg (P : RecT → Prop) (L : List RecT) : Prop where
  ok : StoreOk 48 9 L
  sub : ∀ y ∈ L, P y
  top : ∀ x, P x → ∃ y ∈ L, y.key = x.key ∧ x.ver ≤ y.ver
theorem Mrg.empty : Mrg (fun _ => False) [] := ⟨StoreOk.empty (by omega) (by omega) (by omega) (by omega), (fun _ h => by cases h), (fun _ h => False.elim h)⟩
theorem Mrg.congr {P Q : RecT → Prop} {L : List RecT} (h : Mrg P L) (e : ∀ x, P x ↔ Q x) : Mrg Q L := ⟨h.ok, fun y hy => (e y).1 (h.sub y hy), fun x hx => h.top x ((e x).2 hx)⟩
theorem keys_room {L : List RecT} (h : Rising L) {K : List ByteArray} (hk : ∀ y ∈ L, y.key ∈ K) : L.length ≤ K.length := by
  have := nodup_le (L.map (·.key)) K (by
    unfold List.Nodup
    rw [List.pairwise_map]
    exact rising_keys h) (fun x hx => by
    obtain ⟨y, hy, rfl⟩ := List.mem_map.1 hx
    exact hk y hy)
  simpa using this
theorem Mrg.put {P : RecT → Prop} {L : List RecT} (h : Mrg P L) {x : RecT} (hg : goodR x = true) (ha : x.age < 9) (hroom : L.length < 48) : Mrg (fun y => P y ∨ y = x) (putS 48 9 L x) := by
  have hE : putE 48 9 L x = putFE 48 L.length x.ver (findS L x.key) := by
    unfold putE
    rw [hg, if_neg (by decide), if_neg (by omega)]
  cases hf : findS L x.key with
  | none =>
    have e0 : putE 48 9 L x = 0 := by rw [hE, hf]; exact if_neg (by omega)
    have hS : putS 48 9 L x = insS x L := by unfold putS; rw [if_pos e0]
    refine ⟨h.ok.put x, fun y hy => ?_, fun z hz => ?_⟩
    · rw [hS] at hy
      rcases (mem_insS h.ok.rises).1 hy with rfl | ⟨hy, _⟩
      · exact .inr rfl
      · exact .inl (h.sub y hy)
    · rw [hS]
      rcases hz with hz | rfl
      · obtain ⟨y, hy, h1, h2⟩ := h.top z hz
        exact ⟨y, (mem_insS h.ok.rises).2 (.inr ⟨hy, findS_none hf y hy⟩), h1, h2⟩
      · exact ⟨z, (mem_insS h.ok.rises).2 (.inl rfl), rfl, Nat.le_refl _⟩
  | some y0 =>
    obtain ⟨hy0, hk0⟩ := findS_some hf
    by_cases hv : x.ver ≤ y0.ver
    · have e13 : putE 48 9 L x = 13 := by rw [hE, hf]; exact if_pos hv
      have hS : putS 48 9 L x = L := by unfold putS; rw [e13]; rfl
      rw [hS]
      refine ⟨h.ok, fun y hy => .inl (h.sub y hy), fun z hz => ?_⟩
      rcases hz with hz | rfl
      · exact h.top z hz
      · exact ⟨y0, hy0, hk0, hv⟩
    · have e0 : putE 48 9 L x = 0 := by rw [hE, hf]; exact if_neg hv
      have hS : putS 48 9 L x = insS x L := by unfold putS; rw [if_pos e0]
      refine ⟨h.ok.put x, fun y hy => ?_, fun z hz => ?_⟩
      · rw [hS] at hy
        rcases (mem_insS h.ok.rises).1 hy with rfl | ⟨hy, _⟩
        · exact .inr rfl
        · exact .inl (h.sub y hy)
      · rw [hS]
        rcases hz with hz | rfl
        · obtain ⟨y, hy, h1, h2⟩ := h.top z hz
          by_cases hk : y.key = x.key
          · have : y = y0 := by
              have := findS_mem h.ok.rises hy
              rw [hk, hf] at this
              exact (Option.some.inj this).symm
            subst this
            exact ⟨x, (mem_insS h.ok.rises).2 (.inl rfl), by rw [← h1, hk], by omega⟩
          · exact ⟨y, (mem_insS h.ok.rises).2 (.inr ⟨hy, hk⟩), h1, h2⟩
        · exact ⟨z, (mem_insS h.ok.rises).2 (.inl rfl), rfl, Nat.le_refl _⟩
theorem Mrg.unique {P : RecT → Prop} {L M : List RecT} (hL : Mrg P L) (hM : Mrg P M) (hu : ∀ x y, P x → P y → x.key = y.key → x.ver = y.ver → x = y) : L = M := by
  have half : ∀ {A B : List RecT}, Mrg P A → Mrg P B → ∀ x ∈ A, x ∈ B := by
    intro A B hA hB x hx
    obtain ⟨y, hy, h1, h2⟩ := hB.top x (hA.sub x hx)
    obtain ⟨z, hz, h3, h4⟩ := hA.top y (hB.sub y hy)
    have hzx : z = x := by
      have e1 := findS_mem hA.ok.rises hz
      have e2 := findS_mem hA.ok.rises hx
      rw [h3, h1, e2] at e1
      exact (Option.some.inj e1).symm
    subst hzx
    have := hu z y (hA.sub z hz) (hB.sub y hy) h1.symm (by omega)
    rw [this]
    exact hy
  exact rising_ext hL.ok.rises hM.ok.rises (fun x => ⟨half hL hM x, half hM hL x⟩)

/-! the records of StoreMerges -/
def mAct (a : ActT) : ActT := ⟨0, a.org, a.nm, 1 + a.life % 2, a.cnt, 0, decide (a.cnt % 2 = 1), false⟩
def mRec (a : ActT) : RecT := recOf (mAct a)
def keys16 : List ByteArray := [1, 2, 3, 4].flatMap (fun o => [0, 1, 2, 3].map (fun n => keyB (o : Nat) (nameB n)))
theorem orgN_bd (a : ActT) : 1 ≤ orgN a ∧ orgN a ≤ 4 := by
  have h1 := Int.emod_nonneg a.org (show (4 : Int) ≠ 0 by omega)
  have h2 := Int.emod_lt_of_pos a.org (show (0 : Int) < 4 by omega)
  unfold orgN
  omega
theorem name_named (n : Nat) : namedP (nameB (n % 4)) = true := by
  have : n % 4 < 4 := Nat.mod_lt _ (by omega)
  generalize n % 4 = z at *
  rcases (by omega : z = 0 ∨ z = 1 ∨ z = 2 ∨ z = 3) with rfl | rfl | rfl | rfl <;> decide +kernel
theorem org_node (a : ActT) : nodeB (orgN a : Nat) = true := by
  obtain ⟨h1, h2⟩ := orgN_bd a
  unfold nodeB
  rw [decide_eq_true (show (1 : Int) ≤ (orgN a : Nat) by omega), decide_eq_true (show ((orgN a : Nat) : Int) ≤ 65535 by omega)]
  rfl
theorem rec_key (a : ActT) : splitN (recOf a).key = orgN a ∧ splitS (recOf a).key = nameB (a.nm % 4) ∧ splitE (recOf a).key = 0 := split_key (org_node a) (name_named a.nm)
theorem mRec_key16 (a : ActT) : (mRec a).key ∈ keys16 := by
  obtain ⟨h1, h2⟩ := orgN_bd (mAct a)
  have h3 : a.nm % 4 < 4 := Nat.mod_lt _ (by omega)
  show keyB (orgN (mAct a) : Nat) (nameB (a.nm % 4)) ∈ keys16
  generalize orgN (mAct a) = o at *
  generalize a.nm % 4 = z at *
  unfold keys16
  refine List.mem_flatMap.2 ⟨o, ?_, List.mem_map.2 ⟨z, ?_, rfl⟩⟩
  · rcases (by omega : o = 1 ∨ o = 2 ∨ o = 3 ∨ o = 4) with rfl | rfl | rfl | rfl <;> simp
  · rcases (by omega : z = 0 ∨ z = 1 ∨ z = 2 ∨ z = 3) with rfl | rfl | rfl | rfl <;> simp
theorem mRec_good (a : ActT) (hc : a.cnt < 256) : goodR (mRec a) = true := by
  obtain ⟨h1, h2, h3⟩ := rec_key (mAct a)
  have hv : (mRec a).ver = (1 + a.life % 2) % 4 * 2 ^ 32 + a.cnt := rfl
  have hd : (mRec a).data.size = if (mRec a).gone then 0 else 10 := by
    show (dataOf (decide (a.cnt % 2 = 1)) false).size = if decide (a.cnt % 2 = 1) then 0 else 10
    cases decide (a.cnt % 2 = 1) <;> rfl
  unfold goodR goodP
  have h4 : splitE (mRec a).key = 0 := h3
  have h5 : splitN (mRec a).key = (mRec a).o := h1
  rw [h4, h5, hv, decide_eq_true hd, decide_eq_true (show 0 < ((1 + a.life % 2) % 4 * 2 ^ 32 + a.cnt) / 2 ^ 32 by omega), decide_eq_true (show (0 : Int) ≤ (mRec a).age from Int.le_refl _), decide_eq_true (show (mRec a).age ≤ 65535 by show (0 : Int) ≤ 65535; omega)]
  simp
theorem mRec_unique (a b : ActT) (ha : a.cnt < 256) (hb : b.cnt < 256) (hk : (mRec a).key = (mRec b).key) (hv : (mRec a).ver = (mRec b).ver) : mRec a = mRec b := by
  obtain ⟨h1, _, _⟩ := rec_key (mAct a)
  obtain ⟨h2, _, _⟩ := rec_key (mAct b)
  have hk' : (recOf (mAct a)).key = (recOf (mAct b)).key := hk
  have ho : ((orgN (mAct a) : Nat) : Int) = (orgN (mAct b) : Nat) := by rw [← h1, ← h2, hk']
  have hv' : (1 + a.life % 2) % 4 * 2 ^ 32 + a.cnt = (1 + b.life % 2) % 4 * 2 ^ 32 + b.cnt := hv
  have hc : a.cnt = b.cnt := by omega
  refine RecT.ext' hk hv ho rfl ?_ ?_
  · show decide (a.cnt % 2 = 1) = decide (b.cnt % 2 = 1)
    rw [hc]
  · show dataOf (decide (a.cnt % 2 = 1)) false = dataOf (decide (b.cnt % 2 = 1)) false
    rw [hc]
/-- Which record is put in which turn. -/
def turnK (t n i : Nat) (back : Bool) : Nat := if back then n - 1 - (i + t) % n else (i + t) % n
theorem turnK_lt {t n i : Nat} (h : 0 < n) (back : Bool) : turnK t n i back < n := by
  have := Nat.mod_lt (i + t) h
  unfold turnK
  split <;> omega
theorem turnK_all {t n : Nat} (ht : t < n) (back : Bool) (j : Nat) (hj : j < n) : ∃ i, i < n ∧ turnK t n i back = j := by
  have key : ∀ j, j < n → ∃ i, i < n ∧ (i + t) % n = j := fun j hj => by
    refine ⟨(j + n - t) % n, Nat.mod_lt _ (by omega), ?_⟩
    rw [Nat.mod_add_mod, show j + n - t + t = j + n by omega, Nat.add_mod_right, Nat.mod_eq_of_lt hj]
  cases back with
  | false => exact key j hj
  | true =>
    obtain ⟨i, hi, he⟩ := key (n - 1 - j) (by omega)
    refine ⟨i, hi, ?_⟩
    unfold turnK
    rw [if_pos rfl, he]
    omega
end Go.Proofs.YtjdlcfllmpdffaaDoor
/-! Two stores that tell one another what they have, plainly. -/
namespace Go.Proofs.YtjdlcfllmpdffaaDoor
open Go.Conc Go.RowKit

theorem hasB_of {L : List RecT} {k : ByteArray} {v : Nat} {y : RecT} (h : findS L k = some y) (hv : v ≤ y.ver) : hasB L k v = true := by
  unfold hasB findV
  rw [h]
  simp [hv]
theorem hasB_out {L : List RecT} {k : ByteArray} {v : Nat} (h : hasB L k v = true) : ∃ y, findS L k = some y ∧ v ≤ y.ver := by
  unfold hasB findV at h
  cases hf : findS L k with
  | none => rw [hf] at h; cases h
  | some y => rw [hf] at h; exact ⟨y, rfl, by simpa using h⟩
theorem hasB_mem {L : List RecT} (h : Rising L) {x : RecT} (hx : x ∈ L) {v : Nat} (hv : v ≤ x.ver) : hasB L x.key v = true := hasB_of (findS_mem h hx) hv
theorem hasB_le {L : List RecT} {k : ByteArray} {v u : Nat} (h : hasB L k v = true) (hu : u ≤ v) : hasB L k u = true := by
  obtain ⟨y, h1, h2⟩ := hasB_out h
  exact hasB_of h1 (by omega)
theorem has_put_old {most ttl : Int} {L : List RecT} (h : StoreOk most ttl L) (x : RecT) {k : ByteArray} {v : Nat} (hh : hasB L k v = true) : hasB (putS most ttl L x) k v = true := by
  unfold putS
  split
  · rename_i e
    have h1 := putE_zero e
    obtain ⟨y, hy, hv⟩ := hasB_out hh
    by_cases hk : k = x.key
    · subst hk
      refine hasB_of (findS_ins_same h.rises x) ?_
      unfold putE at e
      rw [h1.1, if_neg (by decide), if_neg (by have := h1.2.1; omega), hy] at e
      unfold putFE at e
      simp only at e
      split at e
      · cases e
      · omega
    · refine hasB_of (y := y) ?_ hv
      rw [findS_ins_other h.rises x hk]
      exact hy
  · exact hh
theorem has_put_new {most ttl : Int} {L : List RecT} (h : StoreOk most ttl L) {x : RecT} (hg : goodR x = true) (ha : x.age < ttl) (hr : (L.length : Int) < most) : hasB (putS most ttl L x) x.key x.ver = true := by
  have hE : putE most ttl L x = putFE most L.length x.ver (findS L x.key) := by
    unfold putE
    rw [hg, if_neg (by decide), if_neg (by omega)]
  cases hf : findS L x.key with
  | none =>
    have e0 : putE most ttl L x = 0 := by rw [hE, hf]; exact if_neg (by omega)
    unfold putS
    rw [if_pos e0]
    exact hasB_of (findS_ins_same h.rises x) (Nat.le_refl _)
  | some y =>
    by_cases hv : x.ver ≤ y.ver
    · have e13 : putE most ttl L x = 13 := by rw [hE, hf]; exact if_pos hv
      unfold putS
      rw [e13, if_neg (by decide)]
      exact hasB_of hf hv
    · have e0 : putE most ttl L x = 0 := by rw [hE, hf]; exact if_neg hv
      unfold putS
      rw [if_pos e0]
      exact hasB_of (findS_ins_same h.rises x) (Nat.le_refl _)
theorem mem_put {most ttl : Int} {L : List RecT} (h : StoreOk most ttl L) {x y : RecT} (hy : y ∈ putS most ttl L x) : y ∈ L ∨ y = x := by
  unfold putS at hy
  split at hy
  · rcases (mem_insS h.rises).1 hy with rfl | ⟨hy, _⟩
    · exact .inr rfl
    · exact .inl hy
  · exact .inl hy
/-- Records whose keys lie in K, good, young. -/
def AllB (K : List ByteArray) (A : Int) (l : List RecT) : Prop := ∀ x ∈ l, goodR x = true ∧ x.key ∈ K ∧ x.age ≤ A
theorem AllB.sub {K : List ByteArray} {A : Int} {l l' : List RecT} (h : AllB K A l) (hs : ∀ x ∈ l', x ∈ l) : AllB K A l' := fun x hx => h x (hs x hx)
theorem AllB.le {K : List ByteArray} {A A' : Int} {l : List RecT} (h : AllB K A l) (hA : A ≤ A') : AllB K A' l := fun x hx => ⟨(h x hx).1, (h x hx).2.1, by have := (h x hx).2.2; omega⟩
theorem AllB.put {K : List ByteArray} {A most ttl : Int} {L : List RecT} (h : AllB K A L) (hok : StoreOk most ttl L) {x : RecT} (hx : goodR x = true ∧ x.key ∈ K ∧ x.age ≤ A) : AllB K A (putS most ttl L x) := fun y hy => by
  rcases mem_put hok hy with hy | rfl
  · exact h y hy
  · exact hx
theorem AllB.room {K : List ByteArray} {A most ttl : Int} {L : List RecT} (h : AllB K A L) (hok : StoreOk most ttl L) (hK : (K.length : Int) < most) : (L.length : Int) < most := by
  have := keys_room hok.rises (fun y hy => (h y hy).2.1)
  omega
theorem takes_ok {most ttl : Int} : ∀ (l : List RecT) {L : List RecT}, StoreOk most ttl L → StoreOk most ttl (takeS most ttl L l)
  | [], _, h => h
  | x :: l, _, h => takes_ok l (h.put x)
theorem take_old {most ttl : Int} : ∀ (l : List RecT) {L : List RecT}, StoreOk most ttl L → ∀ {k : ByteArray} {v : Nat}, hasB L k v = true → hasB (takeS most ttl L l) k v = true
  | [], _, _, _, _, h => h
  | x :: l, _, hok, _, _, h => take_old l (hok.put x) (has_put_old hok x h)
theorem take_mem {most ttl : Int} : ∀ (l : List RecT) {L : List RecT}, StoreOk most ttl L → ∀ {y : RecT}, y ∈ takeS most ttl L l → y ∈ L ∨ y ∈ l
  | [], _, _, _, h => .inl h
  | x :: l, _, hok, y, h => by
    rcases take_mem l (hok.put x) (y := y) h with h | h
    · rcases mem_put hok h with h | rfl
      · exact .inl h
      · exact .inr (by simp)
    · exact .inr (by simp [h])
theorem take_new {K : List ByteArray} {A most ttl : Int} (hK : (K.length : Int) < most) (hA : A < ttl) : ∀ (l : List RecT) {L : List RecT}, StoreOk most ttl L → AllB K A L → AllB K A l → ∀ x ∈ l, hasB (takeS most ttl L l) x.key x.ver = true
  | [], _, _, _, _, _, h => by cases h
  | z :: l, L, hok, hL, hl, x, hx => by
    have hz := hl z (by simp)
    have hp := hL.put hok hz
    rcases List.mem_cons.1 hx with rfl | hx
    · exact take_old l (hok.put x) (has_put_new hok hz.1 (by omega) (hL.room hok hK))
    · exact take_new hK hA l (hok.put z) hp (hl.sub (fun y hy => by simp [hy])) x hx
theorem AllB.take {K : List ByteArray} {A most ttl : Int} {L l : List RecT} (hL : AllB K A L) (hok : StoreOk most ttl L) (hl : AllB K A l) : AllB K A (takeS most ttl L l) := fun y hy => by
  rcases take_mem l hok hy with h | h
  · exact hL y h
  · exact hl y h
theorem sentR_age {x : RecT} {A : Int} (h0 : 0 ≤ x.age) (h : x.age ≤ A) (hA : A ≤ 65533) : (sentR x).age = x.age + 2 := by
  show min (max x.age 0) 65533 + 2 = _
  omega
theorem good_sent {x : RecT} (h : goodR x = true) (ha : (sentR x).age ≤ 65535) : goodR (sentR x) = true := by
  unfold goodR goodP at h ⊢
  unfold sentR at ha ⊢
  simp only [Bool.and_eq_true, decide_eq_true_eq] at h ha ⊢
  obtain ⟨⟨⟨h1, h2⟩, h3⟩, h4⟩ := h
  exact ⟨⟨⟨h1, by omega⟩, ha⟩, h4⟩
theorem AllB.sent {K : List ByteArray} {A ttl : Int} {l : List RecT} (h : AllB K A l) (h0 : ∀ x ∈ l, 0 ≤ x.age) (hA : A ≤ 65533) : AllB K (A + 2) (sentL ttl l) := fun x hx => by
  obtain ⟨y, hy, rfl⟩ := List.mem_map.1 (List.mem_filter.1 hx).1
  obtain ⟨h1, h2, h3⟩ := h y hy
  have h4 := sentR_age (h0 y hy) h3 hA
  exact ⟨good_sent h1 (by omega), h2, by omega⟩
theorem sent_in {A ttl : Int} {l : List RecT} {x : RecT} (hx : x ∈ l) (h0 : 0 ≤ x.age) (h : x.age ≤ A) (hA : A + 2 < ttl) (ht : ttl ≤ 65535) : sentR x ∈ sentL ttl l :=
  List.mem_filter.2 ⟨List.mem_map.2 ⟨x, hx, rfl⟩, by have := sentR_age h0 h (by omega); simp; omega⟩
theorem give_in {L : List RecT} {p : ByteArray × Nat} {y : RecT} (hf : findS L p.1 = some y) : ∀ (I : List (ByteArray × Nat)) (seen : List ByteArray), p ∈ I → p.1 ∉ seen → y ∈ giveA L seen I
  | [], _, h, _ => by cases h
  | q :: I, seen, h, hs => by
    unfold giveA
    by_cases hq : q.1 = p.1
    · refine List.mem_append.2 (.inl ?_)
      rw [if_neg (by rw [hq]; simp only [List.any_eq_true, decide_eq_true_eq, not_exists, not_and]; exact fun x hx e => hs (by rw [← e]; exact hx)), hq, hf]
      simp
    · refine List.mem_append.2 (.inr ?_)
      rcases List.mem_cons.1 h with rfl | h
      · exact absurd rfl hq
      · exact give_in hf I (q.1 :: seen) h (fun hm => by
          rcases List.mem_cons.1 hm with e | hm
          · exact hq e.symm
          · exact hs hm)
theorem newer_or {L : List RecT} {I : List (ByteArray × Nat)} {x : RecT} (hx : x ∈ L) : toldB I x.key x.ver = true ∨ x ∈ newerL L I := by
  cases h : toldB I x.key x.ver with
  | true => exact .inl rfl
  | false => exact .inr (List.mem_filter.2 ⟨hx, by rw [h]; rfl⟩)
theorem told_out {I : List (ByteArray × Nat)} {k : ByteArray} {v : Nat} (h : toldB I k v = true) : ∃ p ∈ I, p.1 = k ∧ v ≤ p.2 := by
  unfold toldB at h
  obtain ⟨p, hp, h1⟩ := List.any_eq_true.1 h
  simp only [Bool.and_eq_true, decide_eq_true_eq] at h1
  exact ⟨p, hp, h1.1, h1.2⟩
theorem wanted_or {L : List RecT} {I : List (ByteArray × Nat)} {p : ByteArray × Nat} (hp : p ∈ I) : hasB L p.1 p.2 = true ∨ p ∈ wantedL L I := by
  cases h : hasB L p.1 p.2 with
  | true => exact .inl rfl
  | false => exact .inr (List.mem_filter.2 ⟨hp, by rw [h]; rfl⟩)
/-- What the one that asked has behind it, and the other one. -/
def xchA (ttl : Int) (A B : List RecT) : List RecT := takeS 48 ttl A (sentL ttl (newerL B (A.map toId)))
def xchB (ttl : Int) (A B : List RecT) : List RecT := takeS 48 ttl B (sentL ttl (giveL A (wantedL B (A.map toId))))
structure Xch (K : List ByteArray) (a ttl : Int) (A B : List RecT) : Prop where
  okA : StoreOk 48 ttl A
  okB : StoreOk 48 ttl B
  allA : AllB K a A
  allB : AllB K a B
  ageA : ∀ x ∈ A, 0 ≤ x.age
  ageB : ∀ x ∈ B, 0 ≤ x.age
  room : K.length < 48
  young : a + 2 < ttl
section
variable {K : List ByteArray} {a ttl : Int} {A B : List RecT}
theorem Xch.ttlB (h : Xch K a ttl A B) : ttl ≤ 65535 := h.okA.ttlB.2
theorem Xch.newer (h : Xch K a ttl A B) (I : List (ByteArray × Nat)) : AllB K (a + 2) (sentL ttl (newerL B I)) :=
  (h.allB.sub (fun _ hx => (List.mem_filter.1 hx).1)).sent (fun x hx => h.ageB x (List.mem_filter.1 hx).1) (by have := h.ttlB; have := h.young; omega)
theorem Xch.given (h : Xch K a ttl A B) (I : List (ByteArray × Nat)) : AllB K (a + 2) (sentL ttl (giveL A I)) :=
  (h.allA.sub (fun x hx => (give_mem A I []).2 x hx)).sent (fun x hx => h.ageA x ((give_mem A I []).2 x hx)) (by have := h.ttlB; have := h.young; omega)
theorem Xch.hasA (h : Xch K a ttl A B) : (∀ x ∈ A, hasB (xchA ttl A B) x.key x.ver = true) ∧ ∀ x ∈ B, hasB (xchA ttl A B) x.key x.ver = true := by
  have h1 : ∀ x ∈ A, hasB (xchA ttl A B) x.key x.ver = true := fun x hx => take_old _ h.okA (hasB_mem h.okA.rises hx (Nat.le_refl _))
  refine ⟨h1, fun x hx => ?_⟩
  rcases newer_or (I := A.map toId) hx with e | e
  · obtain ⟨p, hp, e1, e2⟩ := told_out e
    obtain ⟨y, hy, rfl⟩ := List.mem_map.1 hp
    have := h1 y hy
    rw [show y.key = x.key from e1] at this
    exact hasB_le this e2
  · have := take_new (A := a + 2) (by have := h.room; omega) h.young _ h.okA (h.allA.le (by omega)) (h.newer _) (sentR x) (sent_in e (h.ageB x hx) (h.allB x hx).2.2 h.young h.ttlB)
    exact this
theorem Xch.hasB (h : Xch K a ttl A B) : (∀ x ∈ A, Go.Proofs.YtjdlcfllmpdffaaDoor.hasB (xchB ttl A B) x.key x.ver = true) ∧ ∀ x ∈ B, Go.Proofs.YtjdlcfllmpdffaaDoor.hasB (xchB ttl A B) x.key x.ver = true := by
  have h1 : ∀ x ∈ B, Go.Proofs.YtjdlcfllmpdffaaDoor.hasB (xchB ttl A B) x.key x.ver = true := fun x hx => take_old _ h.okB (hasB_mem h.okB.rises hx (Nat.le_refl _))
  refine ⟨fun x hx => ?_, h1⟩
  rcases wanted_or (L := B) (I := A.map toId) (p := toId x) (List.mem_map.2 ⟨x, hx, rfl⟩) with e | e
  · exact take_old _ h.okB e
  · have hg : x ∈ giveL A (wantedL B (A.map toId)) := give_in (p := toId x) (findS_mem h.okA.rises hx) _ [] e (by simp)
    have := take_new (A := a + 2) (by have := h.room; omega) h.young _ h.okB (h.allB.le (by omega)) (h.given _) (sentR x) (sent_in hg (h.ageA x hx) (h.allA x hx).2.2 h.young h.ttlB)
    exact this
theorem Xch.okA2 (h : Xch K a ttl A B) : StoreOk 48 ttl (xchA ttl A B) := takes_ok _ h.okA
theorem Xch.okB2 (h : Xch K a ttl A B) : StoreOk 48 ttl (xchB ttl A B) := takes_ok _ h.okB
theorem sent_mem {l : List RecT} {y : RecT} (h : y ∈ sentL ttl l) : ∃ x ∈ l, y = sentR x := by
  obtain ⟨x, hx, rfl⟩ := List.mem_map.1 (List.mem_filter.1 h).1
  exact ⟨x, hx, rfl⟩
theorem Xch.memA (h : Xch K a ttl A B) {y : RecT} (hy : y ∈ xchA ttl A B) : y ∈ A ∨ ∃ x ∈ B, y = sentR x := by
  rcases take_mem _ h.okA hy with h1 | h1
  · exact .inl h1
  · obtain ⟨x, hx, rfl⟩ := sent_mem h1
    exact .inr ⟨x, (List.mem_filter.1 hx).1, rfl⟩
theorem Xch.memB (h : Xch K a ttl A B) {y : RecT} (hy : y ∈ xchB ttl A B) : y ∈ B ∨ ∃ x ∈ A, y = sentR x := by
  rcases take_mem _ h.okB hy with h1 | h1
  · exact .inl h1
  · obtain ⟨x, hx, rfl⟩ := sent_mem h1
    exact .inr ⟨x, (give_mem A _ []).2 x hx, rfl⟩
/-- A record without its age. -/
def cz (x : RecT) : RecT := { x with age := 0 }
theorem Xch.same (h : Xch K a ttl A B) (hu : ∀ x y, (x ∈ A ∨ x ∈ B) → (y ∈ A ∨ y ∈ B) → x.key = y.key → x.ver = y.ver → cz x = cz y) : (xchA ttl A B).map cz = (xchB ttl A B).map cz := by
  have oA : ∀ y ∈ xchA ttl A B, ∃ x, (x ∈ A ∨ x ∈ B) ∧ cz y = cz x := fun y hy => by
    rcases h.memA hy with e | ⟨x, hx, rfl⟩
    · exact ⟨y, .inl e, rfl⟩
    · exact ⟨x, .inr hx, rfl⟩
  have oB : ∀ y ∈ xchB ttl A B, ∃ x, (x ∈ A ∨ x ∈ B) ∧ cz y = cz x := fun y hy => by
    rcases h.memB hy with e | ⟨x, hx, rfl⟩
    · exact ⟨y, .inr e, rfl⟩
    · exact ⟨x, .inl hx, rfl⟩
  have tA : ∀ x, (x ∈ A ∨ x ∈ B) → ∃ y ∈ xchA ttl A B, y.key = x.key ∧ x.ver ≤ y.ver := fun x hx => by
    obtain ⟨y, hy, hv⟩ := hasB_out (hx.elim (h.hasA.1 x) (h.hasA.2 x))
    exact ⟨y, (findS_some hy).1, (findS_some hy).2, hv⟩
  have tB : ∀ x, (x ∈ A ∨ x ∈ B) → ∃ y ∈ xchB ttl A B, y.key = x.key ∧ x.ver ≤ y.ver := fun x hx => by
    obtain ⟨y, hy, hv⟩ := hasB_out (hx.elim (h.hasB.1 x) (h.hasB.2 x))
    exact ⟨y, (findS_some hy).1, (findS_some hy).2, hv⟩
  have half : ∀ {P Q : List RecT}, StoreOk 48 ttl P → (∀ y ∈ P, ∃ x, (x ∈ A ∨ x ∈ B) ∧ cz y = cz x) → (∀ y ∈ Q, ∃ x, (x ∈ A ∨ x ∈ B) ∧ cz y = cz x) → (∀ x, (x ∈ A ∨ x ∈ B) → ∃ y ∈ P, y.key = x.key ∧ x.ver ≤ y.ver) → (∀ x, (x ∈ A ∨ x ∈ B) → ∃ y ∈ Q, y.key = x.key ∧ x.ver ≤ y.ver) → ∀ z ∈ P.map cz, z ∈ Q.map cz := by
    intro P Q hP oP oQ tP tQ z hz
    obtain ⟨y, hy, rfl⟩ := List.mem_map.1 hz
    obtain ⟨x, hx, e1⟩ := oP y hy
    have k1 : y.key = x.key := show (cz y).key = (cz x).key by rw [e1]
    have v1 : y.ver = x.ver := show (cz y).ver = (cz x).ver by rw [e1]
    obtain ⟨q, hq, k2, v2⟩ := tQ x hx
    obtain ⟨x', hx', e2⟩ := oQ q hq
    have k3 : q.key = x'.key := show (cz q).key = (cz x').key by rw [e2]
    have v3 : q.ver = x'.ver := show (cz q).ver = (cz x').ver by rw [e2]
    obtain ⟨p, hp, k4, v4⟩ := tP x' hx'
    have hpy : p = y := by
      have f1 := findS_mem hP.rises hp
      have f2 := findS_mem hP.rises hy
      rw [k4, ← k3, k2, ← k1, f2] at f1
      exact (Option.some.inj f1).symm
    subst hpy
    have := hu x x' hx hx' (by rw [← k2, k3]) (by omega)
    rw [e1, this, ← e2]
    exact List.mem_map.2 ⟨q, hq, rfl⟩
  refine rising_ext (rising_map h.okA2.rises cz (fun _ => rfl)) (rising_map h.okB2.rises cz (fun _ => rfl)) (fun z => ⟨half h.okA2 oA oB tA tB z, half h.okB2 oB oA tB tA z⟩)
/-- Which version a key has. -/
def verOf (L : List RecT) (k : ByteArray) : Nat := match findS L k with | some y => y.ver | none => 0
theorem verOf_mem {L : List RecT} (h : Rising L) {x : RecT} (hx : x ∈ L) : verOf L x.key = x.ver := by unfold verOf; rw [findS_mem h hx]
theorem Xch.ver (h : Xch K a ttl A B) {y : RecT} (hy : y ∈ xchA ttl A B) : y.ver = max (verOf A y.key) (verOf B y.key) := by
  have hge : ∀ (L : List RecT), StoreOk 48 ttl L → (∀ x ∈ L, Go.Proofs.YtjdlcfllmpdffaaDoor.hasB (xchA ttl A B) x.key x.ver = true) → verOf L y.key ≤ y.ver := fun L hL hh => by
    unfold verOf
    cases hf : findS L y.key with
    | none => exact Nat.zero_le _
    | some z =>
      obtain ⟨z1, z2⟩ := findS_some hf
      obtain ⟨q, hq, hv⟩ := hasB_out (hh z z1)
      rw [z2, findS_mem h.okA2.rises hy] at hq
      cases hq
      exact hv
  have g1 := hge A h.okA h.hasA.1
  have g2 := hge B h.okB h.hasA.2
  rcases h.memA hy with e | ⟨x, hx, rfl⟩
  · have := verOf_mem h.okA.rises e
    omega
  · have := verOf_mem h.okB.rises hx
    have e1 : (sentR x).key = x.key := rfl
    have e2 : (sentR x).ver = x.ver := rfl
    rw [e1] at g1 g2 ⊢
    rw [e2] at g1 g2 ⊢
    omega
theorem ids_cz {P Q : List RecT} (h : P.map cz = Q.map cz) : P.map toId = Q.map toId := by
  have : ∀ L : List RecT, (L.map cz).map toId = L.map toId := fun L => by rw [List.map_map]; rfl
  rw [← this P, h, this Q]
theorem Xch.quiet (h : Xch K a ttl A B) (hs : (xchA ttl A B).map cz = (xchB ttl A B).map cz) : answerM ttl (xchA ttl A B) ((xchB ttl A B).map toId) = [] := by
  rw [← ids_cz hs]
  have h1 : wantedL (xchA ttl A B) ((xchA ttl A B).map toId) = [] := by
    unfold wantedL
    rw [List.filter_eq_nil_iff]
    intro p hp
    obtain ⟨x, hx, rfl⟩ := List.mem_map.1 hp
    rw [show Go.Proofs.YtjdlcfllmpdffaaDoor.hasB (xchA ttl A B) (toId x).1 (toId x).2 = true from hasB_mem h.okA2.rises hx (Nat.le_refl _)]
    decide
  have h2 : newerL (xchA ttl A B) ((xchA ttl A B).map toId) = [] := by
    unfold newerL
    rw [List.filter_eq_nil_iff]
    intro x hx
    have : toldB ((xchA ttl A B).map toId) x.key x.ver = true := by
      unfold toldB
      exact List.any_eq_true.2 ⟨toId x, List.mem_map.2 ⟨x, hx, rfl⟩, by simp [toId]⟩
    rw [this]
    decide
  unfold answerM
  rw [h1, h2]
  simp [wantM, sentL, packM]
end
end Go.Proofs.YtjdlcfllmpdffaaDoor
/-! SeedsRepair, plainly: rounds in which five stores tell one another what they have. -/
namespace Go.Proofs.YtjdlcfllmpdffaaDoor
open Go.Conc Go.RowKit

/-- A letter on its way. -/
structure LetT where
  frm : Int
  dst : Int
  m : MsgT
abbrev StT := Nat → List RecT
/-- What a store answers to a message, and what it holds behind it. -/
def outQ (m : MsgT) (L : List RecT) : List MsgT := if m.kind = 13 then answerM 1000 L m.ids else if m.kind = 14 then packM 14 (sentL 1000 (giveL (takeS 48 1000 L m.recs) m.ids)) else []
def stoQ (m : MsgT) (L : List RecT) : List RecT := if m.kind = 14 then takeS 48 1000 L m.recs else L
def updQ (st : StT) (i : Nat) (L : List RecT) : StT := fun j => if j = i then L else st j
/-- Who takes a letter: a node that is there. -/
def takesQ (up : Nat → Bool) (l : LetT) : Bool := decide (1 ≤ l.dst ∧ l.dst ≤ 5) && up (l.dst.toNat - 1)
def letQ (up : Nat → Bool) (s : StT × List LetT) (l : LetT) : StT × List LetT :=
  if takesQ up l then (updQ s.1 (l.dst.toNat - 1) (stoQ l.m (s.1 (l.dst.toNat - 1))), s.2 ++ (outQ l.m (s.1 (l.dst.toNat - 1))).map (fun m => ⟨l.dst, l.frm, m⟩)) else s
def lettersQ (up : Nat → Bool) (st : StT) (came : List LetT) : StT × List LetT := came.foldl (letQ up) (st, [])
/-- Whom a node asks in a round (0: nobody). -/
def askQ (ask : Nat → Nat → Nat) (up : Nat → Bool) (t : Nat) (st : StT) (i : Nat) : List LetT :=
  if up i && decide (ask t i ≠ 0) then [⟨(i + 1 : Nat), (ask t i : Nat), ⟨13, 0, 0, false, [], (st i).map toId, []⟩⟩] else []
def roundQ (ask : Nat → Nat → Nat) (up : Nat → Bool) (t : Nat) (s : StT × List LetT) : StT × List LetT :=
  let r := lettersQ up s.1 s.2
  (r.1, r.2 ++ (List.range 5).flatMap (askQ ask up t r.1))
def runQ (ask : Nat → Nat → Nat) (up : Nat → Bool) (st : StT) : Nat → StT × List LetT
  | 0 => (st, [])
  | t + 1 => roundQ ask up t (runQ ask up st t)
/-- What all stores and letters keep: good records with keys of K, not older than a. -/
structure GoodQ (K : List ByteArray) (a : Int) (st : StT) : Prop where
  ok : ∀ i, StoreOk 48 1000 (st i)
  all : ∀ i, AllB K a (st i)
  age : ∀ i, ∀ x ∈ st i, 0 ≤ x.age
def LetsQ (K : List ByteArray) (a : Int) (ls : List LetT) : Prop := ∀ l ∈ ls, AllB K a l.m.recs ∧ ∀ x ∈ l.m.recs, 0 ≤ x.age
/-- No store has less. -/
def LeQ (st st' : StT) : Prop := ∀ i k v, hasB (st i) k v = true → hasB (st' i) k v = true
theorem LeQ.refl (st : StT) : LeQ st st := fun _ _ _ h => h
theorem LeQ.trans {a b c : StT} (h : LeQ a b) (k : LeQ b c) : LeQ a c := fun i x v e => k i x v (h i x v e)
section
variable {K : List ByteArray} {a : Int} {up : Nat → Bool}
theorem GoodQ.le {a' : Int} {st : StT} (h : GoodQ K a st) (ha : a ≤ a') : GoodQ K a' st := ⟨h.ok, fun i => (h.all i).le ha, h.age⟩
theorem LetsQ.le {a' : Int} {ls : List LetT} (h : LetsQ K a ls) (ha : a ≤ a') : LetsQ K a' ls := fun l hl => ⟨(h l hl).1.le ha, (h l hl).2⟩
theorem take_age {most ttl : Int} {L l : List RecT} (hok : StoreOk most ttl L) (h0 : ∀ x ∈ L, 0 ≤ x.age) (h1 : ∀ x ∈ l, 0 ≤ x.age) : ∀ x ∈ takeS most ttl L l, 0 ≤ x.age := fun x hx => (take_mem l hok hx).elim (h0 x) (h1 x)
theorem sto_step {L : List RecT} {m : MsgT} (hok : StoreOk 48 1000 L) (hL : AllB K a L) (hA : ∀ x ∈ L, 0 ≤ x.age) (hm : AllB K a m.recs) (hm0 : ∀ x ∈ m.recs, 0 ≤ x.age) :
    StoreOk 48 1000 (stoQ m L) ∧ AllB K a (stoQ m L) ∧ (∀ x ∈ stoQ m L, 0 ≤ x.age) ∧ ∀ k v, hasB L k v = true → hasB (stoQ m L) k v = true := by
  unfold stoQ
  split
  · exact ⟨takes_ok _ hok, hL.take hok hm, take_age hok hA hm0, fun k v h => take_old _ hok h⟩
  · exact ⟨hok, hL, hA, fun _ _ h => h⟩
theorem sent_age {ttl : Int} {l : List RecT} : ∀ x ∈ sentL ttl l, 0 ≤ x.age := fun x hx => by
  obtain ⟨y, hy, rfl⟩ := List.mem_map.1 (List.mem_filter.1 hx).1
  show (0 : Int) ≤ min (max y.age 0) 65533 + 2
  omega
theorem pack_recs {kind : Int} {S : List RecT} {m : MsgT} (h : m ∈ packM kind S) : m.kind = kind ∧ ∀ x ∈ m.recs, x ∈ S := by
  obtain ⟨i, _, rfl⟩ := List.mem_map.1 h
  exact ⟨rfl, fun x hx => List.mem_of_mem_drop (List.mem_of_mem_take hx)⟩
theorem pack_has {kind : Int} {S : List RecT} {x : RecT} (hx : x ∈ S) : ∃ m ∈ packM kind S, m.kind = kind ∧ x ∈ m.recs := by
  obtain ⟨j, hj, rfl⟩ := List.getElem_of_mem hx
  refine ⟨chunkM kind S (j / 16), List.mem_map.2 ⟨j / 16, List.mem_range.2 (by omega), rfl⟩, rfl, ?_⟩
  show S[j] ∈ (S.drop (16 * (j / 16))).take 16
  rw [List.mem_iff_getElem]
  refine ⟨j % 16, by rw [List.length_take, List.length_drop]; omega, ?_⟩
  rw [List.getElem_take, List.getElem_drop]
  congr 1
  omega
theorem out_lets {L : List RecT} {m : MsgT} (hok : StoreOk 48 1000 L) (hL : AllB K a L) (hA : ∀ x ∈ L, 0 ≤ x.age) (hm : AllB K a m.recs) (hm0 : ∀ x ∈ m.recs, 0 ≤ x.age) (ha : a ≤ 65533) :
    ∀ o ∈ outQ m L, AllB K (a + 2) o.recs ∧ ∀ x ∈ o.recs, 0 ≤ x.age := fun o ho => by
  have hp : ∀ {kind : Int} {R : List RecT}, (∀ x ∈ R, 0 ≤ x.age) → AllB K a R → o ∈ packM kind (sentL 1000 R) → AllB K (a + 2) o.recs ∧ ∀ x ∈ o.recs, 0 ≤ x.age := fun h0 hR h => by
    obtain ⟨_, h1⟩ := pack_recs h
    exact ⟨(hR.sent h0 ha).sub h1, fun x hx => sent_age x (h1 x hx)⟩
  unfold outQ at ho
  split at ho
  · unfold answerM at ho
    rcases List.mem_append.1 ho with ho | ho
    · unfold wantM at ho
      split at ho
      · cases ho
      · rw [List.mem_singleton] at ho
        subst ho
        exact ⟨(fun _ h => by cases h), (fun _ h => by cases h)⟩
    · exact hp (fun x hx => hA x (List.mem_filter.1 hx).1) (hL.sub (fun x hx => (List.mem_filter.1 hx).1)) ho
  · split at ho
    · exact hp (fun x hx => take_age hok hA hm0 x ((give_mem _ _ []).2 x hx)) ((hL.take hok hm).sub (fun x hx => (give_mem _ _ []).2 x hx)) ho
    · cases ho
theorem upd_at (st : StT) (i : Nat) (L : List RecT) : updQ st i L i = L := if_pos rfl
/-- One letter. -/
theorem let_step {s : StT × List LetT} {l : LetT} (hg : GoodQ K a s.1) (hl : AllB K a l.m.recs ∧ ∀ x ∈ l.m.recs, 0 ≤ x.age) (hs : LetsQ K (a + 2) s.2) (ha : a ≤ 65533) :
    GoodQ K a (letQ up s l).1 ∧ LetsQ K (a + 2) (letQ up s l).2 ∧ LeQ s.1 (letQ up s l).1 ∧ ∀ o ∈ s.2, o ∈ (letQ up s l).2 := by
  unfold letQ
  split
  · obtain ⟨h1, h2, h3, h4⟩ := sto_step (m := l.m) (hg.ok (l.dst.toNat - 1)) (hg.all _) (hg.age _) hl.1 hl.2
    refine ⟨⟨fun i => ?_, fun i => ?_, fun i => ?_⟩, fun o ho => ?_, fun i k v h => ?_, fun o ho => List.mem_append.2 (.inl ho)⟩
    · show StoreOk 48 1000 (updQ _ _ _ i)
      unfold updQ
      split
      · exact h1
      · exact hg.ok i
    · show AllB K a (updQ _ _ _ i)
      unfold updQ
      split
      · exact h2
      · exact hg.all i
    · show ∀ x ∈ updQ _ _ _ i, 0 ≤ x.age
      unfold updQ
      split
      · exact h3
      · exact hg.age i
    · rcases List.mem_append.1 ho with ho | ho
      · exact hs o ho
      · obtain ⟨m, hm, rfl⟩ := List.mem_map.1 ho
        exact out_lets (hg.ok _) (hg.all _) (hg.age _) hl.1 hl.2 ha m hm
    · show hasB (updQ _ _ _ i) k v = true
      unfold updQ
      split
      · rename_i e
        subst e
        exact h4 k v h
      · exact h
  · exact ⟨hg, hs, LeQ.refl _, fun _ h => h⟩
theorem lets_fold (ha : a ≤ 65533) : ∀ (came : List LetT) (s : StT × List LetT), GoodQ K a s.1 → LetsQ K a came → LetsQ K (a + 2) s.2 →
    GoodQ K a (came.foldl (letQ up) s).1 ∧ LetsQ K (a + 2) (came.foldl (letQ up) s).2 ∧ LeQ s.1 (came.foldl (letQ up) s).1 ∧ (∀ o ∈ s.2, o ∈ (came.foldl (letQ up) s).2) ∧
    ∀ l ∈ came, takesQ up l = true → ∃ mid : StT, GoodQ K a mid ∧ LeQ s.1 mid ∧ (∀ k v, hasB (stoQ l.m (mid (l.dst.toNat - 1))) k v = true → hasB ((came.foldl (letQ up) s).1 (l.dst.toNat - 1)) k v = true) ∧ ∀ m ∈ outQ l.m (mid (l.dst.toNat - 1)), (⟨l.dst, l.frm, m⟩ : LetT) ∈ (came.foldl (letQ up) s).2
  | [], s, hg, _, hs => ⟨hg, hs, LeQ.refl _, fun _ h => h, fun _ h => by cases h⟩
  | l :: came, s, hg, hc, hs => by
    obtain ⟨h1, h2, h3, h4⟩ := let_step (up := up) hg (hc l (by simp)) hs ha
    obtain ⟨k1, k2, k3, k4, k5⟩ := lets_fold ha came (letQ up s l) h1 (fun o ho => hc o (by simp [ho])) h2
    rw [List.foldl_cons]
    refine ⟨k1, k2, h3.trans k3, fun o ho => k4 o (h4 o ho), fun o ho ht => ?_⟩
    rcases List.mem_cons.1 ho with rfl | ho
    · refine ⟨s.1, hg, LeQ.refl _, fun k v h => k3 _ k v ?_, fun m hm => k4 _ ?_⟩
      · unfold letQ
        rw [if_pos ht]
        show hasB (updQ _ _ _ _) k v = true
        rw [upd_at]
        exact h
      · unfold letQ
        rw [if_pos ht]
        exact List.mem_append.2 (.inr (List.mem_map.2 ⟨m, hm, rfl⟩))
    · obtain ⟨mid, g1, g2, g3, g4⟩ := k5 o ho ht
      exact ⟨mid, g1, h3.trans g2, g3, g4⟩
/-- A round. -/
theorem round_step {ask : Nat → Nat → Nat} {t : Nat} {s : StT × List LetT} (hg : GoodQ K a s.1) (hl : LetsQ K a s.2) (ha : a ≤ 65533) :
    GoodQ K a (roundQ ask up t s).1 ∧ LetsQ K (a + 2) (roundQ ask up t s).2 ∧ LeQ s.1 (roundQ ask up t s).1 ∧
    (∀ i, i < 5 → up i = true → ask t i ≠ 0 → (⟨(i + 1 : Nat), (ask t i : Nat), ⟨13, 0, 0, false, [], ((roundQ ask up t s).1 i).map toId, []⟩⟩ : LetT) ∈ (roundQ ask up t s).2) ∧
    ∀ l ∈ s.2, takesQ up l = true → ∃ mid : StT, GoodQ K a mid ∧ LeQ s.1 mid ∧ (∀ k v, hasB (stoQ l.m (mid (l.dst.toNat - 1))) k v = true → hasB ((roundQ ask up t s).1 (l.dst.toNat - 1)) k v = true) ∧ ∀ m ∈ outQ l.m (mid (l.dst.toNat - 1)), (⟨l.dst, l.frm, m⟩ : LetT) ∈ (roundQ ask up t s).2 := by
  obtain ⟨k1, k2, k3, _, k5⟩ := lets_fold (up := up) ha s.2 (s.1, []) hg hl (fun _ h => by cases h)
  refine ⟨k1, fun o ho => ?_, k3, fun i hi hu hn => ?_, fun l hl' ht => ?_⟩
  · rcases List.mem_append.1 ho with ho | ho
    · exact k2 o ho
    · obtain ⟨i, _, hi⟩ := List.mem_flatMap.1 ho
      unfold askQ at hi
      split at hi
      · rw [List.mem_singleton] at hi
        subst hi
        exact ⟨(fun _ h => by cases h), (fun _ h => by cases h)⟩
      · cases hi
  · refine List.mem_append.2 (.inr (List.mem_flatMap.2 ⟨i, List.mem_range.2 hi, ?_⟩))
    unfold askQ
    rw [if_pos (by rw [hu]; simpa using hn)]
    exact List.mem_singleton.2 rfl
  · obtain ⟨mid, g1, g2, g3, g4⟩ := k5 l hl' ht
    exact ⟨mid, g1, g2, g3, fun m hm => List.mem_append.2 (.inl (g4 m hm))⟩
end
end Go.Proofs.YtjdlcfllmpdffaaDoor
/-! SeedsRepair, plainly: what comes of an ask. -/
namespace Go.Proofs.YtjdlcfllmpdffaaDoor
open Go.Conc Go.RowKit

section
variable {K : List ByteArray} {up : Nat → Bool} {ask : Nat → Nat → Nat} {st : StT}
theorem run_good (hg : GoodQ K 0 st) : ∀ t, t ≤ 1000 → GoodQ K (2 * t : Nat) (runQ ask up st t).1 ∧ LetsQ K (2 * t : Nat) (runQ ask up st t).2
  | 0, _ => ⟨hg, fun _ h => by cases h⟩
  | t + 1, ht => by
    obtain ⟨h1, h2⟩ := run_good hg t (by omega)
    obtain ⟨k1, k2, _⟩ := round_step (up := up) (ask := ask) (t := t) h1 h2 (by omega)
    exact ⟨k1.le (by omega), k2.le (by omega)⟩
theorem run_le (hg : GoodQ K 0 st) (t : Nat) (ht : t ≤ 1000) : LeQ (runQ ask up st t).1 (runQ ask up st (t + 1)).1 := by
  obtain ⟨h1, h2⟩ := run_good (up := up) (ask := ask) hg t ht
  exact (round_step (up := up) (ask := ask) (t := t) h1 h2 (by omega)).2.2.1
theorem run_mono (hg : GoodQ K 0 st) {t : Nat} : ∀ d, t + d ≤ 1000 → LeQ (runQ ask up st t).1 (runQ ask up st (t + d)).1
  | 0, _ => LeQ.refl _
  | d + 1, h => (run_mono hg d (by omega)).trans (run_le hg (t + d) (by omega))
theorem run_ask (hg : GoodQ K 0 st) {t i : Nat} (ht : t ≤ 1000) (hi : i < 5) (hu : up i = true) (ha : ask t i = 2) : (⟨(i + 1 : Nat), 2, ⟨13, 0, 0, false, [], ((runQ ask up st (t + 1)).1 i).map toId, []⟩⟩ : LetT) ∈ (runQ ask up st (t + 1)).2 := by
  obtain ⟨h1, h2⟩ := run_good (up := up) (ask := ask) hg t ht
  have := (round_step (up := up) (ask := ask) (t := t) h1 h2 (by omega)).2.2.2.1 i hi hu (by omega)
  rw [ha] at this
  exact this
theorem run_let (hg : GoodQ K 0 st) {t : Nat} (ht : t ≤ 1000) {l : LetT} (hl : l ∈ (runQ ask up st t).2) (hu : takesQ up l = true) : ∃ mid : StT, GoodQ K (2 * t : Nat) mid ∧ LeQ (runQ ask up st t).1 mid ∧ (∀ k v, hasB (stoQ l.m (mid (l.dst.toNat - 1))) k v = true → hasB ((runQ ask up st (t + 1)).1 (l.dst.toNat - 1)) k v = true) ∧ ∀ m ∈ outQ l.m (mid (l.dst.toNat - 1)), (⟨l.dst, l.frm, m⟩ : LetT) ∈ (runQ ask up st (t + 1)).2 := by
  obtain ⟨h1, h2⟩ := run_good (up := up) (ask := ask) hg t ht
  exact (round_step (up := up) (ask := ask) (t := t) h1 h2 (by omega)).2.2.2.2 l hl hu
theorem takes_node {i : Nat} (hi : i < 5) (hu : up i = true) (f : Int) (m : MsgT) : takesQ up ⟨f, (i + 1 : Nat), m⟩ = true := by
  unfold takesQ
  simp only [Bool.and_eq_true, decide_eq_true_eq]
  refine ⟨by omega, ?_⟩
  rw [show ((i + 1 : Nat) : Int).toNat - 1 = i by omega]
  exact hu
theorem takes_two (h1 : up 1 = true) (f : Int) (m : MsgT) : takesQ up ⟨f, 2, m⟩ = true := takes_node (i := 1) (by omega) h1 f m
/-- Records of a Delta are taken. -/
theorem run_delta (hK : K.length < 48) (hg : GoodQ K 0 st) {t i : Nat} (ht : t ≤ 400) (hi : i < 5) (hu : up i = true) {f : Int} {m : MsgT} (hl : (⟨f, (i + 1 : Nat), m⟩ : LetT) ∈ (runQ ask up st t).2) (hk : m.kind = 14) {x : RecT} (hx : x ∈ m.recs) {v : Nat} (hv : v ≤ x.ver) : hasB ((runQ ask up st (t + 1)).1 i) x.key v = true := by
  obtain ⟨mid, g1, _, g3, _⟩ := run_let hg (by omega) hl (takes_node hi hu f m)
  have hm := (run_good (up := up) (ask := ask) hg t (by omega)).2 _ hl
  simp only [show ((i + 1 : Nat) : Int).toNat - 1 = i by omega] at g3
  refine g3 _ _ ?_
  unfold stoQ
  rw [if_pos hk]
  exact hasB_le (take_new (A := (2 * t : Nat)) (by omega) (by omega) _ (g1.ok i) (g1.all i) hm.1 x hx) hv
/-- What a node that asks the second one has, that one has three rounds later. -/
theorem chain_up (hK : K.length < 48) (hg : GoodQ K 0 st) {t i : Nat} (ht : t ≤ 300) (hi : i < 5) (hu : up i = true) (h1 : up 1 = true) (ha : ask t i = 2) {k : ByteArray} {v : Nat} (hh : hasB ((runQ ask up st (t + 1)).1 i) k v = true) : hasB ((runQ ask up st (t + 4)).1 1) k v = true := by
  have hl := run_ask hg (by omega) hi hu ha
  obtain ⟨y, hy, hv⟩ := hasB_out hh
  obtain ⟨y1, rfl⟩ := findS_some hy
  obtain ⟨mid, g1, g2, g3, g4⟩ := run_let hg (by omega) hl (takes_two h1 _ _)
  simp only [show (2 : Int).toNat - 1 = 1 from rfl] at g3 g4
  rcases wanted_or (L := mid 1) (List.mem_map.2 ⟨y, y1, rfl⟩ : toId y ∈ ((runQ ask up st (t + 1)).1 i).map toId) with e | e
  · refine run_mono hg 2 (by omega) 1 _ _ (g3 _ _ ?_)
    unfold stoQ
    rw [if_neg (show ¬ (13 : Int) = 14 by decide)]
    exact hasB_le e hv
  · have hm : (⟨14, 0, 0, false, [], wantedL (mid 1) (((runQ ask up st (t + 1)).1 i).map toId), []⟩ : MsgT) ∈ outQ ⟨13, 0, 0, false, [], ((runQ ask up st (t + 1)).1 i).map toId, []⟩ (mid 1) := by
      unfold outQ answerM wantM
      rw [if_pos rfl, if_neg (fun h => by rw [List.length_eq_zero_iff.1 h] at e; cases e)]
      exact List.mem_append.2 (.inl (List.mem_singleton.2 rfl))
    have hl2 := g4 _ hm
    obtain ⟨md, k1, k2, _, k4⟩ := run_let hg (by omega) hl2 (takes_node hi hu _ _)
    simp only [show ((i + 1 : Nat) : Int).toNat - 1 = i by omega] at k4
    have hz : hasB (md i) y.key y.ver = true := k2 i _ _ (run_le hg (t + 1) (by omega) i _ _ (hasB_mem ((run_good (up := up) (ask := ask) hg (t + 1) (by omega)).1.ok i).rises y1 (Nat.le_refl _)))
    obtain ⟨z, hz1, hz2⟩ := hasB_out hz
    have hzi : z ∈ giveL (md i) (wantedL (mid 1) (((runQ ask up st (t + 1)).1 i).map toId)) := give_in (p := toId y) hz1 _ [] e (by simp)
    have hzm := (findS_some hz1).1
    have hzs : sentR z ∈ sentL 1000 (giveL (md i) (wantedL (mid 1) (((runQ ask up st (t + 1)).1 i).map toId))) := sent_in hzi (k1.age i z hzm) (k1.all i z hzm).2.2 (by omega) (by omega)
    obtain ⟨m, hm1, hm2, hm3⟩ := pack_has (kind := 14) hzs
    have hl3 := k4 m (by
      unfold outQ
      rw [if_neg (show ¬ (14 : Int) = 13 by decide), if_pos rfl]
      exact hm1)
    have := run_delta (i := 1) hK hg (by omega) (by omega) h1 hl3 hm2 hm3 (v := v) (show v ≤ z.ver by omega)
    rw [show (sentR z).key = y.key from (findS_some hz1).2] at this
    exact this
/-- What the second node has, one that asks it has two rounds later. -/
theorem chain_down (hK : K.length < 48) (hg : GoodQ K 0 st) {t i : Nat} (ht : t ≤ 300) (hi : i < 5) (hu : up i = true) (h1 : up 1 = true) (ha : ask t i = 2) {k : ByteArray} {v : Nat} (hh : hasB ((runQ ask up st (t + 1)).1 1) k v = true) : hasB ((runQ ask up st (t + 3)).1 i) k v = true := by
  have hl := run_ask hg (by omega) hi hu ha
  obtain ⟨mid, g1, g2, _, g4⟩ := run_let hg (by omega) hl (takes_two h1 _ _)
  simp only [show (2 : Int).toNat - 1 = 1 from rfl] at g4
  obtain ⟨y, hy, hv⟩ := hasB_out (g2 1 _ _ hh)
  obtain ⟨y1, rfl⟩ := findS_some hy
  rcases newer_or (I := ((runQ ask up st (t + 1)).1 i).map toId) y1 with e | e
  · obtain ⟨p, hp, e1, e2⟩ := told_out e
    obtain ⟨z, hz, rfl⟩ := List.mem_map.1 hp
    have := hasB_mem ((run_good (up := up) (ask := ask) hg (t + 1) (by omega)).1.ok i).rises hz (v := v) (show v ≤ z.ver from by have : y.ver ≤ z.ver := e2; omega)
    rw [show z.key = y.key from e1] at this
    exact run_mono hg 2 (by omega) i _ _ this
  · have hs : sentR y ∈ sentL 1000 (newerL (mid 1) (((runQ ask up st (t + 1)).1 i).map toId)) := sent_in e (g1.age 1 y y1) (g1.all 1 y y1).2.2 (by omega) (by omega)
    obtain ⟨m, hm1, hm2, hm3⟩ := pack_has (kind := 14) hs
    have hl2 := g4 m (by
      unfold outQ answerM
      rw [if_pos rfl]
      exact List.mem_append.2 (.inr hm1))
    exact run_delta hK hg (by omega) hi hu hl2 hm2 hm3 (v := v) hv
/-- All live nodes have in the end what each of them had. -/
theorem repair (hK : K.length < 48) (hg : GoodQ K 0 st) (h1 : up 1 = true) {R : Nat} (hR : R ≤ 100) (hask : ∀ i, i < 5 → i ≠ 1 → ∃ a b, ask a i = 2 ∧ ask b i = 2 ∧ b + 3 ≤ R ∧ ∀ j, j < 5 → j ≠ 1 → ∃ c, ask c j = 2 ∧ c + 4 ≤ b + 1)
    {i j : Nat} (hi : i < 5) (hj : j < 5) (hui : up i = true) (huj : up j = true) {k : ByteArray} {v : Nat} (hh : hasB (st j) k v = true) : hasB ((runQ ask up st R).1 i) k v = true := by
  have all : ∀ T, T ≤ R → (∀ j, j < 5 → j ≠ 1 → ∃ c, ask c j = 2 ∧ c + 4 ≤ T) → hasB ((runQ ask up st T).1 1) k v = true := fun T hT hc => by
    by_cases hj1 : j = 1
    · subst hj1
      have := run_mono (up := up) (ask := ask) hg (t := 0) T (by omega) 1 k v hh
      rwa [Nat.zero_add] at this
    · obtain ⟨c, hc1, hc2⟩ := hc j hj hj1
      have h2 := run_mono (up := up) (ask := ask) hg (t := 0) (c + 1) (by omega) j k v hh
      rw [Nat.zero_add] at h2
      have h3 := chain_up hK hg (by omega) hj huj h1 hc1 h2
      have := run_mono (up := up) (ask := ask) hg (t := c + 4) (T - (c + 4)) (by omega) 1 k v h3
      rwa [show c + 4 + (T - (c + 4)) = T by omega] at this
  by_cases hi1 : i = 1
  · subst hi1
    obtain ⟨_, b, _, _, hb, hc⟩ := hask 0 (by omega) (by omega)
    exact all R (Nat.le_refl _) (fun j hj hn => by obtain ⟨c, h2, h3⟩ := hc j hj hn; exact ⟨c, h2, by omega⟩)
  · obtain ⟨_, b, _, hb1, hb2, hc⟩ := hask i hi hi1
    have h2 := all (b + 1) (by omega) hc
    have h3 := chain_down hK hg (by omega) hi hui h1 hb1 h2
    have := run_mono (up := up) (ask := ask) hg (t := b + 3) (R - (b + 3)) (by omega) i k v h3
    rwa [show b + 3 + (R - (b + 3)) = R by omega] at this
end
end Go.Proofs.YtjdlcfllmpdffaaDoor
/-! SeedsRepair, plainly: how many letters are on their way, and how great they are. -/
namespace Go.Proofs.YtjdlcfllmpdffaaDoor
open Go.Conc Go.RowKit

def vk (x : RecT) : Prop := x.ver < 2 ^ 64 ∧ x.key.size ≤ 1000000
structure LetV (l : LetT) : Prop where
  ids : l.m.ids.length ≤ 48
  idk : ∀ p ∈ l.m.ids, p.1.size ≤ maxLen
  recs : l.m.recs.length ≤ 16
  reck : ∀ x ∈ l.m.recs, vk x
def StV (st : StT) : Prop := ∀ i, StoreOk 48 1000 (st i) ∧ ∀ x ∈ st i, vk x
def isDig (l : LetT) : Bool := decide (l.m.kind = 13)
def isAsk (l : LetT) : Bool := !isDig l && !l.m.ids.isEmpty
structure CntV (ls : List LetT) (a b c : Nat) : Prop where
  dig : ls.countP isDig ≤ a
  ask : ls.countP isAsk ≤ b
  len : ls.length ≤ c
theorem pk_len (k : Int) (S : List RecT) (hS : S.length ≤ 48) : (packM k S).length ≤ 3 := by
  unfold packM
  rw [List.length_map, List.length_range]
  omega
theorem pk_ids {k : Int} {S : List RecT} {m : MsgT} (h : m ∈ packM k S) : m.ids = [] ∧ m.kind = k ∧ m.recs.length ≤ 16 := by
  obtain ⟨i, _, rfl⟩ := List.mem_map.1 h
  refine ⟨rfl, rfl, ?_⟩
  show (List.take 16 _).length ≤ 16
  rw [List.length_take]
  omega
theorem sent_vk {l : List RecT} (h : ∀ x ∈ l, vk x) (ttl : Int) : ∀ x ∈ sentL ttl l, vk x := fun y hy => by
  obtain ⟨x, hx, rfl⟩ := List.mem_map.1 (List.mem_filter.1 hy).1
  exact h x hx
theorem want_in {W : List (ByteArray × Nat)} {m : MsgT} (h : m ∈ wantM W) : m = ⟨14, 0, 0, false, [], W, []⟩ := by
  unfold wantM at h
  split at h
  · cases h
  · rwa [List.mem_singleton] at h
theorem stoQ_v {m : MsgT} {L : List RecT} (hok : StoreOk 48 1000 L) (hL : ∀ x ∈ L, vk x) (hm : ∀ x ∈ m.recs, vk x) : StoreOk 48 1000 (stoQ m L) ∧ ∀ x ∈ stoQ m L, vk x := by
  unfold stoQ
  split
  · exact ⟨takes_ok _ hok, fun x hx => (take_mem _ hok hx).elim (hL x) (hm x)⟩
  · exact ⟨hok, hL⟩
/-- What is answered: how much, and what. -/
theorem out_v {f t : Int} {m : MsgT} {L : List RecT} (hok : StoreOk 48 1000 L) (hL : ∀ x ∈ L, vk x) (hl : LetV ⟨f, t, m⟩) :
    (∀ o ∈ outQ m L, ∀ f' t', LetV ⟨f', t', o⟩) ∧ ((outQ m L).map (fun o => (⟨t, f, o⟩ : LetT))).countP isDig = 0 ∧ ((outQ m L).map (fun o => (⟨t, f, o⟩ : LetT))).countP isAsk ≤ (if isDig ⟨f, t, m⟩ then 1 else 0) ∧ (outQ m L).length ≤ (if isDig ⟨f, t, m⟩ then 4 else 0) + (if isAsk ⟨f, t, m⟩ then 3 else 0) := by
  have packV : ∀ (k : Int) (S : List RecT), (∀ x ∈ S, vk x) → ∀ o ∈ packM k S, ∀ f' t', LetV ⟨f', t', o⟩ := fun k S hS o ho f' t' => by
    obtain ⟨h1, _, h3⟩ := pk_ids ho
    refine ⟨by show o.ids.length ≤ 48; rw [h1]; simp, by show ∀ p ∈ o.ids, _; rw [h1]; simp, h3, fun x hx => hS x ((pack_recs ho).2 x hx)⟩
  have pk0 : ∀ (S : List RecT), ((packM 14 S).map (fun o => (⟨t, f, o⟩ : LetT))).countP isDig = 0 ∧ ((packM 14 S).map (fun o => (⟨t, f, o⟩ : LetT))).countP isAsk = 0 := fun S => by
    constructor
    · rw [List.countP_eq_zero]
      intro l hl
      obtain ⟨o, ho, rfl⟩ := List.mem_map.1 hl
      unfold isDig
      simp [(pk_ids ho).2.1]
    · rw [List.countP_eq_zero]
      intro l hl
      obtain ⟨o, ho, rfl⟩ := List.mem_map.1 hl
      unfold isAsk
      simp [(pk_ids ho).1]
  unfold outQ
  by_cases h13 : m.kind = 13
  · have hd : isDig ⟨f, t, m⟩ = true := decide_eq_true h13
    rw [if_pos h13, hd, if_pos rfl, if_pos rfl]
    unfold answerM
    have hnl : (sentL 1000 (newerL L m.ids)).length ≤ 48 := Nat.le_trans (sentL_length _ _) (Nat.le_trans (List.length_filter_le _ _) hok.len)
    have hn := pk_len 14 _ hnl
    have hw : (wantM (wantedL L m.ids)).length ≤ 1 := by unfold wantM; split <;> simp
    refine ⟨fun o ho f' t' => ?_, ?_, ?_, by rw [List.length_append]; omega⟩
    · rcases List.mem_append.1 ho with ho | ho
      · rw [want_in ho]
        exact ⟨Nat.le_trans (List.length_filter_le _ _) hl.ids, fun p hp => hl.idk p (List.mem_filter.1 hp).1, by simp, by simp⟩
      · exact packV _ _ (sent_vk (fun x hx => hL x (List.mem_filter.1 hx).1) _) o ho f' t'
    · rw [List.map_append, List.countP_append, (pk0 _).1]
      rw [Nat.add_zero, List.countP_eq_zero]
      intro l hl'
      obtain ⟨o, ho, rfl⟩ := List.mem_map.1 hl'
      rw [want_in ho]
      unfold isDig
      simp
    · rw [List.map_append, List.countP_append, (pk0 _).2, Nat.add_zero]
      exact Nat.le_trans List.countP_le_length (by rw [List.length_map]; exact hw)
  · have hd : isDig ⟨f, t, m⟩ = false := decide_eq_false h13
    rw [if_neg h13, hd]
    simp only [Bool.false_eq_true, if_false]
    by_cases h14 : m.kind = 14
    · rw [if_pos h14]
      have hg := (give_mem (takeS 48 1000 L m.recs) m.ids [])
      have hgl : (sentL 1000 (giveL (takeS 48 1000 L m.recs) m.ids)).length ≤ 48 := Nat.le_trans (sentL_length _ _) (Nat.le_trans hg.1 hl.ids)
      refine ⟨packV _ _ (sent_vk (fun x hx => (take_mem _ hok (hg.2 x hx)).elim (hL x) (hl.reck x)) _), (pk0 _).1, by rw [(pk0 _).2]; exact Nat.le_refl _, ?_⟩
      cases hi : m.ids with
      | nil =>
        have h0 : giveL (takeS 48 1000 L m.recs) [] = [] := rfl
        rw [h0]
        exact Nat.zero_le _
      | cons p I =>
        have ha : isAsk ⟨f, t, m⟩ = true := by
          unfold isAsk
          rw [hd]
          show (!false && !m.ids.isEmpty) = true
          rw [hi]
          rfl
        rw [hi] at hgl
        have := pk_len 14 _ hgl
        rw [ha]
        simpa using this
    · rw [if_neg h14]
      exact ⟨(fun _ h => by cases h), rfl, Nat.le_refl _, Nat.zero_le _⟩
/-- The letters of a fold. -/
structure FoldV (s : StT × List LetT) (a c : Nat) : Prop where
  sv : StV s.1
  lv : ∀ l ∈ s.2, LetV l
  dig : s.2.countP isDig = 0
  ask : s.2.countP isAsk ≤ a
  len : s.2.length ≤ c
theorem FoldV.step {up : Nat → Bool} {s : StT × List LetT} {a c : Nat} (h : FoldV s a c) {l : LetT} (hl : LetV l) : FoldV (letQ up s l) (a + if isDig l then 1 else 0) (c + ((if isDig l then 4 else 0) + if isAsk l then 3 else 0)) := by
  obtain ⟨f, t, m⟩ := l
  unfold letQ
  split
  · obtain ⟨k1, k2⟩ := h.sv (t.toNat - 1)
    obtain ⟨o1, o2, o3, o4⟩ := out_v (f := f) (t := t) k1 k2 hl
    obtain ⟨q1, q2⟩ := stoQ_v (m := m) k1 k2 hl.reck
    refine ⟨fun i => ?_, fun l' hl' => ?_, ?_, ?_, ?_⟩
    · show StoreOk 48 1000 (updQ _ _ _ i) ∧ ∀ x ∈ updQ _ _ _ i, vk x
      unfold updQ
      split
      · exact ⟨q1, q2⟩
      · exact h.sv i
    · rcases List.mem_append.1 hl' with hl' | hl'
      · exact h.lv l' hl'
      · obtain ⟨o, ho, rfl⟩ := List.mem_map.1 hl'
        exact o1 o ho _ _
    · show (s.2 ++ (outQ m (s.1 (t.toNat - 1))).map (fun o => (⟨t, f, o⟩ : LetT))).countP isDig = 0
      rw [List.countP_append, h.dig, o2]
    · show (s.2 ++ (outQ m (s.1 (t.toNat - 1))).map (fun o => (⟨t, f, o⟩ : LetT))).countP isAsk ≤ a + _
      rw [List.countP_append]
      have := h.ask
      omega
    · show (s.2 ++ (outQ m (s.1 (t.toNat - 1))).map (fun o => (⟨t, f, o⟩ : LetT))).length ≤ c + _
      rw [List.length_append, List.length_map]
      have := h.len
      omega
  · exact ⟨h.sv, h.lv, h.dig, Nat.le_trans h.ask (Nat.le_add_right _ _), Nat.le_trans h.len (Nat.le_add_right _ _)⟩
theorem fold_v {up : Nat → Bool} : ∀ (came : List LetT) (s : StT × List LetT) (a c : Nat), FoldV s a c → (∀ l ∈ came, LetV l) → FoldV (came.foldl (letQ up) s) (a + came.countP isDig) (c + (4 * came.countP isDig + 3 * came.countP isAsk))
  | [], _, _, _, h, _ => h
  | l :: came, s, a, c, h, hc => by
    have h1 := h.step (up := up) (hc l (by simp))
    have h2 := fold_v (up := up) came _ _ _ h1 (fun o ho => hc o (by simp [ho]))
    rw [List.foldl_cons, List.countP_cons, List.countP_cons]
    refine ⟨h2.sv, h2.lv, h2.dig, Nat.le_trans h2.ask ?_, Nat.le_trans h2.len ?_⟩
    · omega
    · by_cases e1 : isDig l = true <;> by_cases e2 : isAsk l = true <;> simp [e1, e2] <;> omega
structure RunV (s : StT × List LetT) : Prop where
  sv : StV s.1
  lv : ∀ l ∈ s.2, LetV l
  cnt : CntV s.2 5 5 40
theorem askQ_v {ask : Nat → Nat → Nat} {up : Nat → Bool} {t : Nat} {st : StT} (h : StV st) (i : Nat) : (∀ l ∈ askQ ask up t st i, LetV l) ∧ (askQ ask up t st i).length ≤ 1 ∧ (askQ ask up t st i).countP isAsk = 0 := by
  unfold askQ
  split
  · refine ⟨fun l hl => ?_, Nat.le_refl _, rfl⟩
    rw [List.mem_singleton] at hl
    subst hl
    obtain ⟨k1, _⟩ := h i
    refine ⟨by show ((st i).map toId).length ≤ 48; rw [List.length_map]; exact k1.len, fun p hp => ?_, Nat.zero_le _, fun _ h => by cases h⟩
    obtain ⟨x, hx, rfl⟩ := List.mem_map.1 hp
    exact k1.keys x hx
  · exact ⟨(fun _ h => by cases h), Nat.zero_le _, rfl⟩
theorem asks_v {ask : Nat → Nat → Nat} {up : Nat → Bool} {t : Nat} {st : StT} (h : StV st) : ∀ n, (∀ l ∈ (List.range n).flatMap (askQ ask up t st), LetV l) ∧ ((List.range n).flatMap (askQ ask up t st)).length ≤ n ∧ ((List.range n).flatMap (askQ ask up t st)).countP isAsk = 0
  | 0 => ⟨(fun _ h => by cases h), Nat.le_refl _, rfl⟩
  | n + 1 => by
    obtain ⟨h1, h2, h3⟩ := asks_v h n
    obtain ⟨k1, k2, k3⟩ := askQ_v (ask := ask) (up := up) (t := t) h n
    rw [List.range_succ, List.flatMap_append, List.flatMap_singleton]
    refine ⟨fun l hl => (List.mem_append.1 hl).elim (h1 l) (k1 l), by rw [List.length_append]; omega, by rw [List.countP_append, h3, k3]⟩
theorem lets_v {up : Nat → Bool} {s : StT × List LetT} (h : RunV s) (k : Nat) : FoldV ((s.2.take k).foldl (letQ up) (s.1, [])) 5 35 := by
  have h1 := fold_v (up := up) (s.2.take k) (s.1, []) 0 0 ⟨h.sv, (fun _ h => by cases h), rfl, Nat.le_refl _, Nat.le_refl _⟩ (fun l hl => h.lv l (List.mem_of_mem_take hl))
  have d1 : (s.2.take k).countP isDig ≤ 5 := Nat.le_trans ((List.take_sublist k s.2).countP_le) h.cnt.dig
  have d2 : (s.2.take k).countP isAsk ≤ 5 := Nat.le_trans ((List.take_sublist k s.2).countP_le) h.cnt.ask
  exact ⟨h1.sv, h1.lv, h1.dig, by have := h1.ask; omega, by have := h1.len; omega⟩
theorem RunV.round {ask : Nat → Nat → Nat} {up : Nat → Bool} {t : Nat} {s : StT × List LetT} (h : RunV s) : RunV (roundQ ask up t s) := by
  have h1 := lets_v (up := up) h s.2.length
  rw [List.take_length] at h1
  have h2 := asks_v (ask := ask) (up := up) (t := t) h1.sv 5
  refine ⟨h1.sv, fun l hl => ?_, ⟨?_, ?_, ?_⟩⟩
  · exact (List.mem_append.1 hl).elim (h1.lv l) (h2.1 l)
  · show List.countP isDig (_ ++ _) ≤ 5
    rw [List.countP_append]
    have e1 := h1.dig
    have e2 : ((List.range 5).flatMap (askQ ask up t ((s.2.foldl (letQ up) (s.1, [])).1))).countP isDig ≤ 5 := Nat.le_trans List.countP_le_length h2.2.1
    unfold lettersQ
    omega
  · show List.countP isAsk (_ ++ _) ≤ 5
    rw [List.countP_append]
    have e1 := h1.ask
    have e2 := h2.2.2
    unfold lettersQ
    omega
  · show List.length (_ ++ _) ≤ 40
    rw [List.length_append]
    have e1 := h1.len
    have e2 := h2.2.1
    unfold lettersQ
    omega
theorem run_v {ask : Nat → Nat → Nat} {up : Nat → Bool} {st : StT} (h : StV st) : ∀ t, RunV (runQ ask up st t)
  | 0 => ⟨h, (fun _ h => by cases h), ⟨Nat.zero_le _, Nat.zero_le _, Nat.zero_le _⟩⟩
  | t + 1 => (run_v h t).round
end Go.Proofs.YtjdlcfllmpdffaaDoor
