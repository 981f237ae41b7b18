/- bellhoplaw15: speaks. -/
import Derived.Test.YtianboachknfmaaDoorSto2
import Derived.Test.YtianboachknfmaaDoorRecEq
import Derived.Deep.RegionHeld3
namespace Go.Proofs.YtianboachknfmaaDoor
open Go.Conc Go.RowKit Go.Maps

def spX : RecT := ⟨⟨#[0, 1, 97]⟩, 4294967296, 1, 0, false, ⟨#[97, 98, 99, 100, 101, 102, 103, 104, 105, 106]⟩⟩
def spY : RecT := ⟨⟨#[0, 2, 97]⟩, 4294967296, 2, 0, false, ⟨#[97, 98, 99, 100, 101, 102, 103, 104, 105, 106]⟩⟩
theorem sp1 : putE 1 9 [] spX = 0 := by decide +kernel
theorem sp2 : putE 1 9 [spX] spY = 5 := by decide +kernel
theorem sp3 : findV [spX] spX.key = spX ∧ (findS [spX] spX.key).isSome = true := by
  unfold findV
  have : findS [spX] spX.key = some spX := by simp [findS]
  rw [this]
  exact ⟨rfl, rfl⟩
theorem keepD10 {w : World} {p : Addr} {v : Value} (h : w.cell? p = some v) : w.drew.cell? p = some v := h
theorem sp4 : putS 1 9 [] spX = [spX] ∧ putR 1 9 [] spX 0 = 0 := by
  unfold putS putR
  rw [sp1]
  exact ⟨rfl, rfl⟩
theorem sp5 : putS 1 9 [spX] spY = [spX] ∧ putR 1 9 [spX] spY 0 = 1 := by
  unfold putS putR
  rw [sp2]
  exact ⟨rfl, rfl⟩
theorem sput_x (w : World) (s b : Nat) (m : Int) (h : StoreAt w s b 1 9 0 []) (hm : w.cell? ⟨0, 0, none⟩ = some (.int .i64 m)) :
    Calls Tryd.prog 15 #[.pointer (some ⟨s, 0, none⟩), .agg #[.string ⟨#[0, 1, 97]⟩, .int .u64 4294967296, .int .i64 1, .int .i64 0, .bool false, .string ⟨#[97, 98, 99, 100, 101, 102, 103, 104, 105, 106]⟩]] w fun e w' => e = .returned (.int .i64 0) ∧ Only (fun i => i = s ∨ i = b) w w' ∧ StoreAt w' s b 1 9 0 [spX] := by
  have h1 := sput_any w s b 1 9 0 [] h spX m hm (by decide) (by decide) (by omega) (by omega)
  refine h1.mono ?_
  rintro e w' ⟨rfl, h2, h3⟩
  rw [sp4.1, sp4.2] at h3
  exact ⟨by rw [sp1], h2, h3⟩
theorem sput_y (w : World) (s b : Nat) (m : Int) (h : StoreAt w s b 1 9 0 [spX]) (hm : w.cell? ⟨0, 0, none⟩ = some (.int .i64 m)) :
    Calls Tryd.prog 15 #[.pointer (some ⟨s, 0, none⟩), .agg #[.string ⟨#[0, 2, 97]⟩, .int .u64 4294967296, .int .i64 2, .int .i64 0, .bool false, .string ⟨#[97, 98, 99, 100, 101, 102, 103, 104, 105, 106]⟩]] w fun e w' => e = .returned (.int .i64 5) ∧ Only (fun i => i = s ∨ i = b) w w' ∧ StoreAt w' s b 1 9 1 [spX] := by
  have h1 := sput_any w s b 1 9 0 [spX] h spY m hm (by decide) (by decide) (by omega) (by omega)
  refine h1.mono ?_
  rintro e w' ⟨rfl, h2, h3⟩
  rw [sp5.1, sp5.2] at h3
  exact ⟨by rw [sp2], h2, h3⟩
theorem sget_x (w : World) (s b : Nat) (h : StoreAt w s b 1 9 1 [spX]) : Calls Tryd.prog 17 #[.pointer (some ⟨s, 0, none⟩), .string ⟨#[0, 1, 97]⟩] w fun e w' => e = .returned (.tuple #[.agg #[.string ⟨#[0, 1, 97]⟩, .int .u64 4294967296, .int .i64 1, .int .i64 0, .bool false, .string ⟨#[97, 98, 99, 100, 101, 102, 103, 104, 105, 106]⟩], .bool true]) ∧ Only (fun _ => False) w w' := by
  have h1 := sget_any w s b 1 9 1 [spX] h spX.key (by decide)
  rw [sp3.1, sp3.2] at h1
  exact h1
theorem eqX (w : World) : (binOp BinOp.eql 33 (.agg #[.string ⟨#[0, 1, 97]⟩, .int .u64 4294967296, .int .i64 1, .int .i64 0, .bool false, .string ⟨#[97, 98, 99, 100, 101, 102, 103, 104, 105, 106]⟩]) (.agg #[.string ⟨#[0, 1, 97]⟩, .int .u64 4294967296, .int .i64 1, .int .i64 0, .bool false, .string ⟨#[97, 98, 99, 100, 101, 102, 103, 104, 105, 106]⟩])).run Tryd.prog w = .ok (.bool true) w := by
  have := eqR w ⟨#[0, 1, 97]⟩ ⟨#[0, 1, 97]⟩ ⟨#[97, 98, 99, 100, 101, 102, 103, 104, 105, 106]⟩ ⟨#[97, 98, 99, 100, 101, 102, 103, 104, 105, 106]⟩ 4294967296 1 0 4294967296 1 0 false false
  rw [this]
  simp
set_option maxRecDepth 100000 in
set_option maxHeartbeats 4000000 in
theorem speaks15_any (w : World) (m : Int) (hm : w.cell? ⟨0, 0, none⟩ = some (.int .i64 m)) :
    Calls Tryd.prog 12 #[] w fun e w' => e = .returned (.bool true) ∧ Only (fun _ => False) w w' := by
  go_enter Tryd.func12, Tryd.ntmps12
  go_wp2_with fail
  refine (snew_ok w 1 9 (by omega) (by omega) (by omega) (by omega)).mono ?_
  rintro e w1 ⟨rfl, ho1, hs1⟩
  have hB : w.heap.size + 1 < w1.heap.size := hs1.lt.1
  have hm1 := ho1.cell hm id
  obtain ⟨W, hW⟩ : ∃ W, W = w1.alloc (.cells #[.string ⟨#[0, 1, 97]⟩, .int .u64 4294967296, .int .i64 1, .int .i64 0, .bool false, .string ⟨#[97, 98, 99, 100, 101, 102, 103, 104, 105, 106]⟩] 33) := ⟨_, rfl⟩
  have hbW : W.heap[w1.heap.size]? = some (.cells #[.string ⟨#[0, 1, 97]⟩, .int .u64 4294967296, .int .i64 1, .int .i64 0, .bool false, .string ⟨#[97, 98, 99, 100, 101, 102, 103, 104, 105, 106]⟩] 33 (0, 0)) := by rw [hW]; exact heap_alloc_new w1 _
  have hoW : Only (fun _ => False) w1 W := by rw [hW]; exact (Only.refl _ _).alloc _
  have hsW : W.heap.size = w1.heap.size + 1 := by rw [hW]; simp
  obtain ⟨W2, hW2⟩ : ∃ W2, W2 = W.alloc (.cells #[.string ⟨#[0, 2, 97]⟩, .int .u64 4294967296, .int .i64 2, .int .i64 0, .bool false, .string ⟨#[97, 98, 99, 100, 101, 102, 103, 104, 105, 106]⟩] 33) := ⟨_, rfl⟩
  have hbW2 : W2.heap[W.heap.size]? = some (.cells #[.string ⟨#[0, 2, 97]⟩, .int .u64 4294967296, .int .i64 2, .int .i64 0, .bool false, .string ⟨#[97, 98, 99, 100, 101, 102, 103, 104, 105, 106]⟩] 33 (0, 0)) := by rw [hW2]; exact heap_alloc_new W _
  have hoW2 : Only (fun _ => False) W W2 := by rw [hW2]; exact (Only.refl _ _).alloc _
  have hsW2 : W2.heap.size = W.heap.size + 1 := by rw [hW2]; simp
  have hbX := hoW2.old hbW id
  have hoA := ho1.trans (hoW.trans hoW2)
  have hs2 := (hs1.new hoW).new hoW2
  have hm2 := hoW2.cell (hoW.cell hm1 id) id
  rw [hsW] at hbW2
  have hsz : W2.heap.size = w1.heap.size + 2 := by omega
  have hm0 : (0 : Nat) < w.heap.size := World.block_lt_of_cell? _ _ hm
  have x0 : W2.cell? ⟨w1.heap.size, 0, none⟩ = some (.string ⟨#[0, 1, 97]⟩) := cell_at hbX 0
  have x1 : W2.cell? ⟨w1.heap.size, 1, none⟩ = some (.int .u64 4294967296) := cell_at hbX 1
  have x2 : W2.cell? ⟨w1.heap.size, 2, none⟩ = some (.int .i64 1) := cell_at hbX 2
  have x3 : W2.cell? ⟨w1.heap.size, 3, none⟩ = some (.int .i64 0) := cell_at hbX 3
  have x4 : W2.cell? ⟨w1.heap.size, 4, none⟩ = some (.bool false) := cell_at hbX 4
  have x5 : W2.cell? ⟨w1.heap.size, 5, none⟩ = some (.string ⟨#[97, 98, 99, 100, 101, 102, 103, 104, 105, 106]⟩) := cell_at hbX 5
  have y0 : W2.cell? ⟨(w1.heap.size + 1), 0, none⟩ = some (.string ⟨#[0, 2, 97]⟩) := cell_at hbW2 0
  have y1 : W2.cell? ⟨(w1.heap.size + 1), 1, none⟩ = some (.int .u64 4294967296) := cell_at hbW2 1
  have y2 : W2.cell? ⟨(w1.heap.size + 1), 2, none⟩ = some (.int .i64 2) := cell_at hbW2 2
  have y3 : W2.cell? ⟨(w1.heap.size + 1), 3, none⟩ = some (.int .i64 0) := cell_at hbW2 3
  have y4 : W2.cell? ⟨(w1.heap.size + 1), 4, none⟩ = some (.bool false) := cell_at hbW2 4
  have y5 : W2.cell? ⟨(w1.heap.size + 1), 5, none⟩ = some (.string ⟨#[97, 98, 99, 100, 101, 102, 103, 104, 105, 106]⟩) := cell_at hbW2 5
  have HS := Lib.hid hs2
  have HM := Lib.hid hm2
  have HOA := Lib.hid hoA
  have HSZ := Lib.hid hsz
  have HBX := Lib.hid hbX
  clear hs2 hm2 hoA hsz hbX
  clear hm hm1 hs1 ho1 hbW hbW2 hsW hsW2 hoW hoW2
  go_upto_region 4 with (fail)
  rw [← hW, ← hW2]
  clear hW hW2
  generalize hs : w.heap.size = b at *
  have HB := Lib.hid hs
  clear hs
  have HMD := Lib.hid (keepD10 HM.out)
  have HSD := Lib.hid (HS.out.new ((Only.refl (fun _ => False) W2).drew))
  have hnX : ¬ (w1.heap.size = b + 1 ∨ w1.heap.size = b) := by omega
  have hnY : ¬ (w1.heap.size + 1 = b + 1 ∨ w1.heap.size + 1 = b) := by omega
  have hn0 : ¬ (0 = b + 1 ∨ 0 = b) := by omega
  go_region_held3 (fun w' => w'.cell? ⟨w1.heap.size, 0, none⟩ = some (.string ⟨#[0, 1, 97]⟩) ∧ w'.cell? ⟨w1.heap.size, 1, none⟩ = some (.int .u64 4294967296) ∧ w'.cell? ⟨w1.heap.size, 2, none⟩ = some (.int .i64 1) ∧ w'.cell? ⟨w1.heap.size, 3, none⟩ = some (.int .i64 0) ∧ w'.cell? ⟨w1.heap.size, 4, none⟩ = some (.bool false) ∧ w'.cell? ⟨w1.heap.size, 5, none⟩ = some (.string ⟨#[97, 98, 99, 100, 101, 102, 103, 104, 105, 106]⟩) ∧ w'.cell? ⟨w1.heap.size + 1, 0, none⟩ = some (.string ⟨#[0, 2, 97]⟩) ∧ w'.cell? ⟨w1.heap.size + 1, 1, none⟩ = some (.int .u64 4294967296) ∧ w'.cell? ⟨w1.heap.size + 1, 2, none⟩ = some (.int .i64 2) ∧ w'.cell? ⟨w1.heap.size + 1, 3, none⟩ = some (.int .i64 0) ∧ w'.cell? ⟨w1.heap.size + 1, 4, none⟩ = some (.bool false) ∧ w'.cell? ⟨w1.heap.size + 1, 5, none⟩ = some (.string ⟨#[97, 98, 99, 100, 101, 102, 103, 104, 105, 106]⟩))
    ((go_split_ands; refine ⟨?_, ?_, ?_, ?_, ?_, ?_, ?_, ?_, ?_, ?_, ?_, ?_⟩ <;> (first
      | (with_reducible assumption)
      | (with_reducible apply keepD10; with_reducible assumption)
      | (with_reducible exact Only.cell h4 (by assumption) hnX)
      | (with_reducible exact Only.cell h4 (by assumption) hnY)
      | (with_reducible exact Only.cell h6 (by assumption) hnX)
      | (with_reducible exact Only.cell h6 (by assumption) hnY))))
    (first
      | (go_at_call 15; (with_reducible refine (sput_x _ (b + 1) b m HSD.out HMD.out).mono ?_); rintro e w4 ⟨rfl, h4, h5⟩)
      | (go_at_call 15; (with_reducible refine (sput_y _ (b + 1) b m h5 (Only.cell h4 HMD.out hn0)).mono ?_); rintro e w6 ⟨rfl, h6, h7⟩))
  have ho4 : Only (fun i => i = b + 1 ∨ i = b) W2 w4 := ((Only.refl _ W2).drew).trans h4
  have hbx6 := h6.old (ho4.old HBX.out (by omega)) (by omega)
  have hoB : Only (fun _ => False) w w6 := (HOA.out.tr ho4 (fun i hi e => by have := HB.out; omega)).tr h6 (fun i hi e => by have := HB.out; omega)
  have H7 := Lib.hid h7
  have HOB := Lib.hid hoB
  have HBX6 := Lib.hid hbx6
  clear h7 hoB hbx6
  clear h4 h5 h6 ho4 x0 x1 x2 x3 x4 x5 y0 y1 y2 y3 y4 y5
  go_wp2_with fail
  refine (sget_x w6 (b + 1) b H7.out).mono ?_
  rintro e w8 ⟨rfl, ho8⟩
  obtain ⟨W9, hW9⟩ : ∃ W9, W9 = w8.alloc (.cells #[.string ⟨#[0, 1, 97]⟩, .int .u64 4294967296, .int .i64 1, .int .i64 0, .bool false, .string ⟨#[97, 98, 99, 100, 101, 102, 103, 104, 105, 106]⟩] 33) := ⟨_, rfl⟩
  have hbW9 : W9.heap[w8.heap.size]? = some (.cells #[.string ⟨#[0, 1, 97]⟩, .int .u64 4294967296, .int .i64 1, .int .i64 0, .bool false, .string ⟨#[97, 98, 99, 100, 101, 102, 103, 104, 105, 106]⟩] 33 (0, 0)) := by rw [hW9]; exact heap_alloc_new w8 _
  have hoW9 : Only (fun _ => False) w8 W9 := by rw [hW9]; exact (Only.refl _ _).alloc _
  have hsW9 : W9.heap.size = w8.heap.size + 1 := by rw [hW9]; simp
  have hs9 := (H7.out.new ho8).new hoW9
  have hbx9 := hoW9.old (ho8.old HBX6.out id) id
  have x0 : W9.cell? ⟨w1.heap.size, 0, none⟩ = some (.string ⟨#[0, 1, 97]⟩) := cell_at hbx9 0
  have x1 : W9.cell? ⟨w1.heap.size, 1, none⟩ = some (.int .u64 4294967296) := cell_at hbx9 1
  have x2 : W9.cell? ⟨w1.heap.size, 2, none⟩ = some (.int .i64 1) := cell_at hbx9 2
  have x3 : W9.cell? ⟨w1.heap.size, 3, none⟩ = some (.int .i64 0) := cell_at hbx9 3
  have x4 : W9.cell? ⟨w1.heap.size, 4, none⟩ = some (.bool false) := cell_at hbx9 4
  have x5 : W9.cell? ⟨w1.heap.size, 5, none⟩ = some (.string ⟨#[97, 98, 99, 100, 101, 102, 103, 104, 105, 106]⟩) := cell_at hbx9 5
  have y0 : W9.cell? ⟨w8.heap.size, 0, none⟩ = some (.string ⟨#[0, 1, 97]⟩) := cell_at hbW9 0
  have y1 : W9.cell? ⟨w8.heap.size, 1, none⟩ = some (.int .u64 4294967296) := cell_at hbW9 1
  have y2 : W9.cell? ⟨w8.heap.size, 2, none⟩ = some (.int .i64 1) := cell_at hbW9 2
  have y3 : W9.cell? ⟨w8.heap.size, 3, none⟩ = some (.int .i64 0) := cell_at hbW9 3
  have y4 : W9.cell? ⟨w8.heap.size, 4, none⟩ = some (.bool false) := cell_at hbW9 4
  have y5 : W9.cell? ⟨w8.heap.size, 5, none⟩ = some (.string ⟨#[97, 98, 99, 100, 101, 102, 103, 104, 105, 106]⟩) := cell_at hbW9 5
  have hoC := HOB.out.trans (ho8.trans hoW9)
  have HS9 := Lib.hid hs9
  have HOC := Lib.hid hoC
  clear hs9 hoC
  clear ho8 hbx9 hbW9 hsW9 hoW9
  go_upto_region 6 with (fail)
  rw [← hW9]
  clear hW9
  have heq := eqX
  go_wp2_with (first
    | (go_at_call 47; refine (sref_any _ _ _ _ _ _ _ HS9.out).mono ?_; rintro e w10 ⟨rfl, rfl⟩)
    | (go_at_call 19; refine (slen_any _ _ _ _ _ _ _ HS9.out).mono ?_; rintro e w11 ⟨rfl, rfl⟩))
  go_ret
  exact ⟨rfl, HOC.out⟩
end Go.Proofs.YtianboachknfmaaDoor
