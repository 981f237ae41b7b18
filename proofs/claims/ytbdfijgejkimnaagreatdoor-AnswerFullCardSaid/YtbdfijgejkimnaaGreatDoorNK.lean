/- Structs in memory, as whole rows. -/
import Derived.Test.YtbdfijgejkimnaaGreatDoorNJ
import Derived.Test.YtbdfijgejkimnaaGreatDoorNA
import Derived.Test.YtbdfijgejkimnaaGreatDoorNB
import Derived.Test.YtbdfijgejkimnaaGreatDoorNF
import Derived.Deep.RegionHeld3
import Derived.Laws.Tables
import Derived.Laws.Rows
import Derived.Great.BuildSlice
/-! head.Decode. -/
namespace Go.Proofs.YtbdfijgejkimnaaGreatDoor
open Go.Conc Go.RowKit

theorem beL2_of (x y : UInt8) : beL (x.toNat * 256 + y.toNat) 2 = [x, y] := by
  have hx := x.toNat_lt
  have hy := y.toNat_lt
  show [UInt8.ofNat ((x.toNat * 256 + y.toNat) / 256 ^ 1), UInt8.ofNat ((x.toNat * 256 + y.toNat) / 256 ^ 0)] = _
  congr 1
  · apply UInt8.toNat_inj.1
    rw [UInt8.toNat_ofNat']
    omega
  · congr 1
    apply UInt8.toNat_inj.1
    rw [UInt8.toNat_ofNat']
    omega
/-- A message's first twelve bytes. -/
theorem front_bytes (m : ByteArray) (h : 12 ≤ m.size) : m.extract 0 12 = ⟨(beL (gA m 0) 2 ++ (beL (gA m 2) 2 ++ (beL (gA m 4) 2 ++ (beL (gA m 6) 2 ++ (beL (gA m 8) 2 ++ (beL (gA m 10) 2 ++ [])))))).toArray⟩ := by
  apply str_ext
  rw [ByteArray.data_extract, Array.toList_extract]
  unfold gA bA
  rw [beL2_of, beL2_of, beL2_of, beL2_of, beL2_of, beL2_of]
  have hl : 12 ≤ m.data.toList.length := h
  generalize m.data.toList = l at *
  match l, hl with
  | x0 :: x1 :: x2 :: x3 :: x4 :: x5 :: x6 :: x7 :: x8 :: x9 :: x10 :: x11 :: r, _ => simp
def headV (h : HeadT) : Value := .agg (headC h).toArray
theorem headV_eq (i a b c d : Nat) (r : Bool) (op : Nat) (au tr de av : Bool) (zr co : Nat) : headV ⟨i, r, op, au, tr, de, av, zr, co, (a, b, c, d)⟩ = .agg #[.int .u16 i, .bool r, .int .u8 op, .bool au, .bool tr, .bool de, .bool av, .int .u8 zr, .int .u8 co, .int .u16 a, .int .u16 b, .int .u16 c, .int .u16 d] := rfl
set_option maxRecDepth 100000 in
set_option maxHeartbeats 4000000 in
theorem hdec_any (w : World) (m : ByteArray) (hm : 12 ≤ m.size) :
    Calls Tryz.prog 44 #[.string m] w fun e w' => e = .returned (.tuple #[headV (headD m), .int .i64 0]) ∧ Only (fun _ => False) w w' := by
  have hmf : ∀ (fn : Fn) (first cap : Array Value) (w : World), (Instr.makeFunc fn first cap).run Tryz.prog w = .ok (.func fn first cap) w := fun _ _ _ _ => rfl
  have hen : ∀ args w, (callFunc 81 args).run Tryz.prog w = .ok (.enter 81 args) w := fun _ _ => by go_simp
  obtain ⟨HZ, hHZ⟩ : ∃ HZ : Array Value, HZ = #[.int .u16 0, .bool false, .int .u8 0, .bool false, .bool false, .bool false, .bool false, .int .u8 0, .int .u8 0, .int .u16 0, .int .u16 0, .int .u16 0, .int .u16 0] := ⟨_, rfl⟩
  obtain ⟨W, hW⟩ : ∃ W, W = (w.alloc (.cells HZ 53)).alloc (.cells HZ 53) := ⟨_, rfl⟩
  obtain ⟨z1, z2⟩ := two_blocks w _ _ (w1 := W) (by rw [← hW]; exact Only.refl _ _)
  have hWo : Only (fun _ => False) w W := by rw [hW]; exact ((Only.refl _ _).alloc _).alloc _
  have hWs : W.heap.size = w.heap.size + 2 := by rw [hW]; simp
  have hrd := read_ok W (m.extract 0 12) 81 #[.pointer (some ⟨w.heap.size + 1, 0, none⟩)] (fun x => x = w.heap.size + 1) ⟨#[]⟩ (fun v => v.heap[w.heap.size + 1]? = some (.cells (headC (headD m)).toArray 53 (0, 0))) hen
    (fun a c ha ho => ho.old ha (by omega)) (fun w1 b ho hr hb => by
      rw [front_bytes m hm] at hr
      refine (hdec1_any w1 b (w.heap.size + 1) _ _ _ _ _ _ (gA_lt m 0) (gA_lt m 2) (gA_lt m 4) (gA_lt m 6) (gA_lt m 8) (gA_lt m 10) hr (ho.old (by rw [z2, hHZ]; rfl) id)).mono ?_
      rintro e w2 ⟨h1, h2, h3, h4⟩
      exact ⟨h1, h2.weaken (fun x _ e => e.elim .inl (fun e => .inr ⟨e, by omega⟩)), h3, h4⟩)
  have hm1 : min (m.size : Int) 12 = 12 := by omega
  have hm2 : (12 : Int) ≤ (m.size : Int) := by omega
  rw [hHZ] at hW z1
  rw [if_pos (show (⟨#[]⟩ : ByteArray).size = 0 from rfl)] at hrd
  generalize headD m = h at *
  obtain ⟨i, r, op, au, tr, de, av, zr, co, a, b, c, d⟩ := h
  rw [headV_eq]
  unfold headC at hrd
  dsimp only at hrd
  have HW := Lib.hid hW.symm
  have RD := Lib.hid hrd
  have Z1 := Lib.hid z1
  have Z2 := Lib.hid z2
  have WO := Lib.hid hWo
  have WS := Lib.hid hWs
  clear hrd z1 z2 hWo hWs
  clear hW hHZ hen
  go_enter Tryz.func44, Tryz.ntmps44
  go_upto_region 2 with (fail)
  rw [HW.out]
  go_wp2_with fail
  refine RD.out.mono ?_
  rintro e w2 ⟨rfl, ho2, hx2⟩
  have hy1 := ho2.old Z1.out (by omega)
  have hs2 := ho2.size
  have hlt2 : w.heap.size + 1 < w2.heap.size := by have := WS.out; omega
  have hlt1 : w.heap.size < w2.heap.size := by omega
  have HO := Lib.hid (WO.out.tr ho2 (fun x hx e => by omega))
  have x0 : w2.cell? ⟨(w.heap.size + 1), 0, none⟩ = some (.int .u16 i) := cell_at hx2 0
  have x1 : w2.cell? ⟨(w.heap.size + 1), 1, none⟩ = some (.bool r) := cell_at hx2 1
  have x2 : w2.cell? ⟨(w.heap.size + 1), 2, none⟩ = some (.int .u8 op) := cell_at hx2 2
  have x3 : w2.cell? ⟨(w.heap.size + 1), 3, none⟩ = some (.bool au) := cell_at hx2 3
  have x4 : w2.cell? ⟨(w.heap.size + 1), 4, none⟩ = some (.bool tr) := cell_at hx2 4
  have x5 : w2.cell? ⟨(w.heap.size + 1), 5, none⟩ = some (.bool de) := cell_at hx2 5
  have x6 : w2.cell? ⟨(w.heap.size + 1), 6, none⟩ = some (.bool av) := cell_at hx2 6
  have x7 : w2.cell? ⟨(w.heap.size + 1), 7, none⟩ = some (.int .u8 zr) := cell_at hx2 7
  have x8 : w2.cell? ⟨(w.heap.size + 1), 8, none⟩ = some (.int .u8 co) := cell_at hx2 8
  have x9 : w2.cell? ⟨(w.heap.size + 1), 9, none⟩ = some (.int .u16 a) := cell_at hx2 9
  have x10 : w2.cell? ⟨(w.heap.size + 1), 10, none⟩ = some (.int .u16 b) := cell_at hx2 10
  have x11 : w2.cell? ⟨(w.heap.size + 1), 11, none⟩ = some (.int .u16 c) := cell_at hx2 11
  have x12 : w2.cell? ⟨(w.heap.size + 1), 12, none⟩ = some (.int .u16 d) := cell_at hx2 12
  have y0 : w2.cell? ⟨w.heap.size, 0, none⟩ = some (.int .u16 0) := cell_at hy1 0
  have y1 : w2.cell? ⟨w.heap.size, 1, none⟩ = some (.bool false) := cell_at hy1 1
  have y2 : w2.cell? ⟨w.heap.size, 2, none⟩ = some (.int .u8 0) := cell_at hy1 2
  have y3 : w2.cell? ⟨w.heap.size, 3, none⟩ = some (.bool false) := cell_at hy1 3
  have y4 : w2.cell? ⟨w.heap.size, 4, none⟩ = some (.bool false) := cell_at hy1 4
  have y5 : w2.cell? ⟨w.heap.size, 5, none⟩ = some (.bool false) := cell_at hy1 5
  have y6 : w2.cell? ⟨w.heap.size, 6, none⟩ = some (.bool false) := cell_at hy1 6
  have y7 : w2.cell? ⟨w.heap.size, 7, none⟩ = some (.int .u8 0) := cell_at hy1 7
  have y8 : w2.cell? ⟨w.heap.size, 8, none⟩ = some (.int .u8 0) := cell_at hy1 8
  have y9 : w2.cell? ⟨w.heap.size, 9, none⟩ = some (.int .u16 0) := cell_at hy1 9
  have y10 : w2.cell? ⟨w.heap.size, 10, none⟩ = some (.int .u16 0) := cell_at hy1 10
  have y11 : w2.cell? ⟨w.heap.size, 11, none⟩ = some (.int .u16 0) := cell_at hy1 11
  have y12 : w2.cell? ⟨w.heap.size, 12, none⟩ = some (.int .u16 0) := cell_at hy1 12
  have yf : ∀ i, w2.frozen? ⟨w.heap.size, i, none⟩ = false := free_at hy1
  have Y1 := Lib.hid hy1
  clear hy1
  clear ho2 hx2 hs2
  go_wp2_with fail
  obtain ⟨s1, s2⟩ := lit_set Y1.out [.int .u16 i, .bool r, .int .u8 op, .bool au, .bool tr, .bool de, .bool av, .int .u8 zr, .int .u8 co, .int .u16 a, .int .u16 b, .int .u16 c, .int .u16 d] rfl
  rw [show World.setCells w2 w.heap.size 0 [.int .u16 i, .bool r, .int .u8 op, .bool au, .bool tr, .bool de, .bool av, .int .u8 zr, .int .u8 co, .int .u16 a, .int .u16 b, .int .u16 c, .int .u16 d] = (((((((((((((w2.setCell ⟨w.heap.size, 0, none⟩ (.int .u16 i)).setCell ⟨w.heap.size, 1, none⟩ (.bool r)).setCell ⟨w.heap.size, 2, none⟩ (.int .u8 op)).setCell ⟨w.heap.size, 3, none⟩ (.bool au)).setCell ⟨w.heap.size, 4, none⟩ (.bool tr)).setCell ⟨w.heap.size, 5, none⟩ (.bool de)).setCell ⟨w.heap.size, 6, none⟩ (.bool av)).setCell ⟨w.heap.size, 7, none⟩ (.int .u8 zr)).setCell ⟨w.heap.size, 8, none⟩ (.int .u8 co)).setCell ⟨w.heap.size, 9, none⟩ (.int .u16 a)).setCell ⟨w.heap.size, 10, none⟩ (.int .u16 b)).setCell ⟨w.heap.size, 11, none⟩ (.int .u16 c)).setCell ⟨w.heap.size, 12, none⟩ (.int .u16 d)) from rfl] at s1 s2
  generalize (((((((((((((w2.setCell ⟨w.heap.size, 0, none⟩ (.int .u16 i)).setCell ⟨w.heap.size, 1, none⟩ (.bool r)).setCell ⟨w.heap.size, 2, none⟩ (.int .u8 op)).setCell ⟨w.heap.size, 3, none⟩ (.bool au)).setCell ⟨w.heap.size, 4, none⟩ (.bool tr)).setCell ⟨w.heap.size, 5, none⟩ (.bool de)).setCell ⟨w.heap.size, 6, none⟩ (.bool av)).setCell ⟨w.heap.size, 7, none⟩ (.int .u8 zr)).setCell ⟨w.heap.size, 8, none⟩ (.int .u8 co)).setCell ⟨w.heap.size, 9, none⟩ (.int .u16 a)).setCell ⟨w.heap.size, 10, none⟩ (.int .u16 b)).setCell ⟨w.heap.size, 11, none⟩ (.int .u16 c)).setCell ⟨w.heap.size, 12, none⟩ (.int .u16 d)) = wz at *
  have p0 : wz.cell? ⟨w.heap.size, 0, none⟩ = some (.int .u16 i) := cell_at s1 0
  have p1 : wz.cell? ⟨w.heap.size, 1, none⟩ = some (.bool r) := cell_at s1 1
  have p2 : wz.cell? ⟨w.heap.size, 2, none⟩ = some (.int .u8 op) := cell_at s1 2
  have p3 : wz.cell? ⟨w.heap.size, 3, none⟩ = some (.bool au) := cell_at s1 3
  have p4 : wz.cell? ⟨w.heap.size, 4, none⟩ = some (.bool tr) := cell_at s1 4
  have p5 : wz.cell? ⟨w.heap.size, 5, none⟩ = some (.bool de) := cell_at s1 5
  have p6 : wz.cell? ⟨w.heap.size, 6, none⟩ = some (.bool av) := cell_at s1 6
  have p7 : wz.cell? ⟨w.heap.size, 7, none⟩ = some (.int .u8 zr) := cell_at s1 7
  have p8 : wz.cell? ⟨w.heap.size, 8, none⟩ = some (.int .u8 co) := cell_at s1 8
  have p9 : wz.cell? ⟨w.heap.size, 9, none⟩ = some (.int .u16 a) := cell_at s1 9
  have p10 : wz.cell? ⟨w.heap.size, 10, none⟩ = some (.int .u16 b) := cell_at s1 10
  have p11 : wz.cell? ⟨w.heap.size, 11, none⟩ = some (.int .u16 c) := cell_at s1 11
  have p12 : wz.cell? ⟨w.heap.size, 12, none⟩ = some (.int .u16 d) := cell_at s1 12
  refine bodyPost_ret (v := .tuple #[.agg #[.int .u16 i, .bool r, .int .u8 op, .bool au, .bool tr, .bool de, .bool av, .int .u8 zr, .int .u8 co, .int .u16 a, .int .u16 b, .int .u16 c, .int .u16 d], .int .i64 0]) (by simp [results, Tryz.results44, go_sem, p0, p1, p2, p3, p4, p5, p6, p7, p8, p9, p10, p11, p12]) rfl ?_
  exact ⟨rfl, HO.out.tr s2 (fun x hx e => by omega)⟩
end Go.Proofs.YtbdfijgejkimnaaGreatDoor
/-! head.Decode of a text that is too short. -/
namespace Go.Proofs.YtbdfijgejkimnaaGreatDoor
open Go.Conc Go.RowKit

set_option maxRecDepth 100000 in
set_option maxHeartbeats 4000000 in
theorem hdec_short (w : World) (m : ByteArray) (hm : m.size < 12) :
    Calls Tryz.prog 44 #[.string m] w fun e w' => e = .returned (.tuple #[headV hdZ, .int .i64 2]) ∧ Only (fun _ => False) w w' := by
  have hmf : ∀ (fn : Fn) (first cap : Array Value) (w : World), (Instr.makeFunc fn first cap).run Tryz.prog w = .ok (.func fn first cap) w := fun _ _ _ _ => rfl
  have hen : ∀ args w, (callFunc 81 args).run Tryz.prog w = .ok (.enter 81 args) w := fun _ _ => by go_simp
  obtain ⟨HZ, hHZ⟩ : ∃ HZ : Array Value, HZ = #[.int .u16 0, .bool false, .int .u8 0, .bool false, .bool false, .bool false, .bool false, .int .u8 0, .int .u8 0, .int .u16 0, .int .u16 0, .int .u16 0, .int .u16 0] := ⟨_, rfl⟩
  obtain ⟨W, hW⟩ : ∃ W, W = (w.alloc (.cells HZ 53)).alloc (.cells HZ 53) := ⟨_, rfl⟩
  obtain ⟨z1, z2⟩ := two_blocks w _ _ (w1 := W) (by rw [← hW]; exact Only.refl _ _)
  have hWo : Only (fun _ => False) w W := by rw [hW]; exact ((Only.refl _ _).alloc _).alloc _
  have hWs : W.heap.size = w.heap.size + 2 := by rw [hW]; simp
  have hex : m.extract 0 m.size = m := by
    apply str_ext
    rw [ByteArray.data_extract, Array.toList_extract]
    simp
    exact List.take_of_length_le (Nat.le_refl _)
  have hrd := read_no W m 81 #[.pointer (some ⟨w.heap.size + 1, 0, none⟩)] (fun x => x = w.heap.size + 1) 2 (by decide) (fun _ => True) hen
    (fun a c ha ho => trivial) (fun w1 b ho hr hb => by
      refine (hdec1_short w1 b (w.heap.size + 1) m hm hr ⟨_, _, _, _, _, _, _, _, _, _, _, _, _, ho.old (by rw [z2, hHZ]) id⟩).mono ?_
      rintro e w2 ⟨h1, h2⟩
      exact ⟨h1, h2.weaken (fun x _ e => e.elim .inl (fun e => .inr ⟨e, by omega⟩)), trivial⟩)
  have hm1 : min (m.size : Int) 12 = m.size := by omega
  have hm2 : (m.size : Int) ≤ (m.size : Int) := by omega
  rw [hHZ] at hW z1
  have HW := Lib.hid hW.symm
  have RD := Lib.hid hrd
  have Z1 := Lib.hid z1
  have Z2 := Lib.hid z2
  have WO := Lib.hid hWo
  have WS := Lib.hid hWs
  clear hrd z1 z2 hWo hWs
  clear hW hHZ hen
  go_enter Tryz.func44, Tryz.ntmps44
  go_upto_region 2 with (fail)
  rw [HW.out]
  go_wp2_with fail
  refine RD.out.mono ?_
  rintro e w2 ⟨rfl, ho2, _⟩
  have hy1 := ho2.old Z1.out (by omega)
  have hs2 := ho2.size
  have hlt1 : w.heap.size < w2.heap.size := by have := WS.out; omega
  have HO := Lib.hid (WO.out.tr ho2 (fun x hx e => by omega))
  have y0 : w2.cell? ⟨w.heap.size, 0, none⟩ = some (.int .u16 0) := cell_at hy1 0
  have y1 : w2.cell? ⟨w.heap.size, 1, none⟩ = some (.bool false) := cell_at hy1 1
  have y2 : w2.cell? ⟨w.heap.size, 2, none⟩ = some (.int .u8 0) := cell_at hy1 2
  have y3 : w2.cell? ⟨w.heap.size, 3, none⟩ = some (.bool false) := cell_at hy1 3
  have y4 : w2.cell? ⟨w.heap.size, 4, none⟩ = some (.bool false) := cell_at hy1 4
  have y5 : w2.cell? ⟨w.heap.size, 5, none⟩ = some (.bool false) := cell_at hy1 5
  have y6 : w2.cell? ⟨w.heap.size, 6, none⟩ = some (.bool false) := cell_at hy1 6
  have y7 : w2.cell? ⟨w.heap.size, 7, none⟩ = some (.int .u8 0) := cell_at hy1 7
  have y8 : w2.cell? ⟨w.heap.size, 8, none⟩ = some (.int .u8 0) := cell_at hy1 8
  have y9 : w2.cell? ⟨w.heap.size, 9, none⟩ = some (.int .u16 0) := cell_at hy1 9
  have y10 : w2.cell? ⟨w.heap.size, 10, none⟩ = some (.int .u16 0) := cell_at hy1 10
  have y11 : w2.cell? ⟨w.heap.size, 11, none⟩ = some (.int .u16 0) := cell_at hy1 11
  have y12 : w2.cell? ⟨w.heap.size, 12, none⟩ = some (.int .u16 0) := cell_at hy1 12
  have yf : ∀ i, w2.frozen? ⟨w.heap.size, i, none⟩ = false := free_at hy1
  have Y1 := Lib.hid hy1
  clear hy1
  clear ho2 hs2 hex
  go_wp2_with fail
  obtain ⟨s1, s2⟩ := lit_set Y1.out [.int .u16 0, .bool false, .int .u8 0, .bool false, .bool false, .bool false, .bool false, .int .u8 0, .int .u8 0, .int .u16 0, .int .u16 0, .int .u16 0, .int .u16 0] rfl
  rw [show World.setCells w2 w.heap.size 0 [.int .u16 0, .bool false, .int .u8 0, .bool false, .bool false, .bool false, .bool false, .int .u8 0, .int .u8 0, .int .u16 0, .int .u16 0, .int .u16 0, .int .u16 0] = (((((((((((((w2.setCell ⟨w.heap.size, 0, none⟩ (.int .u16 0)).setCell ⟨w.heap.size, 1, none⟩ (.bool false)).setCell ⟨w.heap.size, 2, none⟩ (.int .u8 0)).setCell ⟨w.heap.size, 3, none⟩ (.bool false)).setCell ⟨w.heap.size, 4, none⟩ (.bool false)).setCell ⟨w.heap.size, 5, none⟩ (.bool false)).setCell ⟨w.heap.size, 6, none⟩ (.bool false)).setCell ⟨w.heap.size, 7, none⟩ (.int .u8 0)).setCell ⟨w.heap.size, 8, none⟩ (.int .u8 0)).setCell ⟨w.heap.size, 9, none⟩ (.int .u16 0)).setCell ⟨w.heap.size, 10, none⟩ (.int .u16 0)).setCell ⟨w.heap.size, 11, none⟩ (.int .u16 0)).setCell ⟨w.heap.size, 12, none⟩ (.int .u16 0)) from rfl] at s1 s2
  generalize (((((((((((((w2.setCell ⟨w.heap.size, 0, none⟩ (.int .u16 0)).setCell ⟨w.heap.size, 1, none⟩ (.bool false)).setCell ⟨w.heap.size, 2, none⟩ (.int .u8 0)).setCell ⟨w.heap.size, 3, none⟩ (.bool false)).setCell ⟨w.heap.size, 4, none⟩ (.bool false)).setCell ⟨w.heap.size, 5, none⟩ (.bool false)).setCell ⟨w.heap.size, 6, none⟩ (.bool false)).setCell ⟨w.heap.size, 7, none⟩ (.int .u8 0)).setCell ⟨w.heap.size, 8, none⟩ (.int .u8 0)).setCell ⟨w.heap.size, 9, none⟩ (.int .u16 0)).setCell ⟨w.heap.size, 10, none⟩ (.int .u16 0)).setCell ⟨w.heap.size, 11, none⟩ (.int .u16 0)).setCell ⟨w.heap.size, 12, none⟩ (.int .u16 0)) = wz at *
  have p0 : wz.cell? ⟨w.heap.size, 0, none⟩ = some (.int .u16 0) := cell_at s1 0
  have p1 : wz.cell? ⟨w.heap.size, 1, none⟩ = some (.bool false) := cell_at s1 1
  have p2 : wz.cell? ⟨w.heap.size, 2, none⟩ = some (.int .u8 0) := cell_at s1 2
  have p3 : wz.cell? ⟨w.heap.size, 3, none⟩ = some (.bool false) := cell_at s1 3
  have p4 : wz.cell? ⟨w.heap.size, 4, none⟩ = some (.bool false) := cell_at s1 4
  have p5 : wz.cell? ⟨w.heap.size, 5, none⟩ = some (.bool false) := cell_at s1 5
  have p6 : wz.cell? ⟨w.heap.size, 6, none⟩ = some (.bool false) := cell_at s1 6
  have p7 : wz.cell? ⟨w.heap.size, 7, none⟩ = some (.int .u8 0) := cell_at s1 7
  have p8 : wz.cell? ⟨w.heap.size, 8, none⟩ = some (.int .u8 0) := cell_at s1 8
  have p9 : wz.cell? ⟨w.heap.size, 9, none⟩ = some (.int .u16 0) := cell_at s1 9
  have p10 : wz.cell? ⟨w.heap.size, 10, none⟩ = some (.int .u16 0) := cell_at s1 10
  have p11 : wz.cell? ⟨w.heap.size, 11, none⟩ = some (.int .u16 0) := cell_at s1 11
  have p12 : wz.cell? ⟨w.heap.size, 12, none⟩ = some (.int .u16 0) := cell_at s1 12
  refine bodyPost_ret (v := .tuple #[headV hdZ, .int .i64 2]) (by simp [results, Tryz.results44, go_sem, p0, p1, p2, p3, p4, p5, p6, p7, p8, p9, p10, p11, p12, headV, headC, hdZ]) rfl ?_
  exact ⟨rfl, HO.out.tr s2 (fun x hx e => by omega)⟩
end Go.Proofs.YtbdfijgejkimnaaGreatDoor
/-! What every law of layer 21 asks first. -/
namespace Go.Proofs.YtbdfijgejkimnaaGreatDoor
open Go.Conc Go.RowKit

def abS : ByteArray := ⟨#[97, 46, 98]⟩
def abL : List ByteArray := [⟨#[97]⟩, ⟨#[98]⟩]
def abM : ByteArray := ⟨#[1, 97, 1, 98, 0, 192, 0]⟩
theorem ab_split : splitL abS = abL := by decide +kernel
theorem ab_may : mayGo 0 abL = true := by decide +kernel
theorem ab_add1 : (addP true (fun _ => none) ⟨#[]⟩ abL).1 = ⟨#[1, 97, 1, 98, 0]⟩ := by decide +kernel
theorem ab_add2 : (addP true (addP true (fun _ => none) ⟨#[]⟩ abL).2 ⟨#[1, 97, 1, 98, 0]⟩ abL).1 = abM := by decide +kernel
theorem ab_join : joinL abL = abS := by decide +kernel
theorem ab_read : rdP abM 5 5 [] = ⟨abL, 7, 0⟩ := by
  rw [rdP_ptr (by decide) (by decide) (by decide +kernel) (by decide) (by decide +kernel)]
  rw [show 256 * (bAt abM 5 - 192) + bAt abM (5 + 1) = 0 by decide +kernel]
  rw [rdP_step (by decide) (by decide) (by decide +kernel) (by decide +kernel) (by decide +kernel)]
  rw [show 0 + 1 + bAt abM 0 = 2 by decide +kernel]
  rw [rdP_step (by decide +kernel) (by decide) (by decide +kernel) (by decide +kernel) (by decide +kernel)]
  rw [show 2 + 1 + bAt abM 2 = 4 by decide +kernel]
  rw [rdP_zero (by decide +kernel) (by decide) (by decide +kernel)]
  rfl

theorem ab_e1 : (abM.toList == [1, 97, 1, 98, 0, 192, 0]) = true := by decide +kernel
theorem ab_e2 : (abS.toList == [97, 46, 98]) = true := by decide +kernel

end Go.Proofs.YtbdfijgejkimnaaGreatDoor
/-! The walk of bellhoplaw21.NameEnds. -/
namespace Go.Proofs.YtbdfijgejkimnaaGreatDoor
open Go.Conc Go.RowKit

theorem rdP_ok_may (m : ByteArray) (k bd : Nat) (l : List ByteArray) : (rdP m k bd l).err = 0 → mayGo 0 (rdP m k bd l).ls = true := by
  fun_induction rdP m k bd l with
  | case1 => intro h; cases h
  | case2 => intro h; cases h
  | case3 _ _ _ hm => intro _; simpa using hm
  | case4 => intro h; cases h
  | case5 => intro h; cases h
  | case6 _ _ _ _ _ _ _ _ _ ih =>
    intro h
    unfold Rd.fin at h ⊢
    split
    · next h1 => exact ih h1.1
    · rw [if_neg ‹_›] at h; exact ih h
  | case7 => intro h; cases h
  | case8 => intro h; cases h
  | case9 _ _ _ _ _ _ _ _ _ ih => exact ih
theorem rdP_ok_stop (m : ByteArray) (k bd : Nat) (l : List ByteArray) : (rdP m k bd l).err = 0 → (k : Int) < (rdP m k bd l).stop ∧ (rdP m k bd l).stop ≤ m.size := by
  fun_induction rdP m k bd l with
  | case1 => intro h; cases h
  | case2 => intro h; cases h
  | case3 => intro _; dsimp only; omega
  | case4 => intro h; cases h
  | case5 => intro h; cases h
  | case6 _ _ _ _ _ _ _ _ _ ih =>
    intro h
    unfold Rd.fin at h ⊢
    split
    · dsimp only; omega
    · next h1 =>
      rw [if_neg h1] at h
      exact absurd ⟨h, by omega⟩ h1
  | case7 => intro h; cases h
  | case8 => intro h; cases h
  | case9 _ _ _ _ _ _ _ _ _ ih =>
    intro h
    have := ih h
    omega
theorem bAt_append (m x : ByteArray) (i : Nat) (h : i < m.size) : bAt (m ++ x) i = bAt m i := by
  unfold bAt
  have h2 : i < m.data.toList.length := h
  rw [ByteArray.data_append, Array.toList_append, List.getD_eq_getElem?_getD, List.getD_eq_getElem?_getD, List.getElem?_append_left h2]
theorem extract_left (m x : ByteArray) (i j : Nat) (h : j ≤ m.size) : (m ++ x).extract i j = m.extract i j := by
  apply ByteArray.ext
  rw [ByteArray.data_extract, ByteArray.data_extract, ByteArray.data_append, Array.extract_append, show j - m.data.size = 0 from Nat.sub_eq_zero_of_le h]
  simp
theorem rdP_more (m x : ByteArray) (k bd : Nat) (l : List ByteArray) : (rdP m k bd l).err = 0 → rdP (m ++ x) k bd l = rdP m k bd l := by
  have hsz : (m ++ x).size = m.size + x.size := ByteArray.size_append
  fun_induction rdP m k bd l with
  | case1 => intro h; cases h
  | case2 => intro h; cases h
  | case3 k bd l hm h1 h2 =>
    intro _
    have hb := bAt_append m x k (by omega)
    exact rdP_zero (by simpa using hm) (by omega) (by omega)
  | case4 => intro h; cases h
  | case5 => intro h; cases h
  | case6 k bd l hm h1 h2 h3 h4 h5 ih =>
    intro h
    have hb := bAt_append m x k (by omega)
    have hb1 := bAt_append m x (k + 1) (by omega)
    rw [rdP_ptr (by simpa using hm) (by omega) (by omega) (by omega) (by rw [hb, hb1]; exact h5), hb, hb1, ih ?_]
    unfold Rd.fin at h
    by_cases h6 : (rdP m (256 * (bAt m k - 192) + bAt m (k + 1)) (256 * (bAt m k - 192) + bAt m (k + 1)) l).err = 0
    · exact h6
    · rw [if_neg (fun x => h6 x.1)] at h
      exact h
  | case7 => intro h; cases h
  | case8 => intro h; cases h
  | case9 k bd l hm h1 h2 h3 h4 h5 ih =>
    intro h
    have hb := bAt_append m x k (by omega)
    rw [rdP_step (by simpa using hm) (by omega) (by omega) (by omega) (by omega), hb, extract_left m x _ _ (by omega)]
    exact ih h
/-- A pointer behind all. -/
theorem rdP_behind (m : ByteArray) (k : Nat) (hk : k < m.size) (hk2 : k < 120) (h : (rdP m k k []).err = 0) : rdP (m ++ bytesOf [192, (k : Int)]) m.size m.size [] = ⟨(rdP m k k []).ls, m.size + 2, 0⟩ := by
  have hsz : (m ++ bytesOf [192, (k : Int)]).size = m.size + 2 := ByteArray.size_append
  have hb : bAt (m ++ bytesOf [192, (k : Int)]) m.size = 192 := by
    unfold bAt
    rw [ByteArray.data_append, Array.toList_append, List.getD_eq_getElem?_getD, List.getElem?_append_right (show m.data.toList.length ≤ m.size from Nat.le_refl _)]
    show ((bytesOf [192, (k : Int)]).data.toList[m.size - m.size]?.getD 0).toNat = 192
    rw [Nat.sub_self]
    rfl
  have hb1 : bAt (m ++ bytesOf [192, (k : Int)]) (m.size + 1) = k := by
    unfold bAt
    rw [ByteArray.data_append, Array.toList_append, List.getD_eq_getElem?_getD, List.getElem?_append_right (show m.data.toList.length ≤ m.size + 1 from Nat.le_succ _)]
    show ((bytesOf [192, (k : Int)]).data.toList[m.size + 1 - m.size]?.getD 0).toNat = k
    rw [Nat.add_sub_cancel_left]
    show (UInt8.ofNat (k : Int).toNat).toNat = k
    simp
    omega
  rw [rdP_ptr rfl (by omega) (by omega) (by omega) (by rw [hb, hb1]; omega), hb, hb1]
  have e : 256 * (192 - 192) + k = k := by omega
  rw [e, rdP_more m _ k k [] h, Rd.fin, if_pos ⟨h, by omega⟩]

end Go.Proofs.YtbdfijgejkimnaaGreatDoor
/-! What is read where labels have been written. -/
namespace Go.Proofs.YtbdfijgejkimnaaGreatDoor
open Go.Conc Go.RowKit

theorem mayGo_prefix : ∀ (a b : List ByteArray) (n : Nat), mayGo n (a ++ b) = true → mayGo n a = true := by
  intro a
  induction a with
  | nil =>
    intro b n h
    by_cases hn : n ≤ 254
    · simp [mayGo, hn]
    · rw [List.nil_append, mayGo_full (by omega)] at h; cases h
  | cons s a ih =>
    intro b n h
    by_cases hb : s.size = 0 ∨ 63 < s.size ∨ 254 < n
    · rw [List.cons_append, mayGo_bad hb] at h; cases h
    · rw [List.cons_append, mayGo_step (by omega) (by omega) (by omega)] at h
      rw [mayGo_step (by omega) (by omega) (by omega)]
      exact ih b _ h
theorem bAt_app (A B : ByteArray) (i : Nat) : bAt (A ++ B) (A.size + i) = bAt B i := by
  unfold bAt
  rw [ByteArray.data_append, Array.toList_append, List.getD_eq_getElem?_getD, List.getD_eq_getElem?_getD, List.getElem?_append_right (show A.data.toList.length ≤ A.size + i from Nat.le_add_right _ _)]
  have e : A.size + i - A.data.toList.length = i := Nat.add_sub_cancel_left _ _
  rw [e]
theorem ext_app (A B : ByteArray) (i j : Nat) : (A ++ B).extract (A.size + i) (A.size + j) = B.extract i j := by
  apply ByteArray.ext
  rw [ByteArray.data_extract, ByteArray.data_extract, ByteArray.data_append, Array.extract_append]
  have e1 : A.size + i - A.data.size = i := Nat.add_sub_cancel_left _ _
  have e2 : A.size + j - A.data.size = j := Nat.add_sub_cancel_left _ _
  rw [e1, e2]
  have e3 : A.data.extract (A.size + i) (A.size + j) = #[] := by
    apply Array.eq_empty_of_size_eq_zero
    rw [Array.size_extract]
    show min (A.size + j) A.size - (A.size + i) = 0
    omega
  rw [e3]
  simp
theorem bAt_label (s X : ByteArray) (hs : s.size < 256) : bAt (labelB s ++ X) 0 = s.size := by
  rw [bAt_append _ _ _ (by rw [labelB_size]; omega)]
  unfold labelB
  rw [bAt_append _ _ _ (show 0 < 1 from Nat.zero_lt_one)]
  show (UInt8.ofNat (s.size : Int).toNat).toNat = s.size
  simp
  omega
theorem ext_label (s X : ByteArray) : (labelB s ++ X).extract 1 (1 + s.size) = s := by
  have e : labelB s ++ X = bytesOf [(s.size : Int)] ++ (s ++ X) := str_ext (by simp [labelB])
  rw [e, show (1 : Nat) = (bytesOf [(s.size : Int)]).size + 0 from rfl, show (bytesOf [(s.size : Int)]).size + 0 + s.size = (bytesOf [(s.size : Int)]).size + s.size by omega, ext_app]
  exact ByteArray.extract_append_eq_left rfl
theorem rdP_written (ahead behind : ByteArray) : ∀ (r done : List ByteArray) (bd : Nat), mayGo 0 (done ++ r) = true →
    rdP (ahead ++ (bytesL (done ++ r) ++ (⟨#[0]⟩ ++ behind))) (ahead.size + (bytesL done).size) bd done = ⟨done ++ r, ahead.size + (bytesL (done ++ r)).size + 1, 0⟩ := by
  intro r
  induction r with
  | nil =>
    intro done bd h
    rw [List.append_nil] at h ⊢
    have hb : bAt (ahead ++ (bytesL done ++ (⟨#[0]⟩ ++ behind))) (ahead.size + (bytesL done).size) = 0 := by
      rw [bAt_app, show (bytesL done).size = (bytesL done).size + 0 from rfl, bAt_app, bAt_append _ _ _ (show 0 < 1 from Nat.zero_lt_one)]
      rfl
    rw [rdP_zero h (by simp only [ByteArray.size_append]; show ¬ _ + (_ + (1 + _)) ≤ _; omega) hb]
    rfl
  | cons s r ih =>
    intro done bd h
    have hall := mayGo_all _ 0 h
    have hs := hall.1 s (by simp)
    have e1 : bytesL (done ++ s :: r) = bytesL done ++ (labelB s ++ bytesL r) := by
      rw [← bytesL_cons]
      show (done ++ s :: r).foldl _ _ = _
      rw [List.foldl_append, foldl_label]
      rfl
    have hM : ahead ++ (bytesL (done ++ s :: r) ++ (⟨#[0]⟩ ++ behind)) = ahead ++ (bytesL done ++ (labelB s ++ (bytesL r ++ (⟨#[0]⟩ ++ behind)))) := by
      rw [e1]
      exact str_ext (by simp)
    have hb : bAt (ahead ++ (bytesL (done ++ s :: r) ++ (⟨#[0]⟩ ++ behind))) (ahead.size + (bytesL done).size) = s.size := by
      rw [hM, bAt_app, show (bytesL done).size = (bytesL done).size + 0 from rfl, bAt_app, bAt_label _ _ (by omega)]
    have hsz : (ahead ++ (bytesL (done ++ s :: r) ++ (⟨#[0]⟩ ++ behind))).size = ahead.size + ((bytesL done).size + (1 + s.size + (bytesL r).size) + (1 + behind.size)) := by
      rw [ByteArray.size_append, ByteArray.size_append, e1, ByteArray.size_append, ByteArray.size_append, labelB_size, ByteArray.size_append]
      rfl
    have hx : (ahead ++ (bytesL (done ++ s :: r) ++ (⟨#[0]⟩ ++ behind))).extract (ahead.size + (bytesL done).size + 1) (ahead.size + (bytesL done).size + 1 + s.size) = s := by
      rw [hM, Nat.add_assoc ahead.size, Nat.add_assoc ahead.size, ext_app, Nat.add_assoc (bytesL done).size, ext_app, ext_label]
    have e2 : done ++ s :: r = (done ++ [s]) ++ r := by simp
    have e3 : (bytesL (done ++ [s])).size = (bytesL done).size + (1 + s.size) := by
      have : bytesL (done ++ [s]) = bytesL done ++ labelB s := by
        show (done ++ [s]).foldl _ _ = _
        rw [List.foldl_append]
        rfl
      rw [this, ByteArray.size_append, labelB_size]
    rw [rdP_step (mayGo_prefix _ _ _ h) (by omega) (by omega) (by omega) (by omega), hb, hx]
    have := ih (done ++ [s]) bd (by rw [← e2]; exact h)
    rw [← e2, e3] at this
    rw [show ahead.size + (bytesL done).size + 1 + s.size = ahead.size + ((bytesL done).size + (1 + s.size)) by omega]
    exact this
end Go.Proofs.YtbdfijgejkimnaaGreatDoor
/-! Replies: the plain law. -/
namespace Go.Proofs.YtbdfijgejkimnaaGreatDoor
open Go.Conc Go.RowKit

/-- The data of a record that answers. -/
def rdataB (x : RR) : List UInt8 := if x.typ = 1 then [UInt8.ofNat x.a.1, UInt8.ofNat x.a.2.1, UInt8.ofNat x.a.2.2.1, UInt8.ofNat x.a.2.2.2] else beL x.pr 2 ++ (beL x.wt 2 ++ (beL x.po 2 ++ ((bytesL x.tgt).data.toList ++ [0])))
/-- Its bytes. -/
def rrB (x : RR) : List UInt8 := beL 49164 2 ++ (beL x.typ 2 ++ (beL 1 2 ++ (beL x.ttl 4 ++ (beL (rdataB x).length 2 ++ rdataB x))))
structure RROk (x : RR) : Prop where
  typ : x.typ = 1 ∨ x.typ = 33
  ttl : x.ttl < 4294967296
  a : x.a.1 < 256 ∧ x.a.2.1 < 256 ∧ x.a.2.2.1 < 256 ∧ x.a.2.2.2 < 256
  pr : x.pr < 65536
  wt : x.wt < 65536
  po : x.po < 65536
  tgt : mayGo 0 x.tgt = true
  one : x.typ = 1 → x.pr = 0 ∧ x.wt = 0 ∧ x.po = 0 ∧ x.tgt = []
  srv : x.typ = 33 → x.a = (0, 0, 0, 0)
theorem may_size {l : List ByteArray} (h : mayGo 0 l = true) : (bytesL l).size ≤ 254 ∧ l.length ≤ 127 := by
  obtain ⟨_, h2, h3⟩ := mayGo_all l 0 h
  omega
theorem rdata_len {x : RR} (h : RROk x) : (rdataB x).length ≤ 261 := by
  unfold rdataB
  split
  · simp
  · have := (may_size h.tgt).1
    have e : (bytesL x.tgt).data.toList.length = (bytesL x.tgt).size := rfl
    simp only [List.length_append, e, beL, List.length_cons, List.length_nil]
    omega
theorem rrB_len (x : RR) : (rrB x).length = 12 + (rdataB x).length := by
  simp [rrB, beL]
  omega
/-- How many of the records fit behind n bytes. -/
def fits : Nat → List RR → Nat
  | _, [] => 0
  | n, x :: L => if 512 < n + (rrB x).length then 0 else fits (n + (rrB x).length) L + 1
theorem fits_le : ∀ (L : List RR) (n : Nat), fits n L ≤ L.length
  | [], _ => Nat.le_refl _
  | x :: L, n => by
    unfold fits
    split
    · omega
    · have := fits_le L (n + (rrB x).length)
      simp; exact this
/-- The bytes of records. -/
def rrsB (L : List RR) : List UInt8 := L.flatMap rrB
theorem rrsB_cons (x : RR) (L : List RR) : rrsB (x :: L) = rrB x ++ rrsB L := rfl
theorem rrsB_snoc (x : RR) (L : List RR) : rrsB (L ++ [x]) = rrsB L ++ rrB x := by simp [rrsB]
theorem fits_snoc (x : RR) : ∀ (L : List RR) (n : Nat), fits n (L ++ [x]) = if fits n L < L.length then fits n L else if 512 < n + (rrsB L).length + (rrB x).length then L.length else L.length + 1
  | [], n => by
    show (if 512 < n + (rrB x).length then 0 else fits (n + (rrB x).length) [] + 1) = _
    simp [fits, rrsB]
  | y :: L, n => by
    rw [List.cons_append]
    unfold fits
    by_cases h : 512 < n + (rrB y).length
    · rw [if_pos h, if_pos h, if_pos (by simp)]
    · rw [if_neg h, if_neg h, fits_snoc x L, rrsB_cons, List.length_append, List.length_cons]
      generalize fits (n + (rrB y).length) L = F
      generalize (rrB y).length = Y at *
      generalize (rrB x).length = Z
      generalize (rrsB L).length = R
      generalize L.length = M
      by_cases h1 : F < M
      · have h1' : F + 1 < M + 1 := by omega
        rw [if_pos h1, if_pos h1']
      · have h1' : ¬ F + 1 < M + 1 := by omega
        rw [if_neg h1, if_neg h1']
        by_cases h2 : 512 < n + Y + R + Z
        · have h2' : 512 < n + (Y + R) + Z := by omega
          rw [if_pos h2, if_pos h2']
        · have h2' : ¬ 512 < n + (Y + R) + Z := by omega
          rw [if_neg h2, if_neg h2']
theorem fits_size : ∀ (L : List RR) (n : Nat), n ≤ 512 → n + (rrsB (L.take (fits n L))).length ≤ 512
  | [], n, h => by simpa [rrsB, fits] using h
  | y :: L, n, h => by
    unfold fits
    by_cases h1 : 512 < n + (rrB y).length
    · rw [if_pos h1]; simpa [rrsB] using h
    · rw [if_neg h1, List.take_succ_cons, rrsB_cons, List.length_append]
      have := fits_size L (n + (rrB y).length) (by omega)
      omega
/-- Where all fit none is left. -/
theorem fits_all : ∀ (L : List RR) (n : Nat), n + (rrsB L).length ≤ 512 → fits n L = L.length
  | [], _, _ => rfl
  | y :: L, n, h => by
    rw [rrsB_cons, List.length_append] at h
    unfold fits
    rw [if_neg (by omega), fits_all L _ (by omega), List.length_cons]
/-- What a reply takes of a query. -/
structure QT where
  id : Nat
  op : Nat
  des : Bool
  asked : Bool
  name : List ByteArray
  typ : Nat
  cls : Nat
structure QTOk (q : QT) : Prop where
  id : q.id < 65536
  op : q.op ≤ 15
  name : q.asked = true → mayGo 0 q.name = true
  typ : q.typ < 65536
  cls : q.cls < 65536
/-- The question, in bytes. -/
def askB (q : QT) : List UInt8 := if q.asked then (bytesL q.name).data.toList ++ ([0] ++ (beL q.typ 2 ++ beL q.cls 2)) else []
theorem askB_len {q : QT} (h : QTOk q) : (askB q).length ≤ 259 := by
  unfold askB
  split
  · rename_i ha
    have := (may_size (h.name ha)).1
    have e : (bytesL q.name).data.toList.length = (bytesL q.name).size := rfl
    simp only [List.length_append, e, beL, List.length_cons, List.length_nil]
    omega
  · simp
/-- How many records a reply has. -/
def fitN (q : QT) (L : List RR) : Nat := fits (12 + (askB q).length) L
/-- A reply's head. -/
def repH (q : QT) (code n : Nat) (cut : Bool) : HeadT := ⟨q.id, true, q.op, decide (code = 0 ∨ code = 3), cut, q.des, false, 0, code, (q.asked.toNat, n, 0, 0)⟩
theorem repH_ok {q : QT} (h : QTOk q) {code n : Nat} (hc : code ≤ 15) (hn : n < 65536) (cut : Bool) : HeadOk (repH q code n cut) :=
  ⟨h.id, h.op, Nat.zero_le _, hc, by show q.asked.toNat < _; have := Bool.toNat_le q.asked; omega, hn, by show 0 < _; omega, by show 0 < _; omega⟩
def bodyB (q : QT) (L : List RR) : List UInt8 := askB q ++ rrsB (L.take (fitN q L))
/-- A reply's bytes. -/
def repB (q : QT) (code : Nat) (L : List RR) : List UInt8 := headB (repH q code (fitN q L) (decide (fitN q L < L.length))) ++ bodyB q L
theorem bodyB_len {q : QT} (h : QTOk q) (L : List RR) : 12 + (bodyB q L).length ≤ 512 := by
  have h1 := askB_len h
  have h2 := fits_size L (12 + (askB q).length) (by omega)
  unfold bodyB fitN
  rw [List.length_append]
  omega
theorem repB_len {q : QT} (h : QTOk q) (code : Nat) (L : List RR) : (repB q code L).length ≤ 512 := by
  have h1 := bodyB_len h L
  unfold repB
  rw [List.length_append, headB_length]
  omega
/-- A reply of the records that fitted is no longer cut. -/
theorem fitN_take {q : QT} (h : QTOk q) (L : List RR) : fitN q (L.take (fitN q L)) = (L.take (fitN q L)).length := by
  have h1 := bodyB_len h L
  unfold bodyB at h1
  rw [List.length_append] at h1
  exact fits_all _ _ (by omega)
theorem bodyB_take {q : QT} (h : QTOk q) (L : List RR) : bodyB q (L.take (fitN q L)) = bodyB q L := by
  unfold bodyB
  rw [fitN_take h, List.take_length]
/-- One record more: what a reply's loop does. -/
theorem fit_step (q : QT) (L : List RR) (k : Nat) (hk : k < L.length) :
    fitN q (L.take (k + 1)) = (if fitN q (L.take k) < k then fitN q (L.take k) else if 512 < 12 + (askB q ++ rrsB (L.take k)).length + (rrB L[k]).length then k else k + 1) := by
  rw [List.take_succ_eq_append_getElem hk]
  unfold fitN
  rw [fits_snoc, List.length_take, Nat.min_eq_left (by omega), List.length_append, Nat.add_assoc 12]
end Go.Proofs.YtbdfijgejkimnaaGreatDoor
/-! Questions that come: the plain law. -/
namespace Go.Proofs.YtbdfijgejkimnaaGreatDoor
open Go.Conc Go.RowKit

/-- The question of a message: its labels, type, class. -/
def askM (m : ByteArray) : Option (List ByteArray × Nat × Nat) :=
  if gA m 4 = 1 ∧ gA m 6 = 0 ∧ gA m 8 = 0 then
    if (rdP m 12 12 []).err ≠ 0 ∨ m.size < (rdP m 12 12 []).stop.toNat + 4 ∨ ((rdP m 12 12 []).stop.toNat + 4 < m.size ∧ gA m 10 = 0) then none
    else some ((rdP m 12 12 []).ls, gA m (rdP m 12 12 []).stop.toNat, gA m ((rdP m 12 12 []).stop.toNat + 2))
  else none
/-- A message as a query, and the code. -/
def qM (m : ByteArray) : QT × Nat :=
  if (headD m).op ≠ 0 then (⟨(headD m).id, (headD m).op, (headD m).des, false, [], 0, 0⟩, 4)
  else match askM m with
    | none => (⟨(headD m).id, (headD m).op, (headD m).des, false, [], 0, 0⟩, 1)
    | some (l, t, c) => (⟨(headD m).id, (headD m).op, (headD m).des, true, l, t, c⟩, if (t = 1 ∨ t = 33) ∧ c = 1 then 0 else 4)
/-- What is read without an error may be a name. -/
theorem rdP_may (m : ByteArray) (i bd : Nat) (l : List ByteArray) (h : (rdP m i bd l).err = 0) : mayGo 0 (rdP m i bd l).ls = true := by
  induction i, bd, l using rdP.induct (m := m) with
  | case1 i bd l hm => rw [rdP_name hm] at h; simp [Rd.bad] at h
  | case2 i bd l hm h1 => rw [rdP_short (by simpa using hm) h1] at h; simp [Rd.bad] at h
  | case3 i bd l hm h1 h0 => rw [rdP_zero (by simpa using hm) h1 h0]; simpa using hm
  | case4 i bd l hm h1 h0 h2 h3 => rw [rdP_short2 (by simpa using hm) h1 h2 h3] at h; simp [Rd.bad] at h
  | case5 i bd l hm h1 h0 h2 h3 h4 => rw [rdP_loop (by simpa using hm) h1 h2 h3 h4] at h; simp [Rd.bad] at h
  | case6 i bd l hm h1 h0 h2 h3 h4 ih =>
    rw [rdP_ptr (by simpa using hm) h1 h2 h3 h4] at h ⊢
    unfold Rd.fin at h ⊢
    split at h <;> rename_i hq
    · rw [if_pos hq]; exact ih hq.1
    · rw [if_neg hq]; exact ih h
  | case7 i bd l hm h1 h0 h2 h3 => rw [rdP_form (by simpa using hm) h1 h2 h3] at h; simp [Rd.bad] at h
  | case8 i bd l hm h1 h0 h2 h3 h4 => rw [rdP_short3 (by simpa using hm) h1 h0 h3 h4] at h; simp [Rd.bad] at h
  | case9 i bd l hm h1 h0 h2 h3 h4 ih => rw [rdP_step (by simpa using hm) h1 h0 h3 h4] at h ⊢; exact ih h
theorem qM_ok (m : ByteArray) : QTOk (qM m).1 ∧ (qM m).2 ≤ 15 := by
  have k := headD_ok m
  unfold qM
  split
  · exact ⟨⟨k.id, k.op, fun h => by simp at h, by simp, by simp⟩, by simp⟩
  · split
    · exact ⟨⟨k.id, k.op, fun h => by simp at h, by simp, by simp⟩, by simp⟩
    · rename_i l t c he
      unfold askM at he
      split at he
      · split at he
        · simp at he
        · rename_i hn
          simp only [Option.some.injEq, Prod.mk.injEq] at he
          obtain ⟨rfl, rfl, rfl⟩ := he
          refine ⟨⟨k.id, k.op, fun _ => rdP_may m _ _ _ ?_, gA_lt _ _, gA_lt _ _⟩, ?_⟩
          · exact Decidable.byContradiction fun h => hn (.inl h)
          · show (if _ then 0 else 4) ≤ 15
            split <;> omega
      · simp at he
end Go.Proofs.YtbdfijgejkimnaaGreatDoor
/-! query: counted, question's call. -/
namespace Go.Proofs.YtbdfijgejkimnaaGreatDoor
open Go.Conc Go.RowKit

theorem counted_any (w : World) (c0 c1 c2 c3 : Nat) :
    Calls Tryz.prog 98 #[.agg #[.int .u16 c0, .int .u16 c1, .int .u16 c2, .int .u16 c3]] w fun e w' => e = .returned (.bool (decide (c0 = 1 ∧ c1 = 0 ∧ c2 = 0))) ∧ Only (fun _ => False) w w' := by
  go_enter Tryz.func98, Tryz.ntmps98
  obtain ⟨W, hW⟩ : ∃ W, W = w.alloc (.cells #[.int .u16 c0, .int .u16 c1, .int .u16 c2, .int .u16 c3] 51) := ⟨_, rfl⟩
  have hbW : W.heap[w.heap.size]? = some (.cells #[.int .u16 c0, .int .u16 c1, .int .u16 c2, .int .u16 c3] 51 (0, 0)) := by rw [hW]; exact heap_alloc_new w _
  have hoW : Only (fun _ => False) w W := by rw [hW]; exact (Only.refl _ _).alloc _
  have hsW : W.heap.size = w.heap.size + 1 := by rw [hW]; simp
  have x0 : W.cell? ⟨w.heap.size, 0, none⟩ = some (.int .u16 c0) := cell_at hbW 0
  have x1 : W.cell? ⟨w.heap.size, 1, none⟩ = some (.int .u16 c1) := cell_at hbW 1
  have x2 : W.cell? ⟨w.heap.size, 2, none⟩ = some (.int .u16 c2) := cell_at hbW 2
  have x3 : W.cell? ⟨w.heap.size, 3, none⟩ = some (.int .u16 c3) := cell_at hbW 3
  have HO := Lib.hid hoW
  clear hoW
  go_upto_region 1 with (fail)
  rw [← hW]
  clear hW
  by_cases h0 : c0 = 1
  · subst h0
    by_cases h1 : c1 = 0
    · subst h1
      go_wp2_with fail
      go_ret
      exact ⟨ret_bool (by rw [Bool.eq_iff_iff]; simp), HO.out⟩
    · have q1 : ((c1 : Int) == 0) = false := by simp; omega
      go_wp2_with fail
      go_ret
      exact ⟨ret_bool (by simp), HO.out⟩
  · have q0 : ((c0 : Int) == 1) = false := by simp; omega
    go_wp2_with fail
    go_ret
    exact ⟨ret_bool (by simp [h0]), HO.out⟩

theorem gA_take (s : ByteArray) (h : 2 ≤ s.size) : beN (s.data.toList.take 2) 0 = gA s 0 := by
  unfold gA bA
  have hl : 2 ≤ s.data.toList.length := h
  generalize s.data.toList = l at *
  match l, hl with
  | x :: y :: r, _ => simp [beN]
theorem bA_ext (s : ByteArray) (k i : Nat) : bA (s.extract k s.size) i = bA s (k + i) := by
  unfold bA
  rw [ByteArray.data_extract, Array.toList_extract]
  simp only [List.extract_eq_take_drop, List.getD_eq_getElem?_getD]
  by_cases h : k + i < s.size
  · rw [List.getElem?_take, List.getElem?_drop, if_pos (by omega)]
  · rw [List.getElem?_take, List.getElem?_drop]
    have hn : s.data.toList[k + i]? = none := List.getElem?_eq_none (by show s.size ≤ _; omega)
    rw [hn]
    split <;> rfl
theorem gA_ext (s : ByteArray) (k i : Nat) : gA (s.extract k s.size) i = gA s (k + i) := by
  unfold gA
  rw [bA_ext, bA_ext]
  rfl
theorem ext_ext (s : ByteArray) (k j : Nat) : (s.extract k s.size).extract j (s.extract k s.size).size = s.extract (k + j) s.size := by
  apply str_ext
  simp only [ByteArray.data_extract, Array.toList_extract, List.extract_eq_take_drop, ByteArray.size_extract]
  rw [List.drop_take, List.drop_drop, List.take_take]
  congr 1
  omega
/-- A query's cells. -/
def qC (h : HeadT) (asked : Bool) (nv : Value) (t c : Nat) : List Value := headC h ++ [.bool asked, nv, .int .u16 t, .int .u16 c]
structure Q1At (w : World) (b pt pc pv pq : Nat) (c3 : Nat) : Prop where
  t : w.heap[pt]? = some (.cells #[.int .u16 0] 35 (0, 0))
  c : w.heap[pc]? = some (.cells #[.int .u16 0] 35 (0, 0))
  v : w.heap[pv]? = some (.cells #[.pointer (some ⟨pq, 0, none⟩)] 109 (0, 0))
  q : ∃ cs, w.heap[pq]? = some (.cells cs 55 (0, 0)) ∧ cs[12]? = some (.int .u16 c3)
  ne : pt ≠ pc
set_option maxRecDepth 100000 in
set_option maxHeartbeats 2000000 in
theorem quest1_ok (w : World) (b pt pc pv pq : Nat) (s : ByteArray) (c3 : Nat) (h : RdAt w b s) (h4 : 4 ≤ s.size) (hq : Q1At w b pt pc pv pq c3) :
    Calls Tryz.prog 99 #[.pointer (some ⟨b, 0, none⟩), .pointer (some ⟨pt, 0, none⟩), .pointer (some ⟨pc, 0, none⟩), .pointer (some ⟨pv, 0, none⟩)] w fun e w' => e = .returned (.tuple #[]) ∧ Only (fun x => x = b ∨ x = pt ∨ x = pc) w w' ∧
      RdAt w' b (if 0 < c3 then ⟨#[]⟩ else s.extract 4 s.size) ∧ w'.heap[pt]? = some (.cells #[.int .u16 (gA s 0)] 35 (0, 0)) ∧ w'.heap[pc]? = some (.cells #[.int .u16 (gA s 2)] 35 (0, 0)) := by
  obtain ⟨ht, hc, hv, ⟨cs, hqq, h12⟩, hne⟩ := hq
  have n1 : pt ≠ b := by rintro rfl; rw [RdAt, ht] at h; simp at h
  have n2 : pc ≠ b := by rintro rfl; rw [RdAt, hc] at h; simp at h
  have n3 : pv ≠ b := by rintro rfl; rw [RdAt, hv] at h; simp at h
  have n4 : pq ≠ b := by rintro rfl; rw [RdAt, hqq] at h; simp at h
  have n5 : pv ≠ pt := by rintro rfl; rw [ht] at hv; simp at hv
  have n6 : pv ≠ pc := by rintro rfl; rw [hc] at hv; simp at hv
  have n7 : pq ≠ pt := by rintro rfl; rw [ht] at hqq; simp at hqq
  have n8 : pq ≠ pc := by rintro rfl; rw [hc] at hqq; simp at hqq
  have r1 := rnum_ok w b s 2 h (by decide) (by decide) (by omega)
  have e1 := ext_ext s 2 2
  have hs1 : (s.extract 2 s.size).size = s.size - 2 := by rw [ByteArray.size_extract]; omega
  have hg1 := gA_ext s 2 0
  have hg0 := gA_take s (by omega)
  rw [hg0] at r1
  have hb0 := gA_lt s 0
  have hb2 := gA_lt s 2
  obtain ⟨s1, hs1e⟩ : ∃ s1, s1 = s.extract 2 s.size := ⟨_, rfl⟩
  rw [← hs1e] at r1 hs1 hg1 e1
  obtain ⟨s2, hs2e⟩ : ∃ s2, s2 = s1.extract 2 s1.size := ⟨_, rfl⟩
  rw [← hs2e] at e1
  have e1' := e1.symm
  rw [e1']
  have h14 : 2 ≤ s1.size := by omega
  have hg1' := gA_take s1 h14
  rw [hg1] at hg1'
  generalize gA s 0 = y0 at *
  rw [show 2 + 0 = 2 from rfl] at hg1'
  generalize gA s 2 = y2 at *
  have H14 := Lib.hid h14
  obtain ⟨rs, hrs⟩ : ∃ rs : ByteArray, rs = if 0 < c3 then ⟨#[]⟩ else s2 := ⟨_, rfl⟩
  rw [← hrs]
  have HRS := Lib.hid hrs
  clear hrs
  have R1 := Lib.hid r1
  have HT := Lib.hid ht
  have HC := Lib.hid hc
  have HV := Lib.hid hv
  have HQ := Lib.hid hqq
  have HG := Lib.hid hg1'
  have HS2 := Lib.hid hs2e
  have H12 := Lib.hid h12
  clear r1 ht hc hv hqq hg1' hs2e h12
  clear e1 e1' hs1 hg1 hg0 h h4 hs1e h14
  go_enter Tryz.func99, Tryz.ntmps99
  go_wp2_with fail
  refine R1.out.mono ?_
  rintro e w1 ⟨rfl, ho1, hr1⟩
  have t1 := ho1.old HT.out n1
  have x1 : w1.cell? ⟨pt, 0, none⟩ = some (.int .u16 0) := cell_at t1 0
  have f1 : w1.frozen? ⟨pt, 0, none⟩ = false := free_at t1 0
  have T1 := Lib.hid t1
  have O1 := Lib.hid ho1
  have RR1 := Lib.hid hr1
  clear t1 ho1 hr1
  go_wp2_with fail
  have q2 : Only (fun x => x = pt) w1 (w1.setCell ⟨pt, 0, none⟩ (.int .u16 y0)) := (Only.refl _ _).setCell (S := fun x => x = pt) (p := ⟨pt, 0, none⟩) (.inr rfl) _
  have O2 := Lib.hid ((O1.out.weaken (fun x _ (e : x = b) => (.inl e : x = b ∨ x = pt ∨ x = pc))).trans (q2.weaken (fun x _ (e : x = pt) => (.inr (.inl e) : x = b ∨ x = pt ∨ x = pc))))
  have T2 := Lib.hid (set_at T1.out 0 (.int .u16 y0))
  have C2 := Lib.hid (q2.old (O1.out.old HC.out n2) (fun e => hne e.symm))
  have V2 := Lib.hid (q2.old (O1.out.old HV.out n3) n5)
  have Q2 := Lib.hid (q2.old (O1.out.old HQ.out n4) n7)
  have RR2 := Lib.hid (RR1.out.kept q2 (fun e => n1 e.symm))
  clear q2 x1 f1
  generalize w1.setCell ⟨pt, 0, none⟩ (.int .u16 y0) = w2 at *
  have r2 := rnum_ok w2 b s1 2 RR2.out (by decide) (by decide) H14.out
  rw [HG.out, ← HS2.out] at r2
  refine r2.mono ?_
  clear r2
  rintro e w3 ⟨rfl, ho3, hr3⟩
  have c3' := ho3.old C2.out n2
  have x3 : w3.cell? ⟨pc, 0, none⟩ = some (.int .u16 0) := cell_at c3' 0
  have f3 : w3.frozen? ⟨pc, 0, none⟩ = false := free_at c3' 0
  have C3 := Lib.hid c3'
  have O3 := Lib.hid ho3
  have RR3 := Lib.hid hr3
  clear c3' ho3 hr3
  go_upto_region 2 with (fail)
  have q4 : Only (fun x => x = pc) w3 (w3.setCell ⟨pc, 0, none⟩ (.int .u16 y2)) := (Only.refl _ _).setCell (S := fun x => x = pc) (p := ⟨pc, 0, none⟩) (.inr rfl) _
  have O4 := Lib.hid ((O2.out.trans (O3.out.weaken (fun x _ (e : x = b) => (.inl e : x = b ∨ x = pt ∨ x = pc)))).trans (q4.weaken (fun x _ (e : x = pc) => (.inr (.inr e) : x = b ∨ x = pt ∨ x = pc))))
  have T4 := Lib.hid (q4.old (O3.out.old T2.out n1) hne)
  have C4 := Lib.hid (set_at C3.out 0 (.int .u16 y2))
  have v4 : _ := cell_at (q4.old (O3.out.old V2.out n3) n6) 0
  have x4 : _ := (cell_at (q4.old (O3.out.old Q2.out n4) n8) 12).trans H12.out
  have RR4 := Lib.hid (RR3.out.kept q4 (fun e => n2 e.symm))
  clear q4 x3 f3
  generalize w3.setCell ⟨pc, 0, none⟩ (.int .u16 y2) = w4 at *
  by_cases hz : c3 = 0
  · have hrr := HRS.out
    rw [if_neg (by omega)] at hrr
    have HRR := Lib.hid hrr
    clear hrr
    subst hz
    go_wp2_with fail
    go_end0
    exact ⟨rfl, O4.out, by rw [HRR.out]; exact RR4.out, T4.out, C4.out⟩
  · have hz1 : (0 : Int) < (c3 : Int) := by omega
    have hz2 : 0 < c3 := by omega
    have hrr := HRS.out
    rw [if_pos hz2] at hrr
    have HRR := Lib.hid hrr
    clear hrr
    have hl := left_any w4 b s2 RR4.out
    have hr := rraw_ok w4 b s2 s2.size RR4.out (Nat.le_refl _)
    have he : s2.extract s2.size s2.size = ⟨#[]⟩ := by apply str_ext; simp
    rw [he] at hr
    have HL := Lib.hid hl
    have HR := Lib.hid hr
    clear hl hr
    clear he hz hz2
    go_wp2_with fail
    refine HL.out.mono ?_
    rintro e w5 ⟨rfl, rfl⟩
    go_wp2_with fail
    refine HR.out.mono ?_
    rintro e w5 ⟨rfl, ho5, hr5⟩
    have T5 := Lib.hid (ho5.old T4.out n1)
    have C5 := Lib.hid (ho5.old C4.out n2)
    have O5 := Lib.hid (O4.out.trans (ho5.weaken (fun x _ (e : x = b) => (.inl e : x = b ∨ x = pt ∨ x = pc))))
    have R5 := Lib.hid hr5
    clear hr5
    clear ho5
    go_wp2_with fail
    go_end0
    exact ⟨rfl, O5.out, by rw [HRR.out]; exact R5.out, T5.out, C5.out⟩
set_option maxRecDepth 100000 in
set_option maxHeartbeats 2000000 in
theorem quest1_no (w : World) (b pt pc pv pq : Nat) (s : ByteArray) (c3 : Nat) (h : RdAt w b s) (h4 : s.size < 4) (hq : Q1At w b pt pc pv pq c3) :
    Calls Tryz.prog 99 #[.pointer (some ⟨b, 0, none⟩), .pointer (some ⟨pt, 0, none⟩), .pointer (some ⟨pc, 0, none⟩), .pointer (some ⟨pv, 0, none⟩)] w fun e w' => e = refused 2 ∧ Only (fun x => x = b ∨ x = pt ∨ x = pc) w w' := by
  obtain ⟨ht, hc, hv, ⟨cs, hqq, h12⟩, hne⟩ := hq
  have n1 : pt ≠ b := by rintro rfl; rw [RdAt, ht] at h; simp at h
  by_cases h2 : s.size < 2
  · have HC := Lib.hid (rnum_short w b s 2 h (by decide) (by decide) h2)
    clear h2 h4 h ht hc hv hqq h12
    go_enter Tryz.func99, Tryz.ntmps99
    go_wp2_with fail
    refine HC.out.mono ?_
    rintro e w1 ⟨rfl, rfl⟩
    unfold refused
    go_wp2_with fail
    exact ⟨rfl, rfl, Only.refl _ _⟩
  have r1 := rnum_ok w b s 2 h (by decide) (by decide) (by omega)
  rw [gA_take s (by omega)] at r1
  have hb0 := gA_lt s 0
  have hs1 : (s.extract 2 s.size).size < 2 := by rw [ByteArray.size_extract]; omega
  generalize s.extract 2 s.size = s1 at *
  generalize gA s 0 = y0 at *
  have HS1 := Lib.hid hs1
  have R1 := Lib.hid r1
  have HT := Lib.hid ht
  clear r1 ht
  clear h h4 h2 hs1 hc hv hqq h12
  go_enter Tryz.func99, Tryz.ntmps99
  go_wp2_with fail
  refine R1.out.mono ?_
  rintro e w1 ⟨rfl, ho1, hr1⟩
  have t1 := ho1.old HT.out n1
  have x1 : w1.cell? ⟨pt, 0, none⟩ = some (.int .u16 0) := cell_at t1 0
  have f1 : w1.frozen? ⟨pt, 0, none⟩ = false := free_at t1 0
  have T1 := Lib.hid t1
  have O1 := Lib.hid ho1
  have RR1 := Lib.hid hr1
  clear t1 ho1 hr1
  go_wp2_with fail
  have q2 : Only (fun x => x = pt) w1 (w1.setCell ⟨pt, 0, none⟩ (.int .u16 y0)) := (Only.refl _ _).setCell (S := fun x => x = pt) (p := ⟨pt, 0, none⟩) (.inr rfl) _
  have O2 := Lib.hid ((O1.out.weaken (fun x _ (e : x = b) => (.inl e : x = b ∨ x = pt ∨ x = pc))).trans (q2.weaken (fun x _ (e : x = pt) => (.inr (.inl e) : x = b ∨ x = pt ∨ x = pc))))
  have RR2 := Lib.hid (RR1.out.kept q2 (fun e => n1 e.symm))
  clear q2 x1 f1
  generalize w1.setCell ⟨pt, 0, none⟩ (.int .u16 y0) = w2 at *
  have HC := Lib.hid (rnum_short w2 b s1 2 RR2.out (by decide) (by decide) HS1.out)
  refine HC.out.mono ?_
  rintro e w3 ⟨rfl, rfl⟩
  unfold refused
  go_wp2_with fail
  exact ⟨rfl, rfl, O2.out⟩
end Go.Proofs.YtbdfijgejkimnaaGreatDoor
/-! query: question. -/
namespace Go.Proofs.YtbdfijgejkimnaaGreatDoor
open Go.Conc Go.RowKit

/-- Where the reading of a name ends. -/
theorem rdP_stop (m : ByteArray) (i bd : Nat) (l : List ByteArray) (h : (rdP m i bd l).err = 0) : 0 ≤ (rdP m i bd l).stop ∧ (rdP m i bd l).stop ≤ m.size := by
  induction i, bd, l using rdP.induct (m := m) with
  | case1 i bd l hm => rw [rdP_name hm] at h; simp [Rd.bad] at h
  | case2 i bd l hm h1 => rw [rdP_short (by simpa using hm) h1] at h; simp [Rd.bad] at h
  | case3 i bd l hm h1 h0 => rw [rdP_zero (by simpa using hm) h1 h0]; dsimp only; omega
  | case4 i bd l hm h1 h0 h2 h3 => rw [rdP_short2 (by simpa using hm) h1 h2 h3] at h; simp [Rd.bad] at h
  | case5 i bd l hm h1 h0 h2 h3 h4 => rw [rdP_loop (by simpa using hm) h1 h2 h3 h4] at h; simp [Rd.bad] at h
  | case6 i bd l hm h1 h0 h2 h3 h4 ih =>
    rw [rdP_ptr (by simpa using hm) h1 h2 h3 h4] at h ⊢
    unfold Rd.fin at h ⊢
    split at h <;> rename_i hq
    · rw [if_pos hq]; dsimp only; omega
    · rw [if_neg hq]
      have := ih h
      omega
  | case7 i bd l hm h1 h0 h2 h3 => rw [rdP_form (by simpa using hm) h1 h2 h3] at h; simp [Rd.bad] at h
  | case8 i bd l hm h1 h0 h2 h3 h4 => rw [rdP_short3 (by simpa using hm) h1 h0 h3 h4] at h; simp [Rd.bad] at h
  | case9 i bd l hm h1 h0 h2 h3 h4 ih => rw [rdP_step (by simpa using hm) h1 h0 h3 h4] at h ⊢; exact ih h
/-- What question leaves. -/
def QuestP (w w' : World) (pq : Nat) (h : HeadT) (r : Option (List ByteArray × Nat × Nat)) (e : Ending) : Prop :=
  match r with
  | none => e = .returned (.bool false) ∧ Only (fun _ => False) w w'
  | some (l, t, c) => ∃ nv, e = .returned (.bool true) ∧ Only (fun x => x = pq) w w' ∧ w'.heap[pq]? = some (.cells (qC h true nv t c).toArray 55 (0, 0)) ∧ Sl w' 1 nv l.length (l.map .string)
def askH (m : ByteArray) (h : HeadT) : Option (List ByteArray × Nat × Nat) :=
  if h.cts.1 = 1 ∧ h.cts.2.1 = 0 ∧ h.cts.2.2.1 = 0 then
    if (rdP m 12 12 []).err ≠ 0 ∨ m.size < (rdP m 12 12 []).stop.toNat + 4 ∨ ((rdP m 12 12 []).stop.toNat + 4 < m.size ∧ h.cts.2.2.2 = 0) then none
    else some ((rdP m 12 12 []).ls, gA m (rdP m 12 12 []).stop.toNat, gA m ((rdP m 12 12 []).stop.toNat + 2))
  else none
theorem askH_ask (m : ByteArray) : askH m (headD m) = askM m := rfl
theorem heldC {S : Nat → Prop} {W w' : World} {C : World → Prop} (hC : ∀ w', Only S W w' → C w') (h : Only S W w') : Only S W w' ∧ C w' := ⟨h, hC _ h⟩
theorem onlyQ {B : Nat} {W w : World} (h : Only (fun x => x = B) W w) (i : Nat) (v : Value) : Only (fun x => x = B) W (w.setCell ⟨B, i, none⟩ v) := h.setCell (.inr rfl) v
theorem slS {S : Nat → Prop} {w w' : World} {v : Value} {l : List ByteArray} (h : Sl w 1 v l.length (l.map .string)) (ho : Only S w w') (hn : ∀ b i s, S b → w.cell? ⟨b, i, none⟩ ≠ some (.string s)) : Sl w' 1 v l.length (l.map .string) := by
  obtain ⟨h1, a, cap, h2, h3, h4, h5⟩ := h
  refine ⟨h1, a, cap, h2, h3, h4, ?_⟩
  rcases h5 with h5 | ⟨b, off, h5, h6⟩
  · exact .inl h5
  · refine .inr ⟨b, off, h5, fun j u hu => ho.cell (h6 j u hu) (fun hS => ?_)⟩
    have hm := List.mem_of_getElem? hu
    obtain ⟨s, _, rfl⟩ := List.mem_map.1 hm
    exact hn b (off + j) s hS (h6 j _ hu)
theorem qC_nostr (h : HeadT) (a : Bool) (t c i : Nat) (s : ByteArray) : (qC h a (.slice none 0 0) t c).toArray[i]? ≠ some (.string s) := by
  intro hu
  rw [List.getElem?_toArray] at hu
  have := List.mem_of_getElem? hu
  simp [qC, headC] at this
theorem qC_set {w : World} {b : Nat} {h : HeadT} (nv : Value) (t c : Nat) (hb : w.heap[b]? = some (.cells (qC h false (.slice none 0 0) 0 0).toArray 55 (0, 0))) :
    ((((w.setCell ⟨b, 13, none⟩ (.bool true)).setCell ⟨b, 14, none⟩ nv).setCell ⟨b, 15, none⟩ (.int .u16 t)).setCell ⟨b, 16, none⟩ (.int .u16 c)).heap[b]? = some (.cells (qC h true nv t c).toArray 55 (0, 0)) := by
  have h1 : (w.setCell ⟨b, 13, none⟩ (.bool true)).heap[b]? = some (.cells (qC h true (.slice none 0 0) 0 0).toArray 55 (0, 0)) := set_at hb 13 _
  have h2 : ((w.setCell ⟨b, 13, none⟩ (.bool true)).setCell ⟨b, 14, none⟩ nv).heap[b]? = some (.cells (qC h true nv 0 0).toArray 55 (0, 0)) := set_at h1 14 _
  have h3 : (((w.setCell ⟨b, 13, none⟩ (.bool true)).setCell ⟨b, 14, none⟩ nv).setCell ⟨b, 15, none⟩ (.int .u16 t)).heap[b]? = some (.cells (qC h true nv t 0).toArray 55 (0, 0)) := set_at h2 15 _
  exact set_at h3 16 _
set_option maxRecDepth 100000 in
set_option maxHeartbeats 4000000 in
theorem question_any (w : World) (pq : Nat) (m : ByteArray) (h : HeadT) (hm : m.size ≤ 100000) (h12 : 12 ≤ m.size) (hq : w.heap[pq]? = some (.cells (qC h false (.slice none 0 0) 0 0).toArray 55 (0, 0))) :
    Calls Tryz.prog 58 #[.pointer (some ⟨pq, 0, none⟩), .string m] w fun e w' => QuestP w w' pq h (askH m h) e := by
  have hmf : ∀ (fn : Fn) (first cap : Array Value) (w : World), (Instr.makeFunc fn first cap).run Tryz.prog w = .ok (.func fn first cap) w := fun _ _ _ _ => rfl
  have hen : ∀ args w, (callFunc 99 args).run Tryz.prog w = .ok (.enter 99 args) w := fun _ _ => by go_simp
  have HRD := Lib.hid (fun W : World => read_any W m 12 hm h12)
  have hstop := rdP_stop m 12 12 []
  obtain ⟨ih, resp, op, auth, trunc, des, avail, zr, code, c0, c1, c2, c3⟩ := h
  obtain ⟨R, hR⟩ : ∃ R, R = askH m ⟨ih, resp, op, auth, trunc, des, avail, zr, code, (c0, c1, c2, c3)⟩ := ⟨_, rfl⟩
  rw [← hR]
  unfold askH at hR
  dsimp only at hR
  generalize rdP m 12 12 [] = r at *
  have HR := Lib.hid hR
  have HQ := Lib.hid hq
  have HSTOP := Lib.hid hstop
  have HEN := Lib.hid hen
  clear hR hq hstop hen
  have hqc := fun i => cell_at HQ.out i
  have q9 : w.cell? ⟨pq, 9, none⟩ = some (.int .u16 c0) := hqc 9
  have q10 : w.cell? ⟨pq, 10, none⟩ = some (.int .u16 c1) := hqc 10
  have q11 : w.cell? ⟨pq, 11, none⟩ = some (.int .u16 c2) := hqc 11
  have q12 : w.cell? ⟨pq, 12, none⟩ = some (.int .u16 c3) := hqc 12
  have hlt := lt_of_block HQ.out
  clear hqc
  go_enter Tryz.func58, Tryz.ntmps58
  obtain ⟨W, hW⟩ : ∃ W, W = w.alloc (.cells #[.pointer (some ⟨pq, 0, none⟩)] 109) := ⟨_, rfl⟩
  have hbW : W.heap[w.heap.size]? = some (.cells #[.pointer (some ⟨pq, 0, none⟩)] 109 (0, 0)) := by rw [hW]; exact heap_alloc_new w _
  have hoW : Only (fun _ => False) w W := by rw [hW]; exact (Only.refl _ _).alloc _
  have hsW : W.heap.size = w.heap.size + 1 := by rw [hW]; simp
  have y9 := hoW.cell q9 id
  have y10 := hoW.cell q10 id
  have y11 := hoW.cell q11 id
  have y12 := hoW.cell q12 id
  have yv : W.cell? ⟨w.heap.size, 0, none⟩ = some (.pointer (some ⟨pq, 0, none⟩)) := cell_at hbW 0
  have HO := Lib.hid hoW
  have HBW := Lib.hid hbW
  have HSW := Lib.hid hsW
  clear hoW hbW hsW
  clear q9 q10 q11 q12
  go_upto_region 1 with (fail)
  rw [← hW]
  clear hW
  go_wp2_with fail
  refine (counted_any _ c0 c1 c2 c3).mono ?_
  rintro e w1 ⟨rfl, ho1⟩
  clear y9 y10 y11 y12 yv
  by_cases hc : c0 = 1 ∧ c1 = 0 ∧ c2 = 0
  · rw [decide_eq_true hc]
    have hR := HR.out
    rw [if_pos hc] at hR
    have HR2 := Lib.hid hR
    have HC := Lib.hid hc
    clear hR hc
    have HO1 := Lib.hid (HO.out.trans ho1)
    have HB1 := Lib.hid (ho1.old HBW.out id)
    have hs1 := ho1.size
    clear ho1 HR
    go_wp2_with fail
    refine (HRD.out _).mono ?_
    rintro e w2 ⟨nv, rfl, ho2, hsl⟩
    obtain ⟨l, stop, err⟩ := r
    dsimp only at hsl HR2 HSTOP
    by_cases he : err = 0
    · subst he
      obtain ⟨hp0, hp1⟩ := HSTOP.out rfl
      obtain ⟨p, rfl⟩ : ∃ p : Nat, stop = p := ⟨stop.toNat, by omega⟩
      have hp2 : p ≤ m.size := by omega
      have hs2 := ho2.size
      have HO2 := Lib.hid (HO1.out.trans ho2)
      have HB2 := Lib.hid (ho2.old HB1.out id)
      have hlt2 : pq < w2.heap.size := by have := HSW.out; omega
      have hwlt2 : w.heap.size < w2.heap.size := by have := HSW.out; omega
      have hR := HR2.out
      have hbp : (p : Int) ≤ m.size := hp1
      have HSL := Lib.hid hsl
      have HRF := Lib.hid hR
      clear hsl hR
      clear ho2 hs1 hs2 HR2 HSTOP HRD
      go_upto_region 7 with (fail)
      obtain ⟨W4, hW4⟩ : ∃ W4, W4 = (w2.alloc (.cells #[.int .u16 0] 35)).alloc (.cells #[.int .u16 0] 35) := ⟨_, rfl⟩
      obtain ⟨z1, z2⟩ := two_blocks w2 _ _ (w1 := W4) (by rw [← hW4]; exact Only.refl _ _)
      have hWo : Only (fun _ => False) w2 W4 := by rw [hW4]; exact ((Only.refl _ _).alloc _).alloc _
      have hWs : W4.heap.size = w2.heap.size + 2 := by rw [hW4]; simp
      rw [← hW4]
      clear hW4
      have hb4 := hWo.old HB2.out id
      have hq4 := hWo.old (HO2.out.old HQ.out id) id
      have hsl4 := HSL.out.new hWo
      have h1at : ∀ w' b, Only (fun _ => False) W4 w' → Q1At w' b w2.heap.size (w2.heap.size + 1) w.heap.size pq c3 := fun w' b ho => ⟨ho.old z1 id, ho.old z2 id, ho.old hb4 id, ⟨_, ho.old hq4 id, rfl⟩, by omega⟩
      have hsz : (m.extract p m.size).size = m.size - p := by rw [ByteArray.size_extract]; omega
      have hg0 := gA_ext m p 0
      have hg2 := gA_ext m p 2
      have hex := ext_ext m p 4
      generalize hse : m.extract p m.size = s at *
      have HSE := Lib.hid hse
      clear hse
      by_cases h4 : s.size < 4
      · have hrd := read_no W4 s 99 #[.pointer (some ⟨w2.heap.size, 0, none⟩), .pointer (some ⟨w2.heap.size + 1, 0, none⟩), .pointer (some ⟨w.heap.size, 0, none⟩)] (fun x => x = w2.heap.size ∨ x = w2.heap.size + 1) 2 (by decide) (fun _ => True) HEN.out
          (fun a c ha ho => trivial) (fun w1 b ho hr hb => by
            refine (quest1_no w1 b _ _ _ pq s c3 hr h4 (h1at w1 b ho)).mono ?_
            rintro e w2 ⟨k1, k2⟩
            exact ⟨k1, k2.weaken (fun x _ e => e.elim .inl (fun e => .inr ⟨e, by rcases e with e | e <;> omega⟩)), trivial⟩)
        have hRn : R = none := by rw [HRF.out, if_pos (.inr (.inl (by simp; omega)))]
        have HWO := Lib.hid (HO2.out.trans hWo)
        have RD := Lib.hid hrd
        have HRN := Lib.hid hRn
        clear hrd hRn
        clear h1at hsz hg0 hg2 hex hsl4 hq4 hb4 z1 z2 hWo hWs h4
        go_wp2_with fail
        rw [HSE.out]
        refine RD.out.mono ?_
        rintro e w5 ⟨rfl, ho5, _⟩
        have HO5 := Lib.hid (HWO.out.tr ho5 (fun x hx e => by have := HSW.out; have := HO1.out.size; have := HO2.out.size; omega))
        clear ho5
        go_wp2_with fail
        go_ret
        rw [HRN.out]
        exact ⟨rfl, HO5.out⟩
      · obtain ⟨rs, hrs⟩ : ∃ rs : ByteArray, rs = if 0 < c3 then ⟨#[]⟩ else s.extract 4 s.size := ⟨_, rfl⟩
        have hrd := read_ok W4 s 99 #[.pointer (some ⟨w2.heap.size, 0, none⟩), .pointer (some ⟨w2.heap.size + 1, 0, none⟩), .pointer (some ⟨w.heap.size, 0, none⟩)] (fun x => x = w2.heap.size ∨ x = w2.heap.size + 1) rs
          (fun v => v.heap[w2.heap.size]? = some (.cells #[.int .u16 (gA s 0)] 35 (0, 0)) ∧ v.heap[w2.heap.size + 1]? = some (.cells #[.int .u16 (gA s 2)] 35 (0, 0))) HEN.out
          (fun a c ha ho => ⟨ho.old ha.1 (by omega), ho.old ha.2 (by omega)⟩) (fun w1 b ho hr hb => by
            refine (quest1_ok w1 b _ _ _ pq s c3 hr (by omega) (h1at w1 b ho)).mono ?_
            rintro e w2 ⟨k1, k2, k3, k4, k5⟩
            exact ⟨k1, k2.weaken (fun x _ e => e.elim .inl (fun e => .inr ⟨e, by rcases e with e | e <;> omega⟩)), by rw [hrs]; exact k3, k4, k5⟩)
        rw [hg0, hg2, Nat.add_zero] at hrd
        have HWO := Lib.hid (HO2.out.trans hWo)
        by_cases hrz : rs.size = 0
        · rw [if_pos hrz] at hrd
          have hRn : R = some (l, gA m p, gA m (p + 2)) := by
            rw [HRF.out, if_neg]
            · simp
            · rintro (h | h | ⟨h, h0⟩)
              · exact h rfl
              · simp at h; omega
              · simp at h
                rw [h0] at hrs
                simp at hrs
                rw [hrs, ByteArray.size_extract] at hrz
                omega
          have hpt : W4.heap[w.heap.size]? = _ := hb4
          have hT : ∀ x, x < w2.heap.size → ¬ (x = w2.heap.size ∨ x = w2.heap.size + 1) := fun x hx e => by omega
          have HWS := Lib.hid hWs
          have gt0 := gA_lt m p
          have gt2 := gA_lt m (p + 2)
          generalize gA m p = y0 at *
          generalize gA m (p + 2) = y2 at *
          have RD := Lib.hid hrd
          have HRN := Lib.hid hRn
          have HB4 := Lib.hid hb4
          have HQ4 := Lib.hid hq4
          have HT := Lib.hid hT
          have HSL4 := Lib.hid hsl4
          have HZ1 := Lib.hid z1
          have HZ2 := Lib.hid z2
          clear hrd hRn hb4 hq4 hT hsl4 z1 z2
          clear h1at hsz hg0 hg2 hex hWo h4 hrz hrs hpt hWs
          go_wp2_with fail
          rw [HSE.out]
          refine RD.out.mono ?_
          rintro e w5 ⟨rfl, ho5, hx0, hx2⟩
          have hq5 := ho5.old HQ4.out (HT.out _ hlt2)
          have hv5 := ho5.old HB4.out (HT.out _ hwlt2)
          have HO5 := Lib.hid (HWO.out.tr ho5 (fun x hx e => by have := HSW.out; have := HO1.out.size; have := HO2.out.size; omega))
          have hsl5 := HSL4.out
          have x0 : w5.cell? ⟨w2.heap.size, 0, none⟩ = some (.int .u16 y0) := cell_at hx0 0
          have x1 : w5.cell? ⟨w2.heap.size + 1, 0, none⟩ = some (.int .u16 y2) := cell_at hx2 0
          have xv : w5.cell? ⟨w.heap.size, 0, none⟩ = some (.pointer (some ⟨pq, 0, none⟩)) := cell_at hv5 0
          have y13 : w5.cell? ⟨pq, 13, none⟩ = some (.bool false) := cell_at hq5 13
          have y14 : w5.cell? ⟨pq, 14, none⟩ = some (.slice none 0 0) := cell_at hq5 14
          have y15 : w5.cell? ⟨pq, 15, none⟩ = some (.int .u16 0) := cell_at hq5 15
          have y16 : w5.cell? ⟨pq, 16, none⟩ = some (.int .u16 0) := cell_at hq5 16
          have yf : ∀ i, w5.frozen? ⟨pq, i, none⟩ = false := free_at hq5
          have HCC := Lib.hid (show ∀ w', Only (fun x => x = pq) w5 w' → w'.cell? ⟨w2.heap.size, 0, none⟩ = some (.int .u16 y0) ∧ w'.cell? ⟨w2.heap.size + 1, 0, none⟩ = some (.int .u16 y2) ∧ w'.cell? ⟨w.heap.size, 0, none⟩ = some (.pointer (some ⟨pq, 0, none⟩)) from
            fun w' ho => ⟨ho.cell x0 (by simp; omega), ho.cell x1 (by simp; omega), ho.cell xv (by simp; omega)⟩)
          obtain ⟨_, na, nc, rfl, _⟩ := id hsl5
          have hlt5 := lt_of_block hq5
          have HQ5 := Lib.hid hq5
          clear hq5
          have HSL5 := Lib.hid hsl5
          have HO45 := Lib.hid ho5
          clear hx0 hx2 hv5 ho5
          go_upto_region 10 with (fail)
          go_region_held3 (fun w' => Only (fun x => x = pq) w5 w' ∧ w'.cell? ⟨w2.heap.size, 0, none⟩ = some (.int .u16 y0) ∧ w'.cell? ⟨w2.heap.size + 1, 0, none⟩ = some (.int .u16 y2) ∧ w'.cell? ⟨w.heap.size, 0, none⟩ = some (.pointer (some ⟨pq, 0, none⟩)))
            ((refine heldC HCC.out ?_; (repeat (first | (with_reducible assumption) | (with_reducible exact Only.refl _ _) | (with_reducible refine Only.drew ?_) | (with_reducible refine onlyQ ?_ _ _)))))
            (fail)
          go_wp2_with fail
          go_ret
          rw [HRN.out]
          have ho9 : Only (fun x => x = pq) w5 (((((w5.setCell ⟨pq, 13, none⟩ (.bool true)).setCell ⟨pq, 14, none⟩ (.slice na l.length nc)).setCell ⟨pq, 15, none⟩ (.int .u16 y0)).setCell ⟨pq, 16, none⟩ (.int .u16 y2))).drew := (onlyQ (onlyQ (onlyQ (onlyQ (Only.refl _ _) _ _) _ _) _ _) _ _).drew
          refine ⟨_, rfl, (HO5.out.weaken (fun _ _ e => e.elim)).trans ho9, qC_set _ y0 y2 HQ5.out, ?_⟩
          refine slS (slS HSL5.out HO45.out (fun b i s e he => ?_)) ho9 (fun b i s e he => ?_)
          · rcases e with rfl | rfl
            · rw [cell_at HZ1.out] at he
              exact absurd (List.mem_of_getElem? ((List.getElem?_toArray ..).symm.trans he)) (by simp)
            · rw [cell_at HZ2.out] at he
              exact absurd (List.mem_of_getElem? ((List.getElem?_toArray ..).symm.trans he)) (by simp)
          · subst e
            rw [cell_at HQ5.out] at he
            exact qC_nostr _ _ _ _ _ _ he
        · rw [if_neg hrz] at hrd
          have hRn : R = none := by
            rw [HRF.out, if_pos]
            by_cases h0 : 0 < c3
            · rw [if_pos h0] at hrs
              exact absurd (by rw [hrs]; rfl) hrz
            · rw [if_neg h0] at hrs
              rw [hrs, ByteArray.size_extract] at hrz
              exact .inr (.inr ⟨by simp; omega, by omega⟩)
          have RD := Lib.hid hrd
          have HRN := Lib.hid hRn
          clear hrd hRn
          have hws := Lib.hid hWs
          clear h1at hsz hg0 hg2 hex hsl4 hq4 hb4 z1 z2 hWo hWs h4 hrz hrs
          go_wp2_with fail
          rw [HSE.out]
          refine RD.out.mono ?_
          rintro e w5 ⟨rfl, ho5, _⟩
          have HO5 := Lib.hid (HWO.out.tr ho5 (fun x hx e => by have := HSW.out; have := HO1.out.size; have := HO2.out.size; omega))
          clear ho5
          go_wp2_with fail
          go_ret
          rw [HRN.out]
          exact ⟨rfl, HO5.out⟩
    · have hRn : R = none := by rw [HR2.out, if_pos (.inl he)]
      have he1 : ((err : Int) == 0) = false := by simp; omega
      have HO2 := Lib.hid (HO1.out.trans ho2)
      have HRN := Lib.hid hRn
      clear hRn
      clear ho2 hs1 HR2 HSTOP HRD he hsl
      go_wp2_with fail
      go_ret
      rw [HRN.out]
      exact ⟨rfl, HO2.out⟩
  · rw [decide_eq_false hc]
    have hRn : R = none := by rw [HR.out, if_neg hc]
    have HO1 := Lib.hid (HO.out.trans ho1)
    have HRN := Lib.hid hRn
    clear hRn
    clear ho1 HR hc
    go_wp2_with fail
    go_ret
    rw [HRN.out]
    exact ⟨rfl, HO1.out⟩
end Go.Proofs.YtbdfijgejkimnaaGreatDoor
/-! Structs in memory, as whole rows. -/
namespace Go.Proofs.YtbdfijgejkimnaaGreatDoor
open Go.Conc Go.RowKit

theorem row_set {w : World} {b : Nat} {old : Array Value} {t : TypeId} (h : w.heap[b]? = some (.cells old t (0, 0))) (cs : Array Value) : (w.setRow b cs).heap[b]? = some (.cells cs t (0, 0)) := setRow_heap w b old cs t (0, 0) h
theorem Only.setRow {S : Nat → Prop} {a w : World} (h : Only S a w) {b : Nat} (hp : a.heap.size ≤ b ∨ S b) (cs : Array Value) : Only S a (w.setRow b cs) :=
  ⟨h.os, h.tape, h.output, by simpa using h.size, fun k hk hn => by
    rw [setRow_other _ _ _ _ (fun e => by subst e; rcases hp with hp | hp; exact absurd hk (by omega); exact hn hp)]
    exact h.block k hk hn⟩
section
variable {P : Program}
theorem results_row {fn : Func} {p : Tmp} {ty : TypeId} (h : fn.results = #[.cell p ty]) (tmps : Array Value) (w : World) (g : Nat) (t : TypeId) (cs : Array Value) (fr : Nat × Nat) (d : TypeDesc)
    (hp : tmps.getD p undef = .pointer (some ⟨g, 0, none⟩)) (hg : w.heap[g]? = some (.cells cs t fr))
    (hu : P.underlying ty = some d) (hd : (match d with | .struct _ | .array _ _ => true | _ => false) = true) (hi : (P.info? ty).map (·.size) = some cs.size) :
    (results fn tmps).run P w = .ok (.agg cs) w := results_cell_row h tmps w g t cs fr d hp hg hu hd hi
theorem results_row1 {fn : Func} {p u : Tmp} {ty : TypeId} (h : fn.results = #[.cell p ty, .tmp u]) (tmps : Array Value) (w : World) (g : Nat) (t : TypeId) (cs : Array Value) (fr : Nat × Nat) (d : TypeDesc)
    (hp : tmps.getD p undef = .pointer (some ⟨g, 0, none⟩)) (hg : w.heap[g]? = some (.cells cs t fr))
    (hu : P.underlying ty = some d) (hd : (match d with | .struct _ | .array _ _ => true | _ => false) = true) (hi : (P.info? ty).map (·.size) = some cs.size) (x : Value) (hx : tmps.getD u undef = x) :
    (results fn tmps).run P w = .ok (.tuple #[.agg cs, x]) w := by
  subst hx
  simp only [results, h]
  have hp' : tmps[p]?.getD undef = .pointer (some ⟨g, 0, none⟩) := by simpa using hp
  simp [hp', asAddr, Result.andThen, run_loadVar_row w g t ty cs fr d hg hu hd hi]
theorem results_row2 {fn : Func} {p u v : Tmp} {ty : TypeId} (h : fn.results = #[.cell p ty, .tmp u, .tmp v]) (tmps : Array Value) (w : World) (g : Nat) (t : TypeId) (cs : Array Value) (fr : Nat × Nat) (d : TypeDesc)
    (hp : tmps.getD p undef = .pointer (some ⟨g, 0, none⟩)) (hg : w.heap[g]? = some (.cells cs t fr))
    (hu : P.underlying ty = some d) (hd : (match d with | .struct _ | .array _ _ => true | _ => false) = true) (hi : (P.info? ty).map (·.size) = some cs.size) (x y : Value) (hx : tmps.getD u undef = x) (hy : tmps.getD v undef = y) :
    (results fn tmps).run P w = .ok (.tuple #[.agg cs, x, y]) w := by
  subst hx hy
  simp only [results, h]
  have hp' : tmps[p]?.getD undef = .pointer (some ⟨g, 0, none⟩) := by simpa using hp
  simp [hp', asAddr, Result.andThen, run_loadVar_row w g t ty cs fr d hg hu hd hi]
end
end Go.Proofs.YtbdfijgejkimnaaGreatDoor
