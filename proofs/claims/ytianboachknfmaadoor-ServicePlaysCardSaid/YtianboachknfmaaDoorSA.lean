/- Records put in any order make the same store, plainly. -/
import Derived.Test.YtianboachknfmaaDoorMC
import Derived.Lib.LazyBuf
import Derived.Deep.RegionHeld3
import Derived.Test.YtianboachknfmaaDoorME
/-! record: Make. -/
namespace Go.Proofs.YtianboachknfmaaDoor
open Go.Conc Go.RowKit

/-- A service's data in bytes. -/
def dataL (a0 a1 a2 a3 : Int) (p q r : Nat) : List UInt8 := (bytesOf [a0, a1, a2, a3]).data.toList ++ beL p 2 ++ beL q 2 ++ beL r 2
theorem arr0 (W : World) (x y z : Value) : (Instr.index 191 (.agg #[x, y, z]) (.int .i64 0)).run Tryd.prog W = .ok x W := by kernel_rfl
theorem arr1 (W : World) (x y z : Value) : (Instr.index 191 (.agg #[x, y, z]) (.int .i64 1)).run Tryd.prog W = .ok y W := by kernel_rfl
theorem arr2 (W : World) (x y z : Value) : (Instr.index 191 (.agg #[x, y, z]) (.int .i64 2)).run Tryd.prog W = .ok z W := by kernel_rfl

set_option maxRecDepth 100000 in
set_option maxHeartbeats 2000000 in
theorem make1_any (w : World) (b base : Nat) (S : Nat → Prop) (ps : Nat) (name : ByteArray) (a0 a1 a2 a3 : Int) (p q r : Nat) (h : WrAt w b base S []) (hs : w.heap[ps]? = some (.cells #[.string name, .int .u8 a0, .int .u8 a1, .int .u8 a2, .int .u8 a3, .int .u16 p, .int .u16 q, .int .u16 r] 86 (0, 0)))
    (hp : p < 65536) (hq : q < 65536) (hr : r < 65536) (hbase : base ≤ w.heap.size) :
    Calls Tryd.prog 104 #[.pointer (some ⟨b, 0, none⟩), .pointer (some ⟨ps, 0, none⟩)] w fun e w' => e = .returned (.tuple #[]) ∧ WPost w w' b base S (dataL a0 a1 a2 a3 p q r) := by
  have hsl : Sl w 1 (.slice (some ⟨ps, 1, none⟩) 4 4) [a0, a1, a2, a3].length ([a0, a1, a2, a3].map (.int .u8)) := by
    refine ⟨rfl, _, 4, rfl, Nat.le_refl 4, by unfold maxLen; decide, .inr ⟨ps, 1, rfl, fun j u hu => ?_⟩⟩
    rw [cell_at hs]
    match j, hu with
    | 0, hu => exact hu
    | 1, hu => exact hu
    | 2, hu => exact hu
    | 3, hu => exact hu
  have hcv := run_bytes_str (P := Tryd.prog) (src := 130) (dst := 9) (e := 5) Tryd.underlying130 Tryd.underlying5 Tryd.underlying9 hsl
  have H := Lib.hid h
  have HS := Lib.hid hs
  have hns := h.at (e := 86) (by decide) (by decide) hs
  have HNS := Lib.hid hns
  clear h hs hsl hns
  go_enter Tryd.func104, Tryd.ntmps104
  go_wp2_with fail
  refine (raw_ok _ b base S [] (bytesOf [a0, a1, a2, a3]) H.out (by decide) (Nat.le_of_ble_eq_true rfl) hbase).mono ?_
  rintro e w1 ⟨rfl, hp1⟩
  have hs1 := hp1.old HS.out HNS.out
  have c5 : w1.cell? ⟨ps, 5, none⟩ = some (.int .u16 p) := cell_at hs1 5
  have c6 : w1.cell? ⟨ps, 6, none⟩ = some (.int .u16 q) := cell_at hs1 6
  have c7 : w1.cell? ⟨ps, 7, none⟩ = some (.int .u16 r) := cell_at hs1 7
  have HP1 := Lib.hid hp1
  have hsz1 := hp1.size
  clear hcv hs1 hp1
  have hx0 := arr0
  have hx1 := arr1
  have hx2 := arr2
  go_wp2_with fail
  clear c5 c6 c7
  go_loopg [4, 17] 3 (fun g v4 v17 wx => ∃ (k : Nat) (l : List UInt8), v17 = .int .i64 k ∧ k ≤ 3 ∧ w.heap.size ≤ wx.heap.size ∧ WPost w wx b base S l ∧ l = (bytesOf [a0, a1, a2, a3]).data.toList ++ (([p, q, r].take k).flatMap fun n => beL n 2) ∧ g = 3 - k)
  case atStart => exact ⟨0, _, rfl, by decide, hsz1, HP1.out, by simp, rfl⟩
  case round =>
    clear hsz1 HP1
    obtain ⟨k, l, rfl, hk, hsz, hpo, hl, hg⟩ := hrel
    have Hg := Lib.hid hg
    have HL := Lib.hid hl
    have HLL := Lib.hid (show l.length ≤ 100 by
      rw [hl, List.length_append]
      have : ((([p, q, r].take k).flatMap fun n => beL n 2)).length ≤ 6 := by
        match k, hk with
        | 0, _ => simp
        | 1, _ => simp [beL]
        | 2, _ => simp [beL]
        | 3, _ => simp [beL]
      have h4 : (bytesOf [a0, a1, a2, a3]).data.toList.length = 4 := rfl
      omega)
    have HPO := Lib.hid hpo
    obtain ⟨S3, k1, k2, k3⟩ := id hpo
    have K1 := Lib.hid k1
    have K2 := Lib.hid k2
    have K3 := Lib.hid k3
    clear hg hl hpo k1 k2 k3
    match k, hk with
    | 3, _ =>
      go_wp2_with fail
      go_end0
      have e : dataL a0 a1 a2 a3 p q r = l := by rw [HL.out]; simp [dataL]
      rw [e]
      exact ⟨rfl, HPO.out⟩
    | 0, _ =>
      go_wp2_with fail
      refine (num_ok _ b base S3 l p 2 K2.out (by decide) (by decide) (by omega) (by have := HLL.out; omega) (by omega)).mono ?_
      rintro e w2 ⟨rfl, hp2⟩
      have hs2 := hp2.size
      have HP2 := Lib.hid hp2
      clear hp2
      go_wp2_with fail
      go_roundg 2
      case measure => rw [Hg.out]; decide
      case rel => exact ⟨1, _, rfl, by decide, by omega, WPost.step K1.out K3.out HP2.out, by rw [HL.out]; simp, rfl⟩
    | 1, _ =>
      go_wp2_with fail
      refine (num_ok _ b base S3 l q 2 K2.out (by decide) (by decide) (by omega) (by have := HLL.out; omega) (by omega)).mono ?_
      rintro e w2 ⟨rfl, hp2⟩
      have hs2 := hp2.size
      have HP2 := Lib.hid hp2
      clear hp2
      go_wp2_with fail
      go_roundg 1
      case measure => rw [Hg.out]; decide
      case rel => exact ⟨2, _, rfl, by decide, by omega, WPost.step K1.out K3.out HP2.out, by rw [HL.out]; simp, rfl⟩
    | 2, _ =>
      go_wp2_with fail
      refine (num_ok _ b base S3 l r 2 K2.out (by decide) (by decide) (by omega) (by have := HLL.out; omega) (by omega)).mono ?_
      rintro e w2 ⟨rfl, hp2⟩
      have hs2 := hp2.size
      have HP2 := Lib.hid hp2
      clear hp2
      go_wp2_with fail
      go_roundg 0
      case measure => rw [Hg.out]; decide
      case rel => exact ⟨3, _, rfl, by decide, by omega, WPost.step K1.out K3.out HP2.out, by rw [HL.out]; simp, rfl⟩

def dataB (a0 a1 a2 a3 : Int) (p q r : Nat) : ByteArray := ⟨(dataL a0 a1 a2 a3 p q r).toArray⟩
def makeV (o : Int) (name : ByteArray) (ver : Nat) (d : ByteArray) : Value := if beginE o name ver = 0 then recV (keyS o name) ver o 0 false d else rec0
set_option maxRecDepth 100000 in
set_option maxHeartbeats 2000000 in
theorem make_any (w : World) (o : Int) (ver : Nat) (name : ByteArray) (a0 a1 a2 a3 : Int) (p q r : Nat) (m : Int) (hm : w.cell? ⟨0, 0, none⟩ = some (.int .i64 m)) (hv : ver < 2 ^ 64) (hs : name.size ≤ maxLen) (hp : p < 65536) (hq : q < 65536) (hr : r < 65536) :
    Calls Tryd.prog 79 #[.int .i64 o, .int .u64 ver, .agg #[.string name, .int .u8 a0, .int .u8 a1, .int .u8 a2, .int .u8 a3, .int .u16 p, .int .u16 q, .int .u16 r]] w fun e w' => e = .returned (.tuple #[makeV o name ver (dataB a0 a1 a2 a3 p q r), .int .i64 (beginE o name ver)]) ∧ Only (fun _ => False) w w' := by
  have hmf : ∀ (fn : Fn) (first cap : Array Value) (w : World), (Instr.makeFunc fn first cap).run Tryd.prog w = .ok (.func fn first cap) w := fun _ _ _ _ => rfl
  have HM := Lib.hid hm
  obtain ⟨W, hW⟩ : ∃ W, W = (w.alloc (.cells #[.string name, .int .u8 a0, .int .u8 a1, .int .u8 a2, .int .u8 a3, .int .u16 p, .int .u16 q, .int .u16 r] 86)).alloc (.cells #[.string ⟨#[]⟩, .int .u64 0, .int .i64 0, .int .i64 0, .bool false, .string ⟨#[]⟩] 33) := ⟨_, rfl⟩
  obtain ⟨z1, z2⟩ := two_blocks w _ _ (w1 := W) (by rw [← hW]; exact Only.refl _ _)
  have hWo : Only (fun _ => False) w W := by rw [hW]; exact ((Only.refl _ _).alloc _).alloc _
  have hWs : W.heap.size = w.heap.size + 2 := by rw [hW]; simp
  have hc0 : W.cell? ⟨w.heap.size, 0, none⟩ = some (.string name) := cell_at z1 0
  have HMV := Lib.hid (show makeV o name ver (dataB a0 a1 a2 a3 p q r) = if beginE o name ver = 0 then recV (keyS o name) ver o 0 false (dataB a0 a1 a2 a3 p q r) else rec0 from rfl)
  have HBV := Lib.hid (show beginV o name ver = if beginE o name ver = 0 then recV (keyS o name) ver o 0 false ⟨#[]⟩ else rec0 from rfl)
  have hbeg := begin_any W o ver name m (hWo.cell HM.out id) hv hs
  have HBE := Lib.hid hbeg
  have Z1 := Lib.hid z1
  have Z2 := Lib.hid z2
  clear hm z1 z2 hbeg
  go_enter Tryd.func79, Tryd.ntmps79
  go_wp2_with fail
  rw [← hW]
  refine HBE.out.mono ?_
  rintro e w1 ⟨rfl, ho1⟩
  have y1 := ho1.old Z1.out id
  have y2 := ho1.old Z2.out id
  have hs1 := ho1.size
  have hlt1 : w.heap.size + 1 < w1.heap.size := by omega
  have hlt0 : w.heap.size < w1.heap.size := by omega
  have HO := Lib.hid (hWo.trans ho1)
  have Y1 := Lib.hid y1
  have Y2 := Lib.hid y2
  clear hW hc0 ho1 y1 hWo
  have c0 : w1.cell? ⟨w.heap.size + 1, 0, none⟩ = some (.string ⟨#[]⟩) := cell_at y2 0
  have c1 : w1.cell? ⟨w.heap.size + 1, 1, none⟩ = some (.int .u64 0) := cell_at y2 1
  have c2 : w1.cell? ⟨w.heap.size + 1, 2, none⟩ = some (.int .i64 0) := cell_at y2 2
  have c3 : w1.cell? ⟨w.heap.size + 1, 3, none⟩ = some (.int .i64 0) := cell_at y2 3
  have c4 : w1.cell? ⟨w.heap.size + 1, 4, none⟩ = some (.bool false) := cell_at y2 4
  have c5 : w1.cell? ⟨w.heap.size + 1, 5, none⟩ = some (.string ⟨#[]⟩) := cell_at y2 5
  have hf : ∀ i, w1.frozen? ⟨w.heap.size + 1, i, none⟩ = false := free_at y2
  clear y2
  by_cases hE : beginE o name ver = 0
  · have hbv : beginV o name ver = .agg #[.string (keyS o name), .int .u64 ver, .int .i64 o, .int .i64 0, .bool false, .string ⟨#[]⟩] := by rw [HBV.out, if_pos hE]; rfl
    have hmv : makeV o name ver (dataB a0 a1 a2 a3 p q r) = recV (keyS o name) ver o 0 false (dataB a0 a1 a2 a3 p q r) := by rw [HMV.out, if_pos hE]
    rw [hbv, hE]
    have HMV2 := Lib.hid hmv
    have HE := Lib.hid hE
    clear hmv hbv hE
    generalize keyS o name = K at *
    obtain ⟨W3, hW3⟩ : ∃ W3, W3 = w1.alloc (.cells #[.string K, .int .u64 ver, .int .i64 o, .int .i64 0, .bool false, .string ⟨#[]⟩] 33) := ⟨_, rfl⟩
    have v8 : W3.heap[w1.heap.size]? = some (.cells #[.string K, .int .u64 ver, .int .i64 o, .int .i64 0, .bool false, .string ⟨#[]⟩] 33 (0, 0)) := by rw [hW3]; exact heap_alloc_new w1 _
    have hWW : Only (fun _ => False) w1 W3 := by rw [hW3]; exact (Only.refl _ _).alloc _
    have v1 := hWW.old Y1.out id
    have v2 := hWW.old Y2.out id
    have hen : ∀ args w, (callFunc 104 args).run Tryd.prog w = .ok (.enter 104 args) w := fun _ _ => by go_simp
    have hwr := write_ok W3 104 #[.pointer (some ⟨w.heap.size, 0, none⟩)] (dataL a0 a1 a2 a3 p q r) hen (by simp [dataL, beL]) (fun w2 b S ho hw hS hs => make1_any w2 b _ S w.heap.size name a0 a1 a2 a3 p q r hw (ho.old v1 id) hp hq hr hs)
    have HW := Lib.hid hwr
    have V2 := Lib.hid v2
    have V8 := Lib.hid v8
    have HWW := Lib.hid hWW
    clear hwr hen v1 v2 v8 hWW
    go_wp2_with fail
    rw [← hW3]
    refine HW.out.mono ?_
    rintro e w4 ⟨rfl, ho4⟩
    have x2 := ho4.old V2.out id
    have x8 := ho4.old V8.out id
    have HO4 := Lib.hid (HO.out.trans (HWW.out.trans ho4))
    clear ho4 hW3 c0 c1 c2 c3 c4 c5 hf
    have hn1 : ¬ (w.heap.size + 1 = w1.heap.size) := by omega
    have hn2 : ¬ (w1.heap.size = w.heap.size + 1) := by omega
    have c80 : w4.cell? ⟨w1.heap.size, 0, none⟩ = some (.string K) := cell_at x8 0
    have c81 : w4.cell? ⟨w1.heap.size, 1, none⟩ = some (.int .u64 ver) := cell_at x8 1
    have c82 : w4.cell? ⟨w1.heap.size, 2, none⟩ = some (.int .i64 o) := cell_at x8 2
    have c83 : w4.cell? ⟨w1.heap.size, 3, none⟩ = some (.int .i64 0) := cell_at x8 3
    have c84 : w4.cell? ⟨w1.heap.size, 4, none⟩ = some (.bool false) := cell_at x8 4
    have c85 : w4.cell? ⟨w1.heap.size, 5, none⟩ = some (.string ⟨#[]⟩) := cell_at x8 5
    have hf8 : ∀ i, w4.frozen? ⟨w1.heap.size, i, none⟩ = false := free_at x8
    have o8 : Only (fun x => x = w1.heap.size) w4 (w4.setCell ⟨w1.heap.size, 5, none⟩ (.string ⟨(dataL a0 a1 a2 a3 p q r).toArray⟩)) := (Only.refl _ _).setCell (S := fun x => x = w1.heap.size) (p := ⟨w1.heap.size, 5, none⟩) (.inr rfl) _
    have X2 := Lib.hid (o8.old x2 hn1)
    have O8 := Lib.hid o8
    have c0 : w4.cell? ⟨w.heap.size + 1, 0, none⟩ = some (.string ⟨#[]⟩) := cell_at x2 0
    have c1 : w4.cell? ⟨w.heap.size + 1, 1, none⟩ = some (.int .u64 0) := cell_at x2 1
    have c2 : w4.cell? ⟨w.heap.size + 1, 2, none⟩ = some (.int .i64 0) := cell_at x2 2
    have c3 : w4.cell? ⟨w.heap.size + 1, 3, none⟩ = some (.int .i64 0) := cell_at x2 3
    have c4 : w4.cell? ⟨w.heap.size + 1, 4, none⟩ = some (.bool false) := cell_at x2 4
    have c5 : w4.cell? ⟨w.heap.size + 1, 5, none⟩ = some (.string ⟨#[]⟩) := cell_at x2 5
    have hf : ∀ i, w4.frozen? ⟨w.heap.size + 1, i, none⟩ = false := free_at x2
    clear x2 x8 o8
    go_wp2_with fail
    rw [show (⟨(dataL a0 a1 a2 a3 p q r).toArray⟩ : ByteArray) = dataB a0 a1 a2 a3 p q r from rfl] at *
    obtain ⟨s1, s2⟩ := six_set X2.out (.string K) (.int .u64 ver) (.int .i64 o) (.int .i64 0) (.bool false) (.string (dataB a0 a1 a2 a3 p q r))
    generalize (((((((w4.setCell ⟨w1.heap.size, 5, none⟩ (.string (dataB a0 a1 a2 a3 p q r))).setCell ⟨w.heap.size + 1, 0, none⟩ (.string K)).setCell ⟨w.heap.size + 1, 1, none⟩ (.int .u64 ver)).setCell ⟨w.heap.size + 1, 2, none⟩ (.int .i64 o)).setCell ⟨w.heap.size + 1, 3, none⟩ (.int .i64 0)).setCell ⟨w.heap.size + 1, 4, none⟩ (.bool false)).setCell ⟨w.heap.size + 1, 5, none⟩ (.string (dataB a0 a1 a2 a3 p q r))) = w2 at *
    have hlt2 : w.heap.size + 1 < w2.heap.size := lt_of_block s1
    have d0 : w2.cell? ⟨w.heap.size + 1, 0, none⟩ = some (.string K) := cell_at s1 0
    have d1 : w2.cell? ⟨w.heap.size + 1, 1, none⟩ = some (.int .u64 ver) := cell_at s1 1
    have d2 : w2.cell? ⟨w.heap.size + 1, 2, none⟩ = some (.int .i64 o) := cell_at s1 2
    have d3 : w2.cell? ⟨w.heap.size + 1, 3, none⟩ = some (.int .i64 0) := cell_at s1 3
    have d4 : w2.cell? ⟨w.heap.size + 1, 4, none⟩ = some (.bool false) := cell_at s1 4
    have d5 : w2.cell? ⟨w.heap.size + 1, 5, none⟩ = some (.string (dataB a0 a1 a2 a3 p q r)) := cell_at s1 5
    refine bodyPost_ret (v := .tuple #[.agg #[.string K, .int .u64 ver, .int .i64 o, .int .i64 0, .bool false, .string (dataB a0 a1 a2 a3 p q r)], .int .i64 0]) (by simp [results, Tryd.results79, go_sem, d0, d1, d2, d3, d4, d5]) rfl ?_
    rw [HMV2.out, HE.out]
    exact ⟨rfl, (HO4.out.tr O8.out (fun i hi e => by omega)).tr s2 (fun i hi e => by omega)⟩
  · have hbv : beginV o name ver = .agg #[.string ⟨#[]⟩, .int .u64 0, .int .i64 0, .int .i64 0, .bool false, .string ⟨#[]⟩] := by rw [HBV.out, if_neg hE]; rfl
    have hmv : makeV o name ver (dataB a0 a1 a2 a3 p q r) = rec0 := by rw [HMV.out, if_neg hE]
    have h0 : (beginE o name ver != 0) = true := by simp; exact hE
    rw [hbv]
    have HMV2 := Lib.hid hmv
    clear hmv hbv hE
    generalize hbe : beginE o name ver = E at *
    have HBEE := Lib.hid hbe
    clear hbe
    go_wp2_with fail
    obtain ⟨s1, s2⟩ := six_set Y2.out (.string ⟨#[]⟩) (.int .u64 0) (.int .i64 0) (.int .i64 0) (.bool false) (.string ⟨#[]⟩)
    generalize ((((((w1.setCell ⟨w.heap.size + 1, 0, none⟩ (.string ⟨#[]⟩)).setCell ⟨w.heap.size + 1, 1, none⟩ (.int .u64 0)).setCell ⟨w.heap.size + 1, 2, none⟩ (.int .i64 0)).setCell ⟨w.heap.size + 1, 3, none⟩ (.int .i64 0)).setCell ⟨w.heap.size + 1, 4, none⟩ (.bool false)).setCell ⟨w.heap.size + 1, 5, none⟩ (.string ⟨#[]⟩)) = w2 at *
    have hlt2 : w.heap.size + 1 < w2.heap.size := lt_of_block s1
    have d0 : w2.cell? ⟨w.heap.size + 1, 0, none⟩ = some (.string ⟨#[]⟩) := cell_at s1 0
    have d1 : w2.cell? ⟨w.heap.size + 1, 1, none⟩ = some (.int .u64 0) := cell_at s1 1
    have d2 : w2.cell? ⟨w.heap.size + 1, 2, none⟩ = some (.int .i64 0) := cell_at s1 2
    have d3 : w2.cell? ⟨w.heap.size + 1, 3, none⟩ = some (.int .i64 0) := cell_at s1 3
    have d4 : w2.cell? ⟨w.heap.size + 1, 4, none⟩ = some (.bool false) := cell_at s1 4
    have d5 : w2.cell? ⟨w.heap.size + 1, 5, none⟩ = some (.string ⟨#[]⟩) := cell_at s1 5
    refine bodyPost_ret (v := .tuple #[.agg #[.string ⟨#[]⟩, .int .u64 0, .int .i64 0, .int .i64 0, .bool false, .string ⟨#[]⟩], .int .i64 E]) (by simp [results, Tryd.results79, go_sem, d0, d1, d2, d3, d4, d5, hlt2]) rfl ?_
    rw [HMV2.out, HBEE.out]
    exact ⟨rfl, HO.out.tr (s2.alloc _) (fun i hi e => by omega)⟩
end Go.Proofs.YtianboachknfmaaDoor
/-! record: Tell's call. -/
namespace Go.Proofs.YtianboachknfmaaDoor
open Go.Conc Go.RowKit

theorem ext_a (x0 x1 x2 x3 x4 x5 x6 x7 x8 x9 : UInt8) : (⟨#[x0, x1, x2, x3, x4, x5, x6, x7, x8, x9]⟩ : ByteArray).extract 0 4 = ⟨#[x0, x1, x2, x3]⟩ := by
  apply str_ext
  simp
theorem ext_b (x0 x1 x2 x3 x4 x5 x6 x7 x8 x9 : UInt8) : (⟨#[x0, x1, x2, x3, x4, x5, x6, x7, x8, x9]⟩ : ByteArray).extract 4 (⟨#[x0, x1, x2, x3, x4, x5, x6, x7, x8, x9]⟩ : ByteArray).size = ⟨#[x4, x5, x6, x7, x8, x9]⟩ := by
  apply str_ext
  simp [ByteArray.size]
theorem ext_c (x4 x5 x6 x7 x8 x9 : UInt8) : (⟨#[x4, x5, x6, x7, x8, x9]⟩ : ByteArray).extract 2 (⟨#[x4, x5, x6, x7, x8, x9]⟩ : ByteArray).size = ⟨#[x6, x7, x8, x9]⟩ := by
  apply str_ext
  simp [ByteArray.size]
theorem ext_d (x6 x7 x8 x9 : UInt8) : (⟨#[x6, x7, x8, x9]⟩ : ByteArray).extract 2 (⟨#[x6, x7, x8, x9]⟩ : ByteArray).size = ⟨#[x8, x9]⟩ := by
  apply str_ext
  simp [ByteArray.size]
theorem ext_e (x8 x9 : UInt8) : (⟨#[x8, x9]⟩ : ByteArray).extract 2 (⟨#[x8, x9]⟩ : ByteArray).size = ⟨#[]⟩ := by
  apply str_ext
  simp [ByteArray.size]
theorem be2 (a b : UInt8) (r : List UInt8) : beN ((a :: b :: r).take 2) 0 = a.toNat * 256 + b.toNat := by simp [beN]
theorem sizeU8 (w : World) : (Go.sizeOf 5).run Tryd.prog w = .ok 1 w := by kernel_rfl
def svcC (name : ByteArray) (a0 a1 a2 a3 p q r : Nat) : Array Value := #[.string name, .int .u8 a0, .int .u8 a1, .int .u8 a2, .int .u8 a3, .int .u16 p, .int .u16 q, .int .u16 r]

theorem svc_some {w : World} {ps : Nat} {name : ByteArray} {a0 a1 a2 a3 p q r : Nat} (h : w.heap[ps]? = some (.cells (svcC name a0 a1 a2 a3 p q r) 86 (0, 0))) : ∀ j, j < 4 → (w.cell? ⟨ps, 1 + j, none⟩).isSome = true := by
  intro j hj
  rw [cell_at h]
  match j, hj with
  | 0, _ => rfl
  | 1, _ => rfl
  | 2, _ => rfl
  | 3, _ => rfl
theorem svc_put {w : World} {ps : Nat} {name : ByteArray} {a0 a1 a2 a3 p q r : Nat} (h : w.heap[ps]? = some (.cells (svcC name a0 a1 a2 a3 p q r) 86 (0, 0))) (x0 x1 x2 x3 : UInt8) :
    (w.setCells ps 1 ((⟨#[x0, x1, x2, x3]⟩ : ByteArray).data.toList.map fun x => Value.int .u8 (x.toNat : Int))).heap[ps]? = some (.cells (svcC name x0.toNat x1.toNat x2.toNat x3.toNat p q r) 86 (0, 0)) ∧
      Only (fun x => x = ps) w (w.setCells ps 1 ((⟨#[x0, x1, x2, x3]⟩ : ByteArray).data.toList.map fun x => Value.int .u8 (x.toNat : Int))) :=
  ⟨set_at (set_at (set_at (set_at h 1 (.int .u8 x0.toNat)) 2 (.int .u8 x1.toNat)) 3 (.int .u8 x2.toNat)) 4 (.int .u8 x3.toNat),
    (((((Only.refl (fun x => x = ps) w).setCell (p := ⟨ps, 1, none⟩) (.inr rfl) (.int .u8 x0.toNat)).setCell (p := ⟨ps, 2, none⟩) (.inr rfl) (.int .u8 x1.toNat)).setCell (p := ⟨ps, 3, none⟩) (.inr rfl) (.int .u8 x2.toNat)).setCell (p := ⟨ps, 4, none⟩) (.inr rfl) (.int .u8 x3.toNat))⟩
set_option maxRecDepth 100000 in
set_option maxHeartbeats 4000000 in
theorem tell1_any (w : World) (b ps : Nat) (name : ByteArray) (x0 x1 x2 x3 x4 x5 x6 x7 x8 x9 : UInt8) (h : RdAt w b ⟨#[x0, x1, x2, x3, x4, x5, x6, x7, x8, x9]⟩) (hs : w.heap[ps]? = some (.cells (svcC name 0 0 0 0 0 0 0) 86 (0, 0))) :
    Calls Tryd.prog 94 #[.pointer (some ⟨b, 0, none⟩), .pointer (some ⟨ps, 0, none⟩)] w fun e w' => e = .returned (.tuple #[]) ∧ Only (fun x => x = b ∨ x = ps) w w' ∧ RdAt w' b ⟨#[]⟩ ∧
      w'.heap[ps]? = some (.cells (svcC name x0.toNat x1.toNat x2.toNat x3.toNat (x4.toNat * 256 + x5.toNat) (x6.toNat * 256 + x7.toNat) (x8.toNat * 256 + x9.toNat)) 86 (0, 0)) := by
  have hne : ps ≠ b := by rintro rfl; rw [RdAt, hs] at h; simp at h
  have H := Lib.hid h
  have HS := Lib.hid hs
  clear h hs
  have hraw : Calls Tryd.prog 95 #[.pointer (some ⟨b, 0, none⟩), .int .i64 4] w.drew fun e w' => e = .returned (.string ⟨#[x0, x1, x2, x3]⟩) ∧ RPost w.drew w' b ⟨#[x4, x5, x6, x7, x8, x9]⟩ := by
    have := rraw_ok w.drew b _ 4 (H.out.kept (S := fun _ => False) (w' := w.drew) ((Only.refl _ _).drew) id) (Nat.le_of_ble_eq_true rfl)
    rw [ext_a, ext_b] at this
    exact this
  go_enter Tryd.func94, Tryd.ntmps94
  go_wp2_with fail
  go_region_law (first
    | (go_simp
       refine hraw.mono ?_
       rintro e w1 ⟨rfl, ho1, hr1⟩)
    | (refine step_copy_string rfl (.tmp 4) (.tmp 6) 130 9 rfl 5 Tryd.underlying130 sizeU8 ps 1 4 _ rfl ⟨#[x0, x1, x2, x3]⟩ rfl (Nat.le_refl 4) (svc_some (ho1.old HS.out hne)) (fun j _ => free_at (ho1.old HS.out hne) _) ?_))
  obtain ⟨s1, s2⟩ := svc_put (ho1.old HS.out hne) x0 x1 x2 x3
  have O1 := Lib.hid ((Only.refl (fun x => x = b ∨ x = ps) w).drew.trans ((ho1.weaken (fun _ _ e => Or.inl e)).trans (s2.weaken (fun _ _ e => Or.inr e))))
  have R1 := Lib.hid (hr1.kept s2 (fun e => hne e.symm))
  have S1 := Lib.hid s1
  simp only [List.map_cons, List.map_nil] at S1 R1 O1
  clear ho1 hr1 s1 s2 hraw
  generalize w1.setCells ps 1 [Value.int IntKind.u8 (x0.toNat : Int), Value.int IntKind.u8 (x1.toNat : Int), Value.int IntKind.u8 (x2.toNat : Int), Value.int IntKind.u8 (x3.toNat : Int)] = w2 at *
  have b4 := x4.toNat_lt
  have b5 := x5.toNat_lt
  have b6 := x6.toNat_lt
  have b7 := x7.toNat_lt
  have b8 := x8.toNat_lt
  have b9 := x9.toNat_lt
  go_wp2_with fail
  refine (rnum_ok _ b _ 2 R1.out (by decide) (by decide) (Nat.le_of_ble_eq_true rfl)).mono ?_
  rw [ext_c, be2]
  rintro e w3 ⟨rfl, ho3, hr3⟩
  have t3 := ho3.old S1.out hne
  have c5 : w3.cell? ⟨ps, 5, none⟩ = some (.int .u16 0) := cell_at t3 5
  have f5 : w3.frozen? ⟨ps, 5, none⟩ = false := free_at t3 5
  have hb45 : x4.toNat * 256 + x5.toNat < 65536 := by omega
  have O3 := Lib.hid (O1.out.trans (ho3.weaken (fun _ _ e => Or.inl e)))
  have T3 := Lib.hid t3
  have R3 := Lib.hid hr3
  clear ho3 t3 hr3
  generalize hy4 : x4.toNat * 256 + x5.toNat = y4 at *
  have HY4 := Lib.hid hy4
  clear hy4
  go_wp2_with fail
  have q3 : Only (fun x => x = ps) w3 (w3.setCell ⟨ps, 5, none⟩ (.int .u16 y4)) := (Only.refl _ _).setCell (S := fun x => x = ps) (p := ⟨ps, 5, none⟩) (.inr rfl) _
  have O4 := Lib.hid (O3.out.trans (q3.weaken (fun _ _ e => Or.inr e)))
  have T4 := Lib.hid (set_at T3.out 5 (.int .u16 y4))
  have R4 := Lib.hid (R3.out.kept q3 (fun e => hne e.symm))
  clear q3 c5 f5
  generalize w3.setCell ⟨ps, 5, none⟩ (.int .u16 y4) = w4 at *
  refine (rnum_ok _ b _ 2 R4.out (by decide) (by decide) (Nat.le_of_ble_eq_true rfl)).mono ?_
  rw [ext_d, be2]
  rintro e w5 ⟨rfl, ho5, hr5⟩
  have t5 := ho5.old T4.out hne
  have c6 : w5.cell? ⟨ps, 6, none⟩ = some (.int .u16 0) := cell_at t5 6
  have f6 : w5.frozen? ⟨ps, 6, none⟩ = false := free_at t5 6
  have hb67 : x6.toNat * 256 + x7.toNat < 65536 := by omega
  have O5 := Lib.hid (O4.out.trans (ho5.weaken (fun _ _ e => Or.inl e)))
  have T5 := Lib.hid t5
  have R5 := Lib.hid hr5
  clear ho5 t5 hr5
  generalize hy6 : x6.toNat * 256 + x7.toNat = y6 at *
  have HY6 := Lib.hid hy6
  clear hy6
  go_wp2_with fail
  have q5 : Only (fun x => x = ps) w5 (w5.setCell ⟨ps, 6, none⟩ (.int .u16 y6)) := (Only.refl _ _).setCell (S := fun x => x = ps) (p := ⟨ps, 6, none⟩) (.inr rfl) _
  have O6 := Lib.hid (O5.out.trans (q5.weaken (fun _ _ e => Or.inr e)))
  have T6 := Lib.hid (set_at T5.out 6 (.int .u16 y6))
  have R6 := Lib.hid (R5.out.kept q5 (fun e => hne e.symm))
  clear q5 c6 f6
  generalize w5.setCell ⟨ps, 6, none⟩ (.int .u16 y6) = w6 at *
  refine (rnum_ok _ b _ 2 R6.out (by decide) (by decide) (Nat.le_of_ble_eq_true rfl)).mono ?_
  rw [ext_e, be2]
  rintro e w7 ⟨rfl, ho7, hr7⟩
  have t7 := ho7.old T6.out hne
  have c7 : w7.cell? ⟨ps, 7, none⟩ = some (.int .u16 0) := cell_at t7 7
  have f7 : w7.frozen? ⟨ps, 7, none⟩ = false := free_at t7 7
  have hb89 : x8.toNat * 256 + x9.toNat < 65536 := by omega
  have O7 := Lib.hid (O6.out.trans (ho7.weaken (fun _ _ e => Or.inl e)))
  have T7 := Lib.hid t7
  have R7 := Lib.hid hr7
  clear ho7 t7 hr7
  generalize hy8 : x8.toNat * 256 + x9.toNat = y8 at *
  have HY8 := Lib.hid hy8
  clear hy8
  go_wp2_with fail
  go_end0
  have q7 : Only (fun x => x = ps) w7 (w7.setCell ⟨ps, 7, none⟩ (.int .u16 y8)) := (Only.refl _ _).setCell (S := fun x => x = ps) (p := ⟨ps, 7, none⟩) (.inr rfl) _
  refine ⟨rfl, O7.out.trans (q7.weaken (fun _ _ e => Or.inr e)), R7.out.kept q7 (fun e => hne e.symm), ?_⟩
  rw [HY4.out, HY6.out, HY8.out]
  exact set_at T7.out 7 (.int .u16 y8)
end Go.Proofs.YtianboachknfmaaDoor
/-! record: Tell. -/
namespace Go.Proofs.YtianboachknfmaaDoor
open Go.Conc Go.RowKit

theorem eight_set {w : World} {b : Nat} {t : TypeId} {a0 a1 a2 a3 a4 a5 a6 a7 : Value} (h : w.heap[b]? = some (.cells #[a0, a1, a2, a3, a4, a5, a6, a7] t (0, 0))) (u0 u1 u2 u3 u4 u5 u6 u7 : Value) :
    ((((((((w.setCell ⟨b, 0, none⟩ (u0)).setCell ⟨b, 1, none⟩ (u1)).setCell ⟨b, 2, none⟩ (u2)).setCell ⟨b, 3, none⟩ (u3)).setCell ⟨b, 4, none⟩ (u4)).setCell ⟨b, 5, none⟩ (u5)).setCell ⟨b, 6, none⟩ (u6)).setCell ⟨b, 7, none⟩ (u7)).heap[b]? = some (.cells #[u0, u1, u2, u3, u4, u5, u6, u7] t (0, 0)) ∧
      Only (fun x => x = b) w ((((((((w.setCell ⟨b, 0, none⟩ (u0)).setCell ⟨b, 1, none⟩ (u1)).setCell ⟨b, 2, none⟩ (u2)).setCell ⟨b, 3, none⟩ (u3)).setCell ⟨b, 4, none⟩ (u4)).setCell ⟨b, 5, none⟩ (u5)).setCell ⟨b, 6, none⟩ (u6)).setCell ⟨b, 7, none⟩ (u7)) := by
  have h1 : (w.setCell ⟨b, 0, none⟩ (u0)).heap[b]? = some (.cells #[u0, a1, a2, a3, a4, a5, a6, a7] t (0, 0)) := set_at h 0 u0
  have h2 : ((w.setCell ⟨b, 0, none⟩ (u0)).setCell ⟨b, 1, none⟩ (u1)).heap[b]? = some (.cells #[u0, u1, a2, a3, a4, a5, a6, a7] t (0, 0)) := set_at h1 1 u1
  have h3 : (((w.setCell ⟨b, 0, none⟩ (u0)).setCell ⟨b, 1, none⟩ (u1)).setCell ⟨b, 2, none⟩ (u2)).heap[b]? = some (.cells #[u0, u1, u2, a3, a4, a5, a6, a7] t (0, 0)) := set_at h2 2 u2
  have h4 : ((((w.setCell ⟨b, 0, none⟩ (u0)).setCell ⟨b, 1, none⟩ (u1)).setCell ⟨b, 2, none⟩ (u2)).setCell ⟨b, 3, none⟩ (u3)).heap[b]? = some (.cells #[u0, u1, u2, u3, a4, a5, a6, a7] t (0, 0)) := set_at h3 3 u3
  have h5 : (((((w.setCell ⟨b, 0, none⟩ (u0)).setCell ⟨b, 1, none⟩ (u1)).setCell ⟨b, 2, none⟩ (u2)).setCell ⟨b, 3, none⟩ (u3)).setCell ⟨b, 4, none⟩ (u4)).heap[b]? = some (.cells #[u0, u1, u2, u3, u4, a5, a6, a7] t (0, 0)) := set_at h4 4 u4
  have h6 : ((((((w.setCell ⟨b, 0, none⟩ (u0)).setCell ⟨b, 1, none⟩ (u1)).setCell ⟨b, 2, none⟩ (u2)).setCell ⟨b, 3, none⟩ (u3)).setCell ⟨b, 4, none⟩ (u4)).setCell ⟨b, 5, none⟩ (u5)).heap[b]? = some (.cells #[u0, u1, u2, u3, u4, u5, a6, a7] t (0, 0)) := set_at h5 5 u5
  have h7 : (((((((w.setCell ⟨b, 0, none⟩ (u0)).setCell ⟨b, 1, none⟩ (u1)).setCell ⟨b, 2, none⟩ (u2)).setCell ⟨b, 3, none⟩ (u3)).setCell ⟨b, 4, none⟩ (u4)).setCell ⟨b, 5, none⟩ (u5)).setCell ⟨b, 6, none⟩ (u6)).heap[b]? = some (.cells #[u0, u1, u2, u3, u4, u5, u6, a7] t (0, 0)) := set_at h6 6 u6
  have h8 : ((((((((w.setCell ⟨b, 0, none⟩ (u0)).setCell ⟨b, 1, none⟩ (u1)).setCell ⟨b, 2, none⟩ (u2)).setCell ⟨b, 3, none⟩ (u3)).setCell ⟨b, 4, none⟩ (u4)).setCell ⟨b, 5, none⟩ (u5)).setCell ⟨b, 6, none⟩ (u6)).setCell ⟨b, 7, none⟩ (u7)).heap[b]? = some (.cells #[u0, u1, u2, u3, u4, u5, u6, u7] t (0, 0)) := set_at h7 7 u7
  exact ⟨h8, (((((((((Only.refl (fun x => x = b) w).setCell (p := ⟨b, 0, none⟩) (.inr rfl) u0).setCell (p := ⟨b, 1, none⟩) (.inr rfl) u1).setCell (p := ⟨b, 2, none⟩) (.inr rfl) u2).setCell (p := ⟨b, 3, none⟩) (.inr rfl) u3).setCell (p := ⟨b, 4, none⟩) (.inr rfl) u4).setCell (p := ⟨b, 5, none⟩) (.inr rfl) u5).setCell (p := ⟨b, 6, none⟩) (.inr rfl) u6).setCell (p := ⟨b, 7, none⟩) (.inr rfl) u7)⟩

def svcV (name : ByteArray) (a0 a1 a2 a3 p q r : Nat) : Value := .agg #[.string name, .int .u8 a0, .int .u8 a1, .int .u8 a2, .int .u8 a3, .int .u16 p, .int .u16 q, .int .u16 r]
def tellE (key : ByteArray) (ver : Nat) (o age : Int) (gone : Bool) (data : ByteArray) : Int := if goodP key ver o age gone data = false then 4 else if gone then 6 else 0
def tellV (key : ByteArray) (ver : Nat) (o age : Int) (gone : Bool) (data : ByteArray) : Value :=
  if goodP key ver o age gone data && !gone then svcV (key.extract 2 key.size) (bA data 0) (bA data 1) (bA data 2) (bA data 3) (bA data 4 * 256 + bA data 5) (bA data 6 * 256 + bA data 7) (bA data 8 * 256 + bA data 9) else svcV ⟨#[]⟩ 0 0 0 0 0 0 0
theorem ten_bytes (d : ByteArray) (h : d.size = 10) : ∃ x0 x1 x2 x3 x4 x5 x6 x7 x8 x9 : UInt8, d = ⟨#[x0, x1, x2, x3, x4, x5, x6, x7, x8, x9]⟩ := by
  have h2 : d.data.toList.length = 10 := h
  match hl : d.data.toList, h2 with
  | [x0, x1, x2, x3, x4, x5, x6, x7, x8, x9], _ => exact ⟨x0, x1, x2, x3, x4, x5, x6, x7, x8, x9, str_ext (by rw [hl])⟩
set_option maxRecDepth 100000 in
set_option maxHeartbeats 4000000 in
theorem tell_any (w : World) (key : ByteArray) (ver : Nat) (o age : Int) (gone : Bool) (data : ByteArray) (m : Int) (hm : w.cell? ⟨0, 0, none⟩ = some (.int .i64 m)) (hv : ver < 2 ^ 64) (hk : key.size ≤ 1000000) :
    Calls Tryd.prog 65 #[.agg #[.string key, .int .u64 ver, .int .i64 o, .int .i64 age, .bool gone, .string data]] w fun e w' => e = .returned (.tuple #[tellV key ver o age gone data, .int .i64 (tellE key ver o age gone data)]) ∧ Only (fun _ => False) w w' := by
  have hmf : ∀ (fn : Fn) (first cap : Array Value) (w : World), (Instr.makeFunc fn first cap).run Tryd.prog w = .ok (.func fn first cap) w := fun _ _ _ _ => rfl
  have HM := Lib.hid hm
  obtain ⟨W, hW⟩ : ∃ W, W = (w.alloc (.cells #[.string key, .int .u64 ver, .int .i64 o, .int .i64 age, .bool gone, .string data] 33)).alloc (.cells #[.string ⟨#[]⟩, .int .u8 0, .int .u8 0, .int .u8 0, .int .u8 0, .int .u16 0, .int .u16 0, .int .u16 0] 86) := ⟨_, rfl⟩
  obtain ⟨z1, z2⟩ := two_blocks w _ _ (w1 := W) (by rw [← hW]; exact Only.refl _ _)
  have hWo : Only (fun _ => False) w W := by rw [hW]; exact ((Only.refl _ _).alloc _).alloc _
  have hWs : W.heap.size = w.heap.size + 2 := by rw [hW]; simp
  have HG := Lib.hid (good_any W key ver o age gone data m (hWo.cell HM.out id) hv hk)
  have HTE := Lib.hid (show tellE key ver o age gone data = if goodP key ver o age gone data = false then 4 else if gone then 6 else 0 from rfl)
  have HTV := Lib.hid (show tellV key ver o age gone data = if goodP key ver o age gone data && !gone then svcV (key.extract 2 key.size) (bA data 0) (bA data 1) (bA data 2) (bA data 3) (bA data 4 * 256 + bA data 5) (bA data 6 * 256 + bA data 7) (bA data 8 * 256 + bA data 9) else svcV ⟨#[]⟩ 0 0 0 0 0 0 0 from rfl)
  have Z1 := Lib.hid z1
  have Z2 := Lib.hid z2
  clear hm z1 z2
  go_enter Tryd.func65, Tryd.ntmps65
  go_wp2_with fail
  rw [← hW]
  refine HG.out.mono ?_
  rintro e w1 ⟨rfl, ho1⟩
  have y1 := ho1.old Z1.out id
  have y2 := ho1.old Z2.out id
  have hs1 := ho1.size
  have hlt1 : w.heap.size + 1 < w1.heap.size := by omega
  have hlt0 : w.heap.size < w1.heap.size := by omega
  have HO := Lib.hid (hWo.trans ho1)
  have Y1 := Lib.hid y1
  have Y2 := Lib.hid y2
  clear hW ho1 hWo
  have r0 : w1.cell? ⟨w.heap.size, 0, none⟩ = some (.string key) := cell_at y1 0
  have r1 : w1.cell? ⟨w.heap.size, 1, none⟩ = some (.int .u64 ver) := cell_at y1 1
  have r2 : w1.cell? ⟨w.heap.size, 2, none⟩ = some (.int .i64 o) := cell_at y1 2
  have r3 : w1.cell? ⟨w.heap.size, 3, none⟩ = some (.int .i64 age) := cell_at y1 3
  have r4 : w1.cell? ⟨w.heap.size, 4, none⟩ = some (.bool gone) := cell_at y1 4
  have r5 : w1.cell? ⟨w.heap.size, 5, none⟩ = some (.string data) := cell_at y1 5
  have rf : ∀ i, w1.frozen? ⟨w.heap.size, i, none⟩ = false := free_at y1
  have c0 : w1.cell? ⟨w.heap.size + 1, 0, none⟩ = some (.string ⟨#[]⟩) := cell_at y2 0
  have c1 : w1.cell? ⟨w.heap.size + 1, 1, none⟩ = some (.int .u8 0) := cell_at y2 1
  have c2 : w1.cell? ⟨w.heap.size + 1, 2, none⟩ = some (.int .u8 0) := cell_at y2 2
  have c3 : w1.cell? ⟨w.heap.size + 1, 3, none⟩ = some (.int .u8 0) := cell_at y2 3
  have c4 : w1.cell? ⟨w.heap.size + 1, 4, none⟩ = some (.int .u8 0) := cell_at y2 4
  have c5 : w1.cell? ⟨w.heap.size + 1, 5, none⟩ = some (.int .u16 0) := cell_at y2 5
  have c6 : w1.cell? ⟨w.heap.size + 1, 6, none⟩ = some (.int .u16 0) := cell_at y2 6
  have c7 : w1.cell? ⟨w.heap.size + 1, 7, none⟩ = some (.int .u16 0) := cell_at y2 7
  have cf : ∀ i, w1.frozen? ⟨w.heap.size + 1, i, none⟩ = false := free_at y2
  clear y1 y2
  cases hg : goodP key ver o age gone data with
  | false =>
    have hte : tellE key ver o age gone data = 4 := by rw [HTE.out, if_pos hg]
    have htv : tellV key ver o age gone data = svcV ⟨#[]⟩ 0 0 0 0 0 0 0 := by rw [HTV.out, hg]; rfl
    have HTT := Lib.hid (And.intro hte htv)
    clear hte htv hg
    go_wp2_with fail
    obtain ⟨s1, s2⟩ := eight_set Y2.out (.string ⟨#[]⟩) (.int .u8 0) (.int .u8 0) (.int .u8 0) (.int .u8 0) (.int .u16 0) (.int .u16 0) (.int .u16 0)
    generalize ((((((((w1.setCell ⟨w.heap.size + 1, 0, none⟩ (.string ⟨#[]⟩)).setCell ⟨w.heap.size + 1, 1, none⟩ (.int .u8 0)).setCell ⟨w.heap.size + 1, 2, none⟩ (.int .u8 0)).setCell ⟨w.heap.size + 1, 3, none⟩ (.int .u8 0)).setCell ⟨w.heap.size + 1, 4, none⟩ (.int .u8 0)).setCell ⟨w.heap.size + 1, 5, none⟩ (.int .u16 0)).setCell ⟨w.heap.size + 1, 6, none⟩ (.int .u16 0)).setCell ⟨w.heap.size + 1, 7, none⟩ (.int .u16 0)) = wz at *
    have d0 : wz.cell? ⟨w.heap.size + 1, 0, none⟩ = some (.string ⟨#[]⟩) := cell_at s1 0
    have d1 : wz.cell? ⟨w.heap.size + 1, 1, none⟩ = some (.int .u8 0) := cell_at s1 1
    have d2 : wz.cell? ⟨w.heap.size + 1, 2, none⟩ = some (.int .u8 0) := cell_at s1 2
    have d3 : wz.cell? ⟨w.heap.size + 1, 3, none⟩ = some (.int .u8 0) := cell_at s1 3
    have d4 : wz.cell? ⟨w.heap.size + 1, 4, none⟩ = some (.int .u8 0) := cell_at s1 4
    have d5 : wz.cell? ⟨w.heap.size + 1, 5, none⟩ = some (.int .u16 0) := cell_at s1 5
    have d6 : wz.cell? ⟨w.heap.size + 1, 6, none⟩ = some (.int .u16 0) := cell_at s1 6
    have d7 : wz.cell? ⟨w.heap.size + 1, 7, none⟩ = some (.int .u16 0) := cell_at s1 7
    refine bodyPost_ret (v := .tuple #[.agg #[.string ⟨#[]⟩, .int .u8 0, .int .u8 0, .int .u8 0, .int .u8 0, .int .u16 0, .int .u16 0, .int .u16 0], .int .i64 4]) (by simp [results, Tryd.results65, go_sem, d0, d1, d2, d3, d4, d5, d6, d7]) rfl ?_
    rw [HTT.out.1, HTT.out.2]
    exact ⟨rfl, HO.out.tr s2 (fun i hi e => by omega)⟩
  | true =>
    cases gone with
    | true =>
      have hte : tellE key ver o age true data = 6 := by rw [HTE.out, if_neg (by simp [hg])]; rfl
      have htv : tellV key ver o age true data = svcV ⟨#[]⟩ 0 0 0 0 0 0 0 := by rw [HTV.out, hg]; rfl
      have HTT := Lib.hid (And.intro hte htv)
      clear hte htv hg
      go_wp2_with fail
      obtain ⟨s1, s2⟩ := eight_set Y2.out (.string ⟨#[]⟩) (.int .u8 0) (.int .u8 0) (.int .u8 0) (.int .u8 0) (.int .u16 0) (.int .u16 0) (.int .u16 0)
      generalize ((((((((w1.setCell ⟨w.heap.size + 1, 0, none⟩ (.string ⟨#[]⟩)).setCell ⟨w.heap.size + 1, 1, none⟩ (.int .u8 0)).setCell ⟨w.heap.size + 1, 2, none⟩ (.int .u8 0)).setCell ⟨w.heap.size + 1, 3, none⟩ (.int .u8 0)).setCell ⟨w.heap.size + 1, 4, none⟩ (.int .u8 0)).setCell ⟨w.heap.size + 1, 5, none⟩ (.int .u16 0)).setCell ⟨w.heap.size + 1, 6, none⟩ (.int .u16 0)).setCell ⟨w.heap.size + 1, 7, none⟩ (.int .u16 0)) = wz at *
      have d0 : wz.cell? ⟨w.heap.size + 1, 0, none⟩ = some (.string ⟨#[]⟩) := cell_at s1 0
      have d1 : wz.cell? ⟨w.heap.size + 1, 1, none⟩ = some (.int .u8 0) := cell_at s1 1
      have d2 : wz.cell? ⟨w.heap.size + 1, 2, none⟩ = some (.int .u8 0) := cell_at s1 2
      have d3 : wz.cell? ⟨w.heap.size + 1, 3, none⟩ = some (.int .u8 0) := cell_at s1 3
      have d4 : wz.cell? ⟨w.heap.size + 1, 4, none⟩ = some (.int .u8 0) := cell_at s1 4
      have d5 : wz.cell? ⟨w.heap.size + 1, 5, none⟩ = some (.int .u16 0) := cell_at s1 5
      have d6 : wz.cell? ⟨w.heap.size + 1, 6, none⟩ = some (.int .u16 0) := cell_at s1 6
      have d7 : wz.cell? ⟨w.heap.size + 1, 7, none⟩ = some (.int .u16 0) := cell_at s1 7
      refine bodyPost_ret (v := .tuple #[.agg #[.string ⟨#[]⟩, .int .u8 0, .int .u8 0, .int .u8 0, .int .u8 0, .int .u16 0, .int .u16 0, .int .u16 0], .int .i64 6]) (by simp [results, Tryd.results65, go_sem, d0, d1, d2, d3, d4, d5, d6, d7]) rfl ?_
      rw [HTT.out.1, HTT.out.2]
      exact ⟨rfl, HO.out.tr s2 (fun i hi e => by omega)⟩
    | false =>
      have hte : tellE key ver o age false data = 0 := by rw [HTE.out, if_neg (by simp [hg])]; rfl
      have hd10 : data.size = 10 := by unfold goodP at hg; simp at hg; omega
      have hso : splitOk key = true := by
        cases h : splitOk key with
        | true => rfl
        | false =>
          have := (split_bad h).2.2
          unfold goodP at hg
          rw [this] at hg
          simp at hg
      obtain ⟨x0, x1, x2, x3, x4, x5, x6, x7, x8, x9, rfl⟩ := ten_bytes data hd10
      have htv : tellV key ver o age false ⟨#[x0, x1, x2, x3, x4, x5, x6, x7, x8, x9]⟩ = svcV (key.extract 2 key.size) x0.toNat x1.toNat x2.toNat x3.toNat (x4.toNat * 256 + x5.toNat) (x6.toNat * 256 + x7.toNat) (x8.toNat * 256 + x9.toNat) := by rw [HTV.out, hg]; rfl
      have hss : splitS key = key.extract 2 key.size := by unfold splitS; rw [hso]; rfl
      rw [← hss] at htv
      have HTT := Lib.hid (And.intro hte htv)
      clear hte htv hg hso hss
      go_wp2_with fail
      refine (split_any _ key m (HO.out.cell HM.out id) hk).mono ?_
      rintro e w2 ⟨rfl, ho2⟩
      have HO2 := Lib.hid (HO.out.trans ho2)
      have hs2 := ho2.size
      have hlt2 : w.heap.size + 1 < w2.heap.size := by omega
      have hlt20 : w.heap.size < w2.heap.size := by omega
      have y2 := ho2.old Y2.out id
      have y1 := ho2.old Y1.out id
      have v5 : w2.cell? ⟨w.heap.size, 5, none⟩ = some (.string ⟨#[x0, x1, x2, x3, x4, x5, x6, x7, x8, x9]⟩) := cell_at y1 5
      have Y22 := Lib.hid y2
      clear ho2 y2 y1 r0 r1 r2 r3 r4 r5 rf c0 c1 c2 c3 c4 c5 c6 c7 cf
      generalize splitE key = sE at *
      generalize splitN key = sN at *
      generalize splitS key = name at *
      obtain ⟨W3, hW3⟩ : ∃ W3, W3 = w2.alloc (.cells (svcC name 0 0 0 0 0 0 0) 86) := ⟨_, rfl⟩
      have v8 : W3.heap[w2.heap.size]? = some (.cells (svcC name 0 0 0 0 0 0 0) 86 (0, 0)) := by rw [hW3]; exact heap_alloc_new w2 _
      have hWW : Only (fun _ => False) w2 W3 := by rw [hW3]; exact (Only.refl _ _).alloc _
      have hs3 : W3.heap.size = w2.heap.size + 1 := by rw [hW3]; simp
      have hen : ∀ args w, (callFunc 94 args).run Tryd.prog w = .ok (.enter 94 args) w := fun _ _ => by go_simp
      have hclo : ∀ (wa : World) (b : Nat), Only (fun _ => False) W3 wa → RdAt wa b ⟨#[x0, x1, x2, x3, x4, x5, x6, x7, x8, x9]⟩ → W3.heap.size ≤ b → Calls Tryd.prog 94 (#[.pointer (some ⟨b, 0, none⟩)] ++ #[.pointer (some ⟨w2.heap.size, 0, none⟩)]) wa fun e w' => e = .returned (.tuple #[]) ∧ Only (fun x => x = b ∨ (x = w2.heap.size ∧ x < W3.heap.size)) wa w' ∧
          RdAt w' b ⟨#[]⟩ ∧ w'.heap[w2.heap.size]? = some (.cells (svcC name x0.toNat x1.toNat x2.toNat x3.toNat (x4.toNat * 256 + x5.toNat) (x6.toNat * 256 + x7.toNat) (x8.toNat * 256 + x9.toNat)) 86 (0, 0)) := by
        intro wa b ho hr hb
        refine (tell1_any wa b w2.heap.size name x0 x1 x2 x3 x4 x5 x6 x7 x8 x9 hr (ho.old v8 id)).mono ?_
        rintro e w' ⟨rfl, h1, h2, h3⟩
        exact ⟨rfl, h1.weaken (fun x _ e => by rcases e with e | e; exact .inl e; exact .inr ⟨e, by omega⟩), h2, h3⟩
      have hcall := read_ok W3 _ 94 _ (fun x => x = w2.heap.size) _ (fun a => a.heap[w2.heap.size]? = some (.cells (svcC name x0.toNat x1.toNat x2.toNat x3.toNat (x4.toNat * 256 + x5.toNat) (x6.toNat * 256 + x7.toNat) (x8.toNat * 256 + x9.toNat)) 86 (0, 0))) hen (fun a c h ho => ho.old h (by omega)) hclo
      rw [if_pos (show (⟨#[]⟩ : ByteArray).size = 0 from rfl)] at hcall
      have HC := Lib.hid hcall
      have HWW := Lib.hid hWW
      clear hcall hclo hen v8 hWW
      unfold svcC at hW3
      go_wp2_with fail
      rw [show ((0 : Nat) : Int) = 0 from rfl] at hW3
      rw [← hW3]
      refine HC.out.mono ?_
      rintro e w4 ⟨rfl, ho4, hx4⟩
      have hn1 : ¬ (w.heap.size + 1 = w2.heap.size) := by omega
      have hn2 : ¬ (w2.heap.size = w.heap.size + 1) := by omega
      have x2' := ho4.old (HWW.out.old Y22.out id) hn1
      have HO4 := Lib.hid ((HO2.out.trans HWW.out).tr ho4 (fun i hi e => by omega))
      have X2 := Lib.hid x2'
      generalize hy4 : x4.toNat * 256 + x5.toNat = y4 at *
      generalize hy6 : x6.toNat * 256 + x7.toNat = y6 at *
      generalize hy8 : x8.toNat * 256 + x9.toNat = y8 at *
      have e0 : w4.cell? ⟨w2.heap.size, 0, none⟩ = some (.string name) := cell_at hx4 0
      have e1 : w4.cell? ⟨w2.heap.size, 1, none⟩ = some (.int .u8 (x0.toNat : Nat)) := cell_at hx4 1
      have e2 : w4.cell? ⟨w2.heap.size, 2, none⟩ = some (.int .u8 (x1.toNat : Nat)) := cell_at hx4 2
      have e3 : w4.cell? ⟨w2.heap.size, 3, none⟩ = some (.int .u8 (x2.toNat : Nat)) := cell_at hx4 3
      have e4 : w4.cell? ⟨w2.heap.size, 4, none⟩ = some (.int .u8 (x3.toNat : Nat)) := cell_at hx4 4
      have e5 : w4.cell? ⟨w2.heap.size, 5, none⟩ = some (.int .u16 (y4 : Nat)) := cell_at hx4 5
      have e6 : w4.cell? ⟨w2.heap.size, 6, none⟩ = some (.int .u16 (y6 : Nat)) := cell_at hx4 6
      have e7 : w4.cell? ⟨w2.heap.size, 7, none⟩ = some (.int .u16 (y8 : Nat)) := cell_at hx4 7
      have ef : ∀ i, w4.frozen? ⟨w2.heap.size, i, none⟩ = false := free_at hx4
      have c0 : w4.cell? ⟨w.heap.size + 1, 0, none⟩ = some (.string ⟨#[]⟩) := cell_at x2' 0
      have c1 : w4.cell? ⟨w.heap.size + 1, 1, none⟩ = some (.int .u8 0) := cell_at x2' 1
      have c2 : w4.cell? ⟨w.heap.size + 1, 2, none⟩ = some (.int .u8 0) := cell_at x2' 2
      have c3 : w4.cell? ⟨w.heap.size + 1, 3, none⟩ = some (.int .u8 0) := cell_at x2' 3
      have c4 : w4.cell? ⟨w.heap.size + 1, 4, none⟩ = some (.int .u8 0) := cell_at x2' 4
      have c5 : w4.cell? ⟨w.heap.size + 1, 5, none⟩ = some (.int .u16 0) := cell_at x2' 5
      have c6 : w4.cell? ⟨w.heap.size + 1, 6, none⟩ = some (.int .u16 0) := cell_at x2' 6
      have c7 : w4.cell? ⟨w.heap.size + 1, 7, none⟩ = some (.int .u16 0) := cell_at x2' 7
      have cf : ∀ i, w4.frozen? ⟨w.heap.size + 1, i, none⟩ = false := free_at x2'
      clear ho4 hx4 x2' hy4 hy6 hy8 hW3
      go_wp2_with fail
      obtain ⟨s1, s2⟩ := eight_set X2.out (.string name) (.int .u8 (x0.toNat : Nat)) (.int .u8 (x1.toNat : Nat)) (.int .u8 (x2.toNat : Nat)) (.int .u8 (x3.toNat : Nat)) (.int .u16 (y4 : Nat)) (.int .u16 (y6 : Nat)) (.int .u16 (y8 : Nat))
      generalize ((((((((w4.setCell ⟨w.heap.size + 1, 0, none⟩ (.string name)).setCell ⟨w.heap.size + 1, 1, none⟩ (.int .u8 (x0.toNat : Nat))).setCell ⟨w.heap.size + 1, 2, none⟩ (.int .u8 (x1.toNat : Nat))).setCell ⟨w.heap.size + 1, 3, none⟩ (.int .u8 (x2.toNat : Nat))).setCell ⟨w.heap.size + 1, 4, none⟩ (.int .u8 (x3.toNat : Nat))).setCell ⟨w.heap.size + 1, 5, none⟩ (.int .u16 (y4 : Nat))).setCell ⟨w.heap.size + 1, 6, none⟩ (.int .u16 (y6 : Nat))).setCell ⟨w.heap.size + 1, 7, none⟩ (.int .u16 (y8 : Nat))) = wz at *
      have d0 : wz.cell? ⟨w.heap.size + 1, 0, none⟩ = some (.string name) := cell_at s1 0
      have d1 : wz.cell? ⟨w.heap.size + 1, 1, none⟩ = some (.int .u8 (x0.toNat : Nat)) := cell_at s1 1
      have d2 : wz.cell? ⟨w.heap.size + 1, 2, none⟩ = some (.int .u8 (x1.toNat : Nat)) := cell_at s1 2
      have d3 : wz.cell? ⟨w.heap.size + 1, 3, none⟩ = some (.int .u8 (x2.toNat : Nat)) := cell_at s1 3
      have d4 : wz.cell? ⟨w.heap.size + 1, 4, none⟩ = some (.int .u8 (x3.toNat : Nat)) := cell_at s1 4
      have d5 : wz.cell? ⟨w.heap.size + 1, 5, none⟩ = some (.int .u16 (y4 : Nat)) := cell_at s1 5
      have d6 : wz.cell? ⟨w.heap.size + 1, 6, none⟩ = some (.int .u16 (y6 : Nat)) := cell_at s1 6
      have d7 : wz.cell? ⟨w.heap.size + 1, 7, none⟩ = some (.int .u16 (y8 : Nat)) := cell_at s1 7
      refine bodyPost_ret (v := .tuple #[.agg #[.string name, .int .u8 (x0.toNat : Nat), .int .u8 (x1.toNat : Nat), .int .u8 (x2.toNat : Nat), .int .u8 (x3.toNat : Nat), .int .u16 (y4 : Nat), .int .u16 (y6 : Nat), .int .u16 (y8 : Nat)], .int .i64 0]) (by simp [results, Tryd.results65, go_sem, d0, d1, d2, d3, d4, d5, d6, d7]) rfl ?_
      rw [HTT.out.1, HTT.out.2]
      exact ⟨rfl, HO4.out.tr s2 (fun i hi e => by omega)⟩
end Go.Proofs.YtianboachknfmaaDoor
/-! record.Version. -/
namespace Go.Proofs.YtianboachknfmaaDoor
open Go.Conc Go.RowKit

theorem u64_or32 (a b : Nat) (ha : a < 2 ^ 32) (hb : b < 2 ^ 32) : bits .or .u64 ((a : Int) * 4294967296) (b : Int) = ((a * 4294967296 + b : Nat) : Int) := by
  have hx : a * 4294967296 ||| b < 2 ^ 64 := Nat.or_lt_two_pow (by omega) (by omega)
  rw [show ((a : Int) * 4294967296) = ((a * 4294967296 : Nat) : Int) by omega]
  show IntKind.u64.wrap ((BitVec.ofInt 64 ((a * 4294967296 : Nat) : Int) ||| BitVec.ofInt 64 (b : Int)).toNat : Int) = _
  rw [BitVec.toNat_or, BitVec.ofInt_natCast, BitVec.ofInt_natCast, BitVec.toNat_ofNat, BitVec.toNat_ofNat, Nat.mod_eq_of_lt (by omega), Nat.mod_eq_of_lt (by omega)]
  rw [show a * 4294967296 = a <<< 32 by rw [Nat.shiftLeft_eq]] at hx ⊢
  rw [← Nat.shiftLeft_add_eq_or_of_lt (i := 32) (by omega) a, Nat.shiftLeft_eq] at hx ⊢
  exact IntWalk.u64_in _ (by omega)
theorem version_any (w : World) (a b : Nat) (ha : a < 2 ^ 32) (hb : b < 2 ^ 32) : Calls Tryd.prog 101 #[.int .u32 a, .int .u32 b] w fun e w' => e = .returned (.int .u64 (a * 4294967296 + b : Nat)) ∧ w = w' := by
  have hor := u64_or32 a b ha hb
  have hor2 : ∀ z : Int, z = (b : Int) → bits BinOp.or IntKind.u64 ((a : Int) * 4294967296) z = ((a * 4294967296 + b : Nat) : Int) := by rintro z rfl; exact hor
  have hw1 : ∀ z : Int, z = (a : Int) * 4294967296 → IntKind.u64.wrap z = (a : Int) * 4294967296 := by
    rintro z rfl
    exact IntWalk.u64_in _ (by omega)
  have ha' : (a : Int) ≤ 4294967295 := by omega
  have hb' : (b : Int) ≤ 4294967295 := by omega
  have ha2 : (0 : Int) ≤ (a : Int) := by omega
  have hb2 : (0 : Int) ≤ (b : Int) := by omega
  clear hor ha hb
  generalize a * 4294967296 + b = r at *
  go_enter Tryd.func101, Tryd.ntmps101
  go_wp2_with fail
  go_ret
  exact ⟨rfl, rfl⟩
end Go.Proofs.YtianboachknfmaaDoor
/-! record.Gone. -/
namespace Go.Proofs.YtianboachknfmaaDoor
open Go.Conc Go.RowKit

def goneV (o : Int) (name : ByteArray) (ver : Nat) : Value := if beginE o name ver = 0 then recV (keyS o name) ver o 0 true ⟨#[]⟩ else rec0
set_option maxRecDepth 100000 in
set_option maxHeartbeats 2000000 in
theorem gone_any (w : World) (o : Int) (ver : Nat) (name : ByteArray) (m : Int) (hm : w.cell? ⟨0, 0, none⟩ = some (.int .i64 m)) (hv : ver < 2 ^ 64) (hs : name.size ≤ maxLen) :
    Calls Tryd.prog 74 #[.int .i64 o, .int .u64 ver, .string name] w fun e w' => e = .returned (.tuple #[goneV o name ver, .int .i64 (beginE o name ver)]) ∧ Only (fun _ => False) w w' := by
  have HM := Lib.hid hm
  obtain ⟨W, hW⟩ : ∃ W, W = w.alloc (.cells #[.string ⟨#[]⟩, .int .u64 0, .int .i64 0, .int .i64 0, .bool false, .string ⟨#[]⟩] 33) := ⟨_, rfl⟩
  have z2 : W.heap[w.heap.size]? = some (.cells #[.string ⟨#[]⟩, .int .u64 0, .int .i64 0, .int .i64 0, .bool false, .string ⟨#[]⟩] 33 (0, 0)) := by rw [hW]; exact heap_alloc_new w _
  have hWo : Only (fun _ => False) w W := by rw [hW]; exact (Only.refl _ _).alloc _
  have hWs : W.heap.size = w.heap.size + 1 := by rw [hW]; simp
  have HMV := Lib.hid (show goneV o name ver = if beginE o name ver = 0 then recV (keyS o name) ver o 0 true ⟨#[]⟩ else rec0 from rfl)
  have HBV := Lib.hid (show beginV o name ver = if beginE o name ver = 0 then recV (keyS o name) ver o 0 false ⟨#[]⟩ else rec0 from rfl)
  have HBE := Lib.hid (begin_any W o ver name m (hWo.cell HM.out id) hv hs)
  have Z2 := Lib.hid z2
  clear hm z2
  go_enter Tryd.func74, Tryd.ntmps74
  go_wp2_with fail
  rw [← hW]
  refine HBE.out.mono ?_
  rintro e w1 ⟨rfl, ho1⟩
  have hs1 := ho1.size
  have hlt1 : w.heap.size < w1.heap.size := by omega
  have hn1 : ¬ (w.heap.size = w1.heap.size) := by omega
  have hn2 : ¬ (w1.heap.size = w.heap.size) := by omega
  have HO := Lib.hid (hWo.trans ho1)
  have Y2 := Lib.hid (ho1.old Z2.out id)
  clear hW ho1 hWo
  by_cases hE : beginE o name ver = 0
  · have hbv : beginV o name ver = .agg #[.string (keyS o name), .int .u64 ver, .int .i64 o, .int .i64 0, .bool false, .string ⟨#[]⟩] := by rw [HBV.out, if_pos hE]; rfl
    have hmv : goneV o name ver = recV (keyS o name) ver o 0 true ⟨#[]⟩ := by rw [HMV.out, if_pos hE]
    rw [hbv, hE]
    have HMV2 := Lib.hid hmv
    have HE := Lib.hid hE
    clear hmv hbv hE
    generalize keyS o name = K at *
    obtain ⟨W3, hW3⟩ : ∃ W3, W3 = w1.alloc (.cells #[.string K, .int .u64 ver, .int .i64 o, .int .i64 0, .bool false, .string ⟨#[]⟩] 33) := ⟨_, rfl⟩
    have v8 : W3.heap[w1.heap.size]? = some (.cells #[.string K, .int .u64 ver, .int .i64 o, .int .i64 0, .bool false, .string ⟨#[]⟩] 33 (0, 0)) := by rw [hW3]; exact heap_alloc_new w1 _
    have hWW : Only (fun _ => False) w1 W3 := by rw [hW3]; exact (Only.refl _ _).alloc _
    have v2 := hWW.old Y2.out id
    have hs3 := hWW.size
    have V2 := Lib.hid v2
    have V8 := Lib.hid v8
    have HWW := Lib.hid hWW
    clear v8 v2 hWW
    go_upto_region 2 with (fail)
    rw [← hW3]
    have v8 := V8.out
    have v2 := V2.out
    have e0 : W3.cell? ⟨w1.heap.size, 0, none⟩ = some (.string K) := cell_at v8 0
    have e1 : W3.cell? ⟨w1.heap.size, 1, none⟩ = some (.int .u64 ver) := cell_at v8 1
    have e2 : W3.cell? ⟨w1.heap.size, 2, none⟩ = some (.int .i64 o) := cell_at v8 2
    have e3 : W3.cell? ⟨w1.heap.size, 3, none⟩ = some (.int .i64 0) := cell_at v8 3
    have e4 : W3.cell? ⟨w1.heap.size, 4, none⟩ = some (.bool false) := cell_at v8 4
    have e5 : W3.cell? ⟨w1.heap.size, 5, none⟩ = some (.string ⟨#[]⟩) := cell_at v8 5
    have ef : ∀ i, W3.frozen? ⟨w1.heap.size, i, none⟩ = false := free_at v8
    have c0 : W3.cell? ⟨w.heap.size, 0, none⟩ = some (.string ⟨#[]⟩) := cell_at v2 0
    have c1 : W3.cell? ⟨w.heap.size, 1, none⟩ = some (.int .u64 0) := cell_at v2 1
    have c2 : W3.cell? ⟨w.heap.size, 2, none⟩ = some (.int .i64 0) := cell_at v2 2
    have c3 : W3.cell? ⟨w.heap.size, 3, none⟩ = some (.int .i64 0) := cell_at v2 3
    have c4 : W3.cell? ⟨w.heap.size, 4, none⟩ = some (.bool false) := cell_at v2 4
    have c5 : W3.cell? ⟨w.heap.size, 5, none⟩ = some (.string ⟨#[]⟩) := cell_at v2 5
    have cf : ∀ i, W3.frozen? ⟨w.heap.size, i, none⟩ = false := free_at v2
    clear v8 v2 hW3
    have hlt3 : w.heap.size < W3.heap.size := by omega
    have hlt4 : w1.heap.size < W3.heap.size := lt_of_block V8.out
    go_wp2_with fail
    have o8 : Only (fun x => x = w1.heap.size) W3 (W3.setCell ⟨w1.heap.size, 4, none⟩ (.bool true)) := (Only.refl _ _).setCell (S := fun x => x = w1.heap.size) (p := ⟨w1.heap.size, 4, none⟩) (.inr rfl) _
    have X2 := Lib.hid (o8.old V2.out hn1)
    obtain ⟨s1, s2⟩ := six_set X2.out (.string K) (.int .u64 ver) (.int .i64 o) (.int .i64 0) (.bool true) (.string ⟨#[]⟩)
    generalize (((((((W3.setCell ⟨w1.heap.size, 4, none⟩ (.bool true)).setCell ⟨w.heap.size, 0, none⟩ (.string K)).setCell ⟨w.heap.size, 1, none⟩ (.int .u64 ver)).setCell ⟨w.heap.size, 2, none⟩ (.int .i64 o)).setCell ⟨w.heap.size, 3, none⟩ (.int .i64 0)).setCell ⟨w.heap.size, 4, none⟩ (.bool true)).setCell ⟨w.heap.size, 5, none⟩ (.string ⟨#[]⟩)) = wz at *
    have d0 : wz.cell? ⟨w.heap.size, 0, none⟩ = some (.string K) := cell_at s1 0
    have d1 : wz.cell? ⟨w.heap.size, 1, none⟩ = some (.int .u64 ver) := cell_at s1 1
    have d2 : wz.cell? ⟨w.heap.size, 2, none⟩ = some (.int .i64 o) := cell_at s1 2
    have d3 : wz.cell? ⟨w.heap.size, 3, none⟩ = some (.int .i64 0) := cell_at s1 3
    have d4 : wz.cell? ⟨w.heap.size, 4, none⟩ = some (.bool true) := cell_at s1 4
    have d5 : wz.cell? ⟨w.heap.size, 5, none⟩ = some (.string ⟨#[]⟩) := cell_at s1 5
    refine bodyPost_ret (v := .tuple #[.agg #[.string K, .int .u64 ver, .int .i64 o, .int .i64 0, .bool true, .string ⟨#[]⟩], .int .i64 0]) (by simp [results, Tryd.results74, go_sem, d0, d1, d2, d3, d4, d5]) rfl ?_
    rw [HMV2.out, HE.out]
    exact ⟨rfl, ((HO.out.trans HWW.out).tr o8 (fun i hi e => by omega)).tr s2 (fun i hi e => by omega)⟩
  · have hbv : beginV o name ver = .agg #[.string ⟨#[]⟩, .int .u64 0, .int .i64 0, .int .i64 0, .bool false, .string ⟨#[]⟩] := by rw [HBV.out, if_neg hE]; rfl
    have hmv : goneV o name ver = rec0 := by rw [HMV.out, if_neg hE]
    have h0 : (beginE o name ver == 0) = false := by simp; exact hE
    rw [hbv]
    have HMV2 := Lib.hid hmv
    clear hmv hbv hE
    generalize hbe : beginE o name ver = E at *
    have HE := Lib.hid hbe
    clear hbe
    obtain ⟨W3, hW3⟩ : ∃ W3, W3 = w1.alloc (.cells #[.string ⟨#[]⟩, .int .u64 0, .int .i64 0, .int .i64 0, .bool false, .string ⟨#[]⟩] 33) := ⟨_, rfl⟩
    have v8 : W3.heap[w1.heap.size]? = some (.cells #[.string ⟨#[]⟩, .int .u64 0, .int .i64 0, .int .i64 0, .bool false, .string ⟨#[]⟩] 33 (0, 0)) := by rw [hW3]; exact heap_alloc_new w1 _
    have hWW : Only (fun _ => False) w1 W3 := by rw [hW3]; exact (Only.refl _ _).alloc _
    have v2 := hWW.old Y2.out id
    have hs3 := hWW.size
    have V2 := Lib.hid v2
    have V8 := Lib.hid v8
    have HWW := Lib.hid hWW
    clear v8 v2 hWW
    go_upto_region 2 with (fail)
    rw [← hW3]
    have v8 := V8.out
    have v2 := V2.out
    have e0 : W3.cell? ⟨w1.heap.size, 0, none⟩ = some (.string ⟨#[]⟩) := cell_at v8 0
    have e1 : W3.cell? ⟨w1.heap.size, 1, none⟩ = some (.int .u64 0) := cell_at v8 1
    have e2 : W3.cell? ⟨w1.heap.size, 2, none⟩ = some (.int .i64 0) := cell_at v8 2
    have e3 : W3.cell? ⟨w1.heap.size, 3, none⟩ = some (.int .i64 0) := cell_at v8 3
    have e4 : W3.cell? ⟨w1.heap.size, 4, none⟩ = some (.bool false) := cell_at v8 4
    have e5 : W3.cell? ⟨w1.heap.size, 5, none⟩ = some (.string ⟨#[]⟩) := cell_at v8 5
    have ef : ∀ i, W3.frozen? ⟨w1.heap.size, i, none⟩ = false := free_at v8
    have c0 : W3.cell? ⟨w.heap.size, 0, none⟩ = some (.string ⟨#[]⟩) := cell_at v2 0
    have c1 : W3.cell? ⟨w.heap.size, 1, none⟩ = some (.int .u64 0) := cell_at v2 1
    have c2 : W3.cell? ⟨w.heap.size, 2, none⟩ = some (.int .i64 0) := cell_at v2 2
    have c3 : W3.cell? ⟨w.heap.size, 3, none⟩ = some (.int .i64 0) := cell_at v2 3
    have c4 : W3.cell? ⟨w.heap.size, 4, none⟩ = some (.bool false) := cell_at v2 4
    have c5 : W3.cell? ⟨w.heap.size, 5, none⟩ = some (.string ⟨#[]⟩) := cell_at v2 5
    have cf : ∀ i, W3.frozen? ⟨w.heap.size, i, none⟩ = false := free_at v2
    clear v8 v2 hW3
    have hlt3 : w.heap.size < W3.heap.size := by omega
    have hlt4 : w1.heap.size < W3.heap.size := lt_of_block V8.out
    go_wp2_with fail
    have o8 : Only (fun x => x = w1.heap.size) W3 (W3.setCell ⟨w1.heap.size, 4, none⟩ (.bool false)) := (Only.refl _ _).setCell (S := fun x => x = w1.heap.size) (p := ⟨w1.heap.size, 4, none⟩) (.inr rfl) _
    have X2 := Lib.hid (o8.old V2.out hn1)
    obtain ⟨s1, s2⟩ := six_set X2.out (.string ⟨#[]⟩) (.int .u64 0) (.int .i64 0) (.int .i64 0) (.bool false) (.string ⟨#[]⟩)
    generalize (((((((W3.setCell ⟨w1.heap.size, 4, none⟩ (.bool false)).setCell ⟨w.heap.size, 0, none⟩ (.string ⟨#[]⟩)).setCell ⟨w.heap.size, 1, none⟩ (.int .u64 0)).setCell ⟨w.heap.size, 2, none⟩ (.int .i64 0)).setCell ⟨w.heap.size, 3, none⟩ (.int .i64 0)).setCell ⟨w.heap.size, 4, none⟩ (.bool false)).setCell ⟨w.heap.size, 5, none⟩ (.string ⟨#[]⟩)) = wz at *
    have d0 : wz.cell? ⟨w.heap.size, 0, none⟩ = some (.string ⟨#[]⟩) := cell_at s1 0
    have d1 : wz.cell? ⟨w.heap.size, 1, none⟩ = some (.int .u64 0) := cell_at s1 1
    have d2 : wz.cell? ⟨w.heap.size, 2, none⟩ = some (.int .i64 0) := cell_at s1 2
    have d3 : wz.cell? ⟨w.heap.size, 3, none⟩ = some (.int .i64 0) := cell_at s1 3
    have d4 : wz.cell? ⟨w.heap.size, 4, none⟩ = some (.bool false) := cell_at s1 4
    have d5 : wz.cell? ⟨w.heap.size, 5, none⟩ = some (.string ⟨#[]⟩) := cell_at s1 5
    refine bodyPost_ret (v := .tuple #[.agg #[.string ⟨#[]⟩, .int .u64 0, .int .i64 0, .int .i64 0, .bool false, .string ⟨#[]⟩], .int .i64 E]) (by simp [results, Tryd.results74, go_sem, d0, d1, d2, d3, d4, d5]) rfl ?_
    rw [HMV2.out, HE.out]
    exact ⟨rfl, ((HO.out.trans HWW.out).tr o8 (fun i hi e => by omega)).tr s2 (fun i hi e => by omega)⟩
end Go.Proofs.YtianboachknfmaaDoor
/-! The reference's two. -/
namespace Go.Proofs.YtianboachknfmaaDoor
open Go.Conc Go.RowKit

def twoB (p : Nat) : ByteArray := bytesOf [(p : Int) / 256, (p : Int) % 256]
theorem two_any (w : World) (p : Nat) (hp : p < 65536) : Calls Tryd.prog 121 #[.int .u16 p] w fun e w' => e = .returned (.string (twoB p)) ∧ w' = w.alloc (.cells #[.int .u8 ((p : Int) / 256), .int .u8 ((p : Int) % 256)] 5) := by
  have hc2 := cv2
  have h0 : (0 : Int) ≤ (p : Int) := by omega
  have h1 : (p : Int) ≤ 65535 := by omega
  unfold twoB
  go_enter Tryd.func121, Tryd.ntmps121
  go_wp2_with fail
  go_ret
  exact ⟨rfl, rfl⟩

end Go.Proofs.YtianboachknfmaaDoor
/-! The reference's Data. -/
namespace Go.Proofs.YtianboachknfmaaDoor
open Go.Conc Go.RowKit

/-- A service's data, as the reference puts it together. -/
def refD (a0 a1 a2 a3 : Int) (p q r : Nat) : ByteArray := bytesOf [a0, a1, a2, a3] ++ twoB p ++ twoB q ++ twoB r
theorem wpAnyH_more {P : Program} {ops : Array Oper} {Q : Exit → Act → World → Prop} {md : Region.Mode} {S S' : World → Prop} (hS : ∀ w, S' w → S w) : ∀ (fuel : Nat) (listed : Array Bool) (a : Act) (w : World), wpAnyH P md ops Q S' fuel listed a w → wpAnyH P md ops Q S fuel listed a w
  | 0, _, _, _, h => h
  | fuel + 1, _, _, _, h => ⟨h.1, fun i hi => wpOp_mono (fun a' w' h' => ⟨hS w' h'.1, wpAnyH_more hS fuel _ a' w' h'.2⟩) (h.2 i hi)⟩
theorem reflOf {w w' : World} (_ : Only (fun _ => False) w w') : Only (fun _ => False) w' w' := Only.refl _ _
theorem cvS {W' w' : World} {B : Nat} {x y z u : Int} (hB : B = W'.heap.size) (ho : Only (fun _ => False) (W'.alloc (.cells #[.int .u8 x, .int .u8 y, .int .u8 z, .int .u8 u] 5)).drew w') : (convert 130 9 (.slice (some ⟨B, 0, none⟩) 4 4)).run Tryd.prog w' = .ok (.string (bytesOf [x, y, z, u])) w' := by
  subst hB
  have h := Sl.fresh W' ([x, y, z, u].map (.int .u8)) 5 4 1 rfl (by unfold maxLen; decide)
  exact run_bytes_str (P := Tryd.prog) (src := 130) (dst := 9) (e := 5) (ns := [x, y, z, u]) Tryd.underlying130 Tryd.underlying5 Tryd.underlying9 (h.new (Only.trans ((Only.refl _ _).drew) ho))
set_option maxRecDepth 100000 in
set_option maxHeartbeats 4000000 in
theorem rdata_any (w : World) (a0 a1 a2 a3 : Int) (p q r : Nat) (hp : p < 65536) (hq : q < 65536) (hr : r < 65536) :
    Calls Tryd.prog 102 #[.agg #[.int .u8 a0, .int .u8 a1, .int .u8 a2, .int .u8 a3], .int .u16 p, .int .u16 q, .int .u16 r] w fun e w' => e = .returned (.string (refD a0 a1 a2 a3 p q r)) ∧ Only (fun _ => False) w w' := by
  have h2 := two_any
  have H2 := Lib.hid h2
  have e2 : ∀ p : Nat, (twoB p).size = 2 := fun _ => rfl
  have e4 : ∀ x y z u : Int, (bytesOf [x, y, z, u]).size = 4 := fun _ _ _ _ => rfl
  clear h2
  obtain ⟨W, hW⟩ : ∃ W, W = w.alloc (.cells #[.int .u8 a0, .int .u8 a1, .int .u8 a2, .int .u8 a3] 73) := ⟨_, rfl⟩
  have hb : W.heap[w.heap.size]? = some (.cells #[.int .u8 a0, .int .u8 a1, .int .u8 a2, .int .u8 a3] 73 (0, 0)) := by rw [hW]; exact heap_alloc_new w _
  have hWo : Only (fun _ => False) w W := by rw [hW]; exact (Only.refl _ _).alloc _
  have HWO := Lib.hid hWo
  have HB := Lib.hid hb
  clear hb hWo
  go_enter Tryd.func102, Tryd.ntmps102
  go_upto_region 1 with (fail)
  rw [← hW]
  have c0 : W.cell? ⟨w.heap.size, 0, none⟩ = some (.int .u8 a0) := cell_at HB.out 0
  have c1 : W.cell? ⟨w.heap.size, 1, none⟩ = some (.int .u8 a1) := cell_at HB.out 1
  have c2 : W.cell? ⟨w.heap.size, 2, none⟩ = some (.int .u8 a2) := cell_at HB.out 2
  have c3 : W.cell? ⟨w.heap.size, 3, none⟩ = some (.int .u8 a3) := cell_at HB.out 3
  have hlt := lt_of_block HB.out
  have hlt := lt_of_block HB.out
  clear hW
  generalize w.heap.size = B at *
  have n0 : ¬ (B = W.heap.size) := by omega
  have n1 : ¬ (B = W.heap.size + 1) := by omega
  have n2 : ¬ (B = W.heap.size + 1 + 1) := by omega
  have n3 : ¬ (B = W.heap.size + 1 + 1 + 1) := by omega
  refine wp_region_held_drew (S := fun w' => Only (fun _ => False) W w') (by kernel_rfl) ((Only.refl _ _).drew) (fun hHeld => ?_)
  refine wpAnyH_take (i := 0) (oi := { dst := some 9, op := Op.indexAddr 73 (Operand.tmp 4) (Operand.const (Value.int IntKind.i64 0)), type := 0, pos := "ref.go:40", after := #[], guard := none }) (v := ?v1) rfl (by kernel_rfl) (by kernel_rfl) (by kernel_rfl) (fun _ _ _ h => h) (Or.inl ⟨by rfl, ?hy1⟩) hHeld ?rest1
  case hy1 =>
    intro w hSw
    go_simp
    try with_reducible rfl
  try simp only [Act.put, List.setIfInBounds_toArray, List.set_cons_zero, List.set_cons_succ]
  refine wpAnyH_take (i := 1) (oi := { dst := some 10, op := Op.load 5 (Operand.tmp 9), type := 5, pos := "ref.go:40", after := #[{ on := 0, ground := Ground.data }], guard := none }) (v := ?v2) rfl (by kernel_rfl) (by kernel_rfl) (by kernel_rfl) (fun _ _ _ h => h) (Or.inl ⟨by rfl, ?hy2⟩) hHeld ?rest2
  case hy2 =>
    intro w hSw
    try dsimp only at hSw
    have d0 := hSw.cell c0 id
    have d1 := hSw.cell c1 id
    have d2 := hSw.cell c2 id
    have d3 := hSw.cell c3 id
    go_simp
    try with_reducible rfl
  try simp only [Act.put, List.setIfInBounds_toArray, List.set_cons_zero, List.set_cons_succ]
  refine wpAnyH_take (i := 2) (oi := { dst := some 11, op := Op.indexAddr 73 (Operand.tmp 4) (Operand.const (Value.int IntKind.i64 1)), type := 0, pos := "ref.go:40", after := #[], guard := none }) (v := ?v3) rfl (by kernel_rfl) (by kernel_rfl) (by kernel_rfl) (fun _ _ _ h => h) (Or.inl ⟨by rfl, ?hy3⟩) hHeld ?rest3
  case hy3 =>
    intro w hSw
    go_simp
    try with_reducible rfl
  try simp only [Act.put, List.setIfInBounds_toArray, List.set_cons_zero, List.set_cons_succ]
  refine wpAnyH_take (i := 3) (oi := { dst := some 12, op := Op.load 5 (Operand.tmp 11), type := 5, pos := "ref.go:40", after := #[{ on := 2, ground := Ground.data }], guard := none }) (v := ?v4) rfl (by kernel_rfl) (by kernel_rfl) (by kernel_rfl) (fun _ _ _ h => h) (Or.inl ⟨by rfl, ?hy4⟩) hHeld ?rest4
  case hy4 =>
    intro w hSw
    try dsimp only at hSw
    have d0 := hSw.cell c0 id
    have d1 := hSw.cell c1 id
    have d2 := hSw.cell c2 id
    have d3 := hSw.cell c3 id
    go_simp
    try with_reducible rfl
  try simp only [Act.put, List.setIfInBounds_toArray, List.set_cons_zero, List.set_cons_succ]
  refine wpAnyH_take (i := 4) (oi := { dst := some 13, op := Op.indexAddr 73 (Operand.tmp 4) (Operand.const (Value.int IntKind.i64 2)), type := 0, pos := "ref.go:40", after := #[], guard := none }) (v := ?v5) rfl (by kernel_rfl) (by kernel_rfl) (by kernel_rfl) (fun _ _ _ h => h) (Or.inl ⟨by rfl, ?hy5⟩) hHeld ?rest5
  case hy5 =>
    intro w hSw
    go_simp
    try with_reducible rfl
  try simp only [Act.put, List.setIfInBounds_toArray, List.set_cons_zero, List.set_cons_succ]
  refine wpAnyH_take (i := 5) (oi := { dst := some 14, op := Op.load 5 (Operand.tmp 13), type := 5, pos := "ref.go:40", after := #[{ on := 4, ground := Ground.data }], guard := none }) (v := ?v6) rfl (by kernel_rfl) (by kernel_rfl) (by kernel_rfl) (fun _ _ _ h => h) (Or.inl ⟨by rfl, ?hy6⟩) hHeld ?rest6
  case hy6 =>
    intro w hSw
    try dsimp only at hSw
    have d0 := hSw.cell c0 id
    have d1 := hSw.cell c1 id
    have d2 := hSw.cell c2 id
    have d3 := hSw.cell c3 id
    go_simp
    try with_reducible rfl
  try simp only [Act.put, List.setIfInBounds_toArray, List.set_cons_zero, List.set_cons_succ]
  refine wpAnyH_take (i := 6) (oi := { dst := some 15, op := Op.indexAddr 73 (Operand.tmp 4) (Operand.const (Value.int IntKind.i64 3)), type := 0, pos := "ref.go:40", after := #[], guard := none }) (v := ?v7) rfl (by kernel_rfl) (by kernel_rfl) (by kernel_rfl) (fun _ _ _ h => h) (Or.inl ⟨by rfl, ?hy7⟩) hHeld ?rest7
  case hy7 =>
    intro w hSw
    go_simp
    try with_reducible rfl
  try simp only [Act.put, List.setIfInBounds_toArray, List.set_cons_zero, List.set_cons_succ]
  refine wpAnyH_take (i := 7) (oi := { dst := some 16, op := Op.load 5 (Operand.tmp 15), type := 5, pos := "ref.go:40", after := #[{ on := 6, ground := Ground.data }], guard := none }) (v := ?v8) rfl (by kernel_rfl) (by kernel_rfl) (by kernel_rfl) (fun _ _ _ h => h) (Or.inl ⟨by rfl, ?hy8⟩) hHeld ?rest8
  case hy8 =>
    intro w hSw
    try dsimp only at hSw
    have d0 := hSw.cell c0 id
    have d1 := hSw.cell c1 id
    have d2 := hSw.cell c2 id
    have d3 := hSw.cell c3 id
    go_simp
    try with_reducible rfl
  try simp only [Act.put, List.setIfInBounds_toArray, List.set_cons_zero, List.set_cons_succ]
  refine wpAnyH_take (i := 10) (oi := { dst := some 19, op := Op.move (Operand.tmp 1), type := 45, pos := "ref.go:40", after := #[], guard := none }) (v := ?v9) rfl (by kernel_rfl) (by kernel_rfl) (by kernel_rfl) (fun _ _ _ h => h) (Or.inl ⟨by rfl, ?hy9⟩) hHeld ?rest9
  case hy9 =>
    intro w hSw
    go_simp
    try with_reducible rfl
  try simp only [Act.put, List.setIfInBounds_toArray, List.set_cons_zero, List.set_cons_succ]
  refine wpAnyH_take (i := 13) (oi := { dst := some 22, op := Op.move (Operand.tmp 2), type := 45, pos := "ref.go:40", after := #[], guard := none }) (v := ?v10) rfl (by kernel_rfl) (by kernel_rfl) (by kernel_rfl) (fun _ _ _ h => h) (Or.inl ⟨by rfl, ?hy10⟩) hHeld ?rest10
  case hy10 =>
    intro w hSw
    go_simp
    try with_reducible rfl
  try simp only [Act.put, List.setIfInBounds_toArray, List.set_cons_zero, List.set_cons_succ]
  refine wpAnyH_take (i := 16) (oi := { dst := some 25, op := Op.move (Operand.tmp 3), type := 45, pos := "ref.go:40", after := #[], guard := none }) (v := ?v11) rfl (by kernel_rfl) (by kernel_rfl) (by kernel_rfl) (fun _ _ _ h => h) (Or.inl ⟨by rfl, ?hy11⟩) hHeld ?rest11
  case hy11 =>
    intro w hSw
    go_simp
    try with_reducible rfl
  try simp only [Act.put, List.setIfInBounds_toArray, List.set_cons_zero, List.set_cons_succ]
  refine wpAnyH_ready (rs := [8, 11]) (by kernel_rfl) (by simp) ?_
  refine AllReadyH.cons (o := { dst := some 17, op := Op.buildSlice 130 4 #[(0, Operand.tmp 10), (1, Operand.tmp 12), (2, Operand.tmp 14), (3, Operand.tmp 16)], type := 130, pos := "ref.go:40", after := #[{ on := 1, ground := Ground.data }, { on := 3, ground := Ground.data }, { on := 5, ground := Ground.data }, { on := 7, ground := Ground.data }], guard := none }) rfl (fun K hK => ?_) ?_
  ·
    go_simp
    refine hK.out _ _ (hHeld.alloc _) (fun hNew => ?_)
    clear hK K hHeld
    have hHeld := hNew
    clear hNew
    try simp only [Act.put, List.setIfInBounds_toArray, List.set_cons_zero, List.set_cons_succ]
    refine wpAnyH_more (fun w' h => Only.trans hHeld h) _ _ _ _ ?_
    have HM := Lib.hid hHeld
    clear hHeld
    refine wpAnyH_take (i := 9) (oi := { dst := some 18, op := Op.convert 130 9 (Operand.tmp 17), type := 9, pos := "ref.go:40", after := #[{ on := 8, ground := Ground.data }], guard := none }) (v := ?v12) rfl (by kernel_rfl) (by kernel_rfl) (by kernel_rfl) (fun _ _ _ h => h) (Or.inl ⟨by rfl, ?hy12⟩) (Only.refl _ _) ?rest12
    case hy12 =>
      intro w hSw
      try dsimp only at hSw
      have hcv := cvS (B := W.heap.size) (by simp) hSw
      go_simp
      try with_reducible rfl
    try simp only [Act.put, List.setIfInBounds_toArray, List.set_cons_zero, List.set_cons_succ]
    have hHeld := reflOf HM.out
    refine wpAnyH_ready (rs := [11]) (by kernel_rfl) (by simp) ?_
    refine AllReadyH.cons (o := { dst := some 20, op := Op.call { callee := Callee.value (Operand.func 121), args := #[Operand.tmp 19], argTypes := #[45] }, type := 9, pos := "ref.go:40", after := #[{ on := 10, ground := Ground.data }], guard := none }) rfl (fun K hK => ?_) ?_
    ·
      go_simp
      with_reducible refine (H2.out _ _ (by assumption)).mono ?_
      rintro e w2 ⟨rfl, rfl⟩
      go_wp2_with fail
      refine hK.out _ _ (hHeld.alloc _) (fun hNew => ?_)
      clear hK K hHeld
      have hHeld := hNew
      clear hNew
      try simp only [Act.put, List.setIfInBounds_toArray, List.set_cons_zero, List.set_cons_succ]
      refine wpAnyH_take (i := 12) (oi := { dst := some 21, op := Op.binOp BinOp.add 9 (Operand.tmp 18) (Operand.tmp 20) 9, type := 9, pos := "ref.go:40", after := #[{ on := 9, ground := Ground.data }, { on := 11, ground := Ground.data }], guard := none }) (v := ?v13) rfl (by kernel_rfl) (by kernel_rfl) (by kernel_rfl) (fun _ _ _ h => h) (Or.inl ⟨by rfl, ?hy13⟩) hHeld ?rest13
      case hy13 =>
        intro w hSw
        go_simp
        try with_reducible rfl
      try simp only [Act.put, List.setIfInBounds_toArray, List.set_cons_zero, List.set_cons_succ]
      refine wpAnyH_ready (rs := [14]) (by kernel_rfl) (by simp) ?_
      refine AllReadyH.cons (o := { dst := some 23, op := Op.call { callee := Callee.value (Operand.func 121), args := #[Operand.tmp 22], argTypes := #[45] }, type := 9, pos := "ref.go:40", after := #[{ on := 13, ground := Ground.data }, { on := 11, ground := Ground.chain }], guard := none }) rfl (fun K hK => ?_) ?_
      ·
        go_simp
        with_reducible refine (H2.out _ _ (by assumption)).mono ?_
        rintro e w2 ⟨rfl, rfl⟩
        go_wp2_with fail
        refine hK.out _ _ (hHeld.alloc _) (fun hNew => ?_)
        clear hK K hHeld
        have hHeld := hNew
        clear hNew
        try simp only [Act.put, List.setIfInBounds_toArray, List.set_cons_zero, List.set_cons_succ]
        refine wpAnyH_take (i := 15) (oi := { dst := some 24, op := Op.binOp BinOp.add 9 (Operand.tmp 21) (Operand.tmp 23) 9, type := 9, pos := "ref.go:40", after := #[{ on := 12, ground := Ground.data }, { on := 14, ground := Ground.data }], guard := none }) (v := ?v14) rfl (by kernel_rfl) (by kernel_rfl) (by kernel_rfl) (fun _ _ _ h => h) (Or.inl ⟨by rfl, ?hy14⟩) hHeld ?rest14
        case hy14 =>
          intro w hSw
          go_simp
          try with_reducible rfl
        try simp only [Act.put, List.setIfInBounds_toArray, List.set_cons_zero, List.set_cons_succ]
        refine wpAnyH_ready (rs := [17]) (by kernel_rfl) (by simp) ?_
        refine AllReadyH.cons (o := { dst := some 26, op := Op.call { callee := Callee.value (Operand.func 121), args := #[Operand.tmp 25], argTypes := #[45] }, type := 9, pos := "ref.go:40", after := #[{ on := 16, ground := Ground.data }, { on := 14, ground := Ground.chain }], guard := none }) rfl (fun K hK => ?_) ?_
        ·
          go_simp
          with_reducible refine (H2.out _ _ (by assumption)).mono ?_
          rintro e w2 ⟨rfl, rfl⟩
          go_wp2_with fail
          refine hK.out _ _ (hHeld.alloc _) (fun hNew => ?_)
          clear hK K hHeld
          have hHeld := hNew
          clear hNew
          try simp only [Act.put, List.setIfInBounds_toArray, List.set_cons_zero, List.set_cons_succ]
          refine wpAnyH_take (i := 18) (oi := { dst := some 27, op := Op.binOp BinOp.add 9 (Operand.tmp 24) (Operand.tmp 26) 9, type := 9, pos := "ref.go:40", after := #[{ on := 15, ground := Ground.data }, { on := 17, ground := Ground.data }], guard := none }) (v := ?v15) rfl (by kernel_rfl) (by kernel_rfl) (by kernel_rfl) (fun _ _ _ h => h) (Or.inl ⟨by rfl, ?hy15⟩) hHeld ?rest15
          case hy15 =>
            intro w hSw
            go_simp
            try with_reducible rfl
          try simp only [Act.put, List.setIfInBounds_toArray, List.set_cons_zero, List.set_cons_succ]
          refine wpAnyH_take (i := 19) (oi := { dst := some 8, op := Op.assign (Operand.tmp 27), type := 9, pos := "ref.go:40", after := #[{ on := 18, ground := Ground.data }, { on := 17, ground := Ground.chain }, { on := 0, ground := Ground.phase }, { on := 1, ground := Ground.phase }, { on := 2, ground := Ground.phase }, { on := 3, ground := Ground.phase }, { on := 4, ground := Ground.phase }, { on := 5, ground := Ground.phase }, { on := 6, ground := Ground.phase }, { on := 7, ground := Ground.phase }, { on := 8, ground := Ground.phase }, { on := 9, ground := Ground.phase }, { on := 10, ground := Ground.phase }, { on := 11, ground := Ground.phase }, { on := 12, ground := Ground.phase }, { on := 13, ground := Ground.phase }, { on := 14, ground := Ground.phase }, { on := 15, ground := Ground.phase }, { on := 16, ground := Ground.phase }, { on := 17, ground := Ground.phase }, { on := 18, ground := Ground.phase }], guard := none }) (v := ?v16) rfl (by kernel_rfl) (by kernel_rfl) (by kernel_rfl) (fun _ _ _ h => h) (Or.inl ⟨by rfl, ?hy16⟩) hHeld ?rest16
          case hy16 =>
            intro w hSw
            go_simp
            try with_reducible rfl
          try simp only [Act.put, List.setIfInBounds_toArray, List.set_cons_zero, List.set_cons_succ]
          refine wpAnyH_done (by kernel_rfl) ?_ _
          have HEnd := Lib.hid (HM.out.trans hHeld)
          clear hHeld
          go_wp2_with fail
          go_ret
          refine ⟨?_, HWO.out.trans HEnd.out⟩
          first
            | rfl
            | (simp [refD]; done)
            | trace_state
        exact AllReadyH.nil
      exact AllReadyH.nil
    exact AllReadyH.nil
  refine AllReadyH.cons (o := { dst := some 20, op := Op.call { callee := Callee.value (Operand.func 121), args := #[Operand.tmp 19], argTypes := #[45] }, type := 9, pos := "ref.go:40", after := #[{ on := 10, ground := Ground.data }], guard := none }) rfl (fun K hK => ?_) ?_
  ·
    go_simp
    with_reducible refine (H2.out _ _ (by assumption)).mono ?_
    rintro e w2 ⟨rfl, rfl⟩
    go_wp2_with fail
    refine hK.out _ _ (hHeld.alloc _) (fun hNew => ?_)
    clear hK K hHeld
    have hHeld := hNew
    clear hNew
    try simp only [Act.put, List.setIfInBounds_toArray, List.set_cons_zero, List.set_cons_succ]
    refine wpAnyH_ready (rs := [8, 14]) (by kernel_rfl) (by simp) ?_
    refine AllReadyH.cons (o := { dst := some 17, op := Op.buildSlice 130 4 #[(0, Operand.tmp 10), (1, Operand.tmp 12), (2, Operand.tmp 14), (3, Operand.tmp 16)], type := 130, pos := "ref.go:40", after := #[{ on := 1, ground := Ground.data }, { on := 3, ground := Ground.data }, { on := 5, ground := Ground.data }, { on := 7, ground := Ground.data }], guard := none }) rfl (fun K hK => ?_) ?_
    ·
      go_simp
      refine hK.out _ _ (hHeld.alloc _) (fun hNew => ?_)
      clear hK K hHeld
      have hHeld := hNew
      clear hNew
      try simp only [Act.put, List.setIfInBounds_toArray, List.set_cons_zero, List.set_cons_succ]
      refine wpAnyH_more (fun w' h => Only.trans hHeld h) _ _ _ _ ?_
      have HM := Lib.hid hHeld
      clear hHeld
      refine wpAnyH_take (i := 9) (oi := { dst := some 18, op := Op.convert 130 9 (Operand.tmp 17), type := 9, pos := "ref.go:40", after := #[{ on := 8, ground := Ground.data }], guard := none }) (v := ?v17) rfl (by kernel_rfl) (by kernel_rfl) (by kernel_rfl) (fun _ _ _ h => h) (Or.inl ⟨by rfl, ?hy17⟩) (Only.refl _ _) ?rest17
      case hy17 =>
        intro w hSw
        try dsimp only at hSw
        have hcv := cvS (B := W.heap.size + 1) (by simp) hSw
        go_simp
        try with_reducible rfl
      try simp only [Act.put, List.setIfInBounds_toArray, List.set_cons_zero, List.set_cons_succ]
      have hHeld := reflOf HM.out
      refine wpAnyH_take (i := 12) (oi := { dst := some 21, op := Op.binOp BinOp.add 9 (Operand.tmp 18) (Operand.tmp 20) 9, type := 9, pos := "ref.go:40", after := #[{ on := 9, ground := Ground.data }, { on := 11, ground := Ground.data }], guard := none }) (v := ?v18) rfl (by kernel_rfl) (by kernel_rfl) (by kernel_rfl) (fun _ _ _ h => h) (Or.inl ⟨by rfl, ?hy18⟩) hHeld ?rest18
      case hy18 =>
        intro w hSw
        go_simp
        try with_reducible rfl
      try simp only [Act.put, List.setIfInBounds_toArray, List.set_cons_zero, List.set_cons_succ]
      refine wpAnyH_ready (rs := [14]) (by kernel_rfl) (by simp) ?_
      refine AllReadyH.cons (o := { dst := some 23, op := Op.call { callee := Callee.value (Operand.func 121), args := #[Operand.tmp 22], argTypes := #[45] }, type := 9, pos := "ref.go:40", after := #[{ on := 13, ground := Ground.data }, { on := 11, ground := Ground.chain }], guard := none }) rfl (fun K hK => ?_) ?_
      ·
        go_simp
        with_reducible refine (H2.out _ _ (by assumption)).mono ?_
        rintro e w2 ⟨rfl, rfl⟩
        go_wp2_with fail
        refine hK.out _ _ (hHeld.alloc _) (fun hNew => ?_)
        clear hK K hHeld
        have hHeld := hNew
        clear hNew
        try simp only [Act.put, List.setIfInBounds_toArray, List.set_cons_zero, List.set_cons_succ]
        refine wpAnyH_take (i := 15) (oi := { dst := some 24, op := Op.binOp BinOp.add 9 (Operand.tmp 21) (Operand.tmp 23) 9, type := 9, pos := "ref.go:40", after := #[{ on := 12, ground := Ground.data }, { on := 14, ground := Ground.data }], guard := none }) (v := ?v19) rfl (by kernel_rfl) (by kernel_rfl) (by kernel_rfl) (fun _ _ _ h => h) (Or.inl ⟨by rfl, ?hy19⟩) hHeld ?rest19
        case hy19 =>
          intro w hSw
          go_simp
          try with_reducible rfl
        try simp only [Act.put, List.setIfInBounds_toArray, List.set_cons_zero, List.set_cons_succ]
        refine wpAnyH_ready (rs := [17]) (by kernel_rfl) (by simp) ?_
        refine AllReadyH.cons (o := { dst := some 26, op := Op.call { callee := Callee.value (Operand.func 121), args := #[Operand.tmp 25], argTypes := #[45] }, type := 9, pos := "ref.go:40", after := #[{ on := 16, ground := Ground.data }, { on := 14, ground := Ground.chain }], guard := none }) rfl (fun K hK => ?_) ?_
        ·
          go_simp
          with_reducible refine (H2.out _ _ (by assumption)).mono ?_
          rintro e w2 ⟨rfl, rfl⟩
          go_wp2_with fail
          refine hK.out _ _ (hHeld.alloc _) (fun hNew => ?_)
          clear hK K hHeld
          have hHeld := hNew
          clear hNew
          try simp only [Act.put, List.setIfInBounds_toArray, List.set_cons_zero, List.set_cons_succ]
          refine wpAnyH_take (i := 18) (oi := { dst := some 27, op := Op.binOp BinOp.add 9 (Operand.tmp 24) (Operand.tmp 26) 9, type := 9, pos := "ref.go:40", after := #[{ on := 15, ground := Ground.data }, { on := 17, ground := Ground.data }], guard := none }) (v := ?v20) rfl (by kernel_rfl) (by kernel_rfl) (by kernel_rfl) (fun _ _ _ h => h) (Or.inl ⟨by rfl, ?hy20⟩) hHeld ?rest20
          case hy20 =>
            intro w hSw
            go_simp
            try with_reducible rfl
          try simp only [Act.put, List.setIfInBounds_toArray, List.set_cons_zero, List.set_cons_succ]
          refine wpAnyH_take (i := 19) (oi := { dst := some 8, op := Op.assign (Operand.tmp 27), type := 9, pos := "ref.go:40", after := #[{ on := 18, ground := Ground.data }, { on := 17, ground := Ground.chain }, { on := 0, ground := Ground.phase }, { on := 1, ground := Ground.phase }, { on := 2, ground := Ground.phase }, { on := 3, ground := Ground.phase }, { on := 4, ground := Ground.phase }, { on := 5, ground := Ground.phase }, { on := 6, ground := Ground.phase }, { on := 7, ground := Ground.phase }, { on := 8, ground := Ground.phase }, { on := 9, ground := Ground.phase }, { on := 10, ground := Ground.phase }, { on := 11, ground := Ground.phase }, { on := 12, ground := Ground.phase }, { on := 13, ground := Ground.phase }, { on := 14, ground := Ground.phase }, { on := 15, ground := Ground.phase }, { on := 16, ground := Ground.phase }, { on := 17, ground := Ground.phase }, { on := 18, ground := Ground.phase }], guard := none }) (v := ?v21) rfl (by kernel_rfl) (by kernel_rfl) (by kernel_rfl) (fun _ _ _ h => h) (Or.inl ⟨by rfl, ?hy21⟩) hHeld ?rest21
          case hy21 =>
            intro w hSw
            go_simp
            try with_reducible rfl
          try simp only [Act.put, List.setIfInBounds_toArray, List.set_cons_zero, List.set_cons_succ]
          refine wpAnyH_done (by kernel_rfl) ?_ _
          have HEnd := Lib.hid (HM.out.trans hHeld)
          clear hHeld
          go_wp2_with fail
          go_ret
          refine ⟨?_, HWO.out.trans HEnd.out⟩
          first
            | rfl
            | (simp [refD]; done)
            | trace_state
        exact AllReadyH.nil
      exact AllReadyH.nil
    refine AllReadyH.cons (o := { dst := some 23, op := Op.call { callee := Callee.value (Operand.func 121), args := #[Operand.tmp 22], argTypes := #[45] }, type := 9, pos := "ref.go:40", after := #[{ on := 13, ground := Ground.data }, { on := 11, ground := Ground.chain }], guard := none }) rfl (fun K hK => ?_) ?_
    ·
      go_simp
      with_reducible refine (H2.out _ _ (by assumption)).mono ?_
      rintro e w2 ⟨rfl, rfl⟩
      go_wp2_with fail
      refine hK.out _ _ (hHeld.alloc _) (fun hNew => ?_)
      clear hK K hHeld
      have hHeld := hNew
      clear hNew
      try simp only [Act.put, List.setIfInBounds_toArray, List.set_cons_zero, List.set_cons_succ]
      refine wpAnyH_ready (rs := [8, 17]) (by kernel_rfl) (by simp) ?_
      refine AllReadyH.cons (o := { dst := some 17, op := Op.buildSlice 130 4 #[(0, Operand.tmp 10), (1, Operand.tmp 12), (2, Operand.tmp 14), (3, Operand.tmp 16)], type := 130, pos := "ref.go:40", after := #[{ on := 1, ground := Ground.data }, { on := 3, ground := Ground.data }, { on := 5, ground := Ground.data }, { on := 7, ground := Ground.data }], guard := none }) rfl (fun K hK => ?_) ?_
      ·
        go_simp
        refine hK.out _ _ (hHeld.alloc _) (fun hNew => ?_)
        clear hK K hHeld
        have hHeld := hNew
        clear hNew
        try simp only [Act.put, List.setIfInBounds_toArray, List.set_cons_zero, List.set_cons_succ]
        refine wpAnyH_more (fun w' h => Only.trans hHeld h) _ _ _ _ ?_
        have HM := Lib.hid hHeld
        clear hHeld
        refine wpAnyH_take (i := 9) (oi := { dst := some 18, op := Op.convert 130 9 (Operand.tmp 17), type := 9, pos := "ref.go:40", after := #[{ on := 8, ground := Ground.data }], guard := none }) (v := ?v22) rfl (by kernel_rfl) (by kernel_rfl) (by kernel_rfl) (fun _ _ _ h => h) (Or.inl ⟨by rfl, ?hy22⟩) (Only.refl _ _) ?rest22
        case hy22 =>
          intro w hSw
          try dsimp only at hSw
          have hcv := cvS (B := W.heap.size + 1 + 1) (by simp) hSw
          go_simp
          try with_reducible rfl
        try simp only [Act.put, List.setIfInBounds_toArray, List.set_cons_zero, List.set_cons_succ]
        have hHeld := reflOf HM.out
        refine wpAnyH_take (i := 12) (oi := { dst := some 21, op := Op.binOp BinOp.add 9 (Operand.tmp 18) (Operand.tmp 20) 9, type := 9, pos := "ref.go:40", after := #[{ on := 9, ground := Ground.data }, { on := 11, ground := Ground.data }], guard := none }) (v := ?v23) rfl (by kernel_rfl) (by kernel_rfl) (by kernel_rfl) (fun _ _ _ h => h) (Or.inl ⟨by rfl, ?hy23⟩) hHeld ?rest23
        case hy23 =>
          intro w hSw
          go_simp
          try with_reducible rfl
        try simp only [Act.put, List.setIfInBounds_toArray, List.set_cons_zero, List.set_cons_succ]
        refine wpAnyH_take (i := 15) (oi := { dst := some 24, op := Op.binOp BinOp.add 9 (Operand.tmp 21) (Operand.tmp 23) 9, type := 9, pos := "ref.go:40", after := #[{ on := 12, ground := Ground.data }, { on := 14, ground := Ground.data }], guard := none }) (v := ?v24) rfl (by kernel_rfl) (by kernel_rfl) (by kernel_rfl) (fun _ _ _ h => h) (Or.inl ⟨by rfl, ?hy24⟩) hHeld ?rest24
        case hy24 =>
          intro w hSw
          go_simp
          try with_reducible rfl
        try simp only [Act.put, List.setIfInBounds_toArray, List.set_cons_zero, List.set_cons_succ]
        refine wpAnyH_ready (rs := [17]) (by kernel_rfl) (by simp) ?_
        refine AllReadyH.cons (o := { dst := some 26, op := Op.call { callee := Callee.value (Operand.func 121), args := #[Operand.tmp 25], argTypes := #[45] }, type := 9, pos := "ref.go:40", after := #[{ on := 16, ground := Ground.data }, { on := 14, ground := Ground.chain }], guard := none }) rfl (fun K hK => ?_) ?_
        ·
          go_simp
          with_reducible refine (H2.out _ _ (by assumption)).mono ?_
          rintro e w2 ⟨rfl, rfl⟩
          go_wp2_with fail
          refine hK.out _ _ (hHeld.alloc _) (fun hNew => ?_)
          clear hK K hHeld
          have hHeld := hNew
          clear hNew
          try simp only [Act.put, List.setIfInBounds_toArray, List.set_cons_zero, List.set_cons_succ]
          refine wpAnyH_take (i := 18) (oi := { dst := some 27, op := Op.binOp BinOp.add 9 (Operand.tmp 24) (Operand.tmp 26) 9, type := 9, pos := "ref.go:40", after := #[{ on := 15, ground := Ground.data }, { on := 17, ground := Ground.data }], guard := none }) (v := ?v25) rfl (by kernel_rfl) (by kernel_rfl) (by kernel_rfl) (fun _ _ _ h => h) (Or.inl ⟨by rfl, ?hy25⟩) hHeld ?rest25
          case hy25 =>
            intro w hSw
            go_simp
            try with_reducible rfl
          try simp only [Act.put, List.setIfInBounds_toArray, List.set_cons_zero, List.set_cons_succ]
          refine wpAnyH_take (i := 19) (oi := { dst := some 8, op := Op.assign (Operand.tmp 27), type := 9, pos := "ref.go:40", after := #[{ on := 18, ground := Ground.data }, { on := 17, ground := Ground.chain }, { on := 0, ground := Ground.phase }, { on := 1, ground := Ground.phase }, { on := 2, ground := Ground.phase }, { on := 3, ground := Ground.phase }, { on := 4, ground := Ground.phase }, { on := 5, ground := Ground.phase }, { on := 6, ground := Ground.phase }, { on := 7, ground := Ground.phase }, { on := 8, ground := Ground.phase }, { on := 9, ground := Ground.phase }, { on := 10, ground := Ground.phase }, { on := 11, ground := Ground.phase }, { on := 12, ground := Ground.phase }, { on := 13, ground := Ground.phase }, { on := 14, ground := Ground.phase }, { on := 15, ground := Ground.phase }, { on := 16, ground := Ground.phase }, { on := 17, ground := Ground.phase }, { on := 18, ground := Ground.phase }], guard := none }) (v := ?v26) rfl (by kernel_rfl) (by kernel_rfl) (by kernel_rfl) (fun _ _ _ h => h) (Or.inl ⟨by rfl, ?hy26⟩) hHeld ?rest26
          case hy26 =>
            intro w hSw
            go_simp
            try with_reducible rfl
          try simp only [Act.put, List.setIfInBounds_toArray, List.set_cons_zero, List.set_cons_succ]
          refine wpAnyH_done (by kernel_rfl) ?_ _
          have HEnd := Lib.hid (HM.out.trans hHeld)
          clear hHeld
          go_wp2_with fail
          go_ret
          refine ⟨?_, HWO.out.trans HEnd.out⟩
          first
            | rfl
            | (simp [refD]; done)
            | trace_state
        exact AllReadyH.nil
      refine AllReadyH.cons (o := { dst := some 26, op := Op.call { callee := Callee.value (Operand.func 121), args := #[Operand.tmp 25], argTypes := #[45] }, type := 9, pos := "ref.go:40", after := #[{ on := 16, ground := Ground.data }, { on := 14, ground := Ground.chain }], guard := none }) rfl (fun K hK => ?_) ?_
      ·
        go_simp
        with_reducible refine (H2.out _ _ (by assumption)).mono ?_
        rintro e w2 ⟨rfl, rfl⟩
        go_wp2_with fail
        refine hK.out _ _ (hHeld.alloc _) (fun hNew => ?_)
        clear hK K hHeld
        have hHeld := hNew
        clear hNew
        try simp only [Act.put, List.setIfInBounds_toArray, List.set_cons_zero, List.set_cons_succ]
        refine wpAnyH_ready (rs := [8]) (by kernel_rfl) (by simp) ?_
        refine AllReadyH.cons (o := { dst := some 17, op := Op.buildSlice 130 4 #[(0, Operand.tmp 10), (1, Operand.tmp 12), (2, Operand.tmp 14), (3, Operand.tmp 16)], type := 130, pos := "ref.go:40", after := #[{ on := 1, ground := Ground.data }, { on := 3, ground := Ground.data }, { on := 5, ground := Ground.data }, { on := 7, ground := Ground.data }], guard := none }) rfl (fun K hK => ?_) ?_
        ·
          go_simp
          refine hK.out _ _ (hHeld.alloc _) (fun hNew => ?_)
          clear hK K hHeld
          have hHeld := hNew
          clear hNew
          try simp only [Act.put, List.setIfInBounds_toArray, List.set_cons_zero, List.set_cons_succ]
          refine wpAnyH_more (fun w' h => Only.trans hHeld h) _ _ _ _ ?_
          have HM := Lib.hid hHeld
          clear hHeld
          refine wpAnyH_take (i := 9) (oi := { dst := some 18, op := Op.convert 130 9 (Operand.tmp 17), type := 9, pos := "ref.go:40", after := #[{ on := 8, ground := Ground.data }], guard := none }) (v := ?v27) rfl (by kernel_rfl) (by kernel_rfl) (by kernel_rfl) (fun _ _ _ h => h) (Or.inl ⟨by rfl, ?hy27⟩) (Only.refl _ _) ?rest27
          case hy27 =>
            intro w hSw
            try dsimp only at hSw
            have hcv := cvS (B := W.heap.size + 1 + 1 + 1) (by simp) hSw
            go_simp
            try with_reducible rfl
          try simp only [Act.put, List.setIfInBounds_toArray, List.set_cons_zero, List.set_cons_succ]
          have hHeld := reflOf HM.out
          refine wpAnyH_take (i := 12) (oi := { dst := some 21, op := Op.binOp BinOp.add 9 (Operand.tmp 18) (Operand.tmp 20) 9, type := 9, pos := "ref.go:40", after := #[{ on := 9, ground := Ground.data }, { on := 11, ground := Ground.data }], guard := none }) (v := ?v28) rfl (by kernel_rfl) (by kernel_rfl) (by kernel_rfl) (fun _ _ _ h => h) (Or.inl ⟨by rfl, ?hy28⟩) hHeld ?rest28
          case hy28 =>
            intro w hSw
            go_simp
            try with_reducible rfl
          try simp only [Act.put, List.setIfInBounds_toArray, List.set_cons_zero, List.set_cons_succ]
          refine wpAnyH_take (i := 15) (oi := { dst := some 24, op := Op.binOp BinOp.add 9 (Operand.tmp 21) (Operand.tmp 23) 9, type := 9, pos := "ref.go:40", after := #[{ on := 12, ground := Ground.data }, { on := 14, ground := Ground.data }], guard := none }) (v := ?v29) rfl (by kernel_rfl) (by kernel_rfl) (by kernel_rfl) (fun _ _ _ h => h) (Or.inl ⟨by rfl, ?hy29⟩) hHeld ?rest29
          case hy29 =>
            intro w hSw
            go_simp
            try with_reducible rfl
          try simp only [Act.put, List.setIfInBounds_toArray, List.set_cons_zero, List.set_cons_succ]
          refine wpAnyH_take (i := 18) (oi := { dst := some 27, op := Op.binOp BinOp.add 9 (Operand.tmp 24) (Operand.tmp 26) 9, type := 9, pos := "ref.go:40", after := #[{ on := 15, ground := Ground.data }, { on := 17, ground := Ground.data }], guard := none }) (v := ?v30) rfl (by kernel_rfl) (by kernel_rfl) (by kernel_rfl) (fun _ _ _ h => h) (Or.inl ⟨by rfl, ?hy30⟩) hHeld ?rest30
          case hy30 =>
            intro w hSw
            go_simp
            try with_reducible rfl
          try simp only [Act.put, List.setIfInBounds_toArray, List.set_cons_zero, List.set_cons_succ]
          refine wpAnyH_take (i := 19) (oi := { dst := some 8, op := Op.assign (Operand.tmp 27), type := 9, pos := "ref.go:40", after := #[{ on := 18, ground := Ground.data }, { on := 17, ground := Ground.chain }, { on := 0, ground := Ground.phase }, { on := 1, ground := Ground.phase }, { on := 2, ground := Ground.phase }, { on := 3, ground := Ground.phase }, { on := 4, ground := Ground.phase }, { on := 5, ground := Ground.phase }, { on := 6, ground := Ground.phase }, { on := 7, ground := Ground.phase }, { on := 8, ground := Ground.phase }, { on := 9, ground := Ground.phase }, { on := 10, ground := Ground.phase }, { on := 11, ground := Ground.phase }, { on := 12, ground := Ground.phase }, { on := 13, ground := Ground.phase }, { on := 14, ground := Ground.phase }, { on := 15, ground := Ground.phase }, { on := 16, ground := Ground.phase }, { on := 17, ground := Ground.phase }, { on := 18, ground := Ground.phase }], guard := none }) (v := ?v31) rfl (by kernel_rfl) (by kernel_rfl) (by kernel_rfl) (fun _ _ _ h => h) (Or.inl ⟨by rfl, ?hy31⟩) hHeld ?rest31
          case hy31 =>
            intro w hSw
            go_simp
            try with_reducible rfl
          try simp only [Act.put, List.setIfInBounds_toArray, List.set_cons_zero, List.set_cons_succ]
          refine wpAnyH_done (by kernel_rfl) ?_ _
          have HEnd := Lib.hid (HM.out.trans hHeld)
          clear hHeld
          go_wp2_with fail
          go_ret
          refine ⟨?_, HWO.out.trans HEnd.out⟩
          first
            | rfl
            | (simp [refD]; done)
            | trace_state
        exact AllReadyH.nil
      exact AllReadyH.nil
    exact AllReadyH.nil
  exact AllReadyH.nil
end Go.Proofs.YtianboachknfmaaDoor
/-! A made record's data, in both forms. -/
namespace Go.Proofs.YtianboachknfmaaDoor
open Go.Conc Go.RowKit

theorem beL2 (n : Nat) (hn : n < 65536) : beL n 2 = (twoB n).data.toList := by
  have h := congrArg (fun b : ByteArray => b.data.toList) (keyB_be n ⟨#[]⟩ hn)
  unfold keyB at h
  simpa [ByteArray.data_append, twoB] using h
theorem dataB_ref (a0 a1 a2 a3 : Int) (p q r : Nat) (hp : p < 65536) (hq : q < 65536) (hr : r < 65536) : dataB a0 a1 a2 a3 p q r = refD a0 a1 a2 a3 p q r := by
  apply str_ext
  unfold dataB dataL refD
  rw [beL2 p hp, beL2 q hq, beL2 r hr]
  simp [ByteArray.data_append]
theorem refD_bytes (a0 a1 a2 a3 p q r : Nat) (h0 : a0 < 256) (h1 : a1 < 256) (h2 : a2 < 256) (h3 : a3 < 256) (hp : p < 65536) (hq : q < 65536) (hr : r < 65536) :
    bA (refD a0 a1 a2 a3 p q r) 0 = a0 ∧ bA (refD a0 a1 a2 a3 p q r) 1 = a1 ∧ bA (refD a0 a1 a2 a3 p q r) 2 = a2 ∧ bA (refD a0 a1 a2 a3 p q r) 3 = a3 ∧ bA (refD a0 a1 a2 a3 p q r) 4 * 256 + bA (refD a0 a1 a2 a3 p q r) 5 = p ∧ bA (refD a0 a1 a2 a3 p q r) 6 * 256 + bA (refD a0 a1 a2 a3 p q r) 7 = q ∧ bA (refD a0 a1 a2 a3 p q r) 8 * 256 + bA (refD a0 a1 a2 a3 p q r) 9 = r := by
  have e : (refD a0 a1 a2 a3 p q r).data.toList = [UInt8.ofNat ((a0 : Int)).toNat, UInt8.ofNat ((a1 : Int)).toNat, UInt8.ofNat ((a2 : Int)).toNat, UInt8.ofNat ((a3 : Int)).toNat] ++ [UInt8.ofNat ((p : Int) / 256).toNat, UInt8.ofNat ((p : Int) % 256).toNat] ++ [UInt8.ofNat ((q : Int) / 256).toNat, UInt8.ofNat ((q : Int) % 256).toNat] ++ [UInt8.ofNat ((r : Int) / 256).toNat, UInt8.ofNat ((r : Int) % 256).toNat] := by
    simp only [refD, twoB, ByteArray.data_append, Array.toList_append]
    rfl
  unfold bA
  rw [e]
  simp only [List.cons_append, List.nil_append, List.getD_cons_zero, List.getD_cons_succ, UInt8.toNat_ofNat']
  omega
theorem refD_size (a0 a1 a2 a3 : Int) (p q r : Nat) : (refD a0 a1 a2 a3 p q r).size = 10 := rfl
theorem made_good (n : Nat) (name : ByteArray) (ver : Nat) (gone : Bool) (d : ByteArray) (h1 : nodeB n = true) (h2 : namedP name = true) (h3 : ver / 2 ^ 32 ≠ 0) (hd : d.size = if gone then 0 else 10) : goodP (keyB n name) ver n 0 gone d = true := by
  obtain ⟨s1, s2, s3⟩ := split_key h1 h2
  unfold goodP
  rw [s1, s3, hd]
  simp
  omega
end Go.Proofs.YtianboachknfmaaDoor
/-! Records put in any order make the same store, plainly. -/
namespace Go.Proofs.YtianboachknfmaaDoor
open Go.Conc Go.RowKit

theorem nodup_le {α : Type} [DecidableEq α] : ∀ (l K : List α), l.Nodup → (∀ x ∈ l, x ∈ K) → l.length ≤ K.length
  | [], _, _, _ => Nat.zero_le _
  | x :: l, K, h, hs => by
    obtain ⟨h1, h2⟩ := List.nodup_cons.1 h
    have hx := hs x (by simp)
    have := nodup_le l (K.erase x) h2 (fun y hy => by
      have hne : y ≠ x := fun e => h1 (e ▸ hy)
      exact (List.mem_erase_of_ne hne).2 (hs y (by simp [hy])))
    rw [List.length_erase_of_mem hx] at this
    have := List.length_pos_of_mem hx
    simp
    omega
/-- What a store holds in which all of P were put: of each key the greatest. -/
structure Mrg (P : RecT → Prop) (L : List RecT) : Prop where
  ok : StoreOk 48 9 L
  sub : ∀ y ∈ L, P y
  top : ∀ x, P x → ∃ y ∈ L, y.key = x.key ∧ x.ver ≤ y.ver
theorem Mrg.empty : Mrg (fun _ => False) [] := ⟨StoreOk.empty (by omega) (by omega) (by omega) (by omega), (fun _ h => by cases h), (fun _ h => False.elim h)⟩
theorem Mrg.congr {P Q : RecT → Prop} {L : List RecT} (h : Mrg P L) (e : ∀ x, P x ↔ Q x) : Mrg Q L := ⟨h.ok, fun y hy => (e y).1 (h.sub y hy), fun x hx => h.top x ((e x).2 hx)⟩
theorem keys_room {L : List RecT} (h : Rising L) {K : List ByteArray} (hk : ∀ y ∈ L, y.key ∈ K) : L.length ≤ K.length := by
  have := nodup_le (L.map (·.key)) K (by
    unfold List.Nodup
    rw [List.pairwise_map]
    exact rising_keys h) (fun x hx => by
    obtain ⟨y, hy, rfl⟩ := List.mem_map.1 hx
    exact hk y hy)
  simpa using this
theorem Mrg.put {P : RecT → Prop} {L : List RecT} (h : Mrg P L) {x : RecT} (hg : goodR x = true) (ha : x.age < 9) (hroom : L.length < 48) : Mrg (fun y => P y ∨ y = x) (putS 48 9 L x) := by
  have hE : putE 48 9 L x = putFE 48 L.length x.ver (findS L x.key) := by
    unfold putE
    rw [hg, if_neg (by decide), if_neg (by omega)]
  cases hf : findS L x.key with
  | none =>
    have e0 : putE 48 9 L x = 0 := by rw [hE, hf]; exact if_neg (by omega)
    have hS : putS 48 9 L x = insS x L := by unfold putS; rw [if_pos e0]
    refine ⟨h.ok.put x, fun y hy => ?_, fun z hz => ?_⟩
    · rw [hS] at hy
      rcases (mem_insS h.ok.rises).1 hy with rfl | ⟨hy, _⟩
      · exact .inr rfl
      · exact .inl (h.sub y hy)
    · rw [hS]
      rcases hz with hz | rfl
      · obtain ⟨y, hy, h1, h2⟩ := h.top z hz
        exact ⟨y, (mem_insS h.ok.rises).2 (.inr ⟨hy, findS_none hf y hy⟩), h1, h2⟩
      · exact ⟨z, (mem_insS h.ok.rises).2 (.inl rfl), rfl, Nat.le_refl _⟩
  | some y0 =>
    obtain ⟨hy0, hk0⟩ := findS_some hf
    by_cases hv : x.ver ≤ y0.ver
    · have e13 : putE 48 9 L x = 13 := by rw [hE, hf]; exact if_pos hv
      have hS : putS 48 9 L x = L := by unfold putS; rw [e13]; rfl
      rw [hS]
      refine ⟨h.ok, fun y hy => .inl (h.sub y hy), fun z hz => ?_⟩
      rcases hz with hz | rfl
      · exact h.top z hz
      · exact ⟨y0, hy0, hk0, hv⟩
    · have e0 : putE 48 9 L x = 0 := by rw [hE, hf]; exact if_neg hv
      have hS : putS 48 9 L x = insS x L := by unfold putS; rw [if_pos e0]
      refine ⟨h.ok.put x, fun y hy => ?_, fun z hz => ?_⟩
      · rw [hS] at hy
        rcases (mem_insS h.ok.rises).1 hy with rfl | ⟨hy, _⟩
        · exact .inr rfl
        · exact .inl (h.sub y hy)
      · rw [hS]
        rcases hz with hz | rfl
        · obtain ⟨y, hy, h1, h2⟩ := h.top z hz
          by_cases hk : y.key = x.key
          · have : y = y0 := by
              have := findS_mem h.ok.rises hy
              rw [hk, hf] at this
              exact (Option.some.inj this).symm
            subst this
            exact ⟨x, (mem_insS h.ok.rises).2 (.inl rfl), by rw [← h1, hk], by omega⟩
          · exact ⟨y, (mem_insS h.ok.rises).2 (.inr ⟨hy, hk⟩), h1, h2⟩
        · exact ⟨z, (mem_insS h.ok.rises).2 (.inl rfl), rfl, Nat.le_refl _⟩
theorem Mrg.unique {P : RecT → Prop} {L M : List RecT} (hL : Mrg P L) (hM : Mrg P M) (hu : ∀ x y, P x → P y → x.key = y.key → x.ver = y.ver → x = y) : L = M := by
  have half : ∀ {A B : List RecT}, Mrg P A → Mrg P B → ∀ x ∈ A, x ∈ B := by
    intro A B hA hB x hx
    obtain ⟨y, hy, h1, h2⟩ := hB.top x (hA.sub x hx)
    obtain ⟨z, hz, h3, h4⟩ := hA.top y (hB.sub y hy)
    have hzx : z = x := by
      have e1 := findS_mem hA.ok.rises hz
      have e2 := findS_mem hA.ok.rises hx
      rw [h3, h1, e2] at e1
      exact (Option.some.inj e1).symm
    subst hzx
    have := hu z y (hA.sub z hz) (hB.sub y hy) h1.symm (by omega)
    rw [this]
    exact hy
  exact rising_ext hL.ok.rises hM.ok.rises (fun x => ⟨half hL hM x, half hM hL x⟩)

/-! the records of StoreMerges -/
def mAct (a : ActT) : ActT := ⟨0, a.org, a.nm, 1 + a.life % 2, a.cnt, 0, decide (a.cnt % 2 = 1), false⟩
def mRec (a : ActT) : RecT := recOf (mAct a)
def keys16 : List ByteArray := [1, 2, 3, 4].flatMap (fun o => [0, 1, 2, 3].map (fun n => keyB (o : Nat) (nameB n)))
theorem orgN_bd (a : ActT) : 1 ≤ orgN a ∧ orgN a ≤ 4 := by
  have h1 := Int.emod_nonneg a.org (show (4 : Int) ≠ 0 by omega)
  have h2 := Int.emod_lt_of_pos a.org (show (0 : Int) < 4 by omega)
  unfold orgN
  omega
theorem name_named (n : Nat) : namedP (nameB (n % 4)) = true := by
  have : n % 4 < 4 := Nat.mod_lt _ (by omega)
  generalize n % 4 = z at *
  rcases (by omega : z = 0 ∨ z = 1 ∨ z = 2 ∨ z = 3) with rfl | rfl | rfl | rfl <;> decide +kernel
theorem org_node (a : ActT) : nodeB (orgN a : Nat) = true := by
  obtain ⟨h1, h2⟩ := orgN_bd a
  unfold nodeB
  rw [decide_eq_true (show (1 : Int) ≤ (orgN a : Nat) by omega), decide_eq_true (show ((orgN a : Nat) : Int) ≤ 65535 by omega)]
  rfl
theorem rec_key (a : ActT) : splitN (recOf a).key = orgN a ∧ splitS (recOf a).key = nameB (a.nm % 4) ∧ splitE (recOf a).key = 0 := split_key (org_node a) (name_named a.nm)
theorem mRec_key16 (a : ActT) : (mRec a).key ∈ keys16 := by
  obtain ⟨h1, h2⟩ := orgN_bd (mAct a)
  have h3 : a.nm % 4 < 4 := Nat.mod_lt _ (by omega)
  show keyB (orgN (mAct a) : Nat) (nameB (a.nm % 4)) ∈ keys16
  generalize orgN (mAct a) = o at *
  generalize a.nm % 4 = z at *
  unfold keys16
  refine List.mem_flatMap.2 ⟨o, ?_, List.mem_map.2 ⟨z, ?_, rfl⟩⟩
  · rcases (by omega : o = 1 ∨ o = 2 ∨ o = 3 ∨ o = 4) with rfl | rfl | rfl | rfl <;> simp
  · rcases (by omega : z = 0 ∨ z = 1 ∨ z = 2 ∨ z = 3) with rfl | rfl | rfl | rfl <;> simp
theorem mRec_good (a : ActT) (hc : a.cnt < 256) : goodR (mRec a) = true := by
  obtain ⟨h1, h2, h3⟩ := rec_key (mAct a)
  have hv : (mRec a).ver = (1 + a.life % 2) % 4 * 2 ^ 32 + a.cnt := rfl
  have hd : (mRec a).data.size = if (mRec a).gone then 0 else 10 := by
    show (dataOf (decide (a.cnt % 2 = 1)) false).size = if decide (a.cnt % 2 = 1) then 0 else 10
    cases decide (a.cnt % 2 = 1) <;> rfl
  unfold goodR goodP
  have h4 : splitE (mRec a).key = 0 := h3
  have h5 : splitN (mRec a).key = (mRec a).o := h1
  rw [h4, h5, hv, decide_eq_true hd, decide_eq_true (show 0 < ((1 + a.life % 2) % 4 * 2 ^ 32 + a.cnt) / 2 ^ 32 by omega), decide_eq_true (show (0 : Int) ≤ (mRec a).age from Int.le_refl _), decide_eq_true (show (mRec a).age ≤ 65535 by show (0 : Int) ≤ 65535; omega)]
  simp
theorem mRec_unique (a b : ActT) (ha : a.cnt < 256) (hb : b.cnt < 256) (hk : (mRec a).key = (mRec b).key) (hv : (mRec a).ver = (mRec b).ver) : mRec a = mRec b := by
  obtain ⟨h1, _, _⟩ := rec_key (mAct a)
  obtain ⟨h2, _, _⟩ := rec_key (mAct b)
  have hk' : (recOf (mAct a)).key = (recOf (mAct b)).key := hk
  have ho : ((orgN (mAct a) : Nat) : Int) = (orgN (mAct b) : Nat) := by rw [← h1, ← h2, hk']
  have hv' : (1 + a.life % 2) % 4 * 2 ^ 32 + a.cnt = (1 + b.life % 2) % 4 * 2 ^ 32 + b.cnt := hv
  have hc : a.cnt = b.cnt := by omega
  refine RecT.ext' hk hv ho rfl ?_ ?_
  · show decide (a.cnt % 2 = 1) = decide (b.cnt % 2 = 1)
    rw [hc]
  · show dataOf (decide (a.cnt % 2 = 1)) false = dataOf (decide (b.cnt % 2 = 1)) false
    rw [hc]
/-- Which record is put in which turn. -/
def turnK (t n i : Nat) (back : Bool) : Nat := if back then n - 1 - (i + t) % n else (i + t) % n
theorem turnK_lt {t n i : Nat} (h : 0 < n) (back : Bool) : turnK t n i back < n := by
  have := Nat.mod_lt (i + t) h
  unfold turnK
  split <;> omega
theorem turnK_all {t n : Nat} (ht : t < n) (back : Bool) (j : Nat) (hj : j < n) : ∃ i, i < n ∧ turnK t n i back = j := by
  have key : ∀ j, j < n → ∃ i, i < n ∧ (i + t) % n = j := fun j hj => by
    refine ⟨(j + n - t) % n, Nat.mod_lt _ (by omega), ?_⟩
    rw [Nat.mod_add_mod, show j + n - t + t = j + n by omega, Nat.add_mod_right, Nat.mod_eq_of_lt hj]
  cases back with
  | false => exact key j hj
  | true =>
    obtain ⟨i, hi, he⟩ := key (n - 1 - j) (by omega)
    refine ⟨i, hi, ?_⟩
    unfold turnK
    rw [if_pos rfl, he]
    omega
end Go.Proofs.YtianboachknfmaaDoor
