/- record: Make. -/
import Derived.Test.YtfmplmchpdmbmaaDoorRec6
namespace Go.Proofs.YtfmplmchpdmbmaaDoor
open Go.Conc Go.RowKit

/-- A service's data in bytes. -/
def dataL (a0 a1 a2 a3 : Int) (p q r : Nat) : List UInt8 := (bytesOf [a0, a1, a2, a3]).data.toList ++ beL p 2 ++ beL q 2 ++ beL r 2
theorem arr0 (W : World) (x y z : Value) : (Instr.index 80 (.agg #[x, y, z]) (.int .i64 0)).run Tryd.prog W = .ok x W := by kernel_rfl
theorem arr1 (W : World) (x y z : Value) : (Instr.index 80 (.agg #[x, y, z]) (.int .i64 1)).run Tryd.prog W = .ok y W := by kernel_rfl
theorem arr2 (W : World) (x y z : Value) : (Instr.index 80 (.agg #[x, y, z]) (.int .i64 2)).run Tryd.prog W = .ok z W := by kernel_rfl

set_option maxRecDepth 100000 in
set_option maxHeartbeats 2000000 in
theorem make1_any (w : World) (b base : Nat) (S : Nat → Prop) (ps : Nat) (name : ByteArray) (a0 a1 a2 a3 : Int) (p q r : Nat) (h : WrAt w b base S []) (hs : w.heap[ps]? = some (.cells #[.string name, .int .u8 a0, .int .u8 a1, .int .u8 a2, .int .u8 a3, .int .u16 p, .int .u16 q, .int .u16 r] 49 (0, 0)))
    (hp : p < 65536) (hq : q < 65536) (hr : r < 65536) (hbase : base ≤ w.heap.size) :
    Calls Tryd.prog 39 #[.pointer (some ⟨b, 0, none⟩), .pointer (some ⟨ps, 0, none⟩)] w fun e w' => e = .returned (.tuple #[]) ∧ WPost w w' b base S (dataL a0 a1 a2 a3 p q r) := by
  have hsl : Sl w 1 (.slice (some ⟨ps, 1, none⟩) 4 4) [a0, a1, a2, a3].length ([a0, a1, a2, a3].map (.int .u8)) := by
    refine ⟨rfl, _, 4, rfl, Nat.le_refl 4, by unfold maxLen; decide, .inr ⟨ps, 1, rfl, fun j u hu => ?_⟩⟩
    rw [cell_at hs]
    match j, hu with
    | 0, hu => exact hu
    | 1, hu => exact hu
    | 2, hu => exact hu
    | 3, hu => exact hu
  have hcv := run_bytes_str (P := Tryd.prog) (src := 71) (dst := 9) (e := 5) Tryd.underlying71 Tryd.underlying5 Tryd.underlying9 hsl
  have H := Lib.hid h
  have HS := Lib.hid hs
  have hns := h.at (e := 49) (by decide) (by decide) hs
  have HNS := Lib.hid hns
  clear h hs hsl hns
  go_enter Tryd.func39, Tryd.ntmps39
  go_wp2_with fail
  refine (raw_ok _ b base S [] (bytesOf [a0, a1, a2, a3]) H.out (by decide) (Nat.le_of_ble_eq_true rfl) hbase).mono ?_
  rintro e w1 ⟨rfl, hp1⟩
  have hs1 := hp1.old HS.out HNS.out
  have c5 : w1.cell? ⟨ps, 5, none⟩ = some (.int .u16 p) := cell_at hs1 5
  have c6 : w1.cell? ⟨ps, 6, none⟩ = some (.int .u16 q) := cell_at hs1 6
  have c7 : w1.cell? ⟨ps, 7, none⟩ = some (.int .u16 r) := cell_at hs1 7
  have HP1 := Lib.hid hp1
  have hsz1 := hp1.size
  clear hcv hs1 hp1
  have hx0 := arr0
  have hx1 := arr1
  have hx2 := arr2
  go_wp2_with fail
  clear c5 c6 c7
  go_loopg [4, 17] 3 (fun g v4 v17 wx => ∃ (k : Nat) (l : List UInt8), v17 = .int .i64 k ∧ k ≤ 3 ∧ w.heap.size ≤ wx.heap.size ∧ WPost w wx b base S l ∧ l = (bytesOf [a0, a1, a2, a3]).data.toList ++ (([p, q, r].take k).flatMap fun n => beL n 2) ∧ g = 3 - k)
  case atStart => exact ⟨0, _, rfl, by decide, hsz1, HP1.out, by simp, rfl⟩
  case round =>
    clear hsz1 HP1
    obtain ⟨k, l, rfl, hk, hsz, hpo, hl, hg⟩ := hrel
    have Hg := Lib.hid hg
    have HL := Lib.hid hl
    have HLL := Lib.hid (show l.length ≤ 100 by
      rw [hl, List.length_append]
      have : ((([p, q, r].take k).flatMap fun n => beL n 2)).length ≤ 6 := by
        match k, hk with
        | 0, _ => simp
        | 1, _ => simp [beL]
        | 2, _ => simp [beL]
        | 3, _ => simp [beL]
      have h4 : (bytesOf [a0, a1, a2, a3]).data.toList.length = 4 := rfl
      omega)
    have HPO := Lib.hid hpo
    obtain ⟨S3, k1, k2, k3⟩ := id hpo
    have K1 := Lib.hid k1
    have K2 := Lib.hid k2
    have K3 := Lib.hid k3
    clear hg hl hpo k1 k2 k3
    match k, hk with
    | 3, _ =>
      go_wp2_with fail
      go_end0
      have e : dataL a0 a1 a2 a3 p q r = l := by rw [HL.out]; simp [dataL]
      rw [e]
      exact ⟨rfl, HPO.out⟩
    | 0, _ =>
      go_wp2_with fail
      refine (num_ok _ b base S3 l p 2 K2.out (by decide) (by decide) (by omega) (by have := HLL.out; omega) (by omega)).mono ?_
      rintro e w2 ⟨rfl, hp2⟩
      have hs2 := hp2.size
      have HP2 := Lib.hid hp2
      clear hp2
      go_wp2_with fail
      go_roundg 2
      case measure => rw [Hg.out]; decide
      case rel => exact ⟨1, _, rfl, by decide, by omega, WPost.step K1.out K3.out HP2.out, by rw [HL.out]; simp, rfl⟩
    | 1, _ =>
      go_wp2_with fail
      refine (num_ok _ b base S3 l q 2 K2.out (by decide) (by decide) (by omega) (by have := HLL.out; omega) (by omega)).mono ?_
      rintro e w2 ⟨rfl, hp2⟩
      have hs2 := hp2.size
      have HP2 := Lib.hid hp2
      clear hp2
      go_wp2_with fail
      go_roundg 1
      case measure => rw [Hg.out]; decide
      case rel => exact ⟨2, _, rfl, by decide, by omega, WPost.step K1.out K3.out HP2.out, by rw [HL.out]; simp, rfl⟩
    | 2, _ =>
      go_wp2_with fail
      refine (num_ok _ b base S3 l r 2 K2.out (by decide) (by decide) (by omega) (by have := HLL.out; omega) (by omega)).mono ?_
      rintro e w2 ⟨rfl, hp2⟩
      have hs2 := hp2.size
      have HP2 := Lib.hid hp2
      clear hp2
      go_wp2_with fail
      go_roundg 0
      case measure => rw [Hg.out]; decide
      case rel => exact ⟨3, _, rfl, by decide, by omega, WPost.step K1.out K3.out HP2.out, by rw [HL.out]; simp, rfl⟩

def dataB (a0 a1 a2 a3 : Int) (p q r : Nat) : ByteArray := ⟨(dataL a0 a1 a2 a3 p q r).toArray⟩
def makeV (o : Int) (name : ByteArray) (ver : Nat) (d : ByteArray) : Value := if beginE o name ver = 0 then recV (keyS o name) ver o 0 false d else rec0
set_option maxRecDepth 100000 in
set_option maxHeartbeats 2000000 in
theorem make_any (w : World) (o : Int) (ver : Nat) (name : ByteArray) (a0 a1 a2 a3 : Int) (p q r : Nat) (m : Int) (hm : w.cell? ⟨0, 0, none⟩ = some (.int .i64 m)) (hv : ver < 2 ^ 64) (hs : name.size ≤ maxLen) (hp : p < 65536) (hq : q < 65536) (hr : r < 65536) :
    Calls Tryd.prog 21 #[.int .i64 o, .int .u64 ver, .agg #[.string name, .int .u8 a0, .int .u8 a1, .int .u8 a2, .int .u8 a3, .int .u16 p, .int .u16 q, .int .u16 r]] w fun e w' => e = .returned (.tuple #[makeV o name ver (dataB a0 a1 a2 a3 p q r), .int .i64 (beginE o name ver)]) ∧ Only (fun _ => False) w w' := by
  have hmf : ∀ (fn : Fn) (first cap : Array Value) (w : World), (Instr.makeFunc fn first cap).run Tryd.prog w = .ok (.func fn first cap) w := fun _ _ _ _ => rfl
  have HM := Lib.hid hm
  obtain ⟨W, hW⟩ : ∃ W, W = (w.alloc (.cells #[.string name, .int .u8 a0, .int .u8 a1, .int .u8 a2, .int .u8 a3, .int .u16 p, .int .u16 q, .int .u16 r] 49)).alloc (.cells #[.string ⟨#[]⟩, .int .u64 0, .int .i64 0, .int .i64 0, .bool false, .string ⟨#[]⟩] 44) := ⟨_, rfl⟩
  obtain ⟨z1, z2⟩ := two_blocks w _ _ (w1 := W) (by rw [← hW]; exact Only.refl _ _)
  have hWo : Only (fun _ => False) w W := by rw [hW]; exact ((Only.refl _ _).alloc _).alloc _
  have hWs : W.heap.size = w.heap.size + 2 := by rw [hW]; simp
  have hc0 : W.cell? ⟨w.heap.size, 0, none⟩ = some (.string name) := cell_at z1 0
  have HMV := Lib.hid (show makeV o name ver (dataB a0 a1 a2 a3 p q r) = if beginE o name ver = 0 then recV (keyS o name) ver o 0 false (dataB a0 a1 a2 a3 p q r) else rec0 from rfl)
  have HBV := Lib.hid (show beginV o name ver = if beginE o name ver = 0 then recV (keyS o name) ver o 0 false ⟨#[]⟩ else rec0 from rfl)
  have hbeg := begin_any W o ver name m (hWo.cell HM.out id) hv hs
  have HBE := Lib.hid hbeg
  have Z1 := Lib.hid z1
  have Z2 := Lib.hid z2
  clear hm z1 z2 hbeg
  go_enter Tryd.func21, Tryd.ntmps21
  go_wp2_with fail
  rw [← hW]
  refine HBE.out.mono ?_
  rintro e w1 ⟨rfl, ho1⟩
  have y1 := ho1.old Z1.out id
  have y2 := ho1.old Z2.out id
  have hs1 := ho1.size
  have hlt1 : w.heap.size + 1 < w1.heap.size := by omega
  have hlt0 : w.heap.size < w1.heap.size := by omega
  have HO := Lib.hid (hWo.trans ho1)
  have Y1 := Lib.hid y1
  have Y2 := Lib.hid y2
  clear hW hc0 ho1 y1 hWo
  have c0 : w1.cell? ⟨w.heap.size + 1, 0, none⟩ = some (.string ⟨#[]⟩) := cell_at y2 0
  have c1 : w1.cell? ⟨w.heap.size + 1, 1, none⟩ = some (.int .u64 0) := cell_at y2 1
  have c2 : w1.cell? ⟨w.heap.size + 1, 2, none⟩ = some (.int .i64 0) := cell_at y2 2
  have c3 : w1.cell? ⟨w.heap.size + 1, 3, none⟩ = some (.int .i64 0) := cell_at y2 3
  have c4 : w1.cell? ⟨w.heap.size + 1, 4, none⟩ = some (.bool false) := cell_at y2 4
  have c5 : w1.cell? ⟨w.heap.size + 1, 5, none⟩ = some (.string ⟨#[]⟩) := cell_at y2 5
  have hf : ∀ i, w1.frozen? ⟨w.heap.size + 1, i, none⟩ = false := free_at y2
  clear y2
  by_cases hE : beginE o name ver = 0
  · have hbv : beginV o name ver = .agg #[.string (keyS o name), .int .u64 ver, .int .i64 o, .int .i64 0, .bool false, .string ⟨#[]⟩] := by rw [HBV.out, if_pos hE]; rfl
    have hmv : makeV o name ver (dataB a0 a1 a2 a3 p q r) = recV (keyS o name) ver o 0 false (dataB a0 a1 a2 a3 p q r) := by rw [HMV.out, if_pos hE]
    rw [hbv, hE]
    have HMV2 := Lib.hid hmv
    have HE := Lib.hid hE
    clear hmv hbv hE
    generalize keyS o name = K at *
    obtain ⟨W3, hW3⟩ : ∃ W3, W3 = w1.alloc (.cells #[.string K, .int .u64 ver, .int .i64 o, .int .i64 0, .bool false, .string ⟨#[]⟩] 44) := ⟨_, rfl⟩
    have v8 : W3.heap[w1.heap.size]? = some (.cells #[.string K, .int .u64 ver, .int .i64 o, .int .i64 0, .bool false, .string ⟨#[]⟩] 44 (0, 0)) := by rw [hW3]; exact heap_alloc_new w1 _
    have hWW : Only (fun _ => False) w1 W3 := by rw [hW3]; exact (Only.refl _ _).alloc _
    have v1 := hWW.old Y1.out id
    have v2 := hWW.old Y2.out id
    have hen : ∀ args w, (callFunc 39 args).run Tryd.prog w = .ok (.enter 39 args) w := fun _ _ => by go_simp
    have hwr := write_ok W3 39 #[.pointer (some ⟨w.heap.size, 0, none⟩)] (dataL a0 a1 a2 a3 p q r) hen (by simp [dataL, beL]) (fun w2 b S ho hw hS hs => make1_any w2 b _ S w.heap.size name a0 a1 a2 a3 p q r hw (ho.old v1 id) hp hq hr hs)
    have HW := Lib.hid hwr
    have V2 := Lib.hid v2
    have V8 := Lib.hid v8
    have HWW := Lib.hid hWW
    clear hwr hen v1 v2 v8 hWW
    go_wp2_with fail
    rw [← hW3]
    refine HW.out.mono ?_
    rintro e w4 ⟨rfl, ho4⟩
    have x2 := ho4.old V2.out id
    have x8 := ho4.old V8.out id
    have HO4 := Lib.hid (HO.out.trans (HWW.out.trans ho4))
    clear ho4 hW3 c0 c1 c2 c3 c4 c5 hf
    have hn1 : ¬ (w.heap.size + 1 = w1.heap.size) := by omega
    have hn2 : ¬ (w1.heap.size = w.heap.size + 1) := by omega
    have c80 : w4.cell? ⟨w1.heap.size, 0, none⟩ = some (.string K) := cell_at x8 0
    have c81 : w4.cell? ⟨w1.heap.size, 1, none⟩ = some (.int .u64 ver) := cell_at x8 1
    have c82 : w4.cell? ⟨w1.heap.size, 2, none⟩ = some (.int .i64 o) := cell_at x8 2
    have c83 : w4.cell? ⟨w1.heap.size, 3, none⟩ = some (.int .i64 0) := cell_at x8 3
    have c84 : w4.cell? ⟨w1.heap.size, 4, none⟩ = some (.bool false) := cell_at x8 4
    have c85 : w4.cell? ⟨w1.heap.size, 5, none⟩ = some (.string ⟨#[]⟩) := cell_at x8 5
    have hf8 : ∀ i, w4.frozen? ⟨w1.heap.size, i, none⟩ = false := free_at x8
    have o8 : Only (fun x => x = w1.heap.size) w4 (w4.setCell ⟨w1.heap.size, 5, none⟩ (.string ⟨(dataL a0 a1 a2 a3 p q r).toArray⟩)) := (Only.refl _ _).setCell (S := fun x => x = w1.heap.size) (p := ⟨w1.heap.size, 5, none⟩) (.inr rfl) _
    have X2 := Lib.hid (o8.old x2 hn1)
    have O8 := Lib.hid o8
    have c0 : w4.cell? ⟨w.heap.size + 1, 0, none⟩ = some (.string ⟨#[]⟩) := cell_at x2 0
    have c1 : w4.cell? ⟨w.heap.size + 1, 1, none⟩ = some (.int .u64 0) := cell_at x2 1
    have c2 : w4.cell? ⟨w.heap.size + 1, 2, none⟩ = some (.int .i64 0) := cell_at x2 2
    have c3 : w4.cell? ⟨w.heap.size + 1, 3, none⟩ = some (.int .i64 0) := cell_at x2 3
    have c4 : w4.cell? ⟨w.heap.size + 1, 4, none⟩ = some (.bool false) := cell_at x2 4
    have c5 : w4.cell? ⟨w.heap.size + 1, 5, none⟩ = some (.string ⟨#[]⟩) := cell_at x2 5
    have hf : ∀ i, w4.frozen? ⟨w.heap.size + 1, i, none⟩ = false := free_at x2
    clear x2 x8 o8
    go_wp2_with fail
    rw [show (⟨(dataL a0 a1 a2 a3 p q r).toArray⟩ : ByteArray) = dataB a0 a1 a2 a3 p q r from rfl] at *
    obtain ⟨s1, s2⟩ := six_set X2.out (.string K) (.int .u64 ver) (.int .i64 o) (.int .i64 0) (.bool false) (.string (dataB a0 a1 a2 a3 p q r))
    generalize (((((((w4.setCell ⟨w1.heap.size, 5, none⟩ (.string (dataB a0 a1 a2 a3 p q r))).setCell ⟨w.heap.size + 1, 0, none⟩ (.string K)).setCell ⟨w.heap.size + 1, 1, none⟩ (.int .u64 ver)).setCell ⟨w.heap.size + 1, 2, none⟩ (.int .i64 o)).setCell ⟨w.heap.size + 1, 3, none⟩ (.int .i64 0)).setCell ⟨w.heap.size + 1, 4, none⟩ (.bool false)).setCell ⟨w.heap.size + 1, 5, none⟩ (.string (dataB a0 a1 a2 a3 p q r))) = w2 at *
    have hlt2 : w.heap.size + 1 < w2.heap.size := lt_of_block s1
    have d0 : w2.cell? ⟨w.heap.size + 1, 0, none⟩ = some (.string K) := cell_at s1 0
    have d1 : w2.cell? ⟨w.heap.size + 1, 1, none⟩ = some (.int .u64 ver) := cell_at s1 1
    have d2 : w2.cell? ⟨w.heap.size + 1, 2, none⟩ = some (.int .i64 o) := cell_at s1 2
    have d3 : w2.cell? ⟨w.heap.size + 1, 3, none⟩ = some (.int .i64 0) := cell_at s1 3
    have d4 : w2.cell? ⟨w.heap.size + 1, 4, none⟩ = some (.bool false) := cell_at s1 4
    have d5 : w2.cell? ⟨w.heap.size + 1, 5, none⟩ = some (.string (dataB a0 a1 a2 a3 p q r)) := cell_at s1 5
    refine bodyPost_ret (v := .tuple #[.agg #[.string K, .int .u64 ver, .int .i64 o, .int .i64 0, .bool false, .string (dataB a0 a1 a2 a3 p q r)], .int .i64 0]) (by simp [results, Tryd.results21, go_sem, d0, d1, d2, d3, d4, d5]) rfl ?_
    rw [HMV2.out, HE.out]
    exact ⟨rfl, (HO4.out.tr O8.out (fun i hi e => by omega)).tr s2 (fun i hi e => by omega)⟩
  · have hbv : beginV o name ver = .agg #[.string ⟨#[]⟩, .int .u64 0, .int .i64 0, .int .i64 0, .bool false, .string ⟨#[]⟩] := by rw [HBV.out, if_neg hE]; rfl
    have hmv : makeV o name ver (dataB a0 a1 a2 a3 p q r) = rec0 := by rw [HMV.out, if_neg hE]
    have h0 : (beginE o name ver != 0) = true := by simp; exact hE
    rw [hbv]
    have HMV2 := Lib.hid hmv
    clear hmv hbv hE
    generalize hbe : beginE o name ver = E at *
    have HBEE := Lib.hid hbe
    clear hbe
    go_wp2_with fail
    obtain ⟨s1, s2⟩ := six_set Y2.out (.string ⟨#[]⟩) (.int .u64 0) (.int .i64 0) (.int .i64 0) (.bool false) (.string ⟨#[]⟩)
    generalize ((((((w1.setCell ⟨w.heap.size + 1, 0, none⟩ (.string ⟨#[]⟩)).setCell ⟨w.heap.size + 1, 1, none⟩ (.int .u64 0)).setCell ⟨w.heap.size + 1, 2, none⟩ (.int .i64 0)).setCell ⟨w.heap.size + 1, 3, none⟩ (.int .i64 0)).setCell ⟨w.heap.size + 1, 4, none⟩ (.bool false)).setCell ⟨w.heap.size + 1, 5, none⟩ (.string ⟨#[]⟩)) = w2 at *
    have hlt2 : w.heap.size + 1 < w2.heap.size := lt_of_block s1
    have d0 : w2.cell? ⟨w.heap.size + 1, 0, none⟩ = some (.string ⟨#[]⟩) := cell_at s1 0
    have d1 : w2.cell? ⟨w.heap.size + 1, 1, none⟩ = some (.int .u64 0) := cell_at s1 1
    have d2 : w2.cell? ⟨w.heap.size + 1, 2, none⟩ = some (.int .i64 0) := cell_at s1 2
    have d3 : w2.cell? ⟨w.heap.size + 1, 3, none⟩ = some (.int .i64 0) := cell_at s1 3
    have d4 : w2.cell? ⟨w.heap.size + 1, 4, none⟩ = some (.bool false) := cell_at s1 4
    have d5 : w2.cell? ⟨w.heap.size + 1, 5, none⟩ = some (.string ⟨#[]⟩) := cell_at s1 5
    refine bodyPost_ret (v := .tuple #[.agg #[.string ⟨#[]⟩, .int .u64 0, .int .i64 0, .int .i64 0, .bool false, .string ⟨#[]⟩], .int .i64 E]) (by simp [results, Tryd.results21, go_sem, d0, d1, d2, d3, d4, d5, hlt2]) rfl ?_
    rw [HMV2.out, HBEE.out]
    exact ⟨rfl, HO.out.tr (s2.alloc _) (fun i hi e => by omega)⟩
end Go.Proofs.YtfmplmchpdmbmaaDoor
