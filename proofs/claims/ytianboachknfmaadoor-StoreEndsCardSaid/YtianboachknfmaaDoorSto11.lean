/- The walk of bellhoplaw15.StoreEnds. -/
import Derived.Test.YtianboachknfmaaDoorSto8
import Derived.Test.YtianboachknfmaaDoorSto10
namespace Go.Proofs.YtianboachknfmaaDoor
open Go.Conc Go.RowKit Go.Maps

def KA : ByteArray := keyB 1 ⟨#[97]⟩
def endX (V : Nat) (i : Int) : RecT := ⟨KA, V, 1, i, false, dataS⟩
theorem endX_rec (c : Nat) (i : Int) : recOf ⟨0, 0, 0, 1, c, i, false, false⟩ = endX (1 * 2 ^ 32 + c) i := rfl
theorem endX_good (V : Nat) (hV : 4294967296 ≤ V) (i : Int) (h0 : 0 ≤ i) (h1 : i ≤ 300) : goodR (endX V i) = true := by
  have h2 : splitE KA = 0 := by decide +kernel
  have h3 : splitN KA = 1 := by decide +kernel
  unfold goodR goodP endX
  simp only [h2, h3]
  have h4 : 0 < V / 2 ^ 32 := by omega
  simp only [decide_eq_true h4, decide_eq_true h0, decide_eq_true (show i ≤ 65535 by omega)]
  rfl
theorem endX_put (V : Nat) (hV : 4294967296 ≤ V) (t g : Int) (h0 : 0 ≤ g) (h1 : g ≤ 300) : putE 2 t [] (endX V g) = if t ≤ g then 7 else 0 := by
  unfold putE
  rw [endX_good V hV g h0 h1, if_neg (by decide)]
  rfl
def endL (V : Nat) (t i : Int) : List RecT := if i < t then [endX V i] else []
theorem endL_tick (V : Nat) (t i : Int) (h : i < t) : tickS t (endL V t i) = endL V t (i + 1) ∧ (((endL V t i).length : Int) - (tickS t (endL V t i)).length) = if i + 1 < t then 0 else 1 := by
  unfold endL
  rw [if_pos h]
  have h2 : tickS t [endX V i] = if i + 1 < t then [endX V (i + 1)] else [] := tick_one t (endX V i)
  rw [h2]
  refine ⟨rfl, ?_⟩
  split <;> rfl
theorem endL_find (V : Nat) (t i : Int) (h : i < t) : findV (endL V t i) KA = endX V i ∧ (findS (endL V t i) KA).isSome = true := by
  unfold endL findV
  rw [if_pos h]
  have : findS [endX V i] KA = some (endX V i) := by simp [findS, endX]
  rw [this]
  exact ⟨rfl, rfl⟩
set_option maxRecDepth 100000 in
set_option maxHeartbeats 4000000 in
theorem ends15_any (w : World) (m : Int) (hm : w.cell? ⟨0, 0, none⟩ = some (.int .i64 m)) (ttl age c : Nat) (ht : ttl < 65536) (ha : age < 65536) (hc : c < 256) :
    Calls Tryd.prog 4 #[.int .u16 ttl, .int .u16 age, .int .u8 c] w fun e w' => e = .returned (.bool true) ∧ Only (fun _ => False) w w' := by
  go_enter Tryd.func4, Tryd.ntmps4
  go_wp2_with fail
  refine (speaks15_any w m hm).mono ?_
  rintro e w1 ⟨rfl, ho1⟩
  have hm1 := ho1.cell hm id
  have HM := Lib.hid hm1
  have HO1 := Lib.hid ho1
  clear hm1 ho1
  clear hm
  go_upto_region 4 with (fail)
  have hT : 1 ≤ 1 + (ttl : Int) % 300 ∧ 1 + (ttl : Int) % 300 ≤ 300 := by omega
  have hG : 0 ≤ (age : Int) % 300 ∧ (age : Int) % 300 ≤ 299 := by omega
  generalize 1 + (ttl : Int) % 300 = T at *
  generalize hgg : (age : Int) % 300 = g at *
  clear hgg
  obtain ⟨hT1, hT2⟩ := hT
  obtain ⟨hG1, hG2⟩ := hG
  go_wp2_with fail
  refine (snew_ok w1 2 T (by omega) (by omega) hT1 (by omega)).mono ?_
  rintro e w2 ⟨rfl, ho2, hs2⟩
  have hB : w1.heap.size + 1 < w2.heap.size := hs2.lt.1
  have hm2 := ho2.cell HM.out id
  have hoA := HO1.out.trans ho2
  generalize hb : w1.heap.size = b at *
  have hwb : w.heap.size ≤ b := by rw [← hb]; exact HO1.out.size
  obtain ⟨V, hVe⟩ : ∃ V, 1 * 2 ^ 32 + c = V := ⟨_, rfl⟩
  have hV1 : 4294967296 ≤ V ∧ V < 2 ^ 64 := by omega
  have hrec : ∀ w, Calls Tryd.prog 14 #[.agg #[.int .i64 0, .int .i64 0, .int .u8 0, .int .u8 1, .int .u8 c, .int .i64 g, .bool false, .bool false]] w fun e w' => e = .returned (.tuple #[recT (endX V g), recT (endX V g)]) ∧ Only (fun _ => False) w w' := fun w => by
    have := rec_any w ⟨0, 0, 0, 1, c, g, false, false⟩ (show 0 < 256 by decide) (show 1 < 256 by decide) hc
    rw [endX_rec, hVe] at this
    exact this
  clear hVe
  have HM2 := Lib.hid hm2
  have HOA := Lib.hid hoA
  have HS2 := Lib.hid hs2
  have HREC := Lib.hid hrec
  have HBB := Lib.hid hb
  have HWB := Lib.hid hwb
  clear hm2 hoA hs2 hrec hb hwb
  clear ho2 HM HO1
  have HGOOD := Lib.hid (fun i h0 h1 => endX_good V hV1.1 i h0 h1)
  have HPUT := Lib.hid (endX_put V hV1.1 T g hG1 (by omega))
  have hkz : KA.size ≤ 1000000 ∧ V < 2 ^ 64 ∧ KA.size ≤ maxLen := ⟨by decide, hV1.2, by decide⟩
  have HKZ := Lib.hid hkz
  clear hkz
  clear hV1
  go_wp2_with fail
  refine (HREC.out w2).mono ?_
  rintro e w3 ⟨rfl, ho3⟩
  have hs3 := HS2.out.new ho3
  have hm3 := ho3.cell HM2.out id
  have hb3 := ho3.size
  have HPC := Lib.hid (fun w4 (ho : Only (fun _ => False) w3 w4) => sput_any w4 (b + 1) b 2 T 0 [] (hs3.new ho) (endX V g) m (ho.cell hm3 id) HKZ.out.2.1 HKZ.out.1 (by omega) (by omega))
  have hoB := HOA.out.trans ho3
  have HOB := Lib.hid hoB
  have HO3 := Lib.hid ho3
  clear hoB ho3
  clear hs3 hm3 HREC HS2 HOA
  unfold recT endX at HPC ⊢
  simp only at HPC ⊢
  obtain ⟨W, hW⟩ : ∃ W, W = w3.alloc (.cells #[.string KA, .int .u64 V, .int .i64 1, .int .i64 g, .bool false, .string dataS] 33) := ⟨_, rfl⟩
  have hbW : W.heap[w3.heap.size]? = some (.cells #[.string KA, .int .u64 V, .int .i64 1, .int .i64 g, .bool false, .string dataS] 33 (0, 0)) := by rw [hW]; exact heap_alloc_new w3 _
  have hoW : Only (fun _ => False) w3 W := by rw [hW]; exact (Only.refl _ _).alloc _
  have hsW : W.heap.size = w3.heap.size + 1 := by rw [hW]; simp
  obtain ⟨W2, hW2⟩ : ∃ W2, W2 = W.alloc (.cells #[.string KA, .int .u64 V, .int .i64 1, .int .i64 g, .bool false, .string dataS] 35) := ⟨_, rfl⟩
  have hbW2 : W2.heap[W.heap.size]? = some (.cells #[.string KA, .int .u64 V, .int .i64 1, .int .i64 g, .bool false, .string dataS] 35 (0, 0)) := by rw [hW2]; exact heap_alloc_new W _
  have hoW2 : Only (fun _ => False) W W2 := by rw [hW2]; exact (Only.refl _ _).alloc _
  have hsW2 : W2.heap.size = W.heap.size + 1 := by rw [hW2]; simp
  have hbX := hoW2.old hbW id
  have hpc := HPC.out W2 (hoW.trans hoW2)
  have hoC := HOB.out.trans (hoW.trans hoW2)
  have hsz2 : W2.heap.size = w3.heap.size + 2 := by omega
  have x0 : W2.cell? ⟨w3.heap.size, 0, none⟩ = some (.string KA) := cell_at hbX 0
  have x1 : W2.cell? ⟨w3.heap.size, 1, none⟩ = some (.int .u64 V) := cell_at hbX 1
  have x2 : W2.cell? ⟨w3.heap.size, 2, none⟩ = some (.int .i64 1) := cell_at hbX 2
  have x3 : W2.cell? ⟨w3.heap.size, 3, none⟩ = some (.int .i64 g) := cell_at hbX 3
  have x4 : W2.cell? ⟨w3.heap.size, 4, none⟩ = some (.bool false) := cell_at hbX 4
  have x5 : W2.cell? ⟨w3.heap.size, 5, none⟩ = some (.string dataS) := cell_at hbX 5
  have HBX := Lib.hid hbX
  have HP := Lib.hid hpc
  have HOC := Lib.hid hoC
  have HSZ2 := Lib.hid hsz2
  clear hbX hpc hoC hsz2
  clear HPC hbW hbW2 hsW hsW2 hoW hoW2
  go_upto_region 6 with (fail)
  rw [← hW, ← hW2]
  clear hW hW2
  have HXB := Lib.hid (show b + 1 < w3.heap.size by omega)
  generalize w3.heap.size = XB at *
  go_wp2_with fail
  refine HP.out.mono ?_
  rintro e w4 ⟨rfl, h4⟩
  have hn1 : ¬ (XB = b + 1 ∨ XB = b) := by have := HXB.out; omega
  have hbx4 := h4.1.old HBX.out hn1
  have hoD : Only (fun _ => False) w w4 := HOC.out.tr h4.1 (fun i hi e => by have := HWB.out; omega)
  have hs4 := h4.2
  have HBX4 := Lib.hid hbx4
  have HOD := Lib.hid hoD
  have HS4 := Lib.hid hs4
  clear hbx4 hoD hs4
  clear x0 x1 x2 x3 x4 x5 h4 HP
  by_cases hTg : T ≤ g
  · have hE : putE 2 T [] (endX V g) = 7 := by rw [HPUT.out, if_pos hTg]
    have hE' : putE 2 T [] ⟨KA, V, 1, g, false, dataS⟩ = 7 := hE
    have hS : putS 2 T [] (endX V g) = [] := by unfold putS; rw [hE]; rfl
    have hS' := HS4.out
    rw [show putS 2 T [] ⟨KA, V, 1, g, false, dataS⟩ = [] from hS] at hS'
    rw [hE']
    have HS5 := Lib.hid hS'
    clear hS'
    clear hE hE' hS HPUT HS4
    go_wp2_with fail
    go_loopg [14] 0 (fun gk v14 wr => v14 = .int .i64 g ∧ w4 = wr)
    case atStart => exact ⟨rfl, rfl⟩
    case round =>
      obtain ⟨rfl, rfl⟩ := hrel
      go_wp2_with (first | (refine (slen_any _ _ _ _ _ _ _ HS5.out).mono ?_; rintro e w6 ⟨rfl, rfl⟩))
      go_ret
      exact ⟨rfl, HOD.out⟩
  · have hE : putE 2 T [] (endX V g) = 0 := by rw [HPUT.out, if_neg hTg]
    have hE' : putE 2 T [] ⟨KA, V, 1, g, false, dataS⟩ = 0 := hE
    have hS : putS 2 T [] (endX V g) = endL V T g ∧ putR 2 T [] (endX V g) 0 = 0 := by
      unfold putS putR endL
      rw [hE, if_pos (show g < T by omega)]
      exact ⟨rfl, rfl⟩
    have hS' := HS4.out
    rw [show putS 2 T [] ⟨KA, V, 1, g, false, dataS⟩ = endL V T g from hS.1, show putR 2 T [] ⟨KA, V, 1, g, false, dataS⟩ 0 = 0 from hS.2] at hS'
    rw [hE']
    have HS5 := Lib.hid hS'
    clear hS'
    clear hE hE' hS HPUT HS4
    have hlt0 : g < T := by omega
    clear hTg
    go_wp2_with fail
    go_loopg [14] (T - g).toNat (fun gk v14 wr => ∃ i : Int, v14 = .int .i64 i ∧ g ≤ i ∧ i ≤ T ∧ StoreAt wr (b + 1) b 2 T 0 (endL V T i) ∧ Only (fun k => k = b + 1 ∨ k = b) w4 wr ∧ gk = (T - i).toNat)
    case atStart => exact ⟨g, rfl, Int.le_refl _, by omega, HS5.out, Only.refl _ _, rfl⟩
    case round =>
      obtain ⟨i, rfl, hi1, hi2, hst, ho, hgk⟩ := hrel
      have hbx := ho.old HBX4.out hn1
      have Hg := Lib.hid hgk
      have HST := Lib.hid hst
      have HO := Lib.hid ho
      have HBX := Lib.hid hbx
      clear hgk hst ho hbx
      by_cases hlt : i < T
      · have x0 : wr.cell? ⟨XB, 0, none⟩ = some (.string KA) := cell_at HBX.out 0
        have hget := sget_any wr (b + 1) b 2 T 0 _ HST.out KA HKZ.out.2.2
        rw [(endL_find V T i hlt).1, (endL_find V T i hlt).2] at hget
        unfold recT endX at hget
        simp only at hget
        have HGET := Lib.hid hget
        clear hget
        go_wp2_with fail
        refine HGET.out.mono ?_
        rintro e w6 ⟨rfl, ho6⟩
        obtain ⟨W7, hW7⟩ : ∃ W7, W7 = w6.alloc (.cells #[.string KA, .int .u64 V, .int .i64 1, .int .i64 i, .bool false, .string dataS] 33) := ⟨_, rfl⟩
        have hbW7 : W7.heap[w6.heap.size]? = some (.cells #[.string KA, .int .u64 V, .int .i64 1, .int .i64 i, .bool false, .string dataS] 33 (0, 0)) := by rw [hW7]; exact heap_alloc_new w6 _
        have hoW7 : Only (fun _ => False) w6 W7 := by rw [hW7]; exact (Only.refl _ _).alloc _
        have hsW7 : W7.heap.size = w6.heap.size + 1 := by rw [hW7]; simp
        have ho7 := ho6.trans hoW7
        have hs7 := HST.out.new ho7
        have htk := stick_any W7 (b + 1) b 2 T 0 _ hs7
        rw [(endL_tick V T i hlt).2, (endL_tick V T i hlt).1] at htk
        have z3 : W7.cell? ⟨w6.heap.size, 3, none⟩ = some (.int .i64 i) := cell_at hbW7 3
        have HTK := Lib.hid htk
        have HO7 := Lib.hid ho7
        clear htk ho7
        clear x0 ho6 hoW7 hsW7 hbW7 hs7
        go_upto_region 13 with (fail)
        rw [← hW7]
        clear hW7
        go_wp2_with fail
        refine HTK.out.mono ?_
        rintro e w8 ⟨rfl, ho8, hs8⟩
        have hoE : Only (fun k => k = b + 1 ∨ k = b) w4 w8 := (HO.out.trans (HO7.out.weaken (fun _ _ => False.elim))).trans (ho8.weaken (fun _ _ e => .inr e))
        have HS8 := Lib.hid hs8
        have HOE := Lib.hid hoE
        clear hs8 hoE
        clear ho8 z3
        by_cases hl2 : i + 1 < T
        · rw [if_pos hl2]
          go_wp2_with fail
          go_roundg (T - (i + 1)).toNat
          case measure => rw [Hg.out]; omega
          case rel => exact ⟨i + 1, rfl, by omega, by omega, HS8.out, HOE.out, rfl⟩
        · rw [if_neg hl2]
          have hT3 : i + 1 = T := by omega
          have hd : (i + 1 == T) = true := by rw [hT3]; simp
          have HT3 := Lib.hid hT3
          clear hT3
          go_wp2_with fail
          go_roundg (T - (i + 1)).toNat
          case measure => rw [Hg.out]; omega
          case rel => exact ⟨i + 1, rfl, by omega, by omega, HS8.out, HOE.out, rfl⟩
      · have he : endL V T i = [] := by unfold endL; rw [if_neg hlt]
        rw [he] at HST
        clear he
        go_wp2_with (first | (refine (slen_any _ _ _ _ _ _ _ HST.out).mono ?_; rintro e w6 ⟨rfl, rfl⟩))
        go_ret
        exact ⟨rfl, HOD.out.tr HO.out (fun i hi e => by have := HWB.out; omega)⟩
end Go.Proofs.YtianboachknfmaaDoor
