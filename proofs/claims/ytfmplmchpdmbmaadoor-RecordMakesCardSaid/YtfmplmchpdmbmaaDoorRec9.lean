/- record: Tell. -/
import Derived.Test.YtfmplmchpdmbmaaDoorRec8
namespace Go.Proofs.YtfmplmchpdmbmaaDoor
open Go.Conc Go.RowKit

theorem eight_set {w : World} {b : Nat} {t : TypeId} {a0 a1 a2 a3 a4 a5 a6 a7 : Value} (h : w.heap[b]? = some (.cells #[a0, a1, a2, a3, a4, a5, a6, a7] t (0, 0))) (u0 u1 u2 u3 u4 u5 u6 u7 : Value) :
    ((((((((w.setCell ⟨b, 0, none⟩ (u0)).setCell ⟨b, 1, none⟩ (u1)).setCell ⟨b, 2, none⟩ (u2)).setCell ⟨b, 3, none⟩ (u3)).setCell ⟨b, 4, none⟩ (u4)).setCell ⟨b, 5, none⟩ (u5)).setCell ⟨b, 6, none⟩ (u6)).setCell ⟨b, 7, none⟩ (u7)).heap[b]? = some (.cells #[u0, u1, u2, u3, u4, u5, u6, u7] t (0, 0)) ∧
      Only (fun x => x = b) w ((((((((w.setCell ⟨b, 0, none⟩ (u0)).setCell ⟨b, 1, none⟩ (u1)).setCell ⟨b, 2, none⟩ (u2)).setCell ⟨b, 3, none⟩ (u3)).setCell ⟨b, 4, none⟩ (u4)).setCell ⟨b, 5, none⟩ (u5)).setCell ⟨b, 6, none⟩ (u6)).setCell ⟨b, 7, none⟩ (u7)) := by
  have h1 : (w.setCell ⟨b, 0, none⟩ (u0)).heap[b]? = some (.cells #[u0, a1, a2, a3, a4, a5, a6, a7] t (0, 0)) := set_at h 0 u0
  have h2 : ((w.setCell ⟨b, 0, none⟩ (u0)).setCell ⟨b, 1, none⟩ (u1)).heap[b]? = some (.cells #[u0, u1, a2, a3, a4, a5, a6, a7] t (0, 0)) := set_at h1 1 u1
  have h3 : (((w.setCell ⟨b, 0, none⟩ (u0)).setCell ⟨b, 1, none⟩ (u1)).setCell ⟨b, 2, none⟩ (u2)).heap[b]? = some (.cells #[u0, u1, u2, a3, a4, a5, a6, a7] t (0, 0)) := set_at h2 2 u2
  have h4 : ((((w.setCell ⟨b, 0, none⟩ (u0)).setCell ⟨b, 1, none⟩ (u1)).setCell ⟨b, 2, none⟩ (u2)).setCell ⟨b, 3, none⟩ (u3)).heap[b]? = some (.cells #[u0, u1, u2, u3, a4, a5, a6, a7] t (0, 0)) := set_at h3 3 u3
  have h5 : (((((w.setCell ⟨b, 0, none⟩ (u0)).setCell ⟨b, 1, none⟩ (u1)).setCell ⟨b, 2, none⟩ (u2)).setCell ⟨b, 3, none⟩ (u3)).setCell ⟨b, 4, none⟩ (u4)).heap[b]? = some (.cells #[u0, u1, u2, u3, u4, a5, a6, a7] t (0, 0)) := set_at h4 4 u4
  have h6 : ((((((w.setCell ⟨b, 0, none⟩ (u0)).setCell ⟨b, 1, none⟩ (u1)).setCell ⟨b, 2, none⟩ (u2)).setCell ⟨b, 3, none⟩ (u3)).setCell ⟨b, 4, none⟩ (u4)).setCell ⟨b, 5, none⟩ (u5)).heap[b]? = some (.cells #[u0, u1, u2, u3, u4, u5, a6, a7] t (0, 0)) := set_at h5 5 u5
  have h7 : (((((((w.setCell ⟨b, 0, none⟩ (u0)).setCell ⟨b, 1, none⟩ (u1)).setCell ⟨b, 2, none⟩ (u2)).setCell ⟨b, 3, none⟩ (u3)).setCell ⟨b, 4, none⟩ (u4)).setCell ⟨b, 5, none⟩ (u5)).setCell ⟨b, 6, none⟩ (u6)).heap[b]? = some (.cells #[u0, u1, u2, u3, u4, u5, u6, a7] t (0, 0)) := set_at h6 6 u6
  have h8 : ((((((((w.setCell ⟨b, 0, none⟩ (u0)).setCell ⟨b, 1, none⟩ (u1)).setCell ⟨b, 2, none⟩ (u2)).setCell ⟨b, 3, none⟩ (u3)).setCell ⟨b, 4, none⟩ (u4)).setCell ⟨b, 5, none⟩ (u5)).setCell ⟨b, 6, none⟩ (u6)).setCell ⟨b, 7, none⟩ (u7)).heap[b]? = some (.cells #[u0, u1, u2, u3, u4, u5, u6, u7] t (0, 0)) := set_at h7 7 u7
  exact ⟨h8, (((((((((Only.refl (fun x => x = b) w).setCell (p := ⟨b, 0, none⟩) (.inr rfl) u0).setCell (p := ⟨b, 1, none⟩) (.inr rfl) u1).setCell (p := ⟨b, 2, none⟩) (.inr rfl) u2).setCell (p := ⟨b, 3, none⟩) (.inr rfl) u3).setCell (p := ⟨b, 4, none⟩) (.inr rfl) u4).setCell (p := ⟨b, 5, none⟩) (.inr rfl) u5).setCell (p := ⟨b, 6, none⟩) (.inr rfl) u6).setCell (p := ⟨b, 7, none⟩) (.inr rfl) u7)⟩

def svcV (name : ByteArray) (a0 a1 a2 a3 p q r : Nat) : Value := .agg #[.string name, .int .u8 a0, .int .u8 a1, .int .u8 a2, .int .u8 a3, .int .u16 p, .int .u16 q, .int .u16 r]
def tellE (key : ByteArray) (ver : Nat) (o age : Int) (gone : Bool) (data : ByteArray) : Int := if goodP key ver o age gone data = false then 4 else if gone then 6 else 0
def tellV (key : ByteArray) (ver : Nat) (o age : Int) (gone : Bool) (data : ByteArray) : Value :=
  if goodP key ver o age gone data && !gone then svcV (key.extract 2 key.size) (bA data 0) (bA data 1) (bA data 2) (bA data 3) (bA data 4 * 256 + bA data 5) (bA data 6 * 256 + bA data 7) (bA data 8 * 256 + bA data 9) else svcV ⟨#[]⟩ 0 0 0 0 0 0 0
theorem ten_bytes (d : ByteArray) (h : d.size = 10) : ∃ x0 x1 x2 x3 x4 x5 x6 x7 x8 x9 : UInt8, d = ⟨#[x0, x1, x2, x3, x4, x5, x6, x7, x8, x9]⟩ := by
  have h2 : d.data.toList.length = 10 := h
  match hl : d.data.toList, h2 with
  | [x0, x1, x2, x3, x4, x5, x6, x7, x8, x9], _ => exact ⟨x0, x1, x2, x3, x4, x5, x6, x7, x8, x9, str_ext (by rw [hl])⟩
set_option maxRecDepth 100000 in
set_option maxHeartbeats 4000000 in
theorem tell_any (w : World) (key : ByteArray) (ver : Nat) (o age : Int) (gone : Bool) (data : ByteArray) (m : Int) (hm : w.cell? ⟨0, 0, none⟩ = some (.int .i64 m)) (hv : ver < 2 ^ 64) (hk : key.size ≤ 1000000) :
    Calls Tryd.prog 17 #[.agg #[.string key, .int .u64 ver, .int .i64 o, .int .i64 age, .bool gone, .string data]] w fun e w' => e = .returned (.tuple #[tellV key ver o age gone data, .int .i64 (tellE key ver o age gone data)]) ∧ Only (fun _ => False) w w' := by
  have hmf : ∀ (fn : Fn) (first cap : Array Value) (w : World), (Instr.makeFunc fn first cap).run Tryd.prog w = .ok (.func fn first cap) w := fun _ _ _ _ => rfl
  have HM := Lib.hid hm
  obtain ⟨W, hW⟩ : ∃ W, W = (w.alloc (.cells #[.string key, .int .u64 ver, .int .i64 o, .int .i64 age, .bool gone, .string data] 44)).alloc (.cells #[.string ⟨#[]⟩, .int .u8 0, .int .u8 0, .int .u8 0, .int .u8 0, .int .u16 0, .int .u16 0, .int .u16 0] 49) := ⟨_, rfl⟩
  obtain ⟨z1, z2⟩ := two_blocks w _ _ (w1 := W) (by rw [← hW]; exact Only.refl _ _)
  have hWo : Only (fun _ => False) w W := by rw [hW]; exact ((Only.refl _ _).alloc _).alloc _
  have hWs : W.heap.size = w.heap.size + 2 := by rw [hW]; simp
  have HG := Lib.hid (good_any W key ver o age gone data m (hWo.cell HM.out id) hv hk)
  have HTE := Lib.hid (show tellE key ver o age gone data = if goodP key ver o age gone data = false then 4 else if gone then 6 else 0 from rfl)
  have HTV := Lib.hid (show tellV key ver o age gone data = if goodP key ver o age gone data && !gone then svcV (key.extract 2 key.size) (bA data 0) (bA data 1) (bA data 2) (bA data 3) (bA data 4 * 256 + bA data 5) (bA data 6 * 256 + bA data 7) (bA data 8 * 256 + bA data 9) else svcV ⟨#[]⟩ 0 0 0 0 0 0 0 from rfl)
  have Z1 := Lib.hid z1
  have Z2 := Lib.hid z2
  clear hm z1 z2
  go_enter Tryd.func17, Tryd.ntmps17
  go_wp2_with fail
  rw [← hW]
  refine HG.out.mono ?_
  rintro e w1 ⟨rfl, ho1⟩
  have y1 := ho1.old Z1.out id
  have y2 := ho1.old Z2.out id
  have hs1 := ho1.size
  have hlt1 : w.heap.size + 1 < w1.heap.size := by omega
  have hlt0 : w.heap.size < w1.heap.size := by omega
  have HO := Lib.hid (hWo.trans ho1)
  have Y1 := Lib.hid y1
  have Y2 := Lib.hid y2
  clear hW ho1 hWo
  have r0 : w1.cell? ⟨w.heap.size, 0, none⟩ = some (.string key) := cell_at y1 0
  have r1 : w1.cell? ⟨w.heap.size, 1, none⟩ = some (.int .u64 ver) := cell_at y1 1
  have r2 : w1.cell? ⟨w.heap.size, 2, none⟩ = some (.int .i64 o) := cell_at y1 2
  have r3 : w1.cell? ⟨w.heap.size, 3, none⟩ = some (.int .i64 age) := cell_at y1 3
  have r4 : w1.cell? ⟨w.heap.size, 4, none⟩ = some (.bool gone) := cell_at y1 4
  have r5 : w1.cell? ⟨w.heap.size, 5, none⟩ = some (.string data) := cell_at y1 5
  have rf : ∀ i, w1.frozen? ⟨w.heap.size, i, none⟩ = false := free_at y1
  have c0 : w1.cell? ⟨w.heap.size + 1, 0, none⟩ = some (.string ⟨#[]⟩) := cell_at y2 0
  have c1 : w1.cell? ⟨w.heap.size + 1, 1, none⟩ = some (.int .u8 0) := cell_at y2 1
  have c2 : w1.cell? ⟨w.heap.size + 1, 2, none⟩ = some (.int .u8 0) := cell_at y2 2
  have c3 : w1.cell? ⟨w.heap.size + 1, 3, none⟩ = some (.int .u8 0) := cell_at y2 3
  have c4 : w1.cell? ⟨w.heap.size + 1, 4, none⟩ = some (.int .u8 0) := cell_at y2 4
  have c5 : w1.cell? ⟨w.heap.size + 1, 5, none⟩ = some (.int .u16 0) := cell_at y2 5
  have c6 : w1.cell? ⟨w.heap.size + 1, 6, none⟩ = some (.int .u16 0) := cell_at y2 6
  have c7 : w1.cell? ⟨w.heap.size + 1, 7, none⟩ = some (.int .u16 0) := cell_at y2 7
  have cf : ∀ i, w1.frozen? ⟨w.heap.size + 1, i, none⟩ = false := free_at y2
  clear y1 y2
  cases hg : goodP key ver o age gone data with
  | false =>
    have hte : tellE key ver o age gone data = 4 := by rw [HTE.out, if_pos hg]
    have htv : tellV key ver o age gone data = svcV ⟨#[]⟩ 0 0 0 0 0 0 0 := by rw [HTV.out, hg]; rfl
    have HTT := Lib.hid (And.intro hte htv)
    clear hte htv hg
    go_wp2_with fail
    obtain ⟨s1, s2⟩ := eight_set Y2.out (.string ⟨#[]⟩) (.int .u8 0) (.int .u8 0) (.int .u8 0) (.int .u8 0) (.int .u16 0) (.int .u16 0) (.int .u16 0)
    generalize ((((((((w1.setCell ⟨w.heap.size + 1, 0, none⟩ (.string ⟨#[]⟩)).setCell ⟨w.heap.size + 1, 1, none⟩ (.int .u8 0)).setCell ⟨w.heap.size + 1, 2, none⟩ (.int .u8 0)).setCell ⟨w.heap.size + 1, 3, none⟩ (.int .u8 0)).setCell ⟨w.heap.size + 1, 4, none⟩ (.int .u8 0)).setCell ⟨w.heap.size + 1, 5, none⟩ (.int .u16 0)).setCell ⟨w.heap.size + 1, 6, none⟩ (.int .u16 0)).setCell ⟨w.heap.size + 1, 7, none⟩ (.int .u16 0)) = wz at *
    have d0 : wz.cell? ⟨w.heap.size + 1, 0, none⟩ = some (.string ⟨#[]⟩) := cell_at s1 0
    have d1 : wz.cell? ⟨w.heap.size + 1, 1, none⟩ = some (.int .u8 0) := cell_at s1 1
    have d2 : wz.cell? ⟨w.heap.size + 1, 2, none⟩ = some (.int .u8 0) := cell_at s1 2
    have d3 : wz.cell? ⟨w.heap.size + 1, 3, none⟩ = some (.int .u8 0) := cell_at s1 3
    have d4 : wz.cell? ⟨w.heap.size + 1, 4, none⟩ = some (.int .u8 0) := cell_at s1 4
    have d5 : wz.cell? ⟨w.heap.size + 1, 5, none⟩ = some (.int .u16 0) := cell_at s1 5
    have d6 : wz.cell? ⟨w.heap.size + 1, 6, none⟩ = some (.int .u16 0) := cell_at s1 6
    have d7 : wz.cell? ⟨w.heap.size + 1, 7, none⟩ = some (.int .u16 0) := cell_at s1 7
    refine bodyPost_ret (v := .tuple #[.agg #[.string ⟨#[]⟩, .int .u8 0, .int .u8 0, .int .u8 0, .int .u8 0, .int .u16 0, .int .u16 0, .int .u16 0], .int .i64 4]) (by simp [results, Tryd.results17, go_sem, d0, d1, d2, d3, d4, d5, d6, d7]) rfl ?_
    rw [HTT.out.1, HTT.out.2]
    exact ⟨rfl, HO.out.tr s2 (fun i hi e => by omega)⟩
  | true =>
    cases gone with
    | true =>
      have hte : tellE key ver o age true data = 6 := by rw [HTE.out, if_neg (by simp [hg])]; rfl
      have htv : tellV key ver o age true data = svcV ⟨#[]⟩ 0 0 0 0 0 0 0 := by rw [HTV.out, hg]; rfl
      have HTT := Lib.hid (And.intro hte htv)
      clear hte htv hg
      go_wp2_with fail
      obtain ⟨s1, s2⟩ := eight_set Y2.out (.string ⟨#[]⟩) (.int .u8 0) (.int .u8 0) (.int .u8 0) (.int .u8 0) (.int .u16 0) (.int .u16 0) (.int .u16 0)
      generalize ((((((((w1.setCell ⟨w.heap.size + 1, 0, none⟩ (.string ⟨#[]⟩)).setCell ⟨w.heap.size + 1, 1, none⟩ (.int .u8 0)).setCell ⟨w.heap.size + 1, 2, none⟩ (.int .u8 0)).setCell ⟨w.heap.size + 1, 3, none⟩ (.int .u8 0)).setCell ⟨w.heap.size + 1, 4, none⟩ (.int .u8 0)).setCell ⟨w.heap.size + 1, 5, none⟩ (.int .u16 0)).setCell ⟨w.heap.size + 1, 6, none⟩ (.int .u16 0)).setCell ⟨w.heap.size + 1, 7, none⟩ (.int .u16 0)) = wz at *
      have d0 : wz.cell? ⟨w.heap.size + 1, 0, none⟩ = some (.string ⟨#[]⟩) := cell_at s1 0
      have d1 : wz.cell? ⟨w.heap.size + 1, 1, none⟩ = some (.int .u8 0) := cell_at s1 1
      have d2 : wz.cell? ⟨w.heap.size + 1, 2, none⟩ = some (.int .u8 0) := cell_at s1 2
      have d3 : wz.cell? ⟨w.heap.size + 1, 3, none⟩ = some (.int .u8 0) := cell_at s1 3
      have d4 : wz.cell? ⟨w.heap.size + 1, 4, none⟩ = some (.int .u8 0) := cell_at s1 4
      have d5 : wz.cell? ⟨w.heap.size + 1, 5, none⟩ = some (.int .u16 0) := cell_at s1 5
      have d6 : wz.cell? ⟨w.heap.size + 1, 6, none⟩ = some (.int .u16 0) := cell_at s1 6
      have d7 : wz.cell? ⟨w.heap.size + 1, 7, none⟩ = some (.int .u16 0) := cell_at s1 7
      refine bodyPost_ret (v := .tuple #[.agg #[.string ⟨#[]⟩, .int .u8 0, .int .u8 0, .int .u8 0, .int .u8 0, .int .u16 0, .int .u16 0, .int .u16 0], .int .i64 6]) (by simp [results, Tryd.results17, go_sem, d0, d1, d2, d3, d4, d5, d6, d7]) rfl ?_
      rw [HTT.out.1, HTT.out.2]
      exact ⟨rfl, HO.out.tr s2 (fun i hi e => by omega)⟩
    | false =>
      have hte : tellE key ver o age false data = 0 := by rw [HTE.out, if_neg (by simp [hg])]; rfl
      have hd10 : data.size = 10 := by unfold goodP at hg; simp at hg; omega
      have hso : splitOk key = true := by
        cases h : splitOk key with
        | true => rfl
        | false =>
          have := (split_bad h).2.2
          unfold goodP at hg
          rw [this] at hg
          simp at hg
      obtain ⟨x0, x1, x2, x3, x4, x5, x6, x7, x8, x9, rfl⟩ := ten_bytes data hd10
      have htv : tellV key ver o age false ⟨#[x0, x1, x2, x3, x4, x5, x6, x7, x8, x9]⟩ = svcV (key.extract 2 key.size) x0.toNat x1.toNat x2.toNat x3.toNat (x4.toNat * 256 + x5.toNat) (x6.toNat * 256 + x7.toNat) (x8.toNat * 256 + x9.toNat) := by rw [HTV.out, hg]; rfl
      have hss : splitS key = key.extract 2 key.size := by unfold splitS; rw [hso]; rfl
      rw [← hss] at htv
      have HTT := Lib.hid (And.intro hte htv)
      clear hte htv hg hso hss
      go_wp2_with fail
      refine (split_any _ key m (HO.out.cell HM.out id) hk).mono ?_
      rintro e w2 ⟨rfl, ho2⟩
      have HO2 := Lib.hid (HO.out.trans ho2)
      have hs2 := ho2.size
      have hlt2 : w.heap.size + 1 < w2.heap.size := by omega
      have hlt20 : w.heap.size < w2.heap.size := by omega
      have y2 := ho2.old Y2.out id
      have y1 := ho2.old Y1.out id
      have v5 : w2.cell? ⟨w.heap.size, 5, none⟩ = some (.string ⟨#[x0, x1, x2, x3, x4, x5, x6, x7, x8, x9]⟩) := cell_at y1 5
      have Y22 := Lib.hid y2
      clear ho2 y2 y1 r0 r1 r2 r3 r4 r5 rf c0 c1 c2 c3 c4 c5 c6 c7 cf
      generalize splitE key = sE at *
      generalize splitN key = sN at *
      generalize splitS key = name at *
      obtain ⟨W3, hW3⟩ : ∃ W3, W3 = w2.alloc (.cells (svcC name 0 0 0 0 0 0 0) 49) := ⟨_, rfl⟩
      have v8 : W3.heap[w2.heap.size]? = some (.cells (svcC name 0 0 0 0 0 0 0) 49 (0, 0)) := by rw [hW3]; exact heap_alloc_new w2 _
      have hWW : Only (fun _ => False) w2 W3 := by rw [hW3]; exact (Only.refl _ _).alloc _
      have hs3 : W3.heap.size = w2.heap.size + 1 := by rw [hW3]; simp
      have hen : ∀ args w, (callFunc 36 args).run Tryd.prog w = .ok (.enter 36 args) w := fun _ _ => by go_simp
      have hclo : ∀ (wa : World) (b : Nat), Only (fun _ => False) W3 wa → RdAt wa b ⟨#[x0, x1, x2, x3, x4, x5, x6, x7, x8, x9]⟩ → W3.heap.size ≤ b → Calls Tryd.prog 36 (#[.pointer (some ⟨b, 0, none⟩)] ++ #[.pointer (some ⟨w2.heap.size, 0, none⟩)]) wa fun e w' => e = .returned (.tuple #[]) ∧ Only (fun x => x = b ∨ (x = w2.heap.size ∧ x < W3.heap.size)) wa w' ∧
          RdAt w' b ⟨#[]⟩ ∧ w'.heap[w2.heap.size]? = some (.cells (svcC name x0.toNat x1.toNat x2.toNat x3.toNat (x4.toNat * 256 + x5.toNat) (x6.toNat * 256 + x7.toNat) (x8.toNat * 256 + x9.toNat)) 49 (0, 0)) := by
        intro wa b ho hr hb
        refine (tell1_any wa b w2.heap.size name x0 x1 x2 x3 x4 x5 x6 x7 x8 x9 hr (ho.old v8 id)).mono ?_
        rintro e w' ⟨rfl, h1, h2, h3⟩
        exact ⟨rfl, h1.weaken (fun x _ e => by rcases e with e | e; exact .inl e; exact .inr ⟨e, by omega⟩), h2, h3⟩
      have hcall := read_ok W3 _ 36 _ (fun x => x = w2.heap.size) _ (fun a => a.heap[w2.heap.size]? = some (.cells (svcC name x0.toNat x1.toNat x2.toNat x3.toNat (x4.toNat * 256 + x5.toNat) (x6.toNat * 256 + x7.toNat) (x8.toNat * 256 + x9.toNat)) 49 (0, 0))) hen (fun a c h ho => ho.old h (by omega)) hclo
      rw [if_pos (show (⟨#[]⟩ : ByteArray).size = 0 from rfl)] at hcall
      have HC := Lib.hid hcall
      have HWW := Lib.hid hWW
      clear hcall hclo hen v8 hWW
      unfold svcC at hW3
      go_wp2_with fail
      rw [show ((0 : Nat) : Int) = 0 from rfl] at hW3
      rw [← hW3]
      refine HC.out.mono ?_
      rintro e w4 ⟨rfl, ho4, hx4⟩
      have hn1 : ¬ (w.heap.size + 1 = w2.heap.size) := by omega
      have hn2 : ¬ (w2.heap.size = w.heap.size + 1) := by omega
      have x2' := ho4.old (HWW.out.old Y22.out id) hn1
      have HO4 := Lib.hid ((HO2.out.trans HWW.out).tr ho4 (fun i hi e => by omega))
      have X2 := Lib.hid x2'
      generalize hy4 : x4.toNat * 256 + x5.toNat = y4 at *
      generalize hy6 : x6.toNat * 256 + x7.toNat = y6 at *
      generalize hy8 : x8.toNat * 256 + x9.toNat = y8 at *
      have e0 : w4.cell? ⟨w2.heap.size, 0, none⟩ = some (.string name) := cell_at hx4 0
      have e1 : w4.cell? ⟨w2.heap.size, 1, none⟩ = some (.int .u8 (x0.toNat : Nat)) := cell_at hx4 1
      have e2 : w4.cell? ⟨w2.heap.size, 2, none⟩ = some (.int .u8 (x1.toNat : Nat)) := cell_at hx4 2
      have e3 : w4.cell? ⟨w2.heap.size, 3, none⟩ = some (.int .u8 (x2.toNat : Nat)) := cell_at hx4 3
      have e4 : w4.cell? ⟨w2.heap.size, 4, none⟩ = some (.int .u8 (x3.toNat : Nat)) := cell_at hx4 4
      have e5 : w4.cell? ⟨w2.heap.size, 5, none⟩ = some (.int .u16 (y4 : Nat)) := cell_at hx4 5
      have e6 : w4.cell? ⟨w2.heap.size, 6, none⟩ = some (.int .u16 (y6 : Nat)) := cell_at hx4 6
      have e7 : w4.cell? ⟨w2.heap.size, 7, none⟩ = some (.int .u16 (y8 : Nat)) := cell_at hx4 7
      have ef : ∀ i, w4.frozen? ⟨w2.heap.size, i, none⟩ = false := free_at hx4
      have c0 : w4.cell? ⟨w.heap.size + 1, 0, none⟩ = some (.string ⟨#[]⟩) := cell_at x2' 0
      have c1 : w4.cell? ⟨w.heap.size + 1, 1, none⟩ = some (.int .u8 0) := cell_at x2' 1
      have c2 : w4.cell? ⟨w.heap.size + 1, 2, none⟩ = some (.int .u8 0) := cell_at x2' 2
      have c3 : w4.cell? ⟨w.heap.size + 1, 3, none⟩ = some (.int .u8 0) := cell_at x2' 3
      have c4 : w4.cell? ⟨w.heap.size + 1, 4, none⟩ = some (.int .u8 0) := cell_at x2' 4
      have c5 : w4.cell? ⟨w.heap.size + 1, 5, none⟩ = some (.int .u16 0) := cell_at x2' 5
      have c6 : w4.cell? ⟨w.heap.size + 1, 6, none⟩ = some (.int .u16 0) := cell_at x2' 6
      have c7 : w4.cell? ⟨w.heap.size + 1, 7, none⟩ = some (.int .u16 0) := cell_at x2' 7
      have cf : ∀ i, w4.frozen? ⟨w.heap.size + 1, i, none⟩ = false := free_at x2'
      clear ho4 hx4 x2' hy4 hy6 hy8 hW3
      go_wp2_with fail
      obtain ⟨s1, s2⟩ := eight_set X2.out (.string name) (.int .u8 (x0.toNat : Nat)) (.int .u8 (x1.toNat : Nat)) (.int .u8 (x2.toNat : Nat)) (.int .u8 (x3.toNat : Nat)) (.int .u16 (y4 : Nat)) (.int .u16 (y6 : Nat)) (.int .u16 (y8 : Nat))
      generalize ((((((((w4.setCell ⟨w.heap.size + 1, 0, none⟩ (.string name)).setCell ⟨w.heap.size + 1, 1, none⟩ (.int .u8 (x0.toNat : Nat))).setCell ⟨w.heap.size + 1, 2, none⟩ (.int .u8 (x1.toNat : Nat))).setCell ⟨w.heap.size + 1, 3, none⟩ (.int .u8 (x2.toNat : Nat))).setCell ⟨w.heap.size + 1, 4, none⟩ (.int .u8 (x3.toNat : Nat))).setCell ⟨w.heap.size + 1, 5, none⟩ (.int .u16 (y4 : Nat))).setCell ⟨w.heap.size + 1, 6, none⟩ (.int .u16 (y6 : Nat))).setCell ⟨w.heap.size + 1, 7, none⟩ (.int .u16 (y8 : Nat))) = wz at *
      have d0 : wz.cell? ⟨w.heap.size + 1, 0, none⟩ = some (.string name) := cell_at s1 0
      have d1 : wz.cell? ⟨w.heap.size + 1, 1, none⟩ = some (.int .u8 (x0.toNat : Nat)) := cell_at s1 1
      have d2 : wz.cell? ⟨w.heap.size + 1, 2, none⟩ = some (.int .u8 (x1.toNat : Nat)) := cell_at s1 2
      have d3 : wz.cell? ⟨w.heap.size + 1, 3, none⟩ = some (.int .u8 (x2.toNat : Nat)) := cell_at s1 3
      have d4 : wz.cell? ⟨w.heap.size + 1, 4, none⟩ = some (.int .u8 (x3.toNat : Nat)) := cell_at s1 4
      have d5 : wz.cell? ⟨w.heap.size + 1, 5, none⟩ = some (.int .u16 (y4 : Nat)) := cell_at s1 5
      have d6 : wz.cell? ⟨w.heap.size + 1, 6, none⟩ = some (.int .u16 (y6 : Nat)) := cell_at s1 6
      have d7 : wz.cell? ⟨w.heap.size + 1, 7, none⟩ = some (.int .u16 (y8 : Nat)) := cell_at s1 7
      refine bodyPost_ret (v := .tuple #[.agg #[.string name, .int .u8 (x0.toNat : Nat), .int .u8 (x1.toNat : Nat), .int .u8 (x2.toNat : Nat), .int .u8 (x3.toNat : Nat), .int .u16 (y4 : Nat), .int .u16 (y6 : Nat), .int .u16 (y8 : Nat)], .int .i64 0]) (by simp [results, Tryd.results17, go_sem, d0, d1, d2, d3, d4, d5, d6, d7]) rfl ?_
      rw [HTT.out.1, HTT.out.2]
      exact ⟨rfl, HO4.out.tr s2 (fun i hi e => by omega)⟩
end Go.Proofs.YtfmplmchpdmbmaaDoor
