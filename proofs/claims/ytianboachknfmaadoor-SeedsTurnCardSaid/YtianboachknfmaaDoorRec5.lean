/- record: Life, begin, Good. -/
import Derived.Test.YtianboachknfmaaDoorRec4
namespace Go.Proofs.YtianboachknfmaaDoor
open Go.Conc Go.RowKit

theorem ret_int2 {k1 k2 : IntKind} {a b c d : Int} (h : a = b) (g : c = d) : Ending.returned (.tuple #[.int k1 a, .int k2 c]) = .returned (.tuple #[.int k1 b, .int k2 d]) := by rw [h, g]
theorem life_any (w : World) (ver : Nat) (hv : ver < 2 ^ 64) : Calls Tryd.prog 64 #[.int .u64 ver] w fun e w' => e = .returned (.tuple #[.int .u32 (ver / 2 ^ 32 : Nat), .int .u32 (ver % 2 ^ 32 : Nat)]) ∧ w = w' := by
  have HV := Lib.hid hv
  have h0 : (0 : Int) ≤ (ver : Int) := by omega
  clear hv
  go_enter Tryd.func64, Tryd.ntmps64
  go_wp2_with fail
  go_ret2
  have := HV.out
  exact ⟨ret_int2 (by omega) (by omega), rfl⟩

theorem six_set {w : World} {b : Nat} {t : TypeId} {a0 a1 a2 a3 a4 a5 : Value} (h : w.heap[b]? = some (.cells #[a0, a1, a2, a3, a4, a5] t (0, 0))) (u0 u1 u2 u3 u4 u5 : Value) :
    ((((((w.setCell ⟨b, 0, none⟩ u0).setCell ⟨b, 1, none⟩ u1).setCell ⟨b, 2, none⟩ u2).setCell ⟨b, 3, none⟩ u3).setCell ⟨b, 4, none⟩ u4).setCell ⟨b, 5, none⟩ u5).heap[b]? = some (.cells #[u0, u1, u2, u3, u4, u5] t (0, 0)) ∧
      Only (fun x => x = b) w ((((((w.setCell ⟨b, 0, none⟩ u0).setCell ⟨b, 1, none⟩ u1).setCell ⟨b, 2, none⟩ u2).setCell ⟨b, 3, none⟩ u3).setCell ⟨b, 4, none⟩ u4).setCell ⟨b, 5, none⟩ u5) :=
  ⟨set_at (set_at (set_at (set_at (set_at (set_at h 0 u0) 1 u1) 2 u2) 3 u3) 4 u4) 5 u5,
    (((((((Only.refl (fun x => x = b) w).setCell (p := ⟨b, 0, none⟩) (.inr rfl) u0).setCell (p := ⟨b, 1, none⟩) (.inr rfl) u1).setCell (p := ⟨b, 2, none⟩) (.inr rfl) u2).setCell (p := ⟨b, 3, none⟩) (.inr rfl) u3).setCell (p := ⟨b, 4, none⟩) (.inr rfl) u4).setCell (p := ⟨b, 5, none⟩) (.inr rfl) u5)⟩
def beginE (o : Int) (name : ByteArray) (ver : Nat) : Int := if keyE o name ≠ 0 then keyE o name else if ver / 2 ^ 32 = 0 then 11 else 0
def recV (key : ByteArray) (ver : Nat) (o age : Int) (gone : Bool) (data : ByteArray) : Value := .agg #[.string key, .int .u64 ver, .int .i64 o, .int .i64 age, .bool gone, .string data]
def rec0 : Value := .agg #[.string ⟨#[]⟩, .int .u64 0, .int .i64 0, .int .i64 0, .bool false, .string ⟨#[]⟩]
def beginV (o : Int) (name : ByteArray) (ver : Nat) : Value := if beginE o name ver = 0 then recV (keyS o name) ver o 0 false ⟨#[]⟩ else rec0
set_option maxRecDepth 100000 in
set_option maxHeartbeats 1000000 in
theorem begin_any (w : World) (o : Int) (ver : Nat) (name : ByteArray) (m : Int) (hm : w.cell? ⟨0, 0, none⟩ = some (.int .i64 m)) (hv : ver < 2 ^ 64) (hs : name.size ≤ maxLen) :
    Calls Tryd.prog 100 #[.int .i64 o, .int .u64 ver, .string name] w fun e w' => e = .returned (.tuple #[beginV o name ver, .int .i64 (beginE o name ver)]) ∧ Only (fun _ => False) w w' := by
  have hB := heap_alloc_new w (.cells #[.string ⟨#[]⟩, .int .u64 0, .int .i64 0, .int .i64 0, .bool false, .string ⟨#[]⟩] 33)
  have HB := Lib.hid hB
  have hlt : w.heap.size < w.heap.size + 1 := by omega
  have HM := Lib.hid hm
  have HV := Lib.hid hv
  have HE := Lib.hid (show beginE o name ver = if keyE o name ≠ 0 then keyE o name else if ver / 2 ^ 32 = 0 then 11 else 0 from rfl)
  clear hB hm hv
  go_enter Tryd.func100, Tryd.ntmps100
  go_wp2_with fail
  refine (key_any _ o name m (((Only.refl (fun _ => False) w).alloc _).cell HM.out id) hs).mono ?_
  rintro e w1 ⟨rfl, ho1⟩
  have hb1 := ho1.old HB.out id
  have hz1 := ho1.size
  have HO := Lib.hid (((Only.refl (fun _ => False) w).alloc _).trans ho1)
  clear ho1
  generalize keyE o name = E at *
  generalize hks : keyS o name = K at *
  have HKS := Lib.hid hks
  clear hks
  by_cases hE : E = 0
  · subst hE
    have HB1 := Lib.hid hb1
    have c0 : w1.cell? ⟨w.heap.size, 0, none⟩ = some (.string ⟨#[]⟩) := cell_at hb1 0
    have c1 : w1.cell? ⟨w.heap.size, 1, none⟩ = some (.int .u64 0) := cell_at hb1 1
    have c2 : w1.cell? ⟨w.heap.size, 2, none⟩ = some (.int .i64 0) := cell_at hb1 2
    have c3 : w1.cell? ⟨w.heap.size, 3, none⟩ = some (.int .i64 0) := cell_at hb1 3
    have c4 : w1.cell? ⟨w.heap.size, 4, none⟩ = some (.bool false) := cell_at hb1 4
    have c5 : w1.cell? ⟨w.heap.size, 5, none⟩ = some (.string ⟨#[]⟩) := cell_at hb1 5
    have hf : ∀ i, w1.frozen? ⟨w.heap.size, i, none⟩ = false := free_at hb1
    clear hb1
    go_wp2_with fail
    refine (life_any _ ver HV.out).mono ?_
    rintro e w3 ⟨rfl, rfl⟩
    by_cases hl : ver / 2 ^ 32 = 0
    · have q1 : (((ver / 2 ^ 32 : Nat) : Int) == 0) = true := by rw [hl]; rfl
      have HL := Lib.hid hl
      clear hl
      generalize ((ver / 2 ^ 32 : Nat) : Int) = L at *
      go_wp2_with fail
      obtain ⟨s1, s2⟩ := six_set HB1.out (.string ⟨#[]⟩) (.int .u64 0) (.int .i64 0) (.int .i64 0) (.bool false) (.string ⟨#[]⟩)
      generalize ((((((w1.setCell ⟨w.heap.size, 0, none⟩ (.string ⟨#[]⟩)).setCell ⟨w.heap.size, 1, none⟩ (.int .u64 0)).setCell ⟨w.heap.size, 2, none⟩ (.int .i64 0)).setCell ⟨w.heap.size, 3, none⟩ (.int .i64 0)).setCell ⟨w.heap.size, 4, none⟩ (.bool false)).setCell ⟨w.heap.size, 5, none⟩ (.string ⟨#[]⟩)) = w2 at *
      have d0 : w2.cell? ⟨w.heap.size, 0, none⟩ = some (.string ⟨#[]⟩) := cell_at s1 0
      have d1 : w2.cell? ⟨w.heap.size, 1, none⟩ = some (.int .u64 0) := cell_at s1 1
      have d2 : w2.cell? ⟨w.heap.size, 2, none⟩ = some (.int .i64 0) := cell_at s1 2
      have d3 : w2.cell? ⟨w.heap.size, 3, none⟩ = some (.int .i64 0) := cell_at s1 3
      have d4 : w2.cell? ⟨w.heap.size, 4, none⟩ = some (.bool false) := cell_at s1 4
      have d5 : w2.cell? ⟨w.heap.size, 5, none⟩ = some (.string ⟨#[]⟩) := cell_at s1 5
      refine bodyPost_ret (v := .tuple #[.agg #[.string ⟨#[]⟩, .int .u64 0, .int .i64 0, .int .i64 0, .bool false, .string ⟨#[]⟩], .int .i64 11]) (by simp [results, Tryd.results100, go_sem, d0, d1, d2, d3, d4, d5]) rfl ?_
      have hbe : beginE o name ver = 11 := by rw [HE.out, if_neg (by simp), if_pos HL.out]
      have hbv : beginV o name ver = rec0 := by unfold beginV; rw [hbe]; rfl
      rw [hbe, hbv]
      exact ⟨rfl, HO.out.tr s2 (fun i hi e => by omega)⟩
    · have q1 : (((ver / 2 ^ 32 : Nat) : Int) == 0) = false := by simp; omega
      have HL := Lib.hid hl
      clear hl
      generalize ((ver / 2 ^ 32 : Nat) : Int) = L at *
      go_wp2_with fail
      obtain ⟨s1, s2⟩ := six_set HB1.out (.string K) (.int .u64 ver) (.int .i64 o) (.int .i64 0) (.bool false) (.string ⟨#[]⟩)
      generalize ((((((w1.setCell ⟨w.heap.size, 0, none⟩ (.string K)).setCell ⟨w.heap.size, 1, none⟩ (.int .u64 ver)).setCell ⟨w.heap.size, 2, none⟩ (.int .i64 o)).setCell ⟨w.heap.size, 3, none⟩ (.int .i64 0)).setCell ⟨w.heap.size, 4, none⟩ (.bool false)).setCell ⟨w.heap.size, 5, none⟩ (.string ⟨#[]⟩)) = w2 at *
      have d0 : w2.cell? ⟨w.heap.size, 0, none⟩ = some (.string K) := cell_at s1 0
      have d1 : w2.cell? ⟨w.heap.size, 1, none⟩ = some (.int .u64 ver) := cell_at s1 1
      have d2 : w2.cell? ⟨w.heap.size, 2, none⟩ = some (.int .i64 o) := cell_at s1 2
      have d3 : w2.cell? ⟨w.heap.size, 3, none⟩ = some (.int .i64 0) := cell_at s1 3
      have d4 : w2.cell? ⟨w.heap.size, 4, none⟩ = some (.bool false) := cell_at s1 4
      have d5 : w2.cell? ⟨w.heap.size, 5, none⟩ = some (.string ⟨#[]⟩) := cell_at s1 5
      refine bodyPost_ret (v := .tuple #[.agg #[.string K, .int .u64 ver, .int .i64 o, .int .i64 0, .bool false, .string ⟨#[]⟩], .int .i64 0]) (by simp [results, Tryd.results100, go_sem, d0, d1, d2, d3, d4, d5]) rfl ?_
      have hbe : beginE o name ver = 0 := by rw [HE.out, if_neg (by simp), if_neg HL.out]
      have hbv : beginV o name ver = recV K ver o 0 false ⟨#[]⟩ := by unfold beginV; rw [hbe, if_pos rfl, HKS.out]
      rw [hbe, hbv]
      exact ⟨rfl, HO.out.tr s2 (fun i hi e => by omega)⟩
  · have h0 : (E != 0) = true := by simp; exact hE
    have HB1 := Lib.hid hb1
    have c0 : w1.cell? ⟨w.heap.size, 0, none⟩ = some (.string ⟨#[]⟩) := cell_at hb1 0
    have c1 : w1.cell? ⟨w.heap.size, 1, none⟩ = some (.int .u64 0) := cell_at hb1 1
    have c2 : w1.cell? ⟨w.heap.size, 2, none⟩ = some (.int .i64 0) := cell_at hb1 2
    have c3 : w1.cell? ⟨w.heap.size, 3, none⟩ = some (.int .i64 0) := cell_at hb1 3
    have c4 : w1.cell? ⟨w.heap.size, 4, none⟩ = some (.bool false) := cell_at hb1 4
    have c5 : w1.cell? ⟨w.heap.size, 5, none⟩ = some (.string ⟨#[]⟩) := cell_at hb1 5
    have hf : ∀ i, w1.frozen? ⟨w.heap.size, i, none⟩ = false := free_at hb1
    clear hb1
    go_wp2_with fail
    obtain ⟨s1, s2⟩ := six_set HB1.out (.string ⟨#[]⟩) (.int .u64 0) (.int .i64 0) (.int .i64 0) (.bool false) (.string ⟨#[]⟩)
    generalize ((((((w1.setCell ⟨w.heap.size, 0, none⟩ (.string ⟨#[]⟩)).setCell ⟨w.heap.size, 1, none⟩ (.int .u64 0)).setCell ⟨w.heap.size, 2, none⟩ (.int .i64 0)).setCell ⟨w.heap.size, 3, none⟩ (.int .i64 0)).setCell ⟨w.heap.size, 4, none⟩ (.bool false)).setCell ⟨w.heap.size, 5, none⟩ (.string ⟨#[]⟩)) = w2 at *
    have d0 : w2.cell? ⟨w.heap.size, 0, none⟩ = some (.string ⟨#[]⟩) := cell_at s1 0
    have d1 : w2.cell? ⟨w.heap.size, 1, none⟩ = some (.int .u64 0) := cell_at s1 1
    have d2 : w2.cell? ⟨w.heap.size, 2, none⟩ = some (.int .i64 0) := cell_at s1 2
    have d3 : w2.cell? ⟨w.heap.size, 3, none⟩ = some (.int .i64 0) := cell_at s1 3
    have d4 : w2.cell? ⟨w.heap.size, 4, none⟩ = some (.bool false) := cell_at s1 4
    have d5 : w2.cell? ⟨w.heap.size, 5, none⟩ = some (.string ⟨#[]⟩) := cell_at s1 5
    refine bodyPost_ret (v := .tuple #[.agg #[.string ⟨#[]⟩, .int .u64 0, .int .i64 0, .int .i64 0, .bool false, .string ⟨#[]⟩], .int .i64 E]) (by simp [results, Tryd.results100, go_sem, d0, d1, d2, d3, d4, d5]) rfl ?_
    have hbe : beginE o name ver = E := by rw [HE.out, if_pos hE]
    have hbv : beginV o name ver = rec0 := by unfold beginV; rw [hbe, if_neg hE]
    rw [hbe, hbv]
    exact ⟨rfl, HO.out.tr s2 (fun i hi e => by omega)⟩
end Go.Proofs.YtianboachknfmaaDoor
