/- law14's speaks. -/
import Derived.Test.YtfmplmchpdmbmaaDoorRec9
namespace Go.Proofs.YtfmplmchpdmbmaaDoor
open Go.Conc Go.RowKit

def webS : ByteArray := ⟨#[119, 101, 98]⟩
def webK : ByteArray := ⟨#[0, 7, 119, 101, 98]⟩
def webD : ByteArray := ⟨#[0, 0, 0, 0, 0, 80, 0, 0, 0, 0]⟩
theorem sp_key : keyS 258 ⟨#[97]⟩ = ⟨#[1, 2, 97]⟩ ∧ keyE 258 ⟨#[97]⟩ = 0 := by decide +kernel
theorem sp_beg : beginE 7 webS 4294967296 = 0 := by decide +kernel
theorem sp_dat : dataB 0 0 0 0 80 0 0 = webD := by decide +kernel
theorem sp_keyS : keyS 7 webS = webK := by decide +kernel
theorem sp_mk : makeV 7 webS 4294967296 (dataB 0 0 0 0 80 0 0) = .agg #[.string webK, .int .u64 4294967296, .int .i64 7, .int .i64 0, .bool false, .string webD] := by
  unfold makeV
  rw [if_pos sp_beg, sp_dat, sp_keyS]
  rfl
theorem sp_good : goodP webK 4294967296 7 0 false webD = true := by decide +kernel
theorem sp_te : tellE webK 4294967296 7 0 false webD = 0 := by decide +kernel
theorem sp_ex : webK.extract 2 webK.size = webS := by decide +kernel
theorem sp_tv : tellV webK 4294967296 7 0 false webD = .agg #[.string webS, .int .u8 0, .int .u8 0, .int .u8 0, .int .u8 0, .int .u16 80, .int .u16 0, .int .u16 0] := by
  unfold tellV
  rw [sp_good, sp_ex]
  rfl
theorem sp_n1 : namedP ⟨#[97, 46, 98]⟩ = true := by decide +kernel
theorem sp_n2 : namedP ⟨#[97, 46, 46, 98]⟩ = false := by decide +kernel
theorem sp_e1 : ((⟨#[1, 2, 97]⟩ : ByteArray).toList == [1, 2, 97]) = true := by decide +kernel
theorem sp_e2 : (webS.toList == [119, 101, 98]) = true := by decide +kernel

set_option maxRecDepth 100000 in
set_option maxHeartbeats 2000000 in
theorem speaks_any (w : World) (m : Int) (hm : w.cell? ⟨0, 0, none⟩ = some (.int .i64 m)) :
    Calls Tryd.prog 7 #[] w fun e w' => e = .returned (.bool true) ∧ Only (fun _ => False) w w' := by
  have HM := Lib.hid hm
  clear hm
  go_enter Tryd.func7, Tryd.ntmps7
  go_wp2_with fail
  refine (key_any _ 258 ⟨#[97]⟩ m HM.out (by unfold maxLen; decide)).mono ?_
  rintro e w1 ⟨rfl, ho1⟩
  rw [sp_key.1, sp_key.2]
  go_wp2_with fail
  have hmk := make_any w1 7 4294967296 webS 0 0 0 0 80 0 0 m (ho1.cell HM.out id) (by decide) (by unfold maxLen; decide) (by decide) (by decide) (by decide)
  refine hmk.mono ?_
  rintro e w2 ⟨rfl, ho2⟩
  rw [sp_mk, sp_beg]
  have HO2 := Lib.hid (ho1.trans ho2)
  clear hmk ho1 ho2
  go_wp2_with fail
  obtain ⟨W, hW⟩ : ∃ W, W = w2.alloc (.cells #[.string webK, .int .u64 4294967296, .int .i64 7, .int .i64 0, .bool false, .string webD] 44) := ⟨_, rfl⟩
  have hb : W.heap[w2.heap.size]? = some (.cells #[.string webK, .int .u64 4294967296, .int .i64 7, .int .i64 0, .bool false, .string webD] 44 (0, 0)) := by rw [hW]; exact heap_alloc_new w2 _
  have hWo : Only (fun _ => False) w2 W := by rw [hW]; exact (Only.refl _ _).alloc _
  have hWs : W.heap.size = w2.heap.size + 1 := by rw [hW]; simp
  rw [← hW]
  have htl := tell_any W webK 4294967296 7 0 false webD m ((HO2.out.trans hWo).cell HM.out id) (by decide) (by decide)
  refine htl.mono ?_
  rw [sp_tv, sp_te]
  rintro e w3 ⟨rfl, ho3⟩
  have hs3 := ho3.size
  have hlt3 : w2.heap.size < w3.heap.size := by omega
  have hb3 := ho3.old hb id
  have HB := Lib.hid hb
  have HO3 := Lib.hid ((HO2.out.trans hWo).trans ho3)
  have c0 : w3.cell? ⟨w2.heap.size, 0, none⟩ = some (.string webK) := cell_at hb3 0
  have c1 : w3.cell? ⟨w2.heap.size, 1, none⟩ = some (.int .u64 4294967296) := cell_at hb3 1
  have c2 : w3.cell? ⟨w2.heap.size, 2, none⟩ = some (.int .i64 7) := cell_at hb3 2
  have c3 : w3.cell? ⟨w2.heap.size, 3, none⟩ = some (.int .i64 0) := cell_at hb3 3
  have c4 : w3.cell? ⟨w2.heap.size, 4, none⟩ = some (.bool false) := cell_at hb3 4
  have c5 : w3.cell? ⟨w2.heap.size, 5, none⟩ = some (.string webD) := cell_at hb3 5
  clear hW hWo htl hb ho3 hb3
  have he1 := sp_e1
  have he2 := sp_e2
  go_wp2_with fail
  refine (good_any _ webK 4294967296 7 0 false webD m (((HO3.out.alloc _)).cell HM.out id) (by decide) (by decide)).mono ?_
  rw [sp_good]
  rintro e w4 ⟨rfl, ho4⟩
  have HO4 := Lib.hid ((HO3.out.alloc _).trans ho4)
  clear ho4 c0 c1 c2 c3 c4 c5
  go_wp2_with fail
  refine (named_any _ ⟨#[97, 46, 98]⟩ m (HO4.out.cell HM.out id) (by unfold maxLen; decide)).mono ?_
  rw [sp_n1]
  rintro e w5 ⟨rfl, ho5⟩
  have HO5 := Lib.hid (HO4.out.trans ho5)
  clear ho5
  go_wp2_with fail
  refine (named_any _ ⟨#[97, 46, 46, 98]⟩ m (HO5.out.cell HM.out id) (by unfold maxLen; decide)).mono ?_
  rw [sp_n2]
  rintro e w6 ⟨rfl, ho6⟩
  go_wp2_with fail
  go_ret
  exact ⟨rfl, HO5.out.trans ho6⟩
end Go.Proofs.YtfmplmchpdmbmaaDoor
