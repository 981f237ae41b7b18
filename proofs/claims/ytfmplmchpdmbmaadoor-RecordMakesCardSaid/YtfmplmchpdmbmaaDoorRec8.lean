/- record: Tell's call. -/
import Derived.Test.YtfmplmchpdmbmaaDoorRec7
import Derived.Lib.LazyBuf
namespace Go.Proofs.YtfmplmchpdmbmaaDoor
open Go.Conc Go.RowKit

theorem ext_a (x0 x1 x2 x3 x4 x5 x6 x7 x8 x9 : UInt8) : (⟨#[x0, x1, x2, x3, x4, x5, x6, x7, x8, x9]⟩ : ByteArray).extract 0 4 = ⟨#[x0, x1, x2, x3]⟩ := by
  apply str_ext
  simp
theorem ext_b (x0 x1 x2 x3 x4 x5 x6 x7 x8 x9 : UInt8) : (⟨#[x0, x1, x2, x3, x4, x5, x6, x7, x8, x9]⟩ : ByteArray).extract 4 (⟨#[x0, x1, x2, x3, x4, x5, x6, x7, x8, x9]⟩ : ByteArray).size = ⟨#[x4, x5, x6, x7, x8, x9]⟩ := by
  apply str_ext
  simp [ByteArray.size]
theorem ext_c (x4 x5 x6 x7 x8 x9 : UInt8) : (⟨#[x4, x5, x6, x7, x8, x9]⟩ : ByteArray).extract 2 (⟨#[x4, x5, x6, x7, x8, x9]⟩ : ByteArray).size = ⟨#[x6, x7, x8, x9]⟩ := by
  apply str_ext
  simp [ByteArray.size]
theorem ext_d (x6 x7 x8 x9 : UInt8) : (⟨#[x6, x7, x8, x9]⟩ : ByteArray).extract 2 (⟨#[x6, x7, x8, x9]⟩ : ByteArray).size = ⟨#[x8, x9]⟩ := by
  apply str_ext
  simp [ByteArray.size]
theorem ext_e (x8 x9 : UInt8) : (⟨#[x8, x9]⟩ : ByteArray).extract 2 (⟨#[x8, x9]⟩ : ByteArray).size = ⟨#[]⟩ := by
  apply str_ext
  simp [ByteArray.size]
theorem be2 (a b : UInt8) (r : List UInt8) : beN ((a :: b :: r).take 2) 0 = a.toNat * 256 + b.toNat := by simp [beN]
theorem sizeU8 (w : World) : (Go.sizeOf 5).run Tryd.prog w = .ok 1 w := by kernel_rfl
def svcC (name : ByteArray) (a0 a1 a2 a3 p q r : Nat) : Array Value := #[.string name, .int .u8 a0, .int .u8 a1, .int .u8 a2, .int .u8 a3, .int .u16 p, .int .u16 q, .int .u16 r]

theorem svc_some {w : World} {ps : Nat} {name : ByteArray} {a0 a1 a2 a3 p q r : Nat} (h : w.heap[ps]? = some (.cells (svcC name a0 a1 a2 a3 p q r) 49 (0, 0))) : ∀ j, j < 4 → (w.cell? ⟨ps, 1 + j, none⟩).isSome = true := by
  intro j hj
  rw [cell_at h]
  match j, hj with
  | 0, _ => rfl
  | 1, _ => rfl
  | 2, _ => rfl
  | 3, _ => rfl
theorem svc_put {w : World} {ps : Nat} {name : ByteArray} {a0 a1 a2 a3 p q r : Nat} (h : w.heap[ps]? = some (.cells (svcC name a0 a1 a2 a3 p q r) 49 (0, 0))) (x0 x1 x2 x3 : UInt8) :
    (w.setCells ps 1 ((⟨#[x0, x1, x2, x3]⟩ : ByteArray).data.toList.map fun x => Value.int .u8 (x.toNat : Int))).heap[ps]? = some (.cells (svcC name x0.toNat x1.toNat x2.toNat x3.toNat p q r) 49 (0, 0)) ∧
      Only (fun x => x = ps) w (w.setCells ps 1 ((⟨#[x0, x1, x2, x3]⟩ : ByteArray).data.toList.map fun x => Value.int .u8 (x.toNat : Int))) :=
  ⟨set_at (set_at (set_at (set_at h 1 (.int .u8 x0.toNat)) 2 (.int .u8 x1.toNat)) 3 (.int .u8 x2.toNat)) 4 (.int .u8 x3.toNat),
    (((((Only.refl (fun x => x = ps) w).setCell (p := ⟨ps, 1, none⟩) (.inr rfl) (.int .u8 x0.toNat)).setCell (p := ⟨ps, 2, none⟩) (.inr rfl) (.int .u8 x1.toNat)).setCell (p := ⟨ps, 3, none⟩) (.inr rfl) (.int .u8 x2.toNat)).setCell (p := ⟨ps, 4, none⟩) (.inr rfl) (.int .u8 x3.toNat))⟩
set_option maxRecDepth 100000 in
set_option maxHeartbeats 4000000 in
theorem tell1_any (w : World) (b ps : Nat) (name : ByteArray) (x0 x1 x2 x3 x4 x5 x6 x7 x8 x9 : UInt8) (h : RdAt w b ⟨#[x0, x1, x2, x3, x4, x5, x6, x7, x8, x9]⟩) (hs : w.heap[ps]? = some (.cells (svcC name 0 0 0 0 0 0 0) 49 (0, 0))) :
    Calls Tryd.prog 36 #[.pointer (some ⟨b, 0, none⟩), .pointer (some ⟨ps, 0, none⟩)] w fun e w' => e = .returned (.tuple #[]) ∧ Only (fun x => x = b ∨ x = ps) w w' ∧ RdAt w' b ⟨#[]⟩ ∧
      w'.heap[ps]? = some (.cells (svcC name x0.toNat x1.toNat x2.toNat x3.toNat (x4.toNat * 256 + x5.toNat) (x6.toNat * 256 + x7.toNat) (x8.toNat * 256 + x9.toNat)) 49 (0, 0)) := by
  have hne : ps ≠ b := by rintro rfl; rw [RdAt, hs] at h; simp at h
  have H := Lib.hid h
  have HS := Lib.hid hs
  clear h hs
  have hraw : Calls Tryd.prog 34 #[.pointer (some ⟨b, 0, none⟩), .int .i64 4] w.drew fun e w' => e = .returned (.string ⟨#[x0, x1, x2, x3]⟩) ∧ RPost w.drew w' b ⟨#[x4, x5, x6, x7, x8, x9]⟩ := by
    have := rraw_ok w.drew b _ 4 (H.out.kept (S := fun _ => False) (w' := w.drew) ((Only.refl _ _).drew) id) (Nat.le_of_ble_eq_true rfl)
    rw [ext_a, ext_b] at this
    exact this
  go_enter Tryd.func36, Tryd.ntmps36
  go_wp2_with fail
  go_region_law (first
    | (go_simp
       refine hraw.mono ?_
       rintro e w1 ⟨rfl, ho1, hr1⟩)
    | (refine step_copy_string rfl (.tmp 4) (.tmp 6) 71 9 rfl 5 Tryd.underlying71 sizeU8 ps 1 4 _ rfl ⟨#[x0, x1, x2, x3]⟩ rfl (Nat.le_refl 4) (svc_some (ho1.old HS.out hne)) (fun j _ => free_at (ho1.old HS.out hne) _) ?_))
  obtain ⟨s1, s2⟩ := svc_put (ho1.old HS.out hne) x0 x1 x2 x3
  have O1 := Lib.hid ((Only.refl (fun x => x = b ∨ x = ps) w).drew.trans ((ho1.weaken (fun _ _ e => Or.inl e)).trans (s2.weaken (fun _ _ e => Or.inr e))))
  have R1 := Lib.hid (hr1.kept s2 (fun e => hne e.symm))
  have S1 := Lib.hid s1
  simp only [List.map_cons, List.map_nil] at S1 R1 O1
  clear ho1 hr1 s1 s2 hraw
  generalize w1.setCells ps 1 [Value.int IntKind.u8 (x0.toNat : Int), Value.int IntKind.u8 (x1.toNat : Int), Value.int IntKind.u8 (x2.toNat : Int), Value.int IntKind.u8 (x3.toNat : Int)] = w2 at *
  have b4 := x4.toNat_lt
  have b5 := x5.toNat_lt
  have b6 := x6.toNat_lt
  have b7 := x7.toNat_lt
  have b8 := x8.toNat_lt
  have b9 := x9.toNat_lt
  go_wp2_with fail
  refine (rnum_ok _ b _ 2 R1.out (by decide) (by decide) (Nat.le_of_ble_eq_true rfl)).mono ?_
  rw [ext_c, be2]
  rintro e w3 ⟨rfl, ho3, hr3⟩
  have t3 := ho3.old S1.out hne
  have c5 : w3.cell? ⟨ps, 5, none⟩ = some (.int .u16 0) := cell_at t3 5
  have f5 : w3.frozen? ⟨ps, 5, none⟩ = false := free_at t3 5
  have hb45 : x4.toNat * 256 + x5.toNat < 65536 := by omega
  have O3 := Lib.hid (O1.out.trans (ho3.weaken (fun _ _ e => Or.inl e)))
  have T3 := Lib.hid t3
  have R3 := Lib.hid hr3
  clear ho3 t3 hr3
  generalize hy4 : x4.toNat * 256 + x5.toNat = y4 at *
  have HY4 := Lib.hid hy4
  clear hy4
  go_wp2_with fail
  have q3 : Only (fun x => x = ps) w3 (w3.setCell ⟨ps, 5, none⟩ (.int .u16 y4)) := (Only.refl _ _).setCell (S := fun x => x = ps) (p := ⟨ps, 5, none⟩) (.inr rfl) _
  have O4 := Lib.hid (O3.out.trans (q3.weaken (fun _ _ e => Or.inr e)))
  have T4 := Lib.hid (set_at T3.out 5 (.int .u16 y4))
  have R4 := Lib.hid (R3.out.kept q3 (fun e => hne e.symm))
  clear q3 c5 f5
  generalize w3.setCell ⟨ps, 5, none⟩ (.int .u16 y4) = w4 at *
  refine (rnum_ok _ b _ 2 R4.out (by decide) (by decide) (Nat.le_of_ble_eq_true rfl)).mono ?_
  rw [ext_d, be2]
  rintro e w5 ⟨rfl, ho5, hr5⟩
  have t5 := ho5.old T4.out hne
  have c6 : w5.cell? ⟨ps, 6, none⟩ = some (.int .u16 0) := cell_at t5 6
  have f6 : w5.frozen? ⟨ps, 6, none⟩ = false := free_at t5 6
  have hb67 : x6.toNat * 256 + x7.toNat < 65536 := by omega
  have O5 := Lib.hid (O4.out.trans (ho5.weaken (fun _ _ e => Or.inl e)))
  have T5 := Lib.hid t5
  have R5 := Lib.hid hr5
  clear ho5 t5 hr5
  generalize hy6 : x6.toNat * 256 + x7.toNat = y6 at *
  have HY6 := Lib.hid hy6
  clear hy6
  go_wp2_with fail
  have q5 : Only (fun x => x = ps) w5 (w5.setCell ⟨ps, 6, none⟩ (.int .u16 y6)) := (Only.refl _ _).setCell (S := fun x => x = ps) (p := ⟨ps, 6, none⟩) (.inr rfl) _
  have O6 := Lib.hid (O5.out.trans (q5.weaken (fun _ _ e => Or.inr e)))
  have T6 := Lib.hid (set_at T5.out 6 (.int .u16 y6))
  have R6 := Lib.hid (R5.out.kept q5 (fun e => hne e.symm))
  clear q5 c6 f6
  generalize w5.setCell ⟨ps, 6, none⟩ (.int .u16 y6) = w6 at *
  refine (rnum_ok _ b _ 2 R6.out (by decide) (by decide) (Nat.le_of_ble_eq_true rfl)).mono ?_
  rw [ext_e, be2]
  rintro e w7 ⟨rfl, ho7, hr7⟩
  have t7 := ho7.old T6.out hne
  have c7 : w7.cell? ⟨ps, 7, none⟩ = some (.int .u16 0) := cell_at t7 7
  have f7 : w7.frozen? ⟨ps, 7, none⟩ = false := free_at t7 7
  have hb89 : x8.toNat * 256 + x9.toNat < 65536 := by omega
  have O7 := Lib.hid (O6.out.trans (ho7.weaken (fun _ _ e => Or.inl e)))
  have T7 := Lib.hid t7
  have R7 := Lib.hid hr7
  clear ho7 t7 hr7
  generalize hy8 : x8.toNat * 256 + x9.toNat = y8 at *
  have HY8 := Lib.hid hy8
  clear hy8
  go_wp2_with fail
  go_end0
  have q7 : Only (fun x => x = ps) w7 (w7.setCell ⟨ps, 7, none⟩ (.int .u16 y8)) := (Only.refl _ _).setCell (S := fun x => x = ps) (p := ⟨ps, 7, none⟩) (.inr rfl) _
  refine ⟨rfl, O7.out.trans (q7.weaken (fun _ _ e => Or.inr e)), R7.out.kept q7 (fun e => hne e.symm), ?_⟩
  rw [HY4.out, HY6.out, HY8.out]
  exact set_at T7.out 7 (.int .u16 y8)
end Go.Proofs.YtfmplmchpdmbmaaDoor
