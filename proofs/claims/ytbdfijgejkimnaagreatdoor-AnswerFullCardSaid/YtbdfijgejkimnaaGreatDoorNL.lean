/- reply: the question that there is. -/
import Derived.Test.YtbdfijgejkimnaaGreatDoorNK
import Derived.Test.YtbdfijgejkimnaaGreatDoorNB
/-! query.Parse. -/
namespace Go.Proofs.YtbdfijgejkimnaaGreatDoor
open Go.Conc Go.RowKit

def qH (m : ByteArray) (h : HeadT) : QT × Nat :=
  if h.op ≠ 0 then (⟨h.id, h.op, h.des, false, [], 0, 0⟩, 4)
  else match askH m h with
    | none => (⟨h.id, h.op, h.des, false, [], 0, 0⟩, 1)
    | some (l, t, c) => (⟨h.id, h.op, h.des, true, l, t, c⟩, if (t = 1 ∨ t = 33) ∧ c = 1 then 0 else 4)
theorem qH_q (m : ByteArray) : qH m (headD m) = qM m := rfl
def qV (h : HeadT) (asked : Bool) (nv : Value) (t c : Nat) : Value := .agg (qC h asked nv t c).toArray
theorem infoQ : (Tryz.prog.info? 55).map (·.size) = some 17 := by kernel_rfl
theorem infoQq (h : HeadT) (a : Bool) (nv : Value) (t c : Nat) : (Tryz.prog.info? 55).map (·.size) = some (qC h a nv t c).toArray.size := infoQ
theorem infoHh (h : HeadT) : (Tryz.prog.info? 53).map (·.size) = some (headC h).toArray.size := by kernel_rfl
theorem infoH : (Tryz.prog.info? 53).map (·.size) = some 13 := by kernel_rfl
theorem qC_one (h : HeadT) (a : Bool) (nv : Value) (t c : Nat) (hv : nv.oneCell' = true) : (qC h a nv t c).toArray.all (·.oneCell') = true := by
  rw [List.all_toArray]
  simp only [qC, headC, List.cons_append, List.nil_append, List.all_cons, List.all_nil, hv, Bool.and_true, Bool.true_and]
  rfl
theorem headC_one (h : HeadT) : (headC h).toArray.all (·.oneCell') = true := by
  rw [List.all_toArray]
  rfl
theorem built_q (h : HeadT) : Tryz.prog.built 55 [(0, .agg (headC h).toArray)] = some (qC h false (.slice none 0 0) 0 0).toArray := by kernel_rfl
theorem hdZ_q : (qC hdZ false (.slice none 0 0) 0 0).toArray = #[.int .u16 0, .bool false, .int .u8 0, .bool false, .bool false, .bool false, .bool false, .int .u8 0, .int .u8 0, .int .u16 0, .int .u16 0, .int .u16 0, .int .u16 0, .bool false, .slice none 0 0, .int .u16 0, .int .u16 0] := rfl
set_option maxRecDepth 100000 in
set_option maxHeartbeats 4000000 in
theorem qparse_short (w : World) (m : ByteArray) (hm : m.size < 12) :
    Calls Tryz.prog 27 #[.string m] w fun e w' => e = .returned (.tuple #[qV hdZ false (.slice none 0 0) 0 0, .int .i64 0, .int .i64 2]) ∧ Only (fun _ => False) w w' := by
  have hd := fun W : World => hdec_short W m hm
  unfold headV at hd
  have HD := Lib.hid hd
  clear hd
  clear hm
  go_enter Tryz.func27, Tryz.ntmps27
  obtain ⟨W, hW⟩ : ∃ W, W = w.alloc (.cells #[.int .u16 0, .bool false, .int .u8 0, .bool false, .bool false, .bool false, .bool false, .int .u8 0, .int .u8 0, .int .u16 0, .int .u16 0, .int .u16 0, .int .u16 0, .bool false, .slice none 0 0, .int .u16 0, .int .u16 0] 55) := ⟨_, rfl⟩
  have hbW : W.heap[w.heap.size]? = some (.cells #[.int .u16 0, .bool false, .int .u8 0, .bool false, .bool false, .bool false, .bool false, .int .u8 0, .int .u8 0, .int .u16 0, .int .u16 0, .int .u16 0, .int .u16 0, .bool false, .slice none 0 0, .int .u16 0, .int .u16 0] 55 (0, 0)) := by rw [hW]; exact heap_alloc_new w _
  have hoW : Only (fun _ => False) w W := by rw [hW]; exact (Only.refl _ _).alloc _
  have hsW : W.heap.size = w.heap.size + 1 := by rw [hW]; simp
  have HO := Lib.hid hoW
  have HBW := Lib.hid hbW
  have HSW := Lib.hid hsW
  clear hoW hbW hsW
  go_upto_region 1 with (fail)
  rw [← hW]
  clear hW
  go_wp2_with fail
  refine (HD.out W).mono ?_
  rintro e w1 ⟨rfl, ho1⟩
  have HO1 := Lib.hid (HO.out.trans ho1)
  have hB1 := ho1.old HBW.out id
  have hs1 := ho1.size
  have hlt1 : w.heap.size < w1.heap.size := by have := HSW.out; omega
  have HB1 := Lib.hid hB1
  clear ho1 hs1 hB1
  go_upto_region 2 with ((with_reducible refine wpList_store_row (o := ⟨none, .store 53 (.tmp 5) (.tmp 11), _, _, _, none⟩) rfl _ _ _ rfl (w1.heap.size) ((headC hdZ).toArray) ?_ ?_ 53 _ (heap_alloc_new w1 _) (infoHh hdZ) ?_ (headC_one hdZ) ?_); (· rfl); (· rfl); (· rfl))
  have hb2 := row_set (heap_alloc_new w1 (.cells #[.int .u16 0, .bool false, .int .u8 0, .bool false, .bool false, .bool false, .bool false, .int .u8 0, .int .u8 0, .int .u16 0, .int .u16 0, .int .u16 0, .int .u16 0] 53)) (headC hdZ).toArray
  have ho2 : Only (fun _ => False) w1 ((w1.alloc (.cells #[.int .u16 0, .bool false, .int .u8 0, .bool false, .bool false, .bool false, .bool false, .int .u8 0, .int .u8 0, .int .u16 0, .int .u16 0, .int .u16 0, .int .u16 0] 53)).setRow w1.heap.size (headC hdZ).toArray) := ((Only.refl _ _).alloc _).setRow (.inl (Nat.le_refl _)) _
  generalize (w1.alloc (.cells #[.int .u16 0, .bool false, .int .u8 0, .bool false, .bool false, .bool false, .bool false, .int .u8 0, .int .u8 0, .int .u16 0, .int .u16 0, .int .u16 0, .int .u16 0] 53)).setRow w1.heap.size (headC hdZ).toArray = w2 at *
  have hB2 := ho2.old HB1.out id
  have hlt2 : w.heap.size < w2.heap.size := by have := ho2.size; omega
  have hlt3 : w1.heap.size < w2.heap.size := lt_of_block hb2
  have HO2 := Lib.hid (HO1.out.trans ho2)
  have HB2 := Lib.hid hB2
  have HBH := Lib.hid hb2
  clear hB2 hb2
  clear ho2
  go_wp2_with ((with_reducible refine wpList_store_row (o := ⟨none, .store 55 (.tmp 2) (.tmp 16), _, _, _, none⟩) rfl _ _ _ rfl (w.heap.size) ((qC hdZ false (.slice none 0 0) 0 0).toArray) ?_ ?_ 55 _ HB2.out (infoQq _ _ _ _ _) ?_ (qC_one _ _ _ _ _ rfl) ?_); (· rfl); (· rfl); (· rfl))
  have hb9 := row_set HB2.out (qC hdZ false (.slice none 0 0) 0 0).toArray
  refine bodyPost_ret (results_row2 rfl _ _ w.heap.size 55 _ (0, 0) _ rfl hb9 Tryz.underlying55 rfl (infoQq _ _ _ _ _) _ _ rfl rfl) rfl ?_
  exact ⟨rfl, HO2.out.setRow (.inl (Nat.le_refl _)) _⟩
set_option maxRecDepth 100000 in
set_option maxHeartbeats 4000000 in
theorem qparse_resp (w : World) (m : ByteArray) (hm : 12 ≤ m.size) (hr : (headD m).resp = true) :
    Calls Tryz.prog 27 #[.string m] w fun e w' => e = .returned (.tuple #[qV hdZ false (.slice none 0 0) 0 0, .int .i64 0, .int .i64 8]) ∧ Only (fun _ => False) w w' := by
  have hd := fun W : World => hdec_any W m hm
  unfold headV at hd
  generalize headD m = h at *
  have HD := Lib.hid hd
  have HR := Lib.hid hr
  clear hd hr
  clear hm
  go_enter Tryz.func27, Tryz.ntmps27
  obtain ⟨W, hW⟩ : ∃ W, W = w.alloc (.cells #[.int .u16 0, .bool false, .int .u8 0, .bool false, .bool false, .bool false, .bool false, .int .u8 0, .int .u8 0, .int .u16 0, .int .u16 0, .int .u16 0, .int .u16 0, .bool false, .slice none 0 0, .int .u16 0, .int .u16 0] 55) := ⟨_, rfl⟩
  have hbW : W.heap[w.heap.size]? = some (.cells #[.int .u16 0, .bool false, .int .u8 0, .bool false, .bool false, .bool false, .bool false, .int .u8 0, .int .u8 0, .int .u16 0, .int .u16 0, .int .u16 0, .int .u16 0, .bool false, .slice none 0 0, .int .u16 0, .int .u16 0] 55 (0, 0)) := by rw [hW]; exact heap_alloc_new w _
  have hoW : Only (fun _ => False) w W := by rw [hW]; exact (Only.refl _ _).alloc _
  have hsW : W.heap.size = w.heap.size + 1 := by rw [hW]; simp
  have HO := Lib.hid hoW
  have HBW := Lib.hid hbW
  have HSW := Lib.hid hsW
  clear hoW hbW hsW
  go_upto_region 1 with (fail)
  rw [← hW]
  clear hW
  go_wp2_with fail
  refine (HD.out W).mono ?_
  rintro e w1 ⟨rfl, ho1⟩
  have HO1 := Lib.hid (HO.out.trans ho1)
  have hB1 := ho1.old HBW.out id
  have hs1 := ho1.size
  have hlt1 : w.heap.size < w1.heap.size := by have := HSW.out; omega
  have HB1 := Lib.hid hB1
  clear ho1 hs1 hB1
  go_upto_region 2 with ((with_reducible refine wpList_store_row (o := ⟨none, .store 53 (.tmp 5) (.tmp 11), _, _, _, none⟩) rfl _ _ _ rfl (w1.heap.size) ((headC h).toArray) ?_ ?_ 53 _ (heap_alloc_new w1 _) (infoHh h) ?_ (headC_one h) ?_); (· rfl); (· rfl); (· rfl))
  have hb2 := row_set (heap_alloc_new w1 (.cells #[.int .u16 0, .bool false, .int .u8 0, .bool false, .bool false, .bool false, .bool false, .int .u8 0, .int .u8 0, .int .u16 0, .int .u16 0, .int .u16 0, .int .u16 0] 53)) (headC h).toArray
  have ho2 : Only (fun _ => False) w1 ((w1.alloc (.cells #[.int .u16 0, .bool false, .int .u8 0, .bool false, .bool false, .bool false, .bool false, .int .u8 0, .int .u8 0, .int .u16 0, .int .u16 0, .int .u16 0, .int .u16 0] 53)).setRow w1.heap.size (headC h).toArray) := ((Only.refl _ _).alloc _).setRow (.inl (Nat.le_refl _)) _
  generalize (w1.alloc (.cells #[.int .u16 0, .bool false, .int .u8 0, .bool false, .bool false, .bool false, .bool false, .int .u8 0, .int .u8 0, .int .u16 0, .int .u16 0, .int .u16 0, .int .u16 0] 53)).setRow w1.heap.size (headC h).toArray = w2 at *
  have hB2 := ho2.old HB1.out id
  have hlt2 : w.heap.size < w2.heap.size := by have := ho2.size; omega
  have hlt3 : w1.heap.size < w2.heap.size := lt_of_block hb2
  have HO2 := Lib.hid (HO1.out.trans ho2)
  have HB2 := Lib.hid hB2
  have HBH := Lib.hid hb2
  clear hB2 hb2
  clear ho2
  have x1 : w2.cell? ⟨w1.heap.size, 1, none⟩ = some (.bool true) := (cell_at HBH.out 1).trans (by rw [← HR.out]; rfl)
  go_wp2_with ((with_reducible refine wpList_store_row (o := ⟨none, .store 55 (.tmp 2) (.tmp 21), _, _, _, none⟩) rfl _ _ _ rfl (w.heap.size) ((qC hdZ false (.slice none 0 0) 0 0).toArray) ?_ ?_ 55 _ HB2.out (infoQq _ _ _ _ _) ?_ (qC_one _ _ _ _ _ rfl) ?_); (· rfl); (· rfl); (· rfl))
  have hb9 := row_set HB2.out (qC hdZ false (.slice none 0 0) 0 0).toArray
  refine bodyPost_ret (results_row2 rfl _ _ w.heap.size 55 _ (0, 0) _ rfl hb9 Tryz.underlying55 rfl (infoQq _ _ _ _ _) _ _ rfl rfl) rfl ?_
  exact ⟨rfl, HO2.out.setRow (.inl (Nat.le_refl _)) _⟩
/-- What Parse hands on. -/
def QPostP (w w' : World) (h : HeadT) (r : QT × Nat) (e : Ending) : Prop :=
  ∃ nv, e = .returned (.tuple #[qV h r.1.asked nv r.1.typ r.1.cls, .int .i64 r.2, .int .i64 0]) ∧ Only (fun _ => False) w w' ∧ Sl w' 1 nv r.1.name.length (r.1.name.map .string)
set_option maxRecDepth 100000 in
set_option maxHeartbeats 4000000 in
theorem qparse_any (w : World) (m : ByteArray) (hm : 12 ≤ m.size) (hm2 : m.size ≤ 100000) (hr : (headD m).resp = false) :
    Calls Tryz.prog 27 #[.string m] w fun e w' => QPostP w w' (headD m) (qM m) e := by
  have hd := fun W : World => hdec_any W m hm
  unfold headV at hd
  have hqq := fun (W : World) (pq : Nat) => question_any W pq m (headD m) hm2 hm
  rw [← qH_q]
  have hop := (headD_ok m).op
  generalize headD m = h at *
  obtain ⟨r, hrr⟩ : ∃ r, r = qH m h := ⟨_, rfl⟩
  rw [← hrr]
  unfold qH at hrr
  obtain ⟨ask, hask⟩ : ∃ ask, ask = askH m h := ⟨_, rfl⟩
  rw [← hask] at hrr hqq
  have HD := Lib.hid hd
  have HR := Lib.hid hr
  have HRR := Lib.hid hrr
  have HQ := Lib.hid hqq
  clear hd hr hrr hqq
  clear hm hm2 hask
  go_enter Tryz.func27, Tryz.ntmps27
  obtain ⟨W, hW⟩ : ∃ W, W = w.alloc (.cells #[.int .u16 0, .bool false, .int .u8 0, .bool false, .bool false, .bool false, .bool false, .int .u8 0, .int .u8 0, .int .u16 0, .int .u16 0, .int .u16 0, .int .u16 0, .bool false, .slice none 0 0, .int .u16 0, .int .u16 0] 55) := ⟨_, rfl⟩
  have hbW : W.heap[w.heap.size]? = some (.cells #[.int .u16 0, .bool false, .int .u8 0, .bool false, .bool false, .bool false, .bool false, .int .u8 0, .int .u8 0, .int .u16 0, .int .u16 0, .int .u16 0, .int .u16 0, .bool false, .slice none 0 0, .int .u16 0, .int .u16 0] 55 (0, 0)) := by rw [hW]; exact heap_alloc_new w _
  have hoW : Only (fun _ => False) w W := by rw [hW]; exact (Only.refl _ _).alloc _
  have hsW : W.heap.size = w.heap.size + 1 := by rw [hW]; simp
  have HO := Lib.hid hoW
  have HBW := Lib.hid hbW
  have HSW := Lib.hid hsW
  clear hoW hbW hsW
  go_upto_region 1 with (fail)
  rw [← hW]
  clear hW
  go_wp2_with fail
  refine (HD.out W).mono ?_
  rintro e w1 ⟨rfl, ho1⟩
  have HO1 := Lib.hid (HO.out.trans ho1)
  have hB1 := ho1.old HBW.out id
  have hs1 := ho1.size
  have hlt1 : w.heap.size < w1.heap.size := by have := HSW.out; omega
  have HB1 := Lib.hid hB1
  clear ho1 hs1 hB1
  go_upto_region 2 with ((with_reducible refine wpList_store_row (o := ⟨none, .store 53 (.tmp 5) (.tmp 11), _, _, _, none⟩) rfl _ _ _ rfl (w1.heap.size) ((headC h).toArray) ?_ ?_ 53 _ (heap_alloc_new w1 _) (infoHh h) ?_ (headC_one h) ?_); (· rfl); (· rfl); (· rfl))
  have hb2 := row_set (heap_alloc_new w1 (.cells #[.int .u16 0, .bool false, .int .u8 0, .bool false, .bool false, .bool false, .bool false, .int .u8 0, .int .u8 0, .int .u16 0, .int .u16 0, .int .u16 0, .int .u16 0] 53)) (headC h).toArray
  have ho2 : Only (fun _ => False) w1 ((w1.alloc (.cells #[.int .u16 0, .bool false, .int .u8 0, .bool false, .bool false, .bool false, .bool false, .int .u8 0, .int .u8 0, .int .u16 0, .int .u16 0, .int .u16 0, .int .u16 0] 53)).setRow w1.heap.size (headC h).toArray) := ((Only.refl _ _).alloc _).setRow (.inl (Nat.le_refl _)) _
  generalize (w1.alloc (.cells #[.int .u16 0, .bool false, .int .u8 0, .bool false, .bool false, .bool false, .bool false, .int .u8 0, .int .u8 0, .int .u16 0, .int .u16 0, .int .u16 0, .int .u16 0] 53)).setRow w1.heap.size (headC h).toArray = w2 at *
  have hB2 := ho2.old HB1.out id
  have hlt2 : w.heap.size < w2.heap.size := by have := ho2.size; omega
  have hlt3 : w1.heap.size < w2.heap.size := lt_of_block hb2
  have HO2 := Lib.hid (HO1.out.trans ho2)
  have HB2 := Lib.hid hB2
  have HBH := Lib.hid hb2
  clear hB2 hb2
  clear ho2
  have x1 : w2.cell? ⟨w1.heap.size, 1, none⟩ = some (.bool false) := (cell_at HBH.out 1).trans (by rw [← HR.out]; rfl)
  have x2 : w2.cell? ⟨w1.heap.size, 2, none⟩ = some (.int .u8 h.op) := (cell_at HBH.out 2).trans rfl
  go_upto_region 6 with (fail)
  go_upto_region 7 with (first
    | ((with_reducible refine wpList_load_row (o := ⟨some 22, .load 53 (.tmp 5), _, _, _, none⟩) rfl _ _ rfl (w1.heap.size) ?_ 53 _ (0, 0) _ HBH.out Tryz.underlying53 ?_ (infoHh h) ?_); (· rfl); (· rfl))
    | ((with_reducible refine wpList_buildTo (o := ⟨some 23, .build 55 #[(0, .tmp 22)], _, _, _, none⟩) rfl _ _ rfl (some 23) rfl ((qC h false (.slice none 0 0) 0 0).toArray) ?_ ?_); (· simp only [List.map_toArray, List.map_cons, List.map_nil]; exact built_q h))
    | ((with_reducible refine wpList_store_row (o := ⟨none, .store 55 (.tmp 7) (.tmp 23), _, _, _, none⟩) rfl _ _ _ rfl (w2.heap.size) ((qC h false (.slice none 0 0) 0 0).toArray) ?_ ?_ 55 _ (heap_alloc_new w2 _) (infoQq _ _ _ _ _) ?_ (qC_one _ _ _ _ _ rfl) ?_); (· rfl); (· rfl); (· rfl)))
  have hbq := row_set (heap_alloc_new w2 (.cells #[.int .u16 0, .bool false, .int .u8 0, .bool false, .bool false, .bool false, .bool false, .int .u8 0, .int .u8 0, .int .u16 0, .int .u16 0, .int .u16 0, .int .u16 0, .bool false, .slice none 0 0, .int .u16 0, .int .u16 0] 55)) (qC h false (.slice none 0 0) 0 0).toArray
  have ho3 : Only (fun _ => False) w2 ((w2.alloc (.cells #[.int .u16 0, .bool false, .int .u8 0, .bool false, .bool false, .bool false, .bool false, .int .u8 0, .int .u8 0, .int .u16 0, .int .u16 0, .int .u16 0, .int .u16 0, .bool false, .slice none 0 0, .int .u16 0, .int .u16 0] 55)).setRow w2.heap.size (qC h false (.slice none 0 0) 0 0).toArray) := ((Only.refl _ _).alloc _).setRow (.inl (Nat.le_refl _)) _
  generalize (w2.alloc (.cells #[.int .u16 0, .bool false, .int .u8 0, .bool false, .bool false, .bool false, .bool false, .int .u8 0, .int .u8 0, .int .u16 0, .int .u16 0, .int .u16 0, .int .u16 0, .bool false, .slice none 0 0, .int .u16 0, .int .u16 0] 55)).setRow w2.heap.size (qC h false (.slice none 0 0) 0 0).toArray = w3 at *
  have hB3 := ho3.old HB2.out id
  have hbh3 := ho3.old HBH.out id
  have x2 : w3.cell? ⟨w1.heap.size, 2, none⟩ = some (.int .u8 h.op) := (cell_at hbh3 2).trans rfl
  have HO3 := Lib.hid (HO2.out.trans ho3)
  have hlt4 : w2.heap.size < w3.heap.size := lt_of_block hbq
  have HB3 := Lib.hid hB3
  have HBQ := Lib.hid hbq
  clear hB3 hbq
  clear ho3 hbh3 x1
  by_cases hp0 : h.op = 0
  · have hrr := HRR.out
    rw [if_neg (fun x => x hp0)] at hrr
    have q0 : ((h.op : Int) == 0) = true := by simp; exact hp0
    have HQQ := Lib.hid (HQ.out w3 w2.heap.size HBQ.out)
    have HR2 := Lib.hid hrr
    clear hrr
    clear hp0 hop
    go_wp2_with fail
    refine HQQ.out.mono ?_
    intro e w4 hqp
    cases ask with
    | none =>
      obtain ⟨rfl, ho4⟩ := hqp
      have HBQ4 := Lib.hid (ho4.old HBQ.out id)
      have HB4 := Lib.hid (ho4.old HB3.out id)
      have HO4 := Lib.hid (HO3.out.trans ho4)
      have hs4 := ho4.size
      have hlt5 : w.heap.size < w4.heap.size := by omega
      have hlt6 : w2.heap.size < w4.heap.size := by omega
      clear ho4 hs4
      go_wp2_with (first
        | ((with_reducible refine wpList_load_row (o := ⟨some 33, .load 55 (.tmp 7), _, _, _, none⟩) rfl _ _ rfl (w2.heap.size) ?_ 55 _ (0, 0) _ HBQ4.out Tryz.underlying55 ?_ (infoQq _ _ _ _ _) ?_); (· rfl); (· rfl))
        | ((with_reducible refine wpList_store_row (o := ⟨none, .store 55 (.tmp 2) (.tmp 33), _, _, _, none⟩) rfl _ _ _ rfl (w.heap.size) ((qC h false (.slice none 0 0) 0 0).toArray) ?_ ?_ 55 _ HB4.out (infoQq _ _ _ _ _) ?_ (qC_one _ _ _ _ _ rfl) ?_); (· rfl); (· rfl); (· rfl)))
      have hb9 := row_set HB4.out (qC h false (.slice none 0 0) 0 0).toArray
      have ho9 : Only (fun x => x = w.heap.size) w4 (w4.setRow w.heap.size (qC h false (.slice none 0 0) 0 0).toArray) := (Only.refl (fun x => x = w.heap.size) w4).setRow (b := w.heap.size) (.inr rfl) _
      refine bodyPost_ret (results_row2 rfl _ _ w.heap.size 55 _ (0, 0) _ rfl hb9 Tryz.underlying55 rfl (infoQq _ _ _ _ _) _ _ rfl rfl) rfl ?_
      rw [HR2.out]
      exact ⟨_, rfl, HO4.out.tr ho9 (fun x hx e => by omega), Sl.nil _ _⟩
    | some z =>
      obtain ⟨l, ty, cl⟩ := z
      obtain ⟨nv, rfl, ho4, hq4, hsl⟩ := hqp
      obtain ⟨_, na, nc, rfl, _⟩ := id hsl
      have HB4 := Lib.hid (ho4.old HB3.out (by omega))
      have HO4 := Lib.hid (HO3.out.tr ho4 (T := fun x => x = w2.heap.size) (fun x hx e => by have := HO2.out.size; omega))
      have hs4 := ho4.size
      have hlt5 : w.heap.size < w4.heap.size := by omega
      have hlt6 : w2.heap.size < w4.heap.size := by omega
      have x15 : w4.cell? ⟨w2.heap.size, 15, none⟩ = some (.int .u16 ty) := (cell_at hq4 15).trans rfl
      have x16 : w4.cell? ⟨w2.heap.size, 16, none⟩ = some (.int .u16 cl) := (cell_at hq4 16).trans rfl
      have hr := HR2.out
      dsimp only at hr
      have HBQ4 := Lib.hid hq4
      have HSL := Lib.hid hsl
      have HR3 := Lib.hid hr
      clear hq4 hsl hr
      clear ho4 hs4 HR2 HRR x2 q0
      by_cases h1 : ty = 1
      · have e1 : ((ty : Int) == 1) = true := by simp; omega
        have e2 : ((ty : Int) != 1) = false := by simp; omega
        by_cases hc : cl = 1
        · have e3 : ((cl : Int) == 1) = true := by simp; omega
          have e4 : ((cl : Int) != 1) = false := by simp; omega
          have hif : (ty = 1 ∨ ty = 33) ∧ cl = 1 := ⟨.inl h1, hc⟩
          have HIF := Lib.hid hif
          clear h1 hc hif
          have hr := HR3.out
          rw [if_pos HIF.out] at hr
          have HR4 := Lib.hid hr
          clear hr HR3
          go_wp2_with (first
            | ((with_reducible refine wpList_load_row (o := ⟨some 49, .load 55 (.tmp 7), _, _, _, none⟩) rfl _ _ rfl (w2.heap.size) ?_ 55 _ (0, 0) _ HBQ4.out Tryz.underlying55 ?_ (infoQq _ _ _ _ _) ?_); (· rfl); (· rfl))
            | ((with_reducible refine wpList_store_row (o := ⟨none, .store 55 (.tmp 2) (.tmp 49), _, _, _, none⟩) rfl _ _ _ rfl (w.heap.size) ((qC h true (.slice na l.length nc) ty cl).toArray) ?_ ?_ 55 _ HB4.out (infoQq _ _ _ _ _) ?_ (qC_one _ _ _ _ _ rfl) ?_); (· rfl); (· rfl); (· rfl)))
          have hb9 := row_set HB4.out (qC h true (.slice na l.length nc) ty cl).toArray
          have ho9 : Only (fun x => x = w.heap.size) w4 (w4.setRow w.heap.size (qC h true (.slice na l.length nc) ty cl).toArray) := (Only.refl (fun x => x = w.heap.size) w4).setRow (b := w.heap.size) (.inr rfl) _
          refine bodyPost_ret (results_row2 rfl _ _ w.heap.size 55 _ (0, 0) _ rfl hb9 Tryz.underlying55 rfl (infoQq _ _ _ _ _) _ _ rfl rfl) rfl ?_
          rw [HR4.out]
          exact ⟨_, rfl, HO4.out.tr ho9 (fun x hx e => by omega), slS HSL.out ho9 (fun b i s e he => by subst e; rw [cell_at HB4.out] at he; exact qC_nostr hdZ false 0 0 _ _ he)⟩
        · have e3 : ((cl : Int) == 1) = false := by simp; omega
          have e4 : ((cl : Int) != 1) = true := by simp; omega
          have hif : ¬ ((ty = 1 ∨ ty = 33) ∧ cl = 1) := fun x => hc x.2
          have HIF := Lib.hid hif
          clear h1 hc hif
          have hr := HR3.out
          rw [if_neg HIF.out] at hr
          have HR4 := Lib.hid hr
          clear hr HR3
          go_wp2_with (first
            | ((with_reducible refine wpList_load_row (o := ⟨some 48, .load 55 (.tmp 7), _, _, _, none⟩) rfl _ _ rfl (w2.heap.size) ?_ 55 _ (0, 0) _ HBQ4.out Tryz.underlying55 ?_ (infoQq _ _ _ _ _) ?_); (· rfl); (· rfl))
            | ((with_reducible refine wpList_store_row (o := ⟨none, .store 55 (.tmp 2) (.tmp 48), _, _, _, none⟩) rfl _ _ _ rfl (w.heap.size) ((qC h true (.slice na l.length nc) ty cl).toArray) ?_ ?_ 55 _ HB4.out (infoQq _ _ _ _ _) ?_ (qC_one _ _ _ _ _ rfl) ?_); (· rfl); (· rfl); (· rfl)))
          have hb9 := row_set HB4.out (qC h true (.slice na l.length nc) ty cl).toArray
          have ho9 : Only (fun x => x = w.heap.size) w4 (w4.setRow w.heap.size (qC h true (.slice na l.length nc) ty cl).toArray) := (Only.refl (fun x => x = w.heap.size) w4).setRow (b := w.heap.size) (.inr rfl) _
          refine bodyPost_ret (results_row2 rfl _ _ w.heap.size 55 _ (0, 0) _ rfl hb9 Tryz.underlying55 rfl (infoQq _ _ _ _ _) _ _ rfl rfl) rfl ?_
          rw [HR4.out]
          exact ⟨_, rfl, HO4.out.tr ho9 (fun x hx e => by omega), slS HSL.out ho9 (fun b i s e he => by subst e; rw [cell_at HB4.out] at he; exact qC_nostr hdZ false 0 0 _ _ he)⟩
      · have e1 : ((ty : Int) == 1) = false := by simp; omega
        have e2 : ((ty : Int) != 1) = true := by simp; omega
        by_cases h3 : ty = 33
        · have e5 : ((ty : Int) == 33) = true := by simp; omega
          have e6 : ((ty : Int) != 33) = false := by simp; omega
          by_cases hc : cl = 1
          · have e3 : ((cl : Int) == 1) = true := by simp; omega
            have e4 : ((cl : Int) != 1) = false := by simp; omega
            have hif : (ty = 1 ∨ ty = 33) ∧ cl = 1 := ⟨.inr h3, hc⟩
            have HIF := Lib.hid hif
            clear h1 h3 hc hif
            have hr := HR3.out
            rw [if_pos HIF.out] at hr
            have HR4 := Lib.hid hr
            clear hr HR3
            go_wp2_with (first
              | ((with_reducible refine wpList_load_row (o := ⟨some 49, .load 55 (.tmp 7), _, _, _, none⟩) rfl _ _ rfl (w2.heap.size) ?_ 55 _ (0, 0) _ HBQ4.out Tryz.underlying55 ?_ (infoQq _ _ _ _ _) ?_); (· rfl); (· rfl))
              | ((with_reducible refine wpList_store_row (o := ⟨none, .store 55 (.tmp 2) (.tmp 49), _, _, _, none⟩) rfl _ _ _ rfl (w.heap.size) ((qC h true (.slice na l.length nc) ty cl).toArray) ?_ ?_ 55 _ HB4.out (infoQq _ _ _ _ _) ?_ (qC_one _ _ _ _ _ rfl) ?_); (· rfl); (· rfl); (· rfl)))
            have hb9 := row_set HB4.out (qC h true (.slice na l.length nc) ty cl).toArray
            have ho9 : Only (fun x => x = w.heap.size) w4 (w4.setRow w.heap.size (qC h true (.slice na l.length nc) ty cl).toArray) := (Only.refl (fun x => x = w.heap.size) w4).setRow (b := w.heap.size) (.inr rfl) _
            refine bodyPost_ret (results_row2 rfl _ _ w.heap.size 55 _ (0, 0) _ rfl hb9 Tryz.underlying55 rfl (infoQq _ _ _ _ _) _ _ rfl rfl) rfl ?_
            rw [HR4.out]
            exact ⟨_, rfl, HO4.out.tr ho9 (fun x hx e => by omega), slS HSL.out ho9 (fun b i s e he => by subst e; rw [cell_at HB4.out] at he; exact qC_nostr hdZ false 0 0 _ _ he)⟩
          · have e3 : ((cl : Int) == 1) = false := by simp; omega
            have e4 : ((cl : Int) != 1) = true := by simp; omega
            have hif : ¬ ((ty = 1 ∨ ty = 33) ∧ cl = 1) := fun x => hc x.2
            have HIF := Lib.hid hif
            clear h1 h3 hc hif
            have hr := HR3.out
            rw [if_neg HIF.out] at hr
            have HR4 := Lib.hid hr
            clear hr HR3
            go_wp2_with (first
              | ((with_reducible refine wpList_load_row (o := ⟨some 48, .load 55 (.tmp 7), _, _, _, none⟩) rfl _ _ rfl (w2.heap.size) ?_ 55 _ (0, 0) _ HBQ4.out Tryz.underlying55 ?_ (infoQq _ _ _ _ _) ?_); (· rfl); (· rfl))
              | ((with_reducible refine wpList_store_row (o := ⟨none, .store 55 (.tmp 2) (.tmp 48), _, _, _, none⟩) rfl _ _ _ rfl (w.heap.size) ((qC h true (.slice na l.length nc) ty cl).toArray) ?_ ?_ 55 _ HB4.out (infoQq _ _ _ _ _) ?_ (qC_one _ _ _ _ _ rfl) ?_); (· rfl); (· rfl); (· rfl)))
            have hb9 := row_set HB4.out (qC h true (.slice na l.length nc) ty cl).toArray
            have ho9 : Only (fun x => x = w.heap.size) w4 (w4.setRow w.heap.size (qC h true (.slice na l.length nc) ty cl).toArray) := (Only.refl (fun x => x = w.heap.size) w4).setRow (b := w.heap.size) (.inr rfl) _
            refine bodyPost_ret (results_row2 rfl _ _ w.heap.size 55 _ (0, 0) _ rfl hb9 Tryz.underlying55 rfl (infoQq _ _ _ _ _) _ _ rfl rfl) rfl ?_
            rw [HR4.out]
            exact ⟨_, rfl, HO4.out.tr ho9 (fun x hx e => by omega), slS HSL.out ho9 (fun b i s e he => by subst e; rw [cell_at HB4.out] at he; exact qC_nostr hdZ false 0 0 _ _ he)⟩
        · have e5 : ((ty : Int) == 33) = false := by simp; omega
          have e6 : ((ty : Int) != 33) = true := by simp; omega
          have hif : ¬ ((ty = 1 ∨ ty = 33) ∧ cl = 1) := fun x => x.1.elim h1 h3
          have HIF := Lib.hid hif
          clear h1 h3 hif
          have hr := HR3.out
          rw [if_neg HIF.out] at hr
          have HR4 := Lib.hid hr
          clear hr HR3
          go_wp2_with (first
            | ((with_reducible refine wpList_load_row (o := ⟨some 48, .load 55 (.tmp 7), _, _, _, none⟩) rfl _ _ rfl (w2.heap.size) ?_ 55 _ (0, 0) _ HBQ4.out Tryz.underlying55 ?_ (infoQq _ _ _ _ _) ?_); (· rfl); (· rfl))
            | ((with_reducible refine wpList_store_row (o := ⟨none, .store 55 (.tmp 2) (.tmp 48), _, _, _, none⟩) rfl _ _ _ rfl (w.heap.size) ((qC h true (.slice na l.length nc) ty cl).toArray) ?_ ?_ 55 _ HB4.out (infoQq _ _ _ _ _) ?_ (qC_one _ _ _ _ _ rfl) ?_); (· rfl); (· rfl); (· rfl)))
          have hb9 := row_set HB4.out (qC h true (.slice na l.length nc) ty cl).toArray
          have ho9 : Only (fun x => x = w.heap.size) w4 (w4.setRow w.heap.size (qC h true (.slice na l.length nc) ty cl).toArray) := (Only.refl (fun x => x = w.heap.size) w4).setRow (b := w.heap.size) (.inr rfl) _
          refine bodyPost_ret (results_row2 rfl _ _ w.heap.size 55 _ (0, 0) _ rfl hb9 Tryz.underlying55 rfl (infoQq _ _ _ _ _) _ _ rfl rfl) rfl ?_
          rw [HR4.out]
          exact ⟨_, rfl, HO4.out.tr ho9 (fun x hx e => by omega), slS HSL.out ho9 (fun b i s e he => by subst e; rw [cell_at HB4.out] at he; exact qC_nostr hdZ false 0 0 _ _ he)⟩
  · have hrr := HRR.out
    rw [if_pos hp0] at hrr
    have q0 : ((h.op : Int) == 0) = false := by simp; omega
    have q1 : ((h.op : Int) != 0) = true := by simp; omega
    have HR2 := Lib.hid hrr
    have hlt7 : w.heap.size < w3.heap.size := by omega
    clear hrr hp0 hop
    go_wp2_with (first
      | ((with_reducible refine wpList_load_row (o := ⟨some 28, .load 55 (.tmp 7), _, _, _, none⟩) rfl _ _ rfl (w2.heap.size) ?_ 55 _ (0, 0) _ HBQ.out Tryz.underlying55 ?_ (infoQq _ _ _ _ _) ?_); (· rfl); (· rfl))
      | ((with_reducible refine wpList_store_row (o := ⟨none, .store 55 (.tmp 2) (.tmp 28), _, _, _, none⟩) rfl _ _ _ rfl (w.heap.size) ((qC h false (.slice none 0 0) 0 0).toArray) ?_ ?_ 55 _ HB3.out (infoQq _ _ _ _ _) ?_ (qC_one _ _ _ _ _ rfl) ?_); (· rfl); (· rfl); (· rfl)))
    have hb9 := row_set HB3.out (qC h false (.slice none 0 0) 0 0).toArray
    have ho9 : Only (fun x => x = w.heap.size) w3 (w3.setRow w.heap.size (qC h false (.slice none 0 0) 0 0).toArray) := (Only.refl (fun x => x = w.heap.size) w3).setRow (b := w.heap.size) (.inr rfl) _
    refine bodyPost_ret (results_row2 rfl _ _ w.heap.size 55 _ (0, 0) _ rfl hb9 Tryz.underlying55 rfl (infoQq _ _ _ _ _) _ _ rfl rfl) rfl ?_
    rw [HR2.out]
    exact ⟨_, rfl, HO3.out.tr ho9 (fun x hx e => by omega), Sl.nil _ _⟩
end Go.Proofs.YtbdfijgejkimnaaGreatDoor
/-! query.Ask. -/
namespace Go.Proofs.YtbdfijgejkimnaaGreatDoor
open Go.Conc Go.RowKit

/-- A question's head. -/
def askHd (n : Nat) : HeadT := ⟨n, false, 0, false, false, true, false, 0, 0, (1, 0, 0, 0)⟩
theorem askHd_ok {n : Nat} (h : n < 65536) : HeadOk (askHd n) := ⟨h, Nat.le_of_ble_eq_true rfl, Nat.le_of_ble_eq_true rfl, Nat.le_of_ble_eq_true rfl, Nat.le_of_ble_eq_true rfl, Nat.le_of_ble_eq_true rfl, Nat.le_of_ble_eq_true rfl, Nat.le_of_ble_eq_true rfl⟩
/-- The message that asks. -/
def askMsg (n : Nat) (l : List ByteArray) (t : Nat) : List UInt8 := headB (askHd n) ++ ((bytesL l).data.toList ++ ([0] ++ (beL t 2 ++ beL 1 2)))
/-- The step of a writing call: what was written so far, and one more. -/
theorem WPost.then {a w w' : World} {b base : Nat} {S S1 : Nat → Prop} {l : List UInt8} (ho : Only S a w) (hs : ∀ x, S1 x → S x ∨ a.heap.size ≤ x) (h : WPost w w' b base S1 l) : WPost a w' b base S l := WPost.step ho hs h
set_option maxRecDepth 100000 in
set_option maxHeartbeats 2000000 in
theorem ask1_any (w : World) (b base : Nat) (S : Nat → Prop) (bh bs bt : Nat) (hs ss : ByteArray) (t : Nat) (hw : WrAt w b base S []) (hbase : base ≤ w.heap.size)
    (h1 : w.heap[bh]? = some (.cells #[.string hs] 9 (0, 0))) (h2 : w.heap[bs]? = some (.cells #[.string ss] 9 (0, 0))) (h3 : w.heap[bt]? = some (.cells #[.int .u16 t] 35 (0, 0))) (ht : t < 65536) (hz : hs.size + ss.size ≤ 1000) :
    Calls Tryz.prog 51 #[.pointer (some ⟨b, 0, none⟩), .pointer (some ⟨bh, 0, none⟩), .pointer (some ⟨bs, 0, none⟩), .pointer (some ⟨bt, 0, none⟩)] w fun e w' => e = .returned (.tuple #[]) ∧ WPost w w' b base S (hs.data.toList ++ (ss.data.toList ++ (beL t 2 ++ beL 1 2))) := by
  have n3 := hw.at (e := 35) (by decide) (by decide) h3
  have c1 : w.cell? ⟨bh, 0, none⟩ = some (.string hs) := cell_at h1 0
  have c2 : w.cell? ⟨bs, 0, none⟩ = some (.string ss) := cell_at h2 0
  have hl : (hs ++ ss).size = hs.size + ss.size := ByteArray.size_append
  have HL := Lib.hid hl
  have J0 := Lib.hid (And.intro (Only.refl S w) (fun x (h : S x) => (Or.inl h : S x ∨ w.heap.size ≤ x)))
  have HZ := Lib.hid hz
  have HW := Lib.hid hw
  have H3 := Lib.hid h3
  have N3 := Lib.hid n3
  clear hl h1 h2 h3 hw n3
  go_enter Tryz.func51, Tryz.ntmps51
  go_wp2_with fail
  refine (raw_ok _ b base S [] (hs ++ ss) HW.out (by decide) (by have := HL.out; have := HZ.out; omega) hbase).mono ?_
  rintro e v1 ⟨rfl, hp1⟩
  have HP1 := Lib.hid (WPost.step J0.out.1 J0.out.2 hp1)
  clear hp1
  obtain ⟨S1, ja1, jb1, jc1⟩ := id HP1.out
  have J1 := Lib.hid (And.intro ja1 jc1)
  have K1 := Lib.hid jb1
  have hz1 := ja1.size
  clear ja1 jb1 jc1
  have c3 : v1.cell? ⟨bt, 0, none⟩ = some (.int .u16 t) := cell_at (J1.out.1.old H3.out N3.out) 0
  clear c1 c2
  go_wp2_with fail
  refine (num_ok _ b base S1 _ t 2 K1.out (by decide) (by decide) (by omega) (by rw [List.nil_append]; show (hs ++ ss).size ≤ _; have := HL.out; have := HZ.out; omega) (by omega)).mono ?_
  rintro e v2 ⟨rfl, hp2⟩
  have HP2 := Lib.hid (WPost.step J1.out.1 J1.out.2 hp2)
  clear hp2
  obtain ⟨S2, ja2, jb2, jc2⟩ := id HP2.out
  have J2 := Lib.hid (And.intro ja2 jc2)
  have K2 := Lib.hid jb2
  have hz2 := ja2.size
  clear ja2 jb2 jc2
  clear c3
  go_wp2_with fail
  refine (num_ok _ b base S2 _ 1 2 K2.out (by decide) (by decide) (by decide) (by rw [List.nil_append, List.length_append]; show (hs ++ ss).size + 2 ≤ _; have := HL.out; have := HZ.out; omega) (by omega)).mono ?_
  rintro e v3 ⟨rfl, hp3⟩
  have HP3 := Lib.hid (WPost.step J2.out.1 J2.out.2 hp3)
  clear hp3
  obtain ⟨S3, ja3, jb3, jc3⟩ := id HP3.out
  have J3 := Lib.hid (And.intro ja3 jc3)
  have K3 := Lib.hid jb3
  have hz3 := ja3.size
  clear ja3 jb3 jc3
  go_wp2_with fail
  go_end0
  have e : hs.data.toList ++ (ss.data.toList ++ (beL t 2 ++ beL 1 2)) = [] ++ (hs ++ ss).data.toList ++ beL t 2 ++ beL 1 2 := by simp [ByteArray.data_append]
  rw [e]
  exact ⟨rfl, HP3.out⟩
theorem bytesZ_size (l : List ByteArray) : (bytesL l ++ ⟨#[0]⟩ : ByteArray).size = (bytesL l).size + 1 := ByteArray.size_append
set_option maxRecDepth 100000 in
set_option maxHeartbeats 2000000 in
theorem ask_ok (w : World) (v : Value) (n t : Nat) (l : List ByteArray) (hv : Sl w 1 v l.length (l.map .string)) (hm : mayGo 0 l = true) (hn : n < 65536) (ht : t < 65536) :
    Calls Tryz.prog 21 #[.int .u16 n, v, .int .u16 t] w fun e w' => e = .returned (.tuple #[.string ⟨(askMsg n l t).toArray⟩, .int .i64 0]) ∧ Only (fun _ => False) w w' := by
  have hmf : ∀ (fn : Fn) (first cap : Array Value) (w : World), (Instr.makeFunc fn first cap).run Tryz.prog w = .ok (.func fn first cap) w := fun _ _ _ _ => rfl
  have hen : ∀ args w, (callFunc 51 args).run Tryz.prog w = .ok (.enter 51 args) w := fun _ _ => by go_simp
  have hE := fun (W : World) (ho : Only (fun _ => False) w W) => encode_good W v l (hv.new ho) hm
  have hH := fun (W : World) => henc_any W (askHd n) (askHd_ok hn)
  unfold headC askHd at hH
  dsimp only at hH
  have hsz := (may_size hm).1
  have hz := bytesZ_size l
  have hbd : (bytesL l ++ ⟨#[0]⟩ : ByteArray).data.toList = (bytesL l).data.toList ++ [0] := by simp [ByteArray.data_append]
  obtain ⟨hb, hhb⟩ : ∃ hb, hb = headB ⟨n, false, 0, false, false, true, false, 0, 0, (1, 0, 0, 0)⟩ := ⟨_, rfl⟩
  have hmsg : askMsg n l t = hb ++ ((bytesL l ++ ⟨#[0]⟩ : ByteArray).data.toList ++ (beL t 2 ++ beL 1 2)) := by
    rw [hbd, hhb]
    simp [askMsg, askHd]
  rw [hmsg]
  have hhl : hb.length = 12 := by rw [hhb]; rfl
  rw [← hhb] at hH
  generalize (bytesL l ++ ⟨#[0]⟩ : ByteArray) = s at *
  obtain ⟨_, va, vc, rfl, _⟩ := id hv
  have HE := Lib.hid hE
  have HH := Lib.hid hH
  have HEN := Lib.hid hen
  have HV := Lib.hid hv
  clear hE hH hen hv
  clear hhb hbd hmsg hm
  go_enter Tryz.func21, Tryz.ntmps21
  obtain ⟨W, hW⟩ : ∃ W, W = w.alloc (.cells #[.int .u16 t] 35) := ⟨_, rfl⟩
  have hbW : W.heap[w.heap.size]? = some (.cells #[.int .u16 t] 35 (0, 0)) := by rw [hW]; exact heap_alloc_new w _
  have hoW : Only (fun _ => False) w W := by rw [hW]; exact (Only.refl _ _).alloc _
  have hsW : W.heap.size = w.heap.size + 1 := by rw [hW]; simp
  have HO := Lib.hid hoW
  have HBW := Lib.hid hbW
  have HSW := Lib.hid hsW
  clear hoW hbW hsW
  go_upto_region 1 with (fail)
  rw [← hW]
  clear hW
  go_wp2_with fail
  refine (HE.out W HO.out).mono ?_
  rintro e w1 ⟨rfl, ho1⟩
  have HO1 := Lib.hid (HO.out.trans ho1)
  have HT1 := Lib.hid (ho1.old HBW.out id)
  clear ho1
  obtain ⟨W1, hW1⟩ : ∃ W1, W1 = w1.alloc (.cells #[.string s] 9) := ⟨_, rfl⟩
  have hbW1 : W1.heap[w1.heap.size]? = some (.cells #[.string s] 9 (0, 0)) := by rw [hW1]; exact heap_alloc_new w1 _
  have hoW1 : Only (fun _ => False) w1 W1 := by rw [hW1]; exact (Only.refl _ _).alloc _
  have hsW1 : W1.heap.size = w1.heap.size + 1 := by rw [hW1]; simp
  have HO2 := Lib.hid (HO1.out.trans hoW1)
  have HT2 := Lib.hid (hoW1.old HT1.out id)
  have HS2 := Lib.hid hbW1
  clear hbW1
  clear hoW1 hsW1
  go_upto_region 2 with (fail)
  rw [← hW1]
  clear hW1
  go_wp2_with fail
  refine (HH.out W1).mono ?_
  rintro e w3 ⟨rfl, ho3⟩
  have HO3 := Lib.hid (HO2.out.trans ho3)
  have HT3 := Lib.hid (ho3.old HT2.out id)
  have HS3 := Lib.hid (ho3.old HS2.out id)
  clear ho3
  obtain ⟨W3, hW3⟩ : ∃ W3, W3 = w3.alloc (.cells #[.string ⟨hb.toArray⟩] 9) := ⟨_, rfl⟩
  have hbW3 : W3.heap[w3.heap.size]? = some (.cells #[.string ⟨hb.toArray⟩] 9 (0, 0)) := by rw [hW3]; exact heap_alloc_new w3 _
  have hoW3 : Only (fun _ => False) w3 W3 := by rw [hW3]; exact (Only.refl _ _).alloc _
  have hsW3 : W3.heap.size = w3.heap.size + 1 := by rw [hW3]; simp
  have HO4 := Lib.hid (HO3.out.trans hoW3)
  have HT4 := Lib.hid (hoW3.old HT3.out id)
  have HS4 := Lib.hid (hoW3.old HS3.out id)
  have HH4 := Lib.hid hbW3
  clear hbW3
  clear hoW3 hsW3
  have hwr := write_ok W3 51 #[.pointer (some ⟨w3.heap.size, 0, none⟩), .pointer (some ⟨w1.heap.size, 0, none⟩), .pointer (some ⟨w.heap.size, 0, none⟩)] (hb ++ (s.data.toList ++ (beL t 2 ++ beL 1 2))) HEN.out (by rw [← List.length_pos_iff, List.length_append]; omega)
    (fun w2 b S ho hw hS hs => ask1_any w2 b _ S _ _ _ ⟨hb.toArray⟩ s t hw hs (ho.old HH4.out id) (ho.old HS4.out id) (ho.old HT4.out id) ht (by show hb.length + _ ≤ _; omega))
  have HW := Lib.hid hwr
  clear hwr
  go_upto_region 5 with (fail)
  rw [← hW3]
  clear hW3
  go_wp2_with fail
  refine HW.out.mono ?_
  rintro e w5 ⟨rfl, ho5⟩
  have HO5 := Lib.hid (HO4.out.trans ho5)
  clear ho5
  go_wp2_with fail
  go_ret2
  exact ⟨rfl, HO5.out⟩
end Go.Proofs.YtbdfijgejkimnaaGreatDoor
/-! reply: a record's data. -/
namespace Go.Proofs.YtbdfijgejkimnaaGreatDoor
open Go.Conc Go.RowKit

theorem a3_0 (W : World) (x y z : Value) : (Instr.index 194 (.agg #[x, y, z]) (.int .i64 0)).run Tryz.prog W = .ok x W := by kernel_rfl
theorem a3_1 (W : World) (x y z : Value) : (Instr.index 194 (.agg #[x, y, z]) (.int .i64 1)).run Tryz.prog W = .ok y W := by kernel_rfl
theorem a3_2 (W : World) (x y z : Value) : (Instr.index 194 (.agg #[x, y, z]) (.int .i64 2)).run Tryz.prog W = .ok z W := by kernel_rfl
set_option maxRecDepth 100000 in
set_option maxHeartbeats 4000000 in
theorem data1_any (w : World) (b base : Nat) (S : Nat → Prop) (px : Nat) (x : RRv) (ok : RROk x.r) (hw : WrAt w b base S []) (hs : w.heap[px]? = some (.cells (rrC x).toArray 46 (0, 0))) (ht : Sl w 1 x.v x.r.tgt.length (x.r.tgt.map .string)) (hbase : base ≤ w.heap.size) :
    Calls Tryz.prog 129 #[.pointer (some ⟨b, 0, none⟩), .pointer (some ⟨px, 0, none⟩)] w fun e w' => e = .returned (.tuple #[]) ∧ WPost w w' b base S (rdataB x.r) := by
  obtain ⟨⟨typ, ttl, ⟨a0, a1, a2, a3⟩, pr, wt, po, tgt⟩, tv⟩ := x
  have KC := Lib.hid (And.intro ok.pr (And.intro ok.wt ok.po))
  have hmay := ok.tgt
  have hty := ok.typ
  dsimp only at hmay hty KC ht ⊢
  unfold rrC at hs
  dsimp only at hs
  obtain ⟨DB, hDB⟩ : ∃ DB, DB = rdataB ⟨typ, ttl, (a0, a1, a2, a3), pr, wt, po, tgt⟩ := ⟨_, rfl⟩
  rw [← hDB]
  unfold rdataB at hDB
  dsimp only at hDB
  obtain ⟨_, va, vc, rfl, _⟩ := id ht
  have x0 : w.cell? ⟨px, 0, none⟩ = some (.int .u16 typ) := cell_at hs 0
  rcases hty with h1 | h33
  · rw [if_pos h1] at hDB
    have hsl : Sl w 1 (.slice (some ⟨px, 2, none⟩) 4 4) [(a0 : Int), a1, a2, a3].length ([(a0 : Int), a1, a2, a3].map (.int .u8)) := by
      refine ⟨rfl, _, 4, rfl, Nat.le_refl 4, by unfold maxLen; decide, .inr ⟨px, 2, rfl, fun j u hu => ?_⟩⟩
      rw [cell_at hs]
      match j, hu with
      | 0, hu => exact hu
      | 1, hu => exact hu
      | 2, hu => exact hu
      | 3, hu => exact hu
    have hcv := run_bytes_str (P := Tryz.prog) (src := 61) (dst := 9) (e := 5) Tryz.underlying61 Tryz.underlying5 Tryz.underlying9 hsl
    have q1 : ((typ : Int) == 1) = true := by simp; omega
    have HW := Lib.hid hw
    have HDB := Lib.hid hDB
    clear hs hsl hw hDB h1 ok hmay ht
    go_enter Tryz.func129, Tryz.ntmps129
    go_wp2_with fail
    refine (raw_ok _ b base S [] (bytesOf [(a0 : Int), a1, a2, a3]) HW.out (by decide) (Nat.le_of_ble_eq_true rfl) hbase).mono ?_
    rintro e w1 ⟨rfl, hp1⟩
    have HP := Lib.hid hp1
    clear hp1 hcv
    go_wp2_with fail
    go_end0
    rw [HDB.out]
    exact ⟨rfl, HP.out⟩
  · rw [if_neg (by omega)] at hDB
    have q1 : ((typ : Int) == 1) = false := by simp; omega
    have q2 : ((typ : Int) == 33) = true := by simp; omega
    have x3 : w.cell? ⟨px, 6, none⟩ = some (.int .u16 pr) := cell_at hs 6
    have x6 : w.cell? ⟨px, 9, none⟩ = some (.slice va tgt.length vc) := cell_at hs 9
    have HEN := Lib.hid (encode_good w _ tgt ht hmay)
    have hsz := (may_size hmay).1
    have hz := bytesZ_size tgt
    have hbd : (bytesL tgt ++ ⟨#[0]⟩ : ByteArray).data.toList = (bytesL tgt).data.toList ++ [0] := by simp [ByteArray.data_append]
    rw [← hbd] at hDB
    generalize (bytesL tgt ++ ⟨#[0]⟩ : ByteArray) = s at *
    have HSZ := Lib.hid (show s.size ≤ 255 by omega)
    have HW := Lib.hid hw
    have HDB := Lib.hid hDB
    have HS := Lib.hid hs
    clear hs hw hDB h33 ok hmay ht hbd hz hsz
    go_enter Tryz.func129, Tryz.ntmps129
    go_upto_region 5 with (fail)
    go_wp2_with fail
    refine HEN.out.mono ?_
    rintro e w1 ⟨rfl, ho1⟩
    have hs1 := ho1.old HS.out id
    have y6 : w1.cell? ⟨px, 6, none⟩ = some (.int .u16 pr) := cell_at hs1 6
    have y7 : w1.cell? ⟨px, 7, none⟩ = some (.int .u16 wt) := cell_at hs1 7
    have y8 : w1.cell? ⟨px, 8, none⟩ = some (.int .u16 po) := cell_at hs1 8
    have HPO := Lib.hid (WPost.of_same HW.out ho1)
    have hsz1 := ho1.size
    clear ho1 hs1 x0 x3 x6
    have hx0 := a3_0
    have hx1 := a3_1
    have hx2 := a3_2
    go_wp2_with fail
    clear y6 y7 y8
    go_loopg [6, 36] 3 (fun g v6 v36 wx => ∃ (k : Nat) (l : List UInt8), v36 = .int .i64 k ∧ k ≤ 3 ∧ w.heap.size ≤ wx.heap.size ∧ WPost w wx b base S l ∧ l = (([pr, wt, po].take k).flatMap fun n => beL n 2) ∧ g = 3 - k)
    case atStart => exact ⟨0, _, rfl, by decide, hsz1, HPO.out, by simp, rfl⟩
    case round =>
      clear hsz1 HPO
      obtain ⟨k, l, rfl, hk, hsz, hpo, hl, hg⟩ := hrel
      have HLL := Lib.hid (show l.length ≤ 6 by
        rw [hl]
        match k, hk with
        | 0, _ => simp
        | 1, _ => simp [beL]
        | 2, _ => simp [beL]
        | 3, _ => simp [beL])
      obtain ⟨S3, k1, k2, k3⟩ := id hpo
      have Hg := Lib.hid hg
      have HL := Lib.hid hl
      have HPO := Lib.hid hpo
      have K1 := Lib.hid k1
      have K2 := Lib.hid k2
      have K3 := Lib.hid k3
      clear hg hl hpo k1 k2 k3
      match k, hk with
      | 3, _ =>
        go_wp2_with fail
        refine (raw_ok _ b base S3 l s K2.out (by have := HLL.out; omega) (by have := HSZ.out; omega) (by omega)).mono ?_
        rintro e w2 ⟨rfl, hp2⟩
        have HP2 := Lib.hid hp2
        clear hp2
        go_wp2_with fail
        go_end0
        have e : DB = l ++ s.data.toList := by rw [HL.out, HDB.out]; simp
        rw [e]
        exact ⟨rfl, WPost.step K1.out K3.out HP2.out⟩
      | 0, _ =>
        have kn : pr < 65536 := by have := KC.out; omega
        go_wp2_with fail
        refine (num_ok _ b base S3 l pr 2 K2.out (by decide) (by decide) (by omega) (by have := HLL.out; omega) (by omega)).mono ?_
        rintro e w2 ⟨rfl, hp2⟩
        have hs2 := hp2.size
        have HP2 := Lib.hid hp2
        clear hp2
        go_wp2_with fail
        go_roundg 2
        case measure => rw [Hg.out]; decide
        case rel => exact ⟨1, _, rfl, by decide, by omega, WPost.step K1.out K3.out HP2.out, by rw [HL.out]; simp, rfl⟩
      | 1, _ =>
        have kn : wt < 65536 := by have := KC.out; omega
        go_wp2_with fail
        refine (num_ok _ b base S3 l wt 2 K2.out (by decide) (by decide) (by omega) (by have := HLL.out; omega) (by omega)).mono ?_
        rintro e w2 ⟨rfl, hp2⟩
        have hs2 := hp2.size
        have HP2 := Lib.hid hp2
        clear hp2
        go_wp2_with fail
        go_roundg 1
        case measure => rw [Hg.out]; decide
        case rel => exact ⟨2, _, rfl, by decide, by omega, WPost.step K1.out K3.out HP2.out, by rw [HL.out]; simp, rfl⟩
      | 2, _ =>
        have kn : po < 65536 := by have := KC.out; omega
        go_wp2_with fail
        refine (num_ok _ b base S3 l po 2 K2.out (by decide) (by decide) (by omega) (by have := HLL.out; omega) (by omega)).mono ?_
        rintro e w2 ⟨rfl, hp2⟩
        have hs2 := hp2.size
        have HP2 := Lib.hid hp2
        clear hp2
        go_wp2_with fail
        go_roundg 0
        case measure => rw [Hg.out]; decide
        case rel => exact ⟨3, _, rfl, by decide, by omega, WPost.step K1.out K3.out HP2.out, by rw [HL.out]; simp, rfl⟩
theorem rdataB_ne (x : RR) : rdataB x ≠ [] := by
  unfold rdataB
  split <;> simp [beL]
theorem infoRp : (Tryz.prog.info? 46).map (·.size) = some 10 := by kernel_rfl
theorem infoRr (x : RRv) : (Tryz.prog.info? 46).map (·.size) = some (rrC x).toArray.size := by kernel_rfl
set_option maxRecDepth 100000 in
set_option maxHeartbeats 2000000 in
theorem data_any (w : World) (x : RRv) (ok : RROk x.r) (ht : Sl w 1 x.v x.r.tgt.length (x.r.tgt.map .string)) :
    Calls Tryz.prog 104 #[.agg (rrC x).toArray] w fun e w' => e = .returned (.string ⟨(rdataB x.r).toArray⟩) ∧ Only (fun _ => False) w w' := by
  have hmf : ∀ (fn : Fn) (first cap : Array Value) (w : World), (Instr.makeFunc fn first cap).run Tryz.prog w = .ok (.func fn first cap) w := fun _ _ _ _ => rfl
  have hen : ∀ args w, (callFunc 129 args).run Tryz.prog w = .ok (.enter 129 args) w := fun _ _ => by go_simp
  have hwo : Only (fun _ => False) w (w.alloc (.cells (rrC x).toArray 46)) := (Only.refl _ _).alloc _
  have hwr := write_ok (w.alloc (.cells (rrC x).toArray 46)) 129 #[.pointer (some ⟨w.heap.size, 0, none⟩)] (rdataB x.r) hen (rdataB_ne x.r)
    (fun w2 b S ho hw hS hs => data1_any w2 b _ S _ x ok hw (ho.old (heap_alloc_new w _) id) (ht.new (hwo.trans ho)) hs)
  obtain ⟨_, va, vc, hv, _⟩ := id ht
  obtain ⟨⟨typ, ttl, ⟨a0, a1, a2, a3⟩, pr, wt, po, tgt⟩, tv⟩ := x
  dsimp only at hv
  subst hv
  unfold rrC at hwr hwo ⊢
  dsimp only at hwr hwo ⊢
  generalize rdataB ⟨typ, ttl, (a0, a1, a2, a3), pr, wt, po, tgt⟩ = DB at *
  have HW := Lib.hid hwr
  have HO := Lib.hid hwo
  clear hwr hwo
  clear hen ht ok
  go_enter Tryz.func104, Tryz.ntmps104
  go_wp2_with fail
  refine HW.out.mono ?_
  rintro e w1 ⟨rfl, ho1⟩
  have HO1 := Lib.hid (HO.out.trans ho1)
  clear ho1
  go_wp2_with fail
  go_ret
  exact ⟨rfl, HO1.out⟩
end Go.Proofs.YtbdfijgejkimnaaGreatDoor
/-! reply: a record's bytes, the question's. -/
namespace Go.Proofs.YtbdfijgejkimnaaGreatDoor
open Go.Conc Go.RowKit

theorem beL1_len (n : Nat) : (beL n 2).length = 2 := rfl
theorem beL4_len (n : Nat) : (beL n 4).length = 4 := rfl
set_option maxRecDepth 100000 in
set_option maxHeartbeats 4000000 in
theorem rbytes1_any (w : World) (b base : Nat) (S : Nat → Prop) (px : Nat) (x : RRv) (ok : RROk x.r) (hw : WrAt w b base S []) (hs : w.heap[px]? = some (.cells (rrC x).toArray 46 (0, 0))) (ht : Sl w 1 x.v x.r.tgt.length (x.r.tgt.map .string)) (hbase : base ≤ w.heap.size) :
    Calls Tryz.prog 103 #[.pointer (some ⟨b, 0, none⟩), .pointer (some ⟨px, 0, none⟩)] w fun e w' => e = .returned (.tuple #[]) ∧ WPost w w' b base S (rrB x.r) := by
  have hD := data_any w x ok ht
  have hdl := rdata_len ok
  have hns := hw.at (e := 46) (by decide) (by decide) hs
  obtain ⟨_, va, vc, hv, _⟩ := id ht
  obtain ⟨⟨typ, ttl, ⟨a0, a1, a2, a3⟩, pr, wt, po, tgt⟩, tv⟩ := x
  dsimp only at hv
  subst hv
  have hty : typ < 65536 := by rcases ok.typ with h | h <;> (dsimp only at h; omega)
  have htt : ttl < 4294967296 := ok.ttl
  have hRB : rrB ⟨typ, ttl, (a0, a1, a2, a3), pr, wt, po, tgt⟩ = [] ++ beL 49164 2 ++ beL typ 2 ++ beL 1 2 ++ beL ttl 4 ++ beL (rdataB ⟨typ, ttl, (a0, a1, a2, a3), pr, wt, po, tgt⟩).length 2 ++ rdataB ⟨typ, ttl, (a0, a1, a2, a3), pr, wt, po, tgt⟩ := by simp [rrB]
  unfold rrC at hD hs
  dsimp only at hD hs hdl ⊢
  rw [hRB]
  clear hRB
  generalize rdataB ⟨typ, ttl, (a0, a1, a2, a3), pr, wt, po, tgt⟩ = DB at *
  have hDs : (⟨DB.toArray⟩ : ByteArray).size = DB.length := by simp [ByteArray.size]
  obtain ⟨DS, hDS⟩ : ∃ DS : ByteArray, DS = ⟨DB.toArray⟩ := ⟨_, rfl⟩
  have hDL : DS.data.toList = DB := by rw [hDS]
  rw [← hDS] at hD hDs
  have HDL := Lib.hid hdl
  have hds2 : DS.size ≤ 261 := by omega
  have HDS := Lib.hid hDs
  have HN := Lib.hid hns
  have HS := Lib.hid hs
  have x0 : w.cell? ⟨px, 0, none⟩ = some (.int .u16 typ) := cell_at hs 0
  have x1 : w.cell? ⟨px, 1, none⟩ = some (.int .u32 ttl) := cell_at hs 1
  have x2 : w.cell? ⟨px, 2, none⟩ = some (.int .u8 a0) := cell_at hs 2
  have x3 : w.cell? ⟨px, 3, none⟩ = some (.int .u8 a1) := cell_at hs 3
  have x4 : w.cell? ⟨px, 4, none⟩ = some (.int .u8 a2) := cell_at hs 4
  have x5 : w.cell? ⟨px, 5, none⟩ = some (.int .u8 a3) := cell_at hs 5
  have x6 : w.cell? ⟨px, 6, none⟩ = some (.int .u16 pr) := cell_at hs 6
  have x7 : w.cell? ⟨px, 7, none⟩ = some (.int .u16 wt) := cell_at hs 7
  have x8 : w.cell? ⟨px, 8, none⟩ = some (.int .u16 po) := cell_at hs 8
  have x9 : w.cell? ⟨px, 9, none⟩ = some (.slice va tgt.length vc) := cell_at hs 9
  have HD := Lib.hid hD
  have HW := Lib.hid hw
  have HDB := Lib.hid hDL
  clear hD hw hDL
  clear hs ok ht hDS hDs hdl hns
  go_enter Tryz.func103, Tryz.ntmps103
  go_wp2_with fail
  refine HD.out.mono ?_
  rintro e w1 ⟨rfl, ho1⟩
  have J0 := Lib.hid (And.intro (ho1.weaken (S := fun _ => False) (T := S) (fun _ _ e => e.elim)) (fun x (h : S x) => (Or.inl h : S x ∨ w.heap.size ≤ x)))
  have K0 := Lib.hid (HW.out.kept ho1 (fun _ _ => id))
  have hz0 := ho1.size
  clear ho1 x0 x1 x2 x3 x4 x5 x6 x7 x8 x9
  go_wp2_with fail
  refine (num_ok _ b base S [] 49164 2 K0.out (by decide) (by decide) (by decide) (by decide) (by omega)).mono ?_
  rintro e v1 ⟨rfl, hp1⟩
  have HP1 := Lib.hid (WPost.step J0.out.1 J0.out.2 hp1)
  clear hp1
  obtain ⟨S1, ja1, jb1, jc1⟩ := id HP1.out
  have J1 := Lib.hid (And.intro ja1 jc1)
  have K1 := Lib.hid jb1
  have hz1 := ja1.size
  clear ja1 jb1 jc1
  have c0 : v1.cell? ⟨px, 0, none⟩ = some (.int .u16 typ) := cell_at (J1.out.1.old HS.out HN.out) 0
  go_wp2_with fail
  refine (num_ok _ b base S1 _ typ 2 K1.out (by decide) (by decide) (by omega) (by decide) (by omega)).mono ?_
  rintro e v2 ⟨rfl, hp2⟩
  have HP2 := Lib.hid (WPost.step J1.out.1 J1.out.2 hp2)
  clear hp2
  obtain ⟨S2, ja2, jb2, jc2⟩ := id HP2.out
  have J2 := Lib.hid (And.intro ja2 jc2)
  have K2 := Lib.hid jb2
  have hz2 := ja2.size
  clear ja2 jb2 jc2
  clear c0
  go_wp2_with fail
  refine (num_ok _ b base S2 _ 1 2 K2.out (by decide) (by decide) (by decide) (by (simp only [List.length_append, beL1_len, List.length_nil]; omega)) (by omega)).mono ?_
  rintro e v3 ⟨rfl, hp3⟩
  have HP3 := Lib.hid (WPost.step J2.out.1 J2.out.2 hp3)
  clear hp3
  obtain ⟨S3, ja3, jb3, jc3⟩ := id HP3.out
  have J3 := Lib.hid (And.intro ja3 jc3)
  have K3 := Lib.hid jb3
  have hz3 := ja3.size
  clear ja3 jb3 jc3
  have c1 : v3.cell? ⟨px, 1, none⟩ = some (.int .u32 ttl) := cell_at (J3.out.1.old HS.out HN.out) 1
  go_wp2_with fail
  refine (num_ok _ b base S3 _ ttl 4 K3.out (by decide) (by decide) (by omega) (by (simp only [List.length_append, beL1_len, List.length_nil]; omega)) (by omega)).mono ?_
  rintro e v4 ⟨rfl, hp4⟩
  have HP4 := Lib.hid (WPost.step J3.out.1 J3.out.2 hp4)
  clear hp4
  obtain ⟨S4, ja4, jb4, jc4⟩ := id HP4.out
  have J4 := Lib.hid (And.intro ja4 jc4)
  have K4 := Lib.hid jb4
  have hz4 := ja4.size
  clear ja4 jb4 jc4
  clear c1
  go_wp2_with fail
  refine (num_ok _ b base S4 _ DS.size 2 K4.out (by decide) (by decide) (by omega) (by (simp only [List.length_append, beL1_len, beL4_len, List.length_nil]; omega)) (by omega)).mono ?_
  rintro e v5 ⟨rfl, hp5⟩
  have HP5 := Lib.hid (WPost.step J4.out.1 J4.out.2 hp5)
  clear hp5
  obtain ⟨S5, ja5, jb5, jc5⟩ := id HP5.out
  have J5 := Lib.hid (And.intro ja5 jc5)
  have K5 := Lib.hid jb5
  have hz5 := ja5.size
  clear ja5 jb5 jc5
  go_wp2_with fail
  refine (raw_ok _ b base S5 _ DS K5.out (by (simp only [List.length_append, beL1_len, beL4_len, List.length_nil]; omega)) (by omega) (by omega)).mono ?_
  rintro e v6 ⟨rfl, hp6⟩
  have HP6 := Lib.hid (WPost.step J5.out.1 J5.out.2 hp6)
  clear hp6
  obtain ⟨S6, ja6, jb6, jc6⟩ := id HP6.out
  have J6 := Lib.hid (And.intro ja6 jc6)
  have K6 := Lib.hid jb6
  have hz6 := ja6.size
  clear ja6 jb6 jc6
  go_wp2_with fail
  go_end0
  refine ⟨rfl, ?_⟩
  have h := HP6.out
  rw [HDB.out, HDS.out] at h
  exact h
theorem rrB_ne (x : RR) : rrB x ≠ [] := by simp [rrB, beL]
set_option maxRecDepth 100000 in
set_option maxHeartbeats 2000000 in
theorem rbytes_any (w : World) (x : RRv) (ok : RROk x.r) (ht : Sl w 1 x.v x.r.tgt.length (x.r.tgt.map .string)) :
    Calls Tryz.prog 60 #[.agg (rrC x).toArray] w fun e w' => e = .returned (.tuple #[.string ⟨(rrB x.r).toArray⟩, .int .i64 0]) ∧ Only (fun _ => False) w w' := by
  have hmf : ∀ (fn : Fn) (first cap : Array Value) (w : World), (Instr.makeFunc fn first cap).run Tryz.prog w = .ok (.func fn first cap) w := fun _ _ _ _ => rfl
  have hen : ∀ args w, (callFunc 103 args).run Tryz.prog w = .ok (.enter 103 args) w := fun _ _ => by go_simp
  have hwo : Only (fun _ => False) w (w.alloc (.cells (rrC x).toArray 46)) := (Only.refl _ _).alloc _
  have hwr := write_ok (w.alloc (.cells (rrC x).toArray 46)) 103 #[.pointer (some ⟨w.heap.size, 0, none⟩)] (rrB x.r) hen (rrB_ne x.r)
    (fun w2 b S ho hw hS hs => rbytes1_any w2 b _ S _ x ok hw (ho.old (heap_alloc_new w _) id) (ht.new (hwo.trans ho)) hs)
  obtain ⟨_, va, vc, hv, _⟩ := id ht
  obtain ⟨⟨typ, ttl, ⟨a0, a1, a2, a3⟩, pr, wt, po, tgt⟩, tv⟩ := x
  dsimp only at hv
  subst hv
  unfold rrC at hwr hwo ⊢
  dsimp only at hwr hwo ⊢
  generalize rrB ⟨typ, ttl, (a0, a1, a2, a3), pr, wt, po, tgt⟩ = DB at *
  have HW := Lib.hid hwr
  have HO := Lib.hid hwo
  clear hwr hwo
  clear hen ht ok
  go_enter Tryz.func60, Tryz.ntmps60
  go_wp2_with fail
  refine HW.out.mono ?_
  rintro e w1 ⟨rfl, ho1⟩
  have HO1 := Lib.hid (HO.out.trans ho1)
  clear ho1
  go_wp2_with fail
  go_ret2
  exact ⟨rfl, HO1.out⟩
theorem rcounted_any (w : World) (b : Bool) : Calls Tryz.prog 61 #[.bool b] w fun e w' => e = .returned (.int .u16 b.toNat) ∧ w = w' := by
  cases b
  all_goals (
    go_enter Tryz.func61, Tryz.ntmps61
    go_wp2_with fail
    go_ret
    exact ⟨rfl, rfl⟩)
set_option maxRecDepth 100000 in
set_option maxHeartbeats 2000000 in
theorem rquest1_any (w : World) (b base : Nat) (S : Nat → Prop) (bs bq : Nat) (ss : ByteArray) (h : HeadT) (a : Bool) (nv : Value) (t c : Nat) (hw : WrAt w b base S []) (hbase : base ≤ w.heap.size)
    (h1 : w.heap[bs]? = some (.cells #[.string ss] 9 (0, 0))) (h2 : w.heap[bq]? = some (.cells (qC h a nv t c).toArray 55 (0, 0))) (ht : t < 65536) (hc : c < 65536) (hz : ss.size ≤ 1000) :
    Calls Tryz.prog 102 #[.pointer (some ⟨b, 0, none⟩), .pointer (some ⟨bs, 0, none⟩), .pointer (some ⟨bq, 0, none⟩)] w fun e w' => e = .returned (.tuple #[]) ∧ WPost w w' b base S (ss.data.toList ++ (beL t 2 ++ beL c 2)) := by
  have n2 := hw.at (e := 55) (by decide) (by decide) h2
  have c1 : w.cell? ⟨bs, 0, none⟩ = some (.string ss) := cell_at h1 0
  have J0 := Lib.hid (And.intro (Only.refl S w) (fun x (h : S x) => (Or.inl h : S x ∨ w.heap.size ≤ x)))
  have hl : ss.data.toList.length = ss.size := rfl
  have HW := Lib.hid hw
  have H2 := Lib.hid h2
  have N2 := Lib.hid n2
  clear hw h2 n2
  clear h1
  go_enter Tryz.func102, Tryz.ntmps102
  go_wp2_with fail
  refine (raw_ok _ b base S [] ss HW.out (by decide) (by omega) hbase).mono ?_
  rintro e v1 ⟨rfl, hp1⟩
  have HP1 := Lib.hid (WPost.step J0.out.1 J0.out.2 hp1)
  clear hp1
  obtain ⟨S1, ja1, jb1, jc1⟩ := id HP1.out
  have J1 := Lib.hid (And.intro ja1 jc1)
  have K1 := Lib.hid jb1
  have hz1 := ja1.size
  clear ja1 jb1 jc1
  have c3 : v1.cell? ⟨bq, 15, none⟩ = some (.int .u16 t) := (cell_at (J1.out.1.old H2.out N2.out) 15).trans rfl
  clear c1
  go_wp2_with fail
  refine (num_ok _ b base S1 _ t 2 K1.out (by decide) (by decide) (by omega) (by rw [List.nil_append]; omega) (by omega)).mono ?_
  rintro e v2 ⟨rfl, hp2⟩
  have HP2 := Lib.hid (WPost.step J1.out.1 J1.out.2 hp2)
  clear hp2
  obtain ⟨S2, ja2, jb2, jc2⟩ := id HP2.out
  have J2 := Lib.hid (And.intro ja2 jc2)
  have K2 := Lib.hid jb2
  have hz2 := ja2.size
  clear ja2 jb2 jc2
  have c4 : v2.cell? ⟨bq, 16, none⟩ = some (.int .u16 c) := (cell_at (J2.out.1.old H2.out N2.out) 16).trans rfl
  clear c3
  go_wp2_with fail
  refine (num_ok _ b base S2 _ c 2 K2.out (by decide) (by decide) (by omega) (by rw [List.nil_append, List.length_append, beL1_len]; omega) (by omega)).mono ?_
  rintro e v3 ⟨rfl, hp3⟩
  have HP3 := Lib.hid (WPost.step J2.out.1 J2.out.2 hp3)
  clear hp3
  obtain ⟨S3, ja3, jb3, jc3⟩ := id HP3.out
  have J3 := Lib.hid (And.intro ja3 jc3)
  have K3 := Lib.hid jb3
  have hz3 := ja3.size
  clear ja3 jb3 jc3
  go_wp2_with fail
  go_end0
  have e : ss.data.toList ++ (beL t 2 ++ beL c 2) = [] ++ ss.data.toList ++ beL t 2 ++ beL c 2 := by simp
  rw [e]
  exact ⟨rfl, HP3.out⟩
set_option maxRecDepth 100000 in
set_option maxHeartbeats 2000000 in
theorem rquest_no (w : World) (h : HeadT) (nv : Value) (t c : Nat) :
    Calls Tryz.prog 59 #[.agg (qC h false nv t c).toArray] w fun e w' => e = .returned (.tuple #[.string ⟨#[]⟩, .int .i64 0]) ∧ Only (fun _ => False) w w' := by
  go_enter Tryz.func59, Tryz.ntmps59
  obtain ⟨W, hW⟩ : ∃ W, W = w.alloc (.cells (qC h false nv t c).toArray 55) := ⟨_, rfl⟩
  have hbW : W.heap[w.heap.size]? = some (.cells (qC h false nv t c).toArray 55 (0, 0)) := by rw [hW]; exact heap_alloc_new w _
  have hoW : Only (fun _ => False) w W := by rw [hW]; exact (Only.refl _ _).alloc _
  have hsW : W.heap.size = w.heap.size + 1 := by rw [hW]; simp
  have x1 : W.cell? ⟨w.heap.size, 13, none⟩ = some (.bool false) := (cell_at hbW 13).trans rfl
  have HO := Lib.hid hoW
  clear hoW
  go_upto_region 1 with (fail)
  rw [← hW]
  clear hW
  go_wp2_with fail
  go_ret2
  exact ⟨rfl, HO.out⟩
end Go.Proofs.YtbdfijgejkimnaaGreatDoor
/-! reply: the question that there is. -/
namespace Go.Proofs.YtbdfijgejkimnaaGreatDoor
open Go.Conc Go.RowKit

set_option maxRecDepth 100000 in
set_option maxHeartbeats 2000000 in
theorem rquest_yes (w : World) (h : HeadT) (nv : Value) (t c : Nat) (l : List ByteArray) (hv : Sl w 1 nv l.length (l.map .string)) (hm : mayGo 0 l = true) (ht : t < 65536) (hc : c < 65536) :
    Calls Tryz.prog 59 #[.agg (qC h true nv t c).toArray] w fun e w' => e = .returned (.tuple #[.string ⟨((bytesL l).data.toList ++ ([0] ++ (beL t 2 ++ beL c 2))).toArray⟩, .int .i64 0]) ∧ Only (fun _ => False) w w' := by
  have hmf : ∀ (fn : Fn) (first cap : Array Value) (w : World), (Instr.makeFunc fn first cap).run Tryz.prog w = .ok (.func fn first cap) w := fun _ _ _ _ => rfl
  have hen : ∀ args w, (callFunc 102 args).run Tryz.prog w = .ok (.enter 102 args) w := fun _ _ => by go_simp
  have hE := fun (W : World) (ho : Only (fun _ => False) w W) => encode_good W nv l (hv.new ho) hm
  have hsz := (may_size hm).1
  have hz := bytesZ_size l
  have hbd : (bytesL l).data.toList ++ ([0] ++ (beL t 2 ++ beL c 2)) = (bytesL l ++ ⟨#[0]⟩ : ByteArray).data.toList ++ (beL t 2 ++ beL c 2) := by simp [ByteArray.data_append]
  rw [hbd]
  generalize (bytesL l ++ ⟨#[0]⟩ : ByteArray) = s at *
  obtain ⟨_, va, vc, rfl, _⟩ := id hv
  have HE := Lib.hid hE
  have HEN := Lib.hid hen
  have HV := Lib.hid hv
  clear hE hen hv
  clear hbd hm
  go_enter Tryz.func59, Tryz.ntmps59
  obtain ⟨W, hW⟩ : ∃ W, W = w.alloc (.cells (qC h true (.slice va l.length vc) t c).toArray 55) := ⟨_, rfl⟩
  have hbW : W.heap[w.heap.size]? = some (.cells (qC h true (.slice va l.length vc) t c).toArray 55 (0, 0)) := by rw [hW]; exact heap_alloc_new w _
  have hoW : Only (fun _ => False) w W := by rw [hW]; exact (Only.refl _ _).alloc _
  have hsW : W.heap.size = w.heap.size + 1 := by rw [hW]; simp
  have x1 : W.cell? ⟨w.heap.size, 13, none⟩ = some (.bool true) := (cell_at hbW 13).trans rfl
  have x2 : W.cell? ⟨w.heap.size, 14, none⟩ = some (.slice va l.length vc) := (cell_at hbW 14).trans rfl
  have HO := Lib.hid hoW
  have HBW := Lib.hid hbW
  have HSW := Lib.hid hsW
  clear hoW hbW hsW
  go_upto_region 1 with (fail)
  rw [← hW]
  clear hW
  go_wp2_with fail
  refine (HE.out W HO.out).mono ?_
  rintro e w1 ⟨rfl, ho1⟩
  have HO1 := Lib.hid (HO.out.trans ho1)
  have HT1 := Lib.hid (ho1.old HBW.out id)
  clear ho1 x1 x2
  obtain ⟨W1, hW1⟩ : ∃ W1, W1 = w1.alloc (.cells #[.string s] 9) := ⟨_, rfl⟩
  have hbW1 : W1.heap[w1.heap.size]? = some (.cells #[.string s] 9 (0, 0)) := by rw [hW1]; exact heap_alloc_new w1 _
  have hoW1 : Only (fun _ => False) w1 W1 := by rw [hW1]; exact (Only.refl _ _).alloc _
  have hsW1 : W1.heap.size = w1.heap.size + 1 := by rw [hW1]; simp
  have HO2 := Lib.hid (HO1.out.trans hoW1)
  have HT2 := Lib.hid (hoW1.old HT1.out id)
  have hwr := write_ok W1 102 #[.pointer (some ⟨w1.heap.size, 0, none⟩), .pointer (some ⟨w.heap.size, 0, none⟩)] (s.data.toList ++ (beL t 2 ++ beL c 2)) HEN.out (by simp [beL])
    (fun w2 b S ho hw hS hs => rquest1_any w2 b _ S _ _ s h true _ t c hw hs (ho.old hbW1 id) (ho.old HT2.out id) ht hc (by omega))
  have HW := Lib.hid hwr
  clear hwr
  clear hoW1 hsW1 hbW1
  go_upto_region 4 with (fail)
  rw [← hW1]
  clear hW1
  go_wp2_with fail
  refine HW.out.mono ?_
  rintro e w5 ⟨rfl, ho5⟩
  have HO5 := Lib.hid (HO2.out.trans ho5)
  clear ho5
  go_wp2_with fail
  go_ret2
  exact ⟨rfl, HO5.out⟩
/-- The question of a query that is asked, or none. -/
theorem rquest_any (w : World) (h : HeadT) (nv : Value) (q : QT) (ok : QTOk q) (hv : Sl w 1 nv q.name.length (q.name.map .string)) :
    Calls Tryz.prog 59 #[.agg (qC h q.asked nv q.typ q.cls).toArray] w fun e w' => e = .returned (.tuple #[.string ⟨(askB q).toArray⟩, .int .i64 0]) ∧ Only (fun _ => False) w w' := by
  obtain ⟨i, op, des, asked, l, t, c⟩ := q
  cases asked with
  | false => exact rquest_no w h nv t c
  | true => exact rquest_yes w h nv t c l hv (ok.name rfl) ok.typ ok.cls
end Go.Proofs.YtbdfijgejkimnaaGreatDoor
