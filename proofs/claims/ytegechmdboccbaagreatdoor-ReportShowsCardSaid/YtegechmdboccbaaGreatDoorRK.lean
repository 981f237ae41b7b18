/- slices.IndexFunc and DeleteFunc at ints, where the closure may make memory. -/
import Derived.Test.YtegechmdboccbaaGreatDoorRG
import Derived.Test.YtegechmdboccbaaGreatDoorRE
import Derived.Test.YtegechmdboccbaaGreatDoorRI
import Derived.Test.YtegechmdboccbaaGreatDoorIterI
import Derived.Maps.RangeWalk
import Derived.Shelf.SlIterI.Nil
import Derived.Shelf.SlIterI.Sorted
import Derived.Shelf.SortM.Plain
import Derived.Shelf.SortM.SortNone
import Derived.Test.YtegechmdboccbaaGreatDoorRJ
import Derived.Test.YtegechmdboccbaaGreatDoorRH
import Derived.Test.YtegechmdboccbaaGreatDoorRB
import Derived.Test.YtegechmdboccbaaGreatDoorRD
/-! agent: what it tells of itself. -/
namespace Go.Proofs.YtegechmdboccbaaGreatDoor
open Go.Conc Go.RowKit Go.Maps

theorem parts_f0 (a b c d e : Value) : ∀ w, (Instr.field 96 (.agg #[a, b, c, d, e]) 0).run Tryz.prog w = .ok a w := fun _ => by kernel_rfl
theorem parts_f1 (a b c d e : Value) : ∀ w, (Instr.field 96 (.agg #[a, b, c, d, e]) 1).run Tryz.prog w = .ok b w := fun _ => by kernel_rfl
theorem parts_f2 (a b c d e : Value) : ∀ w, (Instr.field 96 (.agg #[a, b, c, d, e]) 2).run Tryz.prog w = .ok c w := fun _ => by kernel_rfl
theorem parts_f3 (a b c d e : Value) : ∀ w, (Instr.field 96 (.agg #[a, b, c, d, e]) 3).run Tryz.prog w = .ok d w := fun _ => by kernel_rfl
theorem parts_f4 (a b c d e : Value) : ∀ w, (Instr.field 96 (.agg #[a, b, c, d, e]) 4).run Tryz.prog w = .ok e w := fun _ => by kernel_rfl
def partsC (a b c d e : Value) : List Value := [a, b, c, d, e]
theorem infoParts (a b c d e : Value) : (Tryz.prog.info? 96).map (·.size) = some (partsC a b c d e).toArray.size := by kernel_rfl
def agPs (B : AgBlk) : List Value := partsC (.pointer (some ⟨B.ov, 0, none⟩)) (.pointer (some ⟨B.s, 0, none⟩)) (.pointer (some ⟨B.t, 0, none⟩)) (.pointer (some ⟨B.sd, 0, none⟩)) (.pointer (some ⟨B.k, 0, none⟩))
theorem agPs_one (B : AgBlk) : (agPs B).toArray.all (·.oneCell') = true := by
  rw [List.all_toArray]; rfl
theorem infoAg (B : AgBlk) : (Tryz.prog.info? 96).map (·.size) = some (agPs B).toArray.size := by kernel_rfl
abbrev nilP : Value := .pointer none
def nilPs : List Value := partsC nilP nilP nilP nilP nilP
theorem infoNilPs : (Tryz.prog.info? 96).map (·.size) = some nilPs.toArray.size := by kernel_rfl
theorem nilPs_one : nilPs.toArray.all (·.oneCell') = true := by
  rw [List.all_toArray]; rfl
set_option maxRecDepth 100000 in
theorem aheld_any (w : World) (B : AgBlk) (T : AgT) (h : AgentAt w B T) :
    Calls Tryz.prog 35 #[.pointer (some ⟨B.a, 0, none⟩)] w fun e w' => e = .returned (.agg (agPs B).toArray) ∧ Only (fun _ => False) w w' := by
  obtain ⟨W, hW⟩ : ∃ W, W = w.alloc (.cells #[.pointer none, .pointer none, .pointer none, .pointer none, .pointer none] 96) := ⟨_, rfl⟩
  have hbW : W.heap[w.heap.size]? = some (.cells #[.pointer none, .pointer none, .pointer none, .pointer none, .pointer none] 96 (0, 0)) := by rw [hW]; exact heap_alloc_new w _
  have hoW : Only (fun _ => False) w W := by rw [hW]; exact (Only.refl _ _).alloc _
  have hsW : W.heap.size = w.heap.size + 1 := by rw [hW]; simp
  have hbk := hoW.old h.blk id
  have z0 : W.cell? ⟨B.a, 0, none⟩ = some (.pointer (some ⟨B.ov, 0, none⟩)) := cell_at hbk 0
  have z1 : W.cell? ⟨B.a, 1, none⟩ = some (.pointer (some ⟨B.s, 0, none⟩)) := cell_at hbk 1
  have z2 : W.cell? ⟨B.a, 2, none⟩ = some (.pointer (some ⟨B.t, 0, none⟩)) := cell_at hbk 2
  have z3 : W.cell? ⟨B.a, 3, none⟩ = some (.pointer (some ⟨B.sd, 0, none⟩)) := cell_at hbk 3
  have z4 : W.cell? ⟨B.a, 4, none⟩ = some (.pointer (some ⟨B.k, 0, none⟩)) := cell_at hbk 4
  have HBW := Lib.hid hbW
  have HO := Lib.hid hoW
  clear hbW hoW
  clear hsW h hbk
  go_enter Tryz.func35, Tryz.ntmps35
  go_upto_region 1 with (fail)
  rw [← hW]
  clear hW
  go_wp2_with ((with_reducible refine wpList_store_row (o := ⟨none, .store 96 (.tmp 2) (.tmp 9), _, _, _, none⟩) rfl _ _ _ rfl (w.heap.size) ((agPs B).toArray) ?_ ?_ 96 _ HBW.out (infoAg B) ?_ (agPs_one B) ?_); (· rfl); (· rfl); (· rfl))
  have hb9 := row_set HBW.out (agPs B).toArray
  refine bodyPost_ret (results_row rfl _ _ w.heap.size 96 _ (0, 0) _ rfl hb9 Tryz.underlying96 rfl (infoAg B)) rfl ?_
  exact ⟨rfl, HO.out.setRow (.inl (Nat.le_refl _)) _⟩
set_option maxRecDepth 100000 in
theorem aheld_nil (w : World) : Calls Tryz.prog 35 #[.pointer none] w fun e w' => e = .returned (.agg #[.pointer none, .pointer none, .pointer none, .pointer none, .pointer none]) ∧ Only (fun _ => False) w w' := by
  obtain ⟨W, hW⟩ : ∃ W, W = w.alloc (.cells #[.pointer none, .pointer none, .pointer none, .pointer none, .pointer none] 96) := ⟨_, rfl⟩
  have hbW : W.heap[w.heap.size]? = some (.cells #[.pointer none, .pointer none, .pointer none, .pointer none, .pointer none] 96 (0, 0)) := by rw [hW]; exact heap_alloc_new w _
  have hoW : Only (fun _ => False) w W := by rw [hW]; exact (Only.refl _ _).alloc _
  have hsW : W.heap.size = w.heap.size + 1 := by rw [hW]; simp
  have HBW := Lib.hid hbW
  have HO := Lib.hid hoW
  clear hbW hoW
  clear hsW
  go_enter Tryz.func35, Tryz.ntmps35
  go_upto_region 1 with (fail)
  rw [← hW]
  clear hW
  go_wp2_with ((with_reducible refine wpList_store_row (o := ⟨none, .store 96 (.tmp 2) (.tmp 5), _, _, _, none⟩) rfl _ _ _ rfl (w.heap.size) (nilPs.toArray) ?_ ?_ 96 _ HBW.out (infoNilPs) ?_ nilPs_one ?_); (· rfl); (· rfl); (· rfl))
  have hb9 := row_set HBW.out nilPs.toArray
  refine bodyPost_ret (results_row rfl _ _ w.heap.size 96 _ (0, 0) _ rfl hb9 Tryz.underlying96 rfl (infoNilPs)) rfl ?_
  exact ⟨rfl, HO.out.setRow (.inl (Nat.le_refl _)) _⟩
/-- A view that is handed on. -/
def ViewPost (w w' : World) (self : Int) (am pm : Int) (act pas : List Int) (e : Ending) : Prop :=
  ∃ va vp, e = .returned (.agg #[.int .i64 self, va, .int .i64 am, vp, .int .i64 pm]) ∧ IR w' va act ∧ IR w' vp pas ∧ Only (fun _ => False) w w'
set_option maxRecDepth 100000 in
theorem oview_any (w : World) (x : Nat) (o : OverT) (h : OverAt w x o) :
    Calls Tryz.prog 36 #[.pointer (some ⟨x, 0, none⟩)] w fun e w' => ViewPost w w' o.self o.cfg.act o.cfg.pas o.act o.pas e := by
  have HP := Lib.hid (show ∀ w' e, (∃ va vp, e = .returned (.agg #[.int .i64 o.self, va, .int .i64 o.cfg.act, vp, .int .i64 o.cfg.pas]) ∧ IR w' va o.act ∧ IR w' vp o.pas ∧ Only (fun _ => False) w w') → ViewPost w w' o.self o.cfg.act o.cfg.pas o.act o.pas e from fun _ _ h => h)
  obtain ⟨vs, va, vp, vk, hb, h1, h2, h3, h4⟩ := h.out
  obtain ⟨W, hW⟩ : ∃ W, W = w.alloc (.cells #[.int .i64 0, .slice none 0 0, .int .i64 0, .slice none 0 0, .int .i64 0] 60) := ⟨_, rfl⟩
  have hbW : W.heap[w.heap.size]? = some (.cells #[.int .i64 0, .slice none 0 0, .int .i64 0, .slice none 0 0, .int .i64 0] 60 (0, 0)) := by rw [hW]; exact heap_alloc_new w _
  have hoW : Only (fun _ => False) w W := by rw [hW]; exact (Only.refl _ _).alloc _
  have hsW : W.heap.size = w.heap.size + 1 := by rw [hW]; simp
  have hbk := hoW.old hb id
  have z8 : W.cell? ⟨x, 8, none⟩ = some (.int .i64 o.self) := cell_at hbk 8
  have z9 : W.cell? ⟨x, 9, none⟩ = some va := cell_at hbk 9
  have z10 : W.cell? ⟨x, 10, none⟩ = some (.int .i64 o.cfg.act) := cell_at hbk 10
  have z11 : W.cell? ⟨x, 11, none⟩ = some vp := cell_at hbk 11
  have z12 : W.cell? ⟨x, 12, none⟩ = some (.int .i64 o.cfg.pas) := cell_at hbk 12
  obtain ⟨a1, c1, rfl, _, _, _⟩ := id h2.form
  obtain ⟨a2, c2, rfl, _, _, _⟩ := id h3.form
  have HBW := Lib.hid hbW
  have HO := Lib.hid hoW
  have H2 := Lib.hid h2
  have H3 := Lib.hid h3
  clear hbW hoW h2 h3
  clear hsW h hbk hb h1 h4
  go_enter Tryz.func36, Tryz.ntmps36
  go_upto_region 1 with (fail)
  rw [← hW]
  clear hW
  go_wp2_with ((with_reducible refine wpList_store_row (o := ⟨none, .store 60 (.tmp 2) (.tmp 10), _, _, _, none⟩) rfl _ _ _ rfl (w.heap.size) ((viewC o.self (.slice a1 o.act.length c1) o.cfg.act (.slice a2 o.pas.length c2) o.cfg.pas).toArray) ?_ ?_ 60 _ HBW.out (infoView _ _ _ _ _) ?_ (viewC_one rfl rfl) ?_); (· rfl); (· rfl); (· rfl))
  have hb9 := row_set HBW.out (viewC o.self (.slice a1 o.act.length c1) o.cfg.act (.slice a2 o.pas.length c2) o.cfg.pas).toArray
  refine bodyPost_ret (results_row rfl _ _ w.heap.size 60 _ (0, 0) _ rfl hb9 Tryz.underlying60 rfl (infoView _ _ _ _ _)) rfl ?_
  have ho := HO.out.setRow (b := w.heap.size) (.inl (Nat.le_refl _)) (viewC o.self (.slice a1 o.act.length c1) o.cfg.act (.slice a2 o.pas.length c2) o.cfg.pas).toArray
  exact HP.out _ _ ⟨_, _, rfl, H2.out.new ho, H3.out.new ho, ho⟩
set_option maxRecDepth 100000 in
theorem aview_any (w : World) (B : AgBlk) (T : AgT) (h : AgentAt w B T) :
    Calls Tryz.prog 17 #[.pointer (some ⟨B.a, 0, none⟩)] w fun e w' => ViewPost w w' T.o.self T.o.cfg.act T.o.cfg.pas T.o.act T.o.pas e := by
  have HP := Lib.hid (show ∀ w' e, (∃ va vp, e = .returned (.agg #[.int .i64 T.o.self, va, .int .i64 T.o.cfg.act, vp, .int .i64 T.o.cfg.pas]) ∧ IR w' va T.o.act ∧ IR w' vp T.o.pas ∧ Only (fun _ => False) w w') → ViewPost w w' T.o.self T.o.cfg.act T.o.cfg.pas T.o.act T.o.pas e from fun _ _ h => h)
  obtain ⟨W, hW⟩ : ∃ W, W = w.alloc (.cells #[.int .i64 0, .slice none 0 0, .int .i64 0, .slice none 0 0, .int .i64 0] 60) := ⟨_, rfl⟩
  have hbW : W.heap[w.heap.size]? = some (.cells #[.int .i64 0, .slice none 0 0, .int .i64 0, .slice none 0 0, .int .i64 0] 60 (0, 0)) := by rw [hW]; exact heap_alloc_new w _
  have hoW : Only (fun _ => False) w W := by rw [hW]; exact (Only.refl _ _).alloc _
  have hsW : W.heap.size = w.heap.size + 1 := by rw [hW]; simp
  have hh := aheld_any W B T (h.new hoW)
  unfold agPs partsC at hh
  have HV := Lib.hid (fun V (hV : Only (fun _ => False) W V) => oview_any V B.ov T.o ((h.new (hoW.trans hV)).over))
  have HBW := Lib.hid hbW
  have HO := Lib.hid hoW
  have HH := Lib.hid hh
  clear hbW hoW hh
  clear hsW h
  have hf := parts_f0 (.pointer (some ⟨B.ov, 0, none⟩)) (.pointer (some ⟨B.s, 0, none⟩)) (.pointer (some ⟨B.t, 0, none⟩)) (.pointer (some ⟨B.sd, 0, none⟩)) (.pointer (some ⟨B.k, 0, none⟩))
  go_enter Tryz.func17, Tryz.ntmps17
  go_upto_region 1 with (fail)
  rw [← hW]
  clear hW
  go_wp2_with fail
  refine HH.out.mono ?_
  rintro e w1 ⟨rfl, ho1⟩
  have hvw := HV.out w1 ho1
  unfold ViewPost at hvw
  have HVW := Lib.hid hvw
  have HO1 := Lib.hid ho1
  clear hvw ho1
  go_wp2_with fail
  refine HVW.out.mono ?_
  rintro e w2 ⟨va, vp, rfl, h1, h2, ho2⟩
  obtain ⟨a1, c1, rfl, _, _, _⟩ := id h1.form
  obtain ⟨a2, c2, rfl, _, _, _⟩ := id h2.form
  have HB2 := Lib.hid (ho2.old (HO1.out.old HBW.out id) id)
  have HO2 := Lib.hid (HO.out.trans (HO1.out.trans ho2))
  have H1 := Lib.hid h1
  have H2 := Lib.hid h2
  clear h1 h2
  clear ho2 hf
  go_wp2_with ((with_reducible refine wpList_store_row (o := ⟨none, .store 60 (.tmp 2) (.tmp 6), _, _, _, none⟩) rfl _ _ _ rfl (w.heap.size) ((viewC T.o.self (.slice a1 T.o.act.length c1) T.o.cfg.act (.slice a2 T.o.pas.length c2) T.o.cfg.pas).toArray) ?_ ?_ 60 _ HB2.out (infoView _ _ _ _ _) ?_ (viewC_one rfl rfl) ?_); (· rfl); (· rfl); (· rfl))
  have hb9 := row_set HB2.out (viewC T.o.self (.slice a1 T.o.act.length c1) T.o.cfg.act (.slice a2 T.o.pas.length c2) T.o.cfg.pas).toArray
  refine bodyPost_ret (results_row rfl _ _ w.heap.size 60 _ (0, 0) _ rfl hb9 Tryz.underlying60 rfl (infoView _ _ _ _ _)) rfl ?_
  have hq : Only (fun i => i = w.heap.size) w2 (w2.setRow w.heap.size (viewC T.o.self (.slice a1 T.o.act.length c1) T.o.cfg.act (.slice a2 T.o.pas.length c2) T.o.cfg.pas).toArray) := (Only.refl (fun i => i = w.heap.size) w2).setRow (.inr rfl) _
  exact HP.out _ _ ⟨_, _, rfl, H1.out.kept hq (cells_not HB2.out (by decide)), H2.out.kept hq (cells_not HB2.out (by decide)), HO2.out.setRow (.inl (Nat.le_refl _)) _⟩
set_option maxRecDepth 100000 in
theorem arecs_any (w : World) (B : AgBlk) (T : AgT) (h : AgentAt w B T) :
    Calls Tryz.prog 33 #[.pointer (some ⟨B.a, 0, none⟩)] w fun e w' => ∃ v, e = .returned v ∧ Only (fun _ => False) w w' ∧ RecRow w' w.heap.size v T.recs := by
  have hh := aheld_any w B T h
  unfold agPs partsC at hh
  have HV := Lib.hid (fun V (hV : Only (fun _ => False) w V) => sall_any V B.s B.sb T.most T.ttl T.ref T.recs ((h.new hV).store))
  have HH := Lib.hid hh
  clear hh
  clear h
  have hf := parts_f1 (.pointer (some ⟨B.ov, 0, none⟩)) (.pointer (some ⟨B.s, 0, none⟩)) (.pointer (some ⟨B.t, 0, none⟩)) (.pointer (some ⟨B.sd, 0, none⟩)) (.pointer (some ⟨B.k, 0, none⟩))
  go_enter Tryz.func33, Tryz.ntmps33
  go_wp2_with fail
  refine HH.out.mono ?_
  rintro e w1 ⟨rfl, ho1⟩
  have hvw := HV.out w1 ho1
  have HVW := Lib.hid hvw
  have HO1 := Lib.hid ho1
  clear hvw ho1
  go_wp2_with fail
  refine HVW.out.mono ?_
  rintro e w2 ⟨v, rfl, ho2, hr⟩
  have HR := Lib.hid (ownsBase hr HO1.out.size)
  have HO2 := Lib.hid (HO1.out.trans ho2)
  clear ho2 hr hf
  go_wp2_with fail
  go_ret
  exact ⟨_, rfl, HO2.out, HR.out⟩
set_option maxRecDepth 100000 in
theorem aref_any (w : World) (B : AgBlk) (T : AgT) (h : AgentAt w B T) :
    Calls Tryz.prog 21 #[.pointer (some ⟨B.a, 0, none⟩)] w fun e w' => e = .returned (.int .i64 T.ref) ∧ Only (fun _ => False) w w' := by
  have hh := aheld_any w B T h
  unfold agPs partsC at hh
  have HV := Lib.hid (fun V (hV : Only (fun _ => False) w V) => sref_any V B.s B.sb T.most T.ttl T.ref T.recs ((h.new hV).store))
  have HH := Lib.hid hh
  clear hh
  clear h
  have hf := parts_f1 (.pointer (some ⟨B.ov, 0, none⟩)) (.pointer (some ⟨B.s, 0, none⟩)) (.pointer (some ⟨B.t, 0, none⟩)) (.pointer (some ⟨B.sd, 0, none⟩)) (.pointer (some ⟨B.k, 0, none⟩))
  go_enter Tryz.func21, Tryz.ntmps21
  go_wp2_with fail
  refine HH.out.mono ?_
  rintro e w1 ⟨rfl, ho1⟩
  have hvw := HV.out w1 ho1
  have HVW := Lib.hid hvw
  have HO1 := Lib.hid ho1
  clear hvw ho1
  go_wp2_with fail
  refine HVW.out.mono ?_
  rintro e w2 ⟨rfl, rfl⟩
  clear hf
  go_wp2_with fail
  go_ret
  exact ⟨rfl, HO1.out⟩
end Go.Proofs.YtegechmdboccbaaGreatDoor
/-! A mesh: Nodes. -/
namespace Go.Proofs.YtegechmdboccbaaGreatDoor
open Go.Conc Go.RowKit Go.Maps Go.Sort Go.Shelf

theorem sortsI (m : Nat) : AnyZI.SortsIn Tryz.prog Tryz.sortedI_ren Fence.wide m :=
  ⟨fun blk off cap ss W hH hblk hsz => callsIn_wide.2 (AnyM.slices_Sort_int Tryz.sortI blk off cap ss W hH hblk hsz),
   fun p cap W => callsIn_wide.2 (AnyM.slices_Sort_int_none Tryz.sortI p cap W)⟩
theorem lkeys_any (mb : Option Nat) (W : World) : Calls Tryz.prog 50 #[.map mb] W fun e w' => e = .returned (.func (.func 80) #[] #[.pointer (some ⟨W.heap.size, 0, none⟩)]) ∧ w' = W.alloc (.cells #[.map mb] 105) :=
  callsIn_wide.1 (AnyZI.keys_in Tryz.keysL Fence.wide 5 trivial rfl mb W)
theorem sortedI_any {H : Type} (b nn : Nat) (D0 : DataW H) (R : Value → Option (DataW H × List MemPlace)) (w : World) (hown : w.ownsMap Tryz.prog 3 R b nn D0) (hmax : Maps.size D0 ≤ maxLen) (hbytes : Maps.size D0 * 8 ≤ 140737488355328) :
    Calls Tryz.prog 49 #[.func (.func 80) #[] #[.pointer (some ⟨w.heap.size, 0, none⟩)]] (w.alloc (.cells #[.map (some b)] 105)) fun e w' => ∃ (v : Value) (ss : List Int), e = .returned v ∧ ss.Perm (intKeys D0) ∧
      w'.ownsRow (w.alloc (.cells #[.map (some b)] 105)).heap.size 3 1 v ss.length ((ss.mergeSort (fun x y => decide (x ≤ y))).map encZ) ∧ (v = .slice none 0 0 ↔ ss = []) ∧ Below (w.alloc (.cells #[.map (some b)] 105)).heap.size (w.alloc (.cells #[.map (some b)] 105)) w' := by
  have hbl := hown.lt
  have hseq : SeqGives Fence.wide 2 Tryz.prog 80 #[.pointer (some ⟨w.heap.size, 0, none⟩)] encZ (fun ss => ss.Perm (intKeys D0)) (Maps.size D0) (w.alloc (.cells #[.map (some b)] 105)) :=
    AnyZI.keys_gives (ρ := Tryz.keysL_ren) { Tryz.keysL with } Fence.wide _ trivial rfl (by omega) w.heap.size b nn D0 _ (by simp) (by simp) (by
      obtain ⟨es, clock, hb, Ft, hs, hD⟩ := hown
      exact ⟨es, clock, (Below.heap_alloc _ _ b hbl).trans hb, Ft, hs, hD⟩)
  exact callsIn_wide.1 (AnyZI.sorted_in Tryz.sortedI Fence.wide 5 trivial trivial trivial trivial rfl (by omega) (sortsI _) (enters_of Tryz.func26 (by kernel_rfl) rfl) 80 #[.pointer (some ⟨w.heap.size, 0, none⟩)] trivial (enters_of Tryz.func80 (by kernel_rfl) rfl) _ _ hmax hbytes _ hseq)
theorem intKeys_lv {w : World} {b : Nat} {lv : List Int} (h : LMap w b lv) : (intKeys (mapD Tryz.prog 3 intV Value.bool (lv.map (·, true)))).Perm lv := by
  have h1 : (((lv.map (·, true)).map (entL Tryz.prog 3 intV Value.bool)).foldr DataW.insert []).Perm ((lv.map (·, true)).map (entL Tryz.prog 3 intV Value.bool)) := WideShapes.sorted_perm _
  have h2 := h1.map (fun p => Go.intOf p.1)
  refine h2.trans ?_
  rw [List.map_map, List.map_map]
  refine List.Perm.of_eq ?_
  conv => rhs; rw [← List.map_id lv]
  refine List.map_congr_left (fun x hx => ?_)
  obtain ⟨l, hl⟩ := h.keys (x, true) (List.mem_map.2 ⟨x, hx, rfl⟩)
  simp only [Function.comp_apply, entL]
  rw [keyL_of hl]
  obtain ⟨y, hy1, hy2, _⟩ := Maps.keyOf_int_inv Tryz.underlying3 hl
  rw [hy2]
  have : intV x = intV y := hy1
  exact (intInj _ _ this).symm
set_option maxRecDepth 100000 in
theorem mnodes_any (w : World) (m lb pb : Nat) (lv : List Int) (L : PMap) (h : MeshAt w m lb pb lv L) (hl : lv.length ≤ 1000000) :
    Calls Tryz.prog 32 #[.pointer (some ⟨m, 0, none⟩)] w fun e w' => ∃ (v : Value) (ss : List Int), e = .returned v ∧ Only (fun _ => False) w w' ∧ ss.Perm lv ∧ w'.ownsRow w.heap.size 3 1 v ss.length (ss.map intV) := by
  have c0 : w.cell? ⟨m, 0, none⟩ = some (.map (some lb)) := cell_at h.blk 0
  have hsz : Maps.size (mapD Tryz.prog 3 intV Value.bool (lv.map (·, true))) ≤ 1000000 := by rw [size_mapD, List.length_map]; exact hl
  have hsrt := sortedI_any lb _ _ _ w h.live.own (by unfold maxLen; omega) (by omega)
  have hkeys := intKeys_lv h.live
  have HS := Lib.hid hsrt
  have HK := Lib.hid hkeys
  clear hsrt hkeys
  clear hsz h hl
  go_enter Tryz.func32, Tryz.ntmps32
  go_wp2_with fail
  refine (lkeys_any (some lb) w).mono ?_
  rintro e w1 ⟨rfl, rfl⟩
  clear c0
  go_wp2_with fail
  refine HS.out.mono ?_
  rintro e w2 ⟨v, ss, rfl, hp, hrow, hnil, hb⟩
  go_wp2_with fail
  go_ret
  refine ⟨v, ss.mergeSort (fun x y => decide (x ≤ y)), rfl, ((Only.refl _ _).alloc _).trans (Only.of_below hb), ((List.mergeSort_perm ss _).trans hp).trans HK.out, ?_⟩
  have h3 := ownsRow_base_a hrow (show w.heap.size ≤ _ by simp)
  rw [← List.length_mergeSort (le := fun x y => decide (x ≤ y)) ss] at h3
  exact h3
end Go.Proofs.YtegechmdboccbaaGreatDoor
/-! cluster: who is live, whose agent; a new cluster is quiet. -/
namespace Go.Proofs.YtegechmdboccbaaGreatDoor
open Go.Conc Go.RowKit Go.Maps

def srt (l : List Int) : List Int := l.mergeSort (fun x y => decide (x ≤ y))
theorem srt_up (l : List Int) : (srt l).Pairwise (· ≤ ·) := by
  have h4 := List.pairwise_mergeSort (le := fun (x y : Int) => decide (x ≤ y)) (fun a b c h1 h2 => by simp at *; omega) (fun a b => by simp; omega) l
  exact h4.imp (fun h => by simpa using h)
theorem up_ext : ∀ {a b : List Int}, a.Perm b → a.Pairwise (· ≤ ·) → b.Pairwise (· ≤ ·) → a = b
  | [], b, h, _, _ => h.nil_eq
  | x :: a, [], h, _, _ => absurd h.length_eq (by simp)
  | x :: a, y :: b, h, ha, hb => by
    have hx : x ∈ y :: b := h.subset (List.mem_cons_self ..)
    have hy : y ∈ x :: a := h.symm.subset (List.mem_cons_self ..)
    rw [List.pairwise_cons] at ha hb
    have h1 : x = y := by
      rcases List.mem_cons.1 hx with e | e
      · exact e
      · rcases List.mem_cons.1 hy with e2 | e2
        · exact e2.symm
        · have := hb.1 x e; have := ha.1 y e2; omega
    subst h1
    rw [up_ext (List.Perm.cons_inv h) ha.2 hb.2]
theorem srt_perm {a b : List Int} (h : a.Perm b) : srt a = srt b := up_ext (((List.mergeSort_perm a _).trans h).trans (List.mergeSort_perm b _).symm) (srt_up a) (srt_up b)
theorem srt_of {a : List Int} (h : a.Pairwise (· ≤ ·)) : srt a = a := up_ext (List.mergeSort_perm a _) (srt_up a) h
set_option maxRecDepth 100000 in
theorem mnodes_own (w : World) (m lb pb : Nat) (lv : List Int) (L : PMap) (h : MeshAt w m lb pb lv L) (hl : lv.length ≤ 1000000) :
    Calls Tryz.prog 32 #[.pointer (some ⟨m, 0, none⟩)] w fun e w' => ∃ v, e = .returned v ∧ w'.ownsRow w.heap.size 3 1 v (srt lv).length (rowI (srt lv)) ∧ Only (fun _ => False) w w' := by
  have c0 : w.cell? ⟨m, 0, none⟩ = some (.map (some lb)) := cell_at h.blk 0
  have hsz : Maps.size (mapD Tryz.prog 3 intV Value.bool (lv.map (·, true))) ≤ 1000000 := by rw [size_mapD, List.length_map]; exact hl
  have hsrt := sortedI_any lb _ _ _ w h.live.own (by unfold maxLen; omega) (by omega)
  have hkeys := intKeys_lv h.live
  have HS := Lib.hid hsrt
  have HK := Lib.hid hkeys
  clear hsrt hkeys
  clear hsz h hl
  go_enter Tryz.func32, Tryz.ntmps32
  go_wp2_with fail
  refine (lkeys_any (some lb) w).mono ?_
  rintro e w1 ⟨rfl, rfl⟩
  clear c0
  go_wp2_with fail
  refine HS.out.mono ?_
  rintro e w2 ⟨v, ss, rfl, hp, hrow, hnil, hb⟩
  go_wp2_with fail
  go_ret
  refine ⟨v, rfl, ?_, ((Only.refl _ _).alloc _).trans (Only.of_below hb)⟩
  have h3 := ownsRow_base_a hrow (show w.heap.size ≤ _ by simp)
  rw [← srt_perm (hp.trans HK.out)]
  have h4 : ss.length = (srt ss).length := (List.length_mergeSort (le := fun x y => decide (x ≤ y)) ss).symm
  rw [← h4]
  exact h3
theorem lvUp_eq : ∀ k, lvUp k = (List.range k).map (fun i => ((i + 1 : Nat) : Int))
  | 0 => rfl
  | k + 1 => by
    unfold lvUp upL
    rw [lvUp_eq k, List.range_succ, List.map_append]
    congr 1
    rw [List.filter_eq_self]
    intro x hx
    obtain ⟨i, hi, rfl⟩ := List.mem_map.1 hx
    have := List.mem_range.1 hi
    simp
    omega
theorem lvUp_up (k : Nat) : (lvUp k).Pairwise (· ≤ ·) := by
  rw [lvUp_eq, List.pairwise_map]
  exact List.pairwise_lt_range.imp (fun h => by omega)
theorem mem_lvUp {k : Nat} {n : Int} : n ∈ lvUp k ↔ 1 ≤ n ∧ n ≤ k := by
  rw [lvUp_eq, List.mem_map]
  constructor
  · rintro ⟨i, hi, rfl⟩
    have := List.mem_range.1 hi
    omega
  · rintro ⟨h1, h2⟩
    exact ⟨(n - 1).toNat, List.mem_range.2 (by omega), by omega⟩
theorem lvUp_length (k : Nat) : (lvUp k).length = k := by rw [lvUp_eq]; simp
section
variable {w : World} {b0 x m nb lb pb n : Nat} {c : ACfgT}
theorem ClusK.new {w' : World} {k : Nat} (h : ClusK w b0 x m nb lb pb n c k) (ho : Only (fun _ => False) w w') : ClusK w' b0 x m nb lb pb n c k := by
  obtain ⟨⟨N, h1, h2, h3, h4⟩, h5, h6, h7, h8, h9, h10⟩ := h
  refine ⟨⟨N, h1.new ho, h2, fun i hi hk => ?_, h4⟩, h5.new ho, h6, h7, h8, h9, h10⟩
  obtain ⟨B, ib, q1, q2, q3, q4⟩ := h3 i hi hk
  exact ⟨B, ib, q1, q2.new ho, ho.old q3 id, q4⟩
theorem clive_any (h : ClusK w b0 x m nb lb pb n c n) (hn : n ≤ 1000) : Calls Tryz.prog 14 #[.pointer (some ⟨x, 0, none⟩)] w fun e w' => ∃ v, e = .returned v ∧ w'.ownsRow w.heap.size 3 1 v (lvUp n).length (rowI (lvUp n)) ∧ Only (fun _ => False) w w' := by
  obtain ⟨N, h1, h2, _⟩ := h.nodes
  obtain ⟨v, hb, _⟩ := h1.blk
  have z14 : w.cell? ⟨x, 14, none⟩ = some (.pointer (some ⟨m, 0, none⟩)) := cell_at hb 14
  have hm := mnodes_own w m lb pb (lvUp n) [] h.mesh (by rw [lvUp_length]; omega)
  rw [srt_of (lvUp_up n)] at hm
  have HM := Lib.hid hm
  clear hm
  clear h h1 hb
  go_enter Tryz.func14, Tryz.ntmps14
  go_wp2_with fail
  refine HM.out.mono ?_
  rintro e w1 ⟨v, rfl, hr, ho⟩
  have HR := Lib.hid hr
  have HO := Lib.hid ho
  clear hr ho
  clear z14
  go_wp2_with fail
  go_ret
  exact ⟨_, rfl, HR.out, HO.out⟩
theorem cways_any (h : ClusK w b0 x m nb lb pb n c n) : Calls Tryz.prog 22 #[.pointer (some ⟨x, 0, none⟩)] w fun e w' => e = .returned (.slice none 0 0) ∧ Only (fun _ => False) w w' := by
  obtain ⟨N, h1, h2, _⟩ := h.nodes
  obtain ⟨v, hb, _⟩ := h1.blk
  have z14 : w.cell? ⟨x, 14, none⟩ = some (.pointer (some ⟨m, 0, none⟩)) := cell_at hb 14
  have hm := mways_none w m lb pb (lvUp n) [] h.mesh (fun _ _ => rfl)
  have HM := Lib.hid hm
  clear hm
  clear h h1 hb
  go_enter Tryz.func22, Tryz.ntmps22
  go_wp2_with fail
  refine HM.out.mono ?_
  rintro e w1 ⟨rfl, ho⟩
  have HO := Lib.hid ho
  clear ho
  clear z14
  go_wp2_with fail
  go_ret
  exact ⟨rfl, HO.out⟩
theorem csize_any {N : List NodeS} (h : ClusAt w x c m nb N) : Calls Tryz.prog 52 #[.pointer (some ⟨x, 0, none⟩)] w fun e w' => e = .returned (.int .i64 N.length) ∧ w = w' := by
  obtain ⟨v, hb, _⟩ := h.blk
  have z15 : w.cell? ⟨x, 15, none⟩ = some (.slice (some ⟨nb, 0, none⟩) N.length N.length) := cell_at hb 15
  clear h hb
  go_enter Tryz.func52, Tryz.ntmps52
  go_wp2_with fail
  go_ret
  exact ⟨rfl, rfl⟩
theorem cnode_any {N : List NodeS} (h : ClusAt w x c m nb N) (k : Int) : Calls Tryz.prog 34 #[.pointer (some ⟨x, 0, none⟩), .int .i64 k] w fun e w' => e = .returned (.bool (decide (1 ≤ k ∧ k ≤ N.length))) ∧ w = w' := by
  have hs := csize_any h
  have HS := Lib.hid hs
  clear hs
  clear h
  by_cases h1 : 1 ≤ k
  · by_cases h2 : k ≤ N.length
    · have h3 : decide (1 ≤ k ∧ k ≤ N.length) = true := decide_eq_true ⟨h1, h2⟩
      rw [h3]
      clear h3
      go_enter Tryz.func34, Tryz.ntmps34
      go_wp2_with fail
      refine HS.out.mono ?_
      rintro e w1 ⟨rfl, rfl⟩
      go_wp2_with fail
      go_ret
      exact ⟨by first | rfl | simp [h2], rfl⟩
    · have h3 : decide (1 ≤ k ∧ k ≤ N.length) = false := decide_eq_false (fun h => h2 h.2)
      rw [h3]
      clear h3
      go_enter Tryz.func34, Tryz.ntmps34
      go_wp2_with fail
      refine HS.out.mono ?_
      rintro e w1 ⟨rfl, rfl⟩
      go_wp2_with fail
      go_ret
      exact ⟨by first | rfl | simp [h2], rfl⟩
  · have h3 : decide (1 ≤ k ∧ k ≤ N.length) = false := decide_eq_false (fun h => h1 h.1)
    rw [h3]
    clear h3
    go_enter Tryz.func34, Tryz.ntmps34
    go_wp2_with fail
    go_ret
    exact ⟨rfl, rfl⟩
theorem cagent_any {N : List NodeS} (h : ClusAt w x c m nb N) (i : Nat) (hi : i < N.length) (hN : N.length ≤ 1000) : Calls Tryz.prog 16 #[.pointer (some ⟨x, 0, none⟩), .int .i64 (i + 1 : Nat)] w fun e w' => e = .returned (.pointer (N[i].ag.map fun a => ⟨a, 0, none⟩)) ∧ w = w' := by
  have hn := cnode_any h (i + 1 : Nat)
  rw [decide_eq_true (show 1 ≤ ((i + 1 : Nat) : Int) ∧ ((i + 1 : Nat) : Int) ≤ N.length by omega)] at hn
  obtain ⟨v, hb, _⟩ := h.blk
  have z15 : w.cell? ⟨x, 15, none⟩ = some (.slice (some ⟨nb, 0, none⟩) N.length N.length) := cell_at hb 15
  have y0 := h.cell i hi 0 (by decide)
  simp only [nodeC, List.getElem?_cons_zero, Nat.add_zero] at y0
  generalize N[i].ag = ag at *
  obtain ⟨ln, hln⟩ : ∃ ln, ln = N.length := ⟨_, rfl⟩
  rw [← hln] at z15 hi hN
  clear hln
  have HN := Lib.hid hn
  clear hn
  clear h hb
  go_enter Tryz.func16, Tryz.ntmps16
  go_wp2_with fail
  refine HN.out.mono ?_
  rintro e w1 ⟨rfl, rfl⟩
  go_wp2_with fail
  go_ret
  exact ⟨rfl, rfl⟩
theorem cagent_no {N : List NodeS} (h : ClusAt w x c m nb N) (k : Int) (hk : ¬ (1 ≤ k ∧ k ≤ N.length)) : Calls Tryz.prog 16 #[.pointer (some ⟨x, 0, none⟩), .int .i64 k] w fun e w' => e = .returned (.pointer none) ∧ w = w' := by
  have hn := cnode_any h k
  rw [decide_eq_false hk] at hn
  have HN := Lib.hid hn
  clear hn
  clear h hk
  go_enter Tryz.func16, Tryz.ntmps16
  go_wp2_with fail
  refine HN.out.mono ?_
  rintro e w1 ⟨rfl, rfl⟩
  go_wp2_with fail
  go_ret
  exact ⟨rfl, rfl⟩
theorem rec_nil {w : World} {base : Nat} {v : Value} (h : RecRow w base v []) : ∃ s cap, v = .slice s 0 cap := by
  rcases h.2 with ⟨h2, _⟩ | ⟨g, cap, cur, h2, _⟩
  · exact ⟨none, 0, h2⟩
  · exact ⟨_, cap, h2⟩
end
end Go.Proofs.YtegechmdboccbaaGreatDoor
/-! report: held, behind, active of a cluster whose nodes hold nothing and know nobody. -/
namespace Go.Proofs.YtegechmdboccbaaGreatDoor
open Go.Conc Go.RowKit Go.Maps

/-- An agent that holds nothing and knows nobody. -/
structure AQ (w : World) (a : Nat) : Prop where
  recs : ∀ W, Only (fun _ => False) w W → Calls Tryz.prog 33 #[.pointer (some ⟨a, 0, none⟩)] W fun e w' => ∃ s cap, e = .returned (.slice s 0 cap) ∧ Only (fun _ => False) W w'
  view : ∀ W, Only (fun _ => False) w W → Calls Tryz.prog 17 #[.pointer (some ⟨a, 0, none⟩)] W fun e w' => ∃ self am pm va vp, e = .returned (.agg #[.int .i64 self, va, .int .i64 am, vp, .int .i64 pm]) ∧ IR w' va [] ∧ IR w' vp [] ∧ Only (fun _ => False) W w'
  ref : ∀ W, Only (fun _ => False) w W → Calls Tryz.prog 21 #[.pointer (some ⟨a, 0, none⟩)] W fun e w' => e = .returned (.int .i64 0) ∧ Only (fun _ => False) W w'
/-- A cluster of such agents, the live ones l, A their blocks; nothing on its ways. -/
structure QC (w : World) (cv : Value) (l : List Int) (A : Int → Nat) : Prop where
  live : ∀ W, Only (fun _ => False) w W → Calls Tryz.prog 14 #[cv] W fun e w' => ∃ v, e = .returned v ∧ w'.ownsRow W.heap.size 3 1 v l.length (rowI l) ∧ Only (fun _ => False) W w'
  ways : ∀ W, Only (fun _ => False) w W → Calls Tryz.prog 22 #[cv] W fun e w' => e = .returned (.slice none 0 0) ∧ Only (fun _ => False) W w'
  agent : ∀ n ∈ l, ∀ W, Only (fun _ => False) w W → Calls Tryz.prog 16 #[cv, .int .i64 n] W fun e w' => e = .returned (.pointer (some ⟨A n, 0, none⟩)) ∧ W = w'
  aq : ∀ n ∈ l, AQ w (A n)
theorem AQ.new {w W : World} {a : Nat} (h : AQ w a) (ho : Only (fun _ => False) w W) : AQ W a :=
  ⟨fun V hV => h.recs V (ho.trans hV), fun V hV => h.view V (ho.trans hV), fun V hV => h.ref V (ho.trans hV)⟩
theorem QC.new {w W : World} {cv : Value} {l : List Int} {A : Int → Nat} (h : QC w cv l A) (ho : Only (fun _ => False) w W) : QC W cv l A :=
  ⟨fun V hV => h.live V (ho.trans hV), fun V hV => h.ways V (ho.trans hV), fun n hn V hV => h.agent n hn V (ho.trans hV), fun n hn => (h.aq n hn).new ho⟩
set_option maxRecDepth 100000 in
set_option maxHeartbeats 2000000 in
theorem rheld_any (w : World) (cv : Value) (l : List Int) (A : Int → Nat) (h : QC w cv l A) :
    Calls Tryz.prog 15 #[cv] w fun e w' => ∃ mb, e = .returned (.map (some mb)) ∧ w'.heap[mb]? = some (.map #[] 0) ∧ Only (fun _ => False) w w' := by
  have hmm := @run_makeMap Tryz.prog
  have HQ := Lib.hid h
  clear h
  go_enter Tryz.func15, Tryz.ntmps15
  go_upto_region 2 with (fail)
  obtain ⟨W, hW⟩ : ∃ W, W = w.alloc (.map #[] 0) := ⟨_, rfl⟩
  have hbW : W.heap[w.heap.size]? = some (.map #[] 0) := by rw [hW]; exact heap_alloc_new w _
  have hoW : Only (fun _ => False) w W := by rw [hW]; exact (Only.refl _ _).alloc _
  rw [← hW]
  have hlv := HQ.out.live W hoW
  have HBW := Lib.hid hbW
  have HOW := Lib.hid hoW
  have HLV := Lib.hid hlv
  clear hbW hoW hlv
  clear hW hmm
  go_wp2_with fail
  refine HLV.out.mono ?_
  rintro e w1 ⟨v, rfl, hr1, ho1⟩
  obtain ⟨a, cap, rfl, hc1, hc2, hat⟩ := (IR.of hr1).form
  unfold maxLen at hc2
  have HB1 := Lib.hid (ho1.old HBW.out id)
  have HO1 := Lib.hid (HOW.out.trans ho1)
  have HAT := Lib.hid hat
  clear hr1 ho1 hat
  go_wp2_with fail
  go_loopg [12] l.length (fun g v12 wr => ∃ k : Nat, v12 = .int .i64 k ∧ k ≤ l.length ∧ Only (fun _ => False) w1 wr ∧ g = l.length - k)
  case atStart => exact ⟨0, rfl, Nat.zero_le _, Only.refl _ _, rfl⟩
  case round =>
    obtain ⟨k, rfl, hk, ho, hg⟩ := hrel
    have HO := Lib.hid ho
    have Hg := Lib.hid hg
    clear ho hg
    by_cases hlt : k < l.length
    · have hlt' : (k : Int) < (l.length : Int) := by omega
      obtain ⟨b, off, rfl, p0⟩ := (HAT.out.new HO.out).at k hlt
      have hag := HQ.out.agent l[k] (List.getElem_mem hlt) wr (HO1.out.trans HO.out)
      have haq := (HQ.out.aq l[k] (List.getElem_mem hlt)).new (HO1.out.trans HO.out)
      generalize l[k] = n at *
      have HAG := Lib.hid hag
      have HAQ := Lib.hid haq
      clear hag haq
      go_wp2_with fail
      refine HAG.out.mono ?_
      rintro e w' ⟨rfl, rfl⟩
      have hrc := HAQ.out.recs wr (Only.refl _ _)
      have HRC := Lib.hid hrc
      clear hrc
      go_wp2_with fail
      refine HRC.out.mono ?_
      rintro e w3 ⟨s, rcap, rfl, ho3⟩
      have HO3 := Lib.hid (HO.out.trans ho3)
      clear ho3 p0
      go_wp2_with fail
      go_loopg [21] 0 (fun g v21 wy => v21 = .int .i64 0 ∧ Only (fun _ => False) w1 wy)
      case atStart => exact ⟨rfl, HO3.out⟩
      case round =>
        obtain ⟨rfl, hoy⟩ := hrel
        have HOY := Lib.hid hoy
        clear hoy
        go_wp2_with fail
        go_roundg (l.length - (k + 1))
        case measure => rw [Hg.out]; omega
        case rel => exact ⟨k + 1, by go_num, by omega, HOY.out, rfl⟩
    · have hlt' : ¬ (k : Int) < (l.length : Int) := by omega
      go_wp2_with fail
      go_ret
      exact ⟨_, rfl, HO.out.old HB1.out id, HO1.out.trans HO.out⟩
set_option maxRecDepth 100000 in
set_option maxHeartbeats 2000000 in
theorem rbehind_any (w : World) (cv : Value) (l : List Int) (A : Int → Nat) (h : QC w cv l A) (mb : Nat) (hb : w.heap[mb]? = some (.map #[] 0)) (n : Int) (hn : n ∈ l) :
    Calls Tryz.prog 20 #[cv, .int .i64 n, .map (some mb)] w fun e w' => e = .returned (.int .i64 0) ∧ Only (fun _ => False) w w' := by
  have hl := (MapIs.empty (P := Tryz.prog) (k := 9) (κ := Value.string) (ε := fun v : Value => v) hb).len Tryz.underlying53
  simp only [List.length_nil] at hl
  have HAG := Lib.hid (h.agent n hn w (Only.refl _ _))
  have HAQ := Lib.hid (h.aq n hn)
  clear h
  go_enter Tryz.func20, Tryz.ntmps20
  go_wp2_with fail
  refine HAG.out.mono ?_
  rintro e w' ⟨rfl, rfl⟩
  have hrc := HAQ.out.recs w (Only.refl _ _)
  have HRC := Lib.hid hrc
  clear hrc
  clear hl
  go_wp2_with fail
  refine HRC.out.mono ?_
  rintro e w3 ⟨s, rcap, rfl, ho3⟩
  have HO3 := Lib.hid ho3
  clear ho3
  go_wp2_with fail
  go_loopg [7, 17] 0 (fun g v7 v17 wy => v7 = .int .i64 0 ∧ v17 = .int .i64 0 ∧ Only (fun _ => False) w wy)
  case atStart => exact ⟨rfl, rfl, HO3.out⟩
  case round =>
    obtain ⟨rfl, rfl, hoy⟩ := hrel
    have HOY := Lib.hid hoy
    clear hoy
    go_wp2_with fail
    go_ret
    exact ⟨rfl, HOY.out⟩
set_option maxRecDepth 100000 in
theorem ractive_any (w : World) (cv : Value) (l : List Int) (A : Int → Nat) (h : QC w cv l A) (a b : Int) (ha : a ∈ l) :
    Calls Tryz.prog 19 #[cv, .int .i64 a, .int .i64 b] w fun e w' => e = .returned (.bool false) ∧ Only (fun _ => False) w w' := by
  have HAG := Lib.hid (h.agent a ha w (Only.refl _ _))
  have HAQ := Lib.hid (h.aq a ha)
  clear h
  go_enter Tryz.func19, Tryz.ntmps19
  go_wp2_with fail
  refine HAG.out.mono ?_
  rintro e w' ⟨rfl, rfl⟩
  have hvw := HAQ.out.view w (Only.refl _ _)
  have HVW := Lib.hid hvw
  clear hvw
  go_wp2_with fail
  refine HVW.out.mono ?_
  rintro e w3 ⟨self, am, pm, va, vp, rfl, hir, hip, ho3⟩
  obtain ⟨aa, ac, rfl, _, _, _⟩ := id hir.form
  obtain ⟨pa, pc, rfl, _, _, _⟩ := id hip.form
  have hhas := nshas_any w3 _ am [] hir List.Pairwise.nil (by decide) b
  unfold setV at hhas
  simp only [List.length_nil] at hhas
  have hf := view_act self (.slice aa 0 ac) am (.slice pa 0 pc) pm
  have HH := Lib.hid hhas
  have HO3 := Lib.hid ho3
  clear hhas ho3
  clear hir hip
  go_wp2_with fail
  clear hf
  refine HH.out.mono ?_
  rintro e w4 ⟨rfl, ho4⟩
  have HO4 := Lib.hid (HO3.out.trans ho4)
  clear ho4
  go_wp2_with fail
  go_ret
  exact ⟨rfl, HO4.out⟩
end Go.Proofs.YtegechmdboccbaaGreatDoor
/-! slices.IndexFunc and DeleteFunc at ints, where the closure may make memory. -/
namespace Go.Proofs.YtegechmdboccbaaGreatDoor
open Go.Conc Go.RowKit Go.Maps

/-- A function value that asks p of each number of l; it may make memory. -/
def IntPred (F : Nat) (caps : Array Value) (p : Int → Bool) (l : List Int) (w : World) : Prop :=
  ∀ x ∈ l, ∀ W, Only (fun _ => False) w W → Calls Tryz.prog F (#[.int .i64 x] ++ caps) W fun e w' => e = .returned (.bool (p x)) ∧ Only (fun _ => False) W w'
def idxZ (p : Int → Bool) (l : List Int) : Int := if l.all (fun x => !p x) then -1 else (l.findIdx p : Nat)
set_option maxRecDepth 100000 in
theorem iidx_any (w : World) (a : Option Addr) (cap : Nat) (l : List Int) (F : Nat) (caps : Array Value) (p : Int → Bool) (h : IntsAt w a l) (hl : l.length ≤ 9223372036854775807) (he : ∀ args w, (callFunc F args).run Tryz.prog w = .ok (.enter F args) w) (hp : IntPred F caps p l w) :
    Calls Tryz.prog 42 #[.slice a l.length cap, .func (.func F) #[] caps] w fun e w' => e = .returned (.int .i64 (idxZ p l)) ∧ Only (fun _ => False) w w' := by
  have HC := Lib.hid h
  have HP := Lib.hid hp
  clear h hp
  go_enter Tryz.func42, Tryz.ntmps42
  go_wp2_with fail
  go_loopg [8] l.length (fun g v8 wr => ∃ j : Nat, v8 = .int .i64 j ∧ j ≤ l.length ∧ Only (fun _ => False) w wr ∧ (∀ i (hi : i < l.length), i < j → p l[i] = false) ∧ g = l.length - j)
  case atStart => exact ⟨0, rfl, Nat.zero_le _, Only.refl _ _, fun _ _ h => absurd h (Nat.not_lt_zero _), rfl⟩
  case round =>
    obtain ⟨j, rfl, hj, ho, hall, hg⟩ := hrel
    have Hg := Lib.hid hg
    have HO := Lib.hid ho
    have HA := Lib.hid hall
    clear hg ho hall
    by_cases hlt : j < l.length
    · obtain ⟨b, off, ha, hc⟩ := (HC.out.new HO.out).at j hlt
      subst ha
      have hcall := HP.out l[j] (List.getElem_mem hlt) wr HO.out
      have hpj : ∃ q, p l[j] = q := ⟨_, rfl⟩
      obtain ⟨q, hq⟩ := hpj
      have HQ := Lib.hid hq
      rw [hq] at hcall
      clear hq
      generalize l[j] = x at hcall hc
      have HCALL := Lib.hid hcall
      clear hcall
      have hlt' : (j : Int) < (l.length : Int) := by omega
      go_wp2_with fail
      refine HCALL.out.mono ?_
      rintro e w2 ⟨rfl, ho2⟩
      have ho3 := HO.out.trans ho2
      have HO3 := Lib.hid ho3
      clear ho3
      clear ho2 hc
      cases q
      · go_wp2_with fail
        go_roundg (l.length - (j + 1))
        case measure => rw [Hg.out]; omega
        case rel =>
          refine ⟨j + 1, by go_num, by omega, HO3.out, fun i hi hij => ?_, rfl⟩
          rcases (by omega : i < j ∨ i = j) with h | rfl
          · exact HA.out i hi h
          · exact HQ.out
      · go_wp2_with fail
        go_ret
        refine ⟨?_, HO3.out⟩
        have hi : l.findIdx p = j := (List.findIdx_eq hlt).2 ⟨HQ.out, fun i hi => HA.out i (by omega) hi⟩
        have hn : l.all (fun x => !p x) = false := by
          rw [List.all_eq_false]
          exact ⟨l[j], List.getElem_mem hlt, by simp [HQ.out]⟩
        unfold idxZ
        rw [hn, hi]
        rfl
    · have hlt' : ¬ (j : Int) < (l.length : Int) := by omega
      go_wp2_with fail
      go_ret
      refine ⟨?_, HO.out⟩
      have hn : l.all (fun x => !p x) = true := by
        rw [List.all_eq_true]
        intro x hx
        obtain ⟨i, hi, rfl⟩ := List.getElem_of_mem hx
        simp [HA.out i hi (by omega)]
      unfold idxZ
      rw [hn]
      rfl
/-- Nothing is deleted. -/
theorem del_none (w : World) (a : Option Addr) (cap : Nat) (l : List Int) (F : Nat) (caps : Array Value) (h : IntsAt w a l) (hl : l.length ≤ 9223372036854775807) (he : ∀ args w, (callFunc F args).run Tryz.prog w = .ok (.enter F args) w) (hp : IntPred F caps (fun _ => false) l w) :
    Calls Tryz.prog 25 #[.slice a l.length cap, .func (.func F) #[] caps] w fun e w' => e = .returned (.slice a l.length cap) ∧ Only (fun _ => False) w w' := by
  have hi := iidx_any w a cap l F caps (fun _ => false) h hl he hp
  rw [show idxZ (fun _ => false) l = -1 from if_pos (by simp)] at hi
  have HI := Lib.hid hi
  clear hi
  clear h hp
  go_enter Tryz.func25, Tryz.ntmps25
  go_wp2_with fail
  refine HI.out.mono ?_
  rintro e w' ⟨rfl, ho⟩
  have HO := Lib.hid ho
  clear ho
  go_wp2_with fail
  go_ret
  exact ⟨rfl, HO.out⟩
end Go.Proofs.YtegechmdboccbaaGreatDoor
