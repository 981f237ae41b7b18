/- What is wanted: New, later. -/
import Derived.Test.YtefadkmdfhjaeaaWnt0
namespace Go.Proofs.Ytefadkmdfhjaeaa
open Go.Conc Go.RowKit Go.Maps

def WNewPost (w w' : World) (x kb c cb : Nat) (wait : Int) : Prop := Only (fun _ => False) w w' ∧ WantAt w' x kb c cb wait 0 [] [] ∧ w.heap.size ≤ x ∧ w.heap.size ≤ kb ∧ w.heap.size ≤ c ∧ w.heap.size ≤ cb
set_option maxRecDepth 100000 in
theorem wnew_any (w : World) (m : Int) : Calls Try.prog 7 #[.int .i64 m] w fun e w' => ∃ x kb c cb, e = .returned (.pointer (some ⟨x, 0, none⟩)) ∧ WNewPost w w' x kb c cb (min (max m 0) 1000) := by
  have hmm := @run_makeMap Try.prog
  have HN := Lib.hid (new_clk (w.alloc (.map #[] 0)) 64)
  go_enter Try.func7, Try.ntmps7
  go_wp2_with fail
  refine HN.out.mono ?_
  rintro e w2 ⟨rfl, ho2, hc2⟩
  rw [show min (max (64 : Int) 0) 64 = 64 by decide] at hc2
  have hmb : w2.heap[w.heap.size]? = some (.map #[] 0) := ho2.old (heap_alloc_new w _) id
  have hcl := lt_of_block hc2.blk
  have HO2 := Lib.hid ho2
  have HC2 := Lib.hid hc2
  have HMB := Lib.hid hmb
  clear ho2 hc2 hmb
  go_wp2_with fail
  go_ret
  have ho3 : Only (fun _ => False) w2 (w2.alloc (.cells #[.map (some w.heap.size), .pointer (some ⟨w.heap.size + 1 + 1, 0, none⟩), .int .i64 (min (max m 0) 1000)] 68)) := (Only.refl _ _).alloc _
  have hc : w2.heap.size ≤ w2.heap.size := Nat.le_refl _
  have e1 : (w.alloc (.map #[] 0)).heap.size = w.heap.size + 1 := by simp
  have hC := HC2.out
  rw [e1] at hC
  have hcl2 := lt_of_block hC.blk
  refine ⟨w2.heap.size, w.heap.size, w.heap.size + 1 + 1, w.heap.size + 1, rfl, ((Only.refl _ _).alloc _).trans (HO2.out.trans ho3), ⟨heap_alloc_new w2 _, ?_, fun e he => (by cases he), hC.kept ho3 id id, .nil, by omega, fun e he => (by cases he)⟩, by omega, by omega, by omega, by omega⟩
  exact MapIs.empty (ho3.old HMB.out id)
set_option maxRecDepth 100000 in
theorem wlater_any (w : World) (x kb c cb : Nat) (wait cnt : Int) (L : List EntW) (C : List (ByteArray × (Int × Int))) (h : WantAt w x kb c cb wait cnt L C) (now : Int) (hw0 : 0 ≤ wait) (hw : wait ≤ 1000) (hnow : -9223372036854775808 ≤ now) :
    Calls Try.prog 20 #[.pointer (some ⟨x, 0, none⟩), .int .i64 now] w fun e w' => e = .returned (.int .i64 (min now 4611686018427387904 + wait)) ∧ w = w' := by
  have c2 : w.cell? ⟨x, 2, none⟩ = some (.int .i64 wait) := cell_at h.blk 2
  have hwr : IntKind.i64.wrap (min now 4611686018427387904 + wait) = min now 4611686018427387904 + wait := by rw [IntKind.wrap_i64]; omega
  clear h
  go_enter Try.func20, Try.ntmps20
  go_wp2_with fail
  go_ret
  exact ⟨rfl, rfl⟩
/-- A key is struck out of the keys and the clock. -/
theorem WantAt.dropped {w w1 w2 : World} {x kb c cb : Nat} {wait cnt : Int} {L : List EntW} {C : List (ByteArray × (Int × Int))} (h : WantAt w x kb c cb wait cnt L C) (k : ByteArray) (ho1 : Only (fun i => i = kb) w w1) (hm : MapIs Try.prog 9 Value.string (fun v : Value => v) w1 kb (dropL (prsW L) k)) (ho2 : Only (fun i => i = cb) w1 w2) (hc : ClkIs w2 c cb 64 cnt (dropL C k)) :
    WantAt w2 x kb c cb wait cnt (dropW L k) (dropL C k) ∧ Only (footW kb c cb) w w2 := by
  obtain ⟨n1, n2, n3⟩ := h.nes
  have ho : Only (footW kb c cb) w w2 := (ho1.weaken (fun i _ e => .inl e)).trans (ho2.weaken (fun i _ e => .inr (.inr e)))
  rw [drop_prsW] at hm
  refine ⟨⟨ho.old h.blk n1, hm.kept ho2 h.ne, fun e he => row_kept (h.rows e (List.mem_filter.1 he).1) ho h.foot_not, hc, ?_, h.ne, fun e he => h.small e (List.mem_filter.1 he).1⟩, ho⟩
  have h1 := h.sync.filter (fun y => !decide (y = k))
  rw [List.filter_map, List.filter_map] at h1
  exact h1
def DropPost (w w' : World) (x kb c cb : Nat) (wait cnt : Int) (L : List EntW) (C : List (ByteArray × (Int × Int))) (k : ByteArray) : Prop := WantAt w' x kb c cb wait cnt (dropW L k) (dropL C k) ∧ Only (footW kb c cb) w w'
set_option maxRecDepth 100000 in
set_option maxHeartbeats 1000000 in
theorem wdrop_any (w : World) (x kb c cb : Nat) (wait cnt : Int) (L : List EntW) (C : List (ByteArray × (Int × Int))) (h : WantAt w x kb c cb wait cnt L C) (k : ByteArray) (hk : k.size ≤ maxLen) :
    Calls Try.prog 26 #[.pointer (some ⟨x, 0, none⟩), .string k] w fun e w' => e = .returned (.tuple #[]) ∧ DropPost w w' x kb c cb wait cnt L C k := by
  have c0 : w.cell? ⟨x, 0, none⟩ = some (.map (some kb)) := cell_at h.blk 0
  have hkb := h.keys
  have H := Lib.hid h
  have HK := Lib.hid hk
  have HNE := Lib.hid h.nes
  clear h
  go_enter Try.func26, Try.ntmps26
  go_wp2_with (first | (at_delete; refine wpList_mapDrop rfl _ _ _ rfl hkb strKeyed strInj Try.underlying64 rfl rfl (strOk hk) ?_; intro w1 hm1 ho1; have c1 : w1.cell? ⟨x, 1, none⟩ = some (.pointer (some ⟨c, 0, none⟩)) := cell_at (ho1.old H.out.blk (fun e => HNE.out.1 (.inl e))) 1) | fail)
  obtain ⟨n1, n2, n3⟩ := HNE.out
  have hc1 := H.out.clk.kept ho1 (fun e => n2 (Eq.symm e)) (fun e => H.out.ne (Eq.symm e))
  have HU := Lib.hid (unset_clk w1 c cb 64 cnt C hc1 k hk)
  have HM1 := Lib.hid hm1
  have HO1 := Lib.hid ho1
  clear hm1 ho1
  clear c0 hkb hc1 n1 n2 n3 hk
  go_wp2_with fail
  refine HU.out.mono ?_
  rintro e w2 ⟨rfl, ho2, hc2⟩
  have HO2 := Lib.hid ho2
  have HC2 := Lib.hid hc2
  clear ho2 hc2
  clear c1
  go_wp2_with fail
  go_end0
  exact ⟨rfl, H.out.dropped k HO1.out HM1.out HO2.out HC2.out⟩
end Go.Proofs.Ytefadkmdfhjaeaa
