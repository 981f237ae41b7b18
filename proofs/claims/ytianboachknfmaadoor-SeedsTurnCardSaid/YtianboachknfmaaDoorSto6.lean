/- A store: Named, Ids. -/
import Derived.Test.YtianboachknfmaaDoorSto5
import Derived.Test.YtianboachknfmaaDoorRecK
namespace Go.Proofs.YtianboachknfmaaDoor
open Go.Conc Go.RowKit Go.Maps

/-- Not of a name, or gone. -/
def unnamed (name : ByteArray) (x : RecT) : Bool := !decide (splitS x.key = name) || x.gone
set_option maxRecDepth 100000 in
theorem named1_any (w : World) (B : Nat) (name : ByteArray) (x : RecT) (m : Int) (hm : w.cell? ⟨0, 0, none⟩ = some (.int .i64 m)) (hB : w.cell? ⟨B, 0, none⟩ = some (.string name)) (hk : x.key.size ≤ 1000000) :
    Calls Tryd.prog 83 #[recT x, .pointer (some ⟨B, 0, none⟩)] w fun e w' => e = .returned (.bool (unnamed name x)) ∧ Only (fun _ => False) w w' := by
  have HU := Lib.hid (show unnamed name x = (!decide (splitS x.key = name) || x.gone) from rfl)
  unfold recT
  generalize hu : unnamed name x = U at *
  obtain ⟨k1, v1, o1, a1, g1, d1⟩ := x
  simp only at hk HU ⊢
  obtain ⟨W, hW⟩ : ∃ W, W = w.alloc (.cells #[.string k1, .int .u64 v1, .int .i64 o1, .int .i64 a1, .bool g1, .string d1] 33) := ⟨_, rfl⟩
  have hbW : W.heap[w.heap.size]? = some (.cells #[.string k1, .int .u64 v1, .int .i64 o1, .int .i64 a1, .bool g1, .string d1] 33 (0, 0)) := by rw [hW]; exact heap_alloc_new w _
  have hoW : Only (fun _ => False) w W := by rw [hW]; exact (Only.refl _ _).alloc _
  have hsW : W.heap.size = w.heap.size + 1 := by rw [hW]; simp
  have hsp := split_any W k1 m (hoW.cell hm id) hk
  have hBW := hoW.cell hB id
  have HSP := Lib.hid hsp
  have HBB := Lib.hid hBW
  have HBW := Lib.hid hbW
  have HOW := Lib.hid hoW
  have HSW := Lib.hid hsW
  have HUU := Lib.hid hu
  clear hsp hBW hbW hoW hsW hu
  clear hm hB hk
  go_enter Tryd.func83, Tryd.ntmps83
  go_upto_region 1 with (fail)
  rw [← hW]
  clear hW
  have x0 : W.cell? ⟨w.heap.size, 0, none⟩ = some (.string k1) := cell_at HBW.out 0
  go_wp2_with fail
  refine HSP.out.mono ?_
  rintro e w1 ⟨rfl, ho1⟩
  have x4 : w1.cell? ⟨w.heap.size, 4, none⟩ = some (.bool g1) := cell_at (ho1.old HBW.out id) 4
  have xb := ho1.cell HBB.out id
  have ho2 := HOW.out.trans ho1
  have HO2 := Lib.hid ho2
  clear ho2
  clear x0 ho1
  generalize splitS k1 = nm at *
  by_cases h : nm = name
  · have hs := str_eq h
    have hU : U = g1 := by rw [HU.out, h]; simp
    have HE := Lib.hid h
    have HUE := Lib.hid hU
    clear h hU
    go_wp2_with fail
    go_ret
    exact ⟨ret_bool HUE.out.symm, HO2.out⟩
  · have hs := str_ne h
    have hU : U = true := by rw [HU.out, decide_eq_false h]; rfl
    have HE := Lib.hid h
    have HUE := Lib.hid hU
    clear h hU
    go_wp2_with fail
    go_ret
    exact ⟨ret_bool HUE.out.symm, HO2.out⟩
set_option maxRecDepth 100000 in
theorem snamed_any (w : World) (s b : Nat) (most ttl r : Int) (L : List RecT) (h : StoreAt w s b most ttl r L) (name : ByteArray) (m : Int) (hm : w.cell? ⟨0, 0, none⟩ = some (.int .i64 m)) :
    Calls Tryd.prog 42 #[.pointer (some ⟨s, 0, none⟩), .string name] w fun e w' => ∃ v, e = .returned v ∧ Only (fun _ => False) w w' ∧ RecRow w' w.heap.size v (L.filter (fun x => !unnamed name x)) := by
  obtain ⟨W, hW⟩ : ∃ W, W = w.alloc (.cells #[.string name] 9) := ⟨_, rfl⟩
  have hbW : W.heap[w.heap.size]? = some (.cells #[.string name] 9 (0, 0)) := by rw [hW]; exact heap_alloc_new w _
  have hoW : Only (fun _ => False) w W := by rw [hW]; exact (Only.refl _ _).alloc _
  have hsW : W.heap.size = w.heap.size + 1 := by rw [hW]; simp
  have hhW := h.new hoW
  have hmW := hoW.cell hm id
  have hL := h.ok.len
  have hgk : ∀ x ∈ L, x.key.size ≤ 1000000 := fun x hx => by have := good_keys (h.ok.goods x hx).1; omega
  have hmf : ∀ (fn : Fn) (first cap : Array Value) (w : World), (Instr.makeFunc fn first cap).run Tryd.prog w = .ok (.func fn first cap) w := fun _ _ _ _ => rfl
  have hxW : W.cell? ⟨w.heap.size, 0, none⟩ = some (.string name) := cell_at hbW 0
  have HH := Lib.hid hhW
  have HM := Lib.hid hmW
  have HX := Lib.hid hxW
  have HOW := Lib.hid hoW
  have HSW := Lib.hid hsW
  have HGK := Lib.hid hgk
  clear hhW hmW hxW hoW hsW hgk
  clear h hm hbW
  go_enter Tryd.func42, Tryd.ntmps42
  go_upto_region 1 with (fail)
  rw [← hW]
  clear hW
  go_wp2_with fail
  refine (sall_any W s b most ttl r L HH.out).mono ?_
  rintro e w1 ⟨v, rfl, ho1, hrow⟩
  have hp : RecPred 83 #[.pointer (some ⟨w.heap.size, 0, none⟩)] (unnamed name) L v.ownBlock w1 := by
    intro x hx W1 hW1
    have hne : ∀ k, k < W.heap.size → ¬ v.ownBlock = some k := fun k hk e => by have := (hrow.lt k e).1; omega
    have hs := HSW.out
    have hm1 := HM.out
    exact named1_any W1 w.heap.size name x m (hW1.cell (ho1.cell hm1 id) (hne _ (World.block_lt_of_cell? _ _ hm1))) (hW1.cell (ho1.cell HX.out id) (hne _ (by show w.heap.size < W.heap.size; omega))) (HGK.out x hx)
  have HD := Lib.hid (rdel_any w1 W.heap.size v L 83 #[.pointer (some ⟨w.heap.size, 0, none⟩)] (unnamed name) hrow (by omega) (enters_of Tryd.func83 (by kernel_rfl) rfl) hp)
  have hlt : ∀ k, v.ownBlock = some k → W.heap.size ≤ k := fun k e => (hrow.lt k e).1
  have HLT := Lib.hid hlt
  have HO1 := Lib.hid ho1
  clear hlt ho1
  clear hrow hp
  go_wp2_with fail
  refine HD.out.mono ?_
  rintro e w2 ⟨v2, rfl, ho2, hrow2⟩
  have HO2 := Lib.hid ho2
  have HR2 := Lib.hid hrow2
  clear ho2 hrow2
  go_wp2_with fail
  go_ret
  refine ⟨v2, rfl, (HOW.out.trans HO1.out).tr HO2.out (fun i hi e => ?_), ownsRow_base_a HR2.out (by have := HSW.out; omega)⟩
  have h1 := HLT.out i e
  have h2 := HSW.out
  omega
/-- The two cells of a record's id. -/
def idC (x : RecT) : List Value := [.string x.key, .int .u64 x.ver]
theorem idC_length (x : RecT) : (idC x).length = 2 := rfl
theorem idC_one (x : RecT) : ∀ u ∈ idC x, u.oneCell' = true := by
  intro u hu
  simp only [idC, List.mem_cons, List.not_mem_nil, or_false] at hu
  rcases hu with rfl | rfl <;> rfl
abbrev IdRow (w : World) (base : Nat) (v : Value) (L : List RecT) : Prop := w.ownsRow base 31 2 v L.length (L.flatMap idC)
theorem sids_nil (w : World) : Calls Tryd.prog 46 #[.pointer none] w fun e w' => e = .returned (.slice none 0 0) ∧ w = w' := by
  go_enter Tryd.func46, Tryd.ntmps46
  go_wp2_with fail
  refine (sall_nil w).mono ?_
  rintro e w1 ⟨rfl, rfl⟩
  go_wp2_with fail
  refine wp_loop_rounds 1 ?_
  rw [rounds_succ]
  go_wp2_with fail
  go_ret
  exact ⟨rfl, rfl⟩
set_option maxRecDepth 100000 in
theorem sids_any (w : World) (s b : Nat) (most ttl r : Int) (L : List RecT) (h : StoreAt w s b most ttl r L) :
    Calls Tryd.prog 46 #[.pointer (some ⟨s, 0, none⟩)] w fun e w' => ∃ v, e = .returned v ∧ Only (fun _ => False) w w' ∧ IdRow w' w.heap.size v L := by
  obtain ⟨i0, hi0, iz0, iz1, iz2⟩ := info_parts infoId
  have hLl := h.ok.len
  have HALL := Lib.hid (sall_any w s b most ttl r L h)
  clear h
  go_enter Tryd.func46, Tryd.ntmps46
  go_wp2_with fail
  refine HALL.out.mono ?_
  rintro e w1 ⟨v, rfl, ho1, hrow⟩
  obtain ⟨ka, kcap, rfl, k1, k2, k3⟩ := Sl.cells recC_length (Sl.of_owns hrow)
  unfold maxLen at k2
  have HO1 := Lib.hid ho1
  have HK := Lib.hid k3
  clear ho1 k3
  clear hrow HALL
  go_wp2_with fail
  go_loopg [3, 9] L.length (fun g v3 v9 wr => ∃ k : Nat, v9 = .int .i64 k ∧ k ≤ L.length ∧ Only (fun _ => False) w1 wr ∧ IdRow wr w1.heap.size v3 (L.take k) ∧ g = L.length - k)
  case atStart => exact ⟨0, rfl, Nat.zero_le _, Only.refl _ _, World.ownsRow_nil w1 _ _ _, rfl⟩
  case round =>
    obtain ⟨k, rfl, hk, ho, hown, hg⟩ := hrel
    have Hg := Lib.hid hg
    have HO := Lib.hid ho
    have HW := Lib.hid hown
    clear hg ho hown
    by_cases hlt : k < L.length
    · obtain ⟨kb, koff, ha, hc⟩ := HK.out.at k hlt
      subst ha
      have hcr : ∀ i u, (recC L[k])[i]? = some u → wr.cell? ⟨kb, koff + k * 6 + i, none⟩ = some u := fun i u hu => HO.out.cell (hc i u hu) id
      have htk : L.take (k + 1) = L.take k ++ [L[k]] := by rw [List.take_add_one, List.getElem?_eq_getElem hlt]; rfl
      have hln : (L.take k).length = k := by simp; omega
      have HTK := Lib.hid htk
      have HLN := Lib.hid hln
      clear htk hln
      generalize L[k] = x at *
      obtain ⟨k1, v1, o1, a1, g1, d1⟩ := x
      have y0 : wr.cell? ⟨kb, koff + k * 6, none⟩ = some (.string k1) := hcr 0 _ rfl
      have y1 := hcr 1 _ rfl
      have y2 := hcr 2 _ rfl
      have y3 := hcr 3 _ rfl
      have y4 := hcr 4 _ rfl
      have y5 := hcr 5 _ rfl
      clear hc hcr
      simp only at y1 y2 y3 y4 y5
      have hlt' : (k : Int) < (L.length : Int) := by omega
      obtain ⟨W, hW⟩ : ∃ W, W = wr.alloc (.cells #[.string k1, .int .u64 v1, .int .i64 o1, .int .i64 a1, .bool g1, .string d1] 33) := ⟨_, rfl⟩
      have hbW : W.heap[wr.heap.size]? = some (.cells #[.string k1, .int .u64 v1, .int .i64 o1, .int .i64 a1, .bool g1, .string d1] 33 (0, 0)) := by rw [hW]; exact heap_alloc_new wr _
      have hoW : Only (fun _ => False) wr W := by rw [hW]; exact (Only.refl _ _).alloc _
      have hsW : W.heap.size = wr.heap.size + 1 := by rw [hW]; simp
      have HBW := Lib.hid hbW
      have HOW := Lib.hid hoW
      have HSW := Lib.hid hsW
      clear hbW hoW hsW
      go_upto_region 5 with (fail)
      rw [← hW]
      clear hW y0 y1 y2 y3 y4 y5
      have x0 : W.cell? ⟨wr.heap.size, 0, none⟩ = some (.string k1) := cell_at HBW.out 0
      have x1 : W.cell? ⟨wr.heap.size, 1, none⟩ = some (.int .u64 v1) := cell_at HBW.out 1
      go_wp2_with (at_builtin; refine Wait.mk ?_)
      refine Wait.go (wpList_append_src _ rfl (.tmp 13) (.tmp 16) 57 57 rfl w1.heap.size 31 i0 _ 2 24 Tryd.underlying57 hi0 iz0 iz1 iz2 rfl _ (L.take k).length ((L.take k).flatMap idC) rfl ((owns_only HW.out HOW.out (fun _ _ => id)).alloc _) _ 1 (idC ⟨k1, v1, o1, a1, g1, d1⟩) rfl ?src4 ?m4 ?b4 ?base4 ?_)
      case src4 => exact Src.ofSlice _ Tryd.underlying57 _ _ _ _ rfl (news_new _ _ _) (idC_one _)
      case m4 => have := HLN.out; unfold maxLen; omega
      case b4 => have := HLN.out; omega
      case base4 => have h1 := HO.out.size; have h2 := HOW.out.size; simp; omega
      intro v4 w5 own4 gr4 hv4
      have ho5 : Only (fun _ => False) w1 w5 := ((HO.out.trans HOW.out).alloc _).own ((owns_only HW.out HOW.out (fun _ _ => id)).alloc _) (Nat.le_refl _) gr4
      have HO5 := Lib.hid ho5
      have HW5 := Lib.hid own4
      clear ho5 own4
      clear x0 x1 gr4 hv4
      go_wp2_with fail
      go_roundg (L.length - (k + 1))
      case measure => rw [Hg.out]; omega
      case rel =>
        refine ⟨k + 1, by go_num, by omega, HO5.out, ?_, rfl⟩
        unfold IdRow
        rw [HTK.out, List.length_append, List.flatMap_append]
        have e1 : [RecT.mk k1 v1 o1 a1 g1 d1].flatMap idC = idC ⟨k1, v1, o1, a1, g1, d1⟩ := by simp
        rw [e1]
        exact HW5.out
    · have hke : k = L.length := by omega
      have hlt' : ¬ (k : Int) < (L.length : Int) := by omega
      have hW := HW.out
      rw [hke, List.take_length] at hW
      have HW2 := Lib.hid hW
      clear hW
      clear hke
      go_wp2_with fail
      go_ret
      exact ⟨_, rfl, HO1.out.trans HO.out, ownsRow_base_a HW2.out HO1.out.size⟩
theorem snamed_nil (w : World) (name : ByteArray) : Calls Tryd.prog 42 #[.pointer none, .string name] w fun e w' => ∃ v, e = .returned v ∧ Only (fun _ => False) w w' ∧ RecRow w' w.heap.size v [] := by
  have hmf : ∀ (fn : Fn) (first cap : Array Value) (w : World), (Instr.makeFunc fn first cap).run Tryd.prog w = .ok (.func fn first cap) w := fun _ _ _ _ => rfl
  obtain ⟨W, hW⟩ : ∃ W, W = w.alloc (.cells #[.string name] 9) := ⟨_, rfl⟩
  have hbW : W.heap[w.heap.size]? = some (.cells #[.string name] 9 (0, 0)) := by rw [hW]; exact heap_alloc_new w _
  have hoW : Only (fun _ => False) w W := by rw [hW]; exact (Only.refl _ _).alloc _
  have hsW : W.heap.size = w.heap.size + 1 := by rw [hW]; simp
  have HOW := Lib.hid hoW
  clear hoW
  clear hbW hsW
  go_enter Tryd.func42, Tryd.ntmps42
  go_upto_region 1 with (fail)
  rw [← hW]
  clear hW
  go_wp2_with fail
  refine (sall_nil W).mono ?_
  rintro e w1 ⟨rfl, rfl⟩
  have HD := Lib.hid (rdel_any W W.heap.size (.slice none 0 0) [] 83 #[.pointer (some ⟨w.heap.size, 0, none⟩)] (unnamed name) (World.ownsRow_nil _ _ _ _) (by simp) (enters_of Tryd.func83 (by kernel_rfl) rfl) (fun x hx => by cases hx))
  go_wp2_with fail
  refine HD.out.mono ?_
  rintro e w2 ⟨v2, rfl, ho2, hrow2⟩
  have HO2 := Lib.hid ho2
  have HR2 := Lib.hid hrow2
  clear ho2 hrow2
  go_wp2_with fail
  go_ret
  exact ⟨v2, rfl, HOW.out.trans (HO2.out.weaken (fun i _ e => by cases e)), ownsRow_base_a HR2.out HOW.out.size⟩
end Go.Proofs.YtianboachknfmaaDoor
