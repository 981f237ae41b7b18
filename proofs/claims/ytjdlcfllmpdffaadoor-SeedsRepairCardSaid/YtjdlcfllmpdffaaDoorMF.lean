/- bellhoplaw15: same; what a store's reference keeps. -/
import Derived.Test.YtjdlcfllmpdffaaDoorME
import Derived.Test.YtjdlcfllmpdffaaDoorMD
import Derived.Test.YtjdlcfllmpdffaaDoorMC
import Derived.Deep.RegionHeld3
import Derived.Test.YtjdlcfllmpdffaaDoorMA
import Derived.Deep.CutBlock
/-! bellhopref15: Find, Tick, Named. -/
namespace Go.Proofs.YtjdlcfllmpdffaaDoor
open Go.Conc Go.RowKit Go.Maps

theorem infoRRec : (Tryd.prog.info? 35).map (fun i => (i.zero, i.size, i.bytes)) = some (some (recT zeroR), 6, 64) := by kernel_rfl
def rstV (most ttl : Int) (v : Value) (r : Int) : Value := .agg #[.int .i64 most, .int .i64 ttl, v, .int .i64 r]
/-- A slice of the reference's records. -/
abbrev RSl (w : World) (v : Value) (L : List RecT) : Prop := Sl w 6 v L.length (L.flatMap recC)
def findI (L : List RecT) (key : ByteArray) : Int := idxV (fun x => decide (x.key = key)) L
set_option maxRecDepth 100000 in
theorem rfind_any (w : World) (most ttl r : Int) (v : Value) (L : List RecT) (key : ByteArray) (h : RSl w v L) :
    Calls Tryd.prog 27 #[rstV most ttl v r, .string key] w fun e w' => e = .returned (.int .i64 (findI L key)) ∧ Only (fun _ => False) w w' := by
  obtain ⟨a, cap, rfl, h1, h2, h3⟩ := Sl.cells recC_length h
  unfold maxLen at h2
  unfold rstV
  obtain ⟨W, hW⟩ : ∃ W, W = w.alloc (.cells #[.int .i64 most, .int .i64 ttl, .slice a L.length cap, .int .i64 r] 65) := ⟨_, rfl⟩
  have hbW : W.heap[w.heap.size]? = some (.cells #[.int .i64 most, .int .i64 ttl, .slice a L.length cap, .int .i64 r] 65 (0, 0)) := by rw [hW]; exact heap_alloc_new w _
  have hoW : Only (fun _ => False) w W := by rw [hW]; exact (Only.refl _ _).alloc _
  have hsW : W.heap.size = w.heap.size + 1 := by rw [hW]; simp
  have hC := h3.new hoW (fun _ _ _ => id)
  have x2 : W.cell? ⟨w.heap.size, 2, none⟩ = some (.slice a L.length cap) := cell_at hbW 2
  have HC := Lib.hid hC
  have HOW := Lib.hid hoW
  clear hC hoW
  clear h h3 hbW hsW
  go_enter Tryd.func27, Tryd.ntmps27
  go_upto_region 1 with (fail)
  rw [← hW]
  clear hW
  go_wp2_with fail
  go_loopg [5] L.length (fun g v5 wr => ∃ j : Nat, v5 = .int .i64 j ∧ j ≤ L.length ∧ W = wr ∧ (∀ i (hi : i < L.length), i < j → L[i].key ≠ key) ∧ g = L.length - j)
  case atStart => exact ⟨0, rfl, Nat.zero_le _, rfl, fun _ _ h => absurd h (Nat.not_lt_zero _), rfl⟩
  case round =>
    obtain ⟨j, rfl, hj, rfl, hall, hg⟩ := hrel
    have Hg := Lib.hid hg
    have HA := Lib.hid hall
    clear hg hall
    by_cases hlt : j < L.length
    · obtain ⟨b, off, ha, hc⟩ := HC.out.at j hlt
      subst ha
      have y0 : W.cell? ⟨b, off + j * 6, none⟩ = some (.string L[j].key) := hc 0 _ rfl
      have hkj : ∃ k1, L[j].key = k1 := ⟨_, rfl⟩
      obtain ⟨k1, hk1⟩ := hkj
      rw [hk1] at y0
      have HK1 := Lib.hid hk1
      clear hk1
      clear hc
      have hlt' : (j : Int) < (L.length : Int) := by omega
      by_cases hx : k1 = key
      · have hxb := str_eq hx
        have HX := Lib.hid hx
        clear hx
        go_wp2_with fail
        go_ret
        refine ⟨?_, HOW.out⟩
        have hp : decide (L[j].key = key) = true := decide_eq_true (HK1.out.trans HX.out)
        have hi : L.findIdx (fun x => decide (x.key = key)) = j := (List.findIdx_eq hlt).2 ⟨hp, fun i hi => decide_eq_false (HA.out i (by omega) hi)⟩
        have hn : L.all (fun x => !decide (x.key = key)) = false := by
          rw [List.all_eq_false]
          exact ⟨L[j], List.getElem_mem hlt, by simp [HK1.out, HX.out]⟩
        unfold findI idxV
        rw [hn, hi]
        rfl
      · have hxb := str_ne hx
        have HX := Lib.hid hx
        clear hx
        go_wp2_with fail
        go_roundg (L.length - (j + 1))
        case measure => rw [Hg.out]; omega
        case rel =>
          refine ⟨j + 1, by go_num, by omega, rfl, fun i hi hij => ?_, rfl⟩
          rcases (by omega : i < j ∨ i = j) with h | rfl
          · exact HA.out i hi h
          · rw [HK1.out]; exact HX.out
    · have hlt' : ¬ (j : Int) < (L.length : Int) := by omega
      go_wp2_with fail
      go_ret
      refine ⟨?_, HOW.out⟩
      have hn : L.all (fun x => !decide (x.key = key)) = true := by
        rw [List.all_eq_true]
        intro x hx
        obtain ⟨i, hi, rfl⟩ := List.getElem_of_mem hx
        simp [HA.out i hi (by omega)]
      unfold findI idxV
      rw [hn]
      rfl
/-- A slice of the reference's records, of the call's own. -/
abbrev RRow (w : World) (base : Nat) (v : Value) (L : List RecT) : Prop := w.ownsRow base 35 6 v L.length (L.flatMap recC)
set_option maxRecDepth 100000 in
set_option maxHeartbeats 1000000 in
theorem rtick_any (w : World) (most ttl r : Int) (v : Value) (L : List RecT) (h : RSl w v L) (hL : L.length ≤ 1000000) (hag : ∀ x ∈ L, 0 ≤ x.age ∧ x.age < 1000000) :
    Calls Tryd.prog 26 #[rstV most ttl v r] w fun e w' => ∃ v', e = .returned (.tuple #[rstV most ttl v' r, .int .i64 ((L.length : Int) - (tickS ttl L).length)]) ∧ Only (fun _ => False) w w' ∧ RSl w' v' (tickS ttl L) := by
  obtain ⟨i0, hi0, iz0, iz1, iz2⟩ := info_parts infoRRec
  obtain ⟨a, cap, rfl, h1, h2, h3⟩ := Sl.cells recC_length h
  unfold maxLen at h2
  unfold rstV
  obtain ⟨W, hW⟩ : ∃ W, W = w.alloc (.cells #[.int .i64 most, .int .i64 ttl, .slice a L.length cap, .int .i64 r] 65) := ⟨_, rfl⟩
  have hbW : W.heap[w.heap.size]? = some (.cells #[.int .i64 most, .int .i64 ttl, .slice a L.length cap, .int .i64 r] 65 (0, 0)) := by rw [hW]; exact heap_alloc_new w _
  have hoW : Only (fun _ => False) w W := by rw [hW]; exact (Only.refl _ _).alloc _
  have hsW : W.heap.size = w.heap.size + 1 := by rw [hW]; simp
  obtain ⟨W1, hW1⟩ : ∃ W1, W1 = W.alloc (.cells #[.int .i64 0, .int .i64 0, .slice none 0 0, .int .i64 0] 65) := ⟨_, rfl⟩
  have hbW1 : W1.heap[W.heap.size]? = some (.cells #[.int .i64 0, .int .i64 0, .slice none 0 0, .int .i64 0] 65 (0, 0)) := by rw [hW1]; exact heap_alloc_new W _
  have hoW1 : Only (fun _ => False) W W1 := by rw [hW1]; exact (Only.refl _ _).alloc _
  have hsW1 : W1.heap.size = W.heap.size + 1 := by rw [hW1]; simp
  have hb1 := hoW1.old hbW id
  have hC := (h3.new hoW (fun _ _ _ => id)).new hoW1 (fun _ _ _ => id)
  have hoA := hoW.trans hoW1
  have hlt2 : w.heap.size < W1.heap.size ∧ W.heap.size = w.heap.size + 1 ∧ W1.heap.size = w.heap.size + 2 := by omega
  rw [hlt2.2.1] at hbW1
  have HC := Lib.hid hC
  have HB1 := Lib.hid hb1
  have HB2 := Lib.hid hbW1
  have HOA := Lib.hid hoA
  have HAG := Lib.hid hag
  have HLT := Lib.hid hlt2
  clear hC hb1 hbW1 hoA hag hlt2
  clear h h3 hbW
  go_enter Tryd.func26, Tryd.ntmps26
  go_upto_region 1 with (fail)
  rw [← hW, ← hW1]
  clear hW hW1 hsW hsW1 hoW hoW1
  generalize hX : w.heap.size = X at *
  have HXW := Lib.hid hX
  clear hX
  go_wp2_with fail
  go_loopg [4, 5] L.length (fun g v4 v5 wr => ∃ k : Nat, v5 = .int .i64 k ∧ k ≤ L.length ∧ Only (fun _ => False) W1 wr ∧ RRow wr W1.heap.size v4 (tickS ttl (L.take k)) ∧ g = L.length - k)
  case atStart => exact ⟨0, rfl, Nat.zero_le _, Only.refl _ _, World.ownsRow_nil W1 _ _ _, rfl⟩
  case round =>
    obtain ⟨k, rfl, hk, ho, hown, hg⟩ := hrel
    have x1 : wr.cell? ⟨X, 1, none⟩ = some (.int .i64 ttl) := cell_at (ho.old HB1.out id) 1
    have x2 : wr.cell? ⟨X, 2, none⟩ = some (.slice a L.length cap) := cell_at (ho.old HB1.out id) 2
    have htl := length_tick_le ttl (L.take k)
    have htl2 : (L.take k).length = k := by simp; omega
    have htk2 : (tickS ttl (L.take k)).length ≤ L.length := by omega
    have Hg := Lib.hid hg
    have HO := Lib.hid ho
    have HW := Lib.hid hown
    have HTL := Lib.hid htl
    have HTL2 := Lib.hid htl2
    clear hg ho hown htl htl2
    by_cases hlt : k < L.length
    · obtain ⟨kb, koff, ha, hc⟩ := HC.out.at k hlt
      subst ha
      have hcr : ∀ i u, (recC L[k])[i]? = some u → wr.cell? ⟨kb, koff + k * 6 + i, none⟩ = some u := fun i u hu => HO.out.cell (hc i u hu) id
      have htk : tickS ttl (L.take (k + 1)) = tickS ttl (L.take k) ++ tickS ttl [L[k]] := by
        rw [← tick_append, List.take_add_one, List.getElem?_eq_getElem hlt]; rfl
      have hxa := HAG.out _ (List.getElem_mem hlt)
      have HTK := Lib.hid htk
      clear htk
      clear hc
      generalize L[k] = x at *
      obtain ⟨k1, v1, o1, a1, g1, d1⟩ := x
      simp only at hxa
      have y0 : wr.cell? ⟨kb, koff + k * 6, none⟩ = some (.string k1) := hcr 0 _ rfl
      have y1 := hcr 1 _ rfl
      have y2 := hcr 2 _ rfl
      have y3 := hcr 3 _ rfl
      have y4 := hcr 4 _ rfl
      have y5 := hcr 5 _ rfl
      clear hcr
      simp only at y1 y2 y3 y4 y5
      have hlt' : (k : Int) < (L.length : Int) := by omega
      obtain ⟨V, hV⟩ : ∃ V, V = wr.alloc (.cells #[.string k1, .int .u64 v1, .int .i64 o1, .int .i64 (a1 + 1), .bool g1, .string d1] 35) := ⟨_, rfl⟩
      have hbV : V.heap[wr.heap.size]? = some (.cells #[.string k1, .int .u64 v1, .int .i64 o1, .int .i64 (a1 + 1), .bool g1, .string d1] 35 (0, 0)) := by rw [hV]; exact heap_alloc_new wr _
      have hoV : Only (fun _ => False) wr V := by rw [hV]; exact (Only.refl _ _).alloc _
      have hsV : V.heap.size = wr.heap.size + 1 := by rw [hV]; simp
      have HBV := Lib.hid hbV
      have HOV := Lib.hid hoV
      have HSV := Lib.hid hsV
      clear hbV hoV hsV
      go_upto_region 7 with (fail)
      rw [← hV]
      clear hV y0 y1 y2 y3 y4 y5
      have x1 := HOV.out.cell x1 id
      have x2 := HOV.out.cell x2 id
      have z0 : V.cell? ⟨wr.heap.size, 0, none⟩ = some (.string k1) := cell_at HBV.out 0
      have z1 : V.cell? ⟨wr.heap.size, 1, none⟩ = some (.int .u64 v1) := cell_at HBV.out 1
      have z2 : V.cell? ⟨wr.heap.size, 2, none⟩ = some (.int .i64 o1) := cell_at HBV.out 2
      have z3 : V.cell? ⟨wr.heap.size, 3, none⟩ = some (.int .i64 (a1 + 1)) := cell_at HBV.out 3
      have z4 : V.cell? ⟨wr.heap.size, 4, none⟩ = some (.bool g1) := cell_at HBV.out 4
      have z5 : V.cell? ⟨wr.heap.size, 5, none⟩ = some (.string d1) := cell_at HBV.out 5
      by_cases hy : a1 + 1 < ttl
      · have ht1 : tickS ttl [RecT.mk k1 v1 o1 a1 g1 d1] = [RecT.mk k1 v1 o1 (a1 + 1) g1 d1] := by rw [tick_one]; exact if_pos hy
        rw [ht1] at HTK
        clear ht1
        go_wp2_with (at_builtin; refine Wait.mk ?_)
        refine Wait.go (wpList_append_src _ rfl (.tmp 29) (.tmp 31) 63 63 rfl W1.heap.size 35 i0 _ 6 64 Tryd.underlying63 hi0 iz0 iz1 iz2 rfl _ (tickS ttl (L.take k)).length ((tickS ttl (L.take k)).flatMap recC) rfl ((owns_only HW.out HOV.out (fun _ _ => id)).alloc _) _ 1 (recC ⟨k1, v1, o1, a1 + 1, g1, d1⟩) rfl ?src4 ?m4 ?b4 ?base4 ?_)
        case src4 => exact Src.ofSlice _ Tryd.underlying63 _ _ _ _ rfl (news_new _ _ _) (recC_one _)
        case m4 => have h5 := HTL.out; have h6 := HTL2.out; unfold maxLen; omega
        case b4 => have h5 := HTL.out; have h6 := HTL2.out; omega
        case base4 => have h5 := HO.out.size; have h6 := HOV.out.size; simp; omega
        intro v4 w5 own4 gr4 hv4
        have ho5 : Only (fun _ => False) W1 w5 := ((HO.out.trans HOV.out).alloc _).own ((owns_only HW.out HOV.out (fun _ _ => id)).alloc _) (Nat.le_refl _) gr4
        have HO5 := Lib.hid ho5
        have HW5 := Lib.hid own4
        clear ho5 own4
        clear gr4 hv4 z0 z1 z2 z3 z4 z5 x1 x2
        go_wp2_with fail
        go_roundg (L.length - (k + 1))
        case measure => rw [Hg.out]; omega
        case rel =>
          refine ⟨k + 1, by go_num, by omega, HO5.out, ?_, rfl⟩
          unfold RRow
          rw [HTK.out, List.length_append, List.flatMap_append]
          have e1 : [RecT.mk k1 v1 o1 (a1 + 1) g1 d1].flatMap recC = recC ⟨k1, v1, o1, a1 + 1, g1, d1⟩ := by simp
          rw [e1]
          exact HW5.out
      · have ht1 : tickS ttl [RecT.mk k1 v1 o1 a1 g1 d1] = [] := by rw [tick_one]; exact if_neg hy
        rw [ht1, List.append_nil] at HTK
        clear ht1
        go_wp2_with fail
        go_roundg (L.length - (k + 1))
        case measure => rw [Hg.out]; omega
        case rel =>
          refine ⟨k + 1, by go_num, by omega, HO.out.trans HOV.out, ?_, rfl⟩
          rw [HTK.out]
          exact owns_only HW.out HOV.out (fun _ _ => id)
    · have hke : k = L.length := by omega
      have hlt' : ¬ (k : Int) < (L.length : Int) := by omega
      have hW := HW.out
      rw [hke, List.take_length] at hW htk2
      have hsl := Sl.of_owns hW
      obtain ⟨_, a4, cap4, rfl, g1, g2, g3⟩ := id hsl
      unfold maxLen at g2
      have HW2 := Lib.hid hW
      clear hW
      clear hke hsl g3
      have hb1r := HO.out.old HB1.out id
      have hb2r := HO.out.old HB2.out id
      have x0 : wr.cell? ⟨X, 0, none⟩ = some (.int .i64 most) := cell_at hb1r 0
      have x3 : wr.cell? ⟨X, 3, none⟩ = some (.int .i64 r) := cell_at hb1r 3
      have xf : ∀ i, wr.frozen? ⟨X, i, none⟩ = false := free_at hb1r
      have z0 : wr.cell? ⟨(X + 1), 0, none⟩ = some (.int .i64 0) := cell_at hb2r 0
      have z1 : wr.cell? ⟨(X + 1), 1, none⟩ = some (.int .i64 0) := cell_at hb2r 1
      have z2 : wr.cell? ⟨(X + 1), 2, none⟩ = some (.slice none 0 0) := cell_at hb2r 2
      have z3 : wr.cell? ⟨(X + 1), 3, none⟩ = some (.int .i64 0) := cell_at hb2r 3
      have zf : ∀ i, wr.frozen? ⟨X + 1, i, none⟩ = false := free_at hb2r
      have hn1 : ¬ X + 1 = X := by omega
      have hn2 : ¬ X = X + 1 := by omega
      have HB1R := Lib.hid hb1r
      have HB2R := Lib.hid hb2r
      clear hb1r hb2r
      go_wp2_with fail
      obtain ⟨wy, hwy⟩ : ∃ wy, wy = wr.setCell ⟨X, 2, none⟩ (.slice a4 (tickS ttl L).length cap4) := ⟨_, rfl⟩
      have t1 : Only (fun i => i = X) wr wy := by rw [hwy]; exact (Only.refl _ _).setCell (S := fun i => i = X) (p := ⟨X, 2, none⟩) (.inr rfl) _
      have hb2y := t1.old HB2R.out (by omega)
      rw [← hwy]
      clear hwy x0 x1 x2 x3 xf z0 z1 z2 z3 zf
      obtain ⟨s1, s2⟩ := lit_set hb2y [.int .i64 most, .int .i64 ttl, .slice a4 (tickS ttl L).length cap4, .int .i64 r] rfl
      rw [show World.setCells wy (X + 1) 0 [.int .i64 most, .int .i64 ttl, .slice a4 (tickS ttl L).length cap4, .int .i64 r] = ((((wy.setCell ⟨(X + 1), 0, none⟩ (.int .i64 most)).setCell ⟨(X + 1), 1, none⟩ (.int .i64 ttl)).setCell ⟨(X + 1), 2, none⟩ (.slice a4 (tickS ttl L).length cap4)).setCell ⟨(X + 1), 3, none⟩ (.int .i64 r)) from rfl] at s1 s2
      generalize ((((wy.setCell ⟨(X + 1), 0, none⟩ (.int .i64 most)).setCell ⟨(X + 1), 1, none⟩ (.int .i64 ttl)).setCell ⟨(X + 1), 2, none⟩ (.slice a4 (tickS ttl L).length cap4)).setCell ⟨(X + 1), 3, none⟩ (.int .i64 r)) = wz at *
      have p0 : wz.cell? ⟨(X + 1), 0, none⟩ = some (.int .i64 most) := cell_at s1 0
      have p1 : wz.cell? ⟨(X + 1), 1, none⟩ = some (.int .i64 ttl) := cell_at s1 1
      have p2 : wz.cell? ⟨(X + 1), 2, none⟩ = some (.slice a4 (tickS ttl L).length cap4) := cell_at s1 2
      have p3 : wz.cell? ⟨(X + 1), 3, none⟩ = some (.int .i64 r) := cell_at s1 3
      refine bodyPost_ret (v := .tuple #[.agg #[.int .i64 most, .int .i64 ttl, .slice a4 (tickS ttl L).length cap4, .int .i64 r], .int .i64 ((L.length : Int) - (tickS ttl L).length)]) (by simp [results, Tryd.results26, go_sem, p0, p1, p2, p3]) rfl ?_
      have hl := HLT.out
      have h5 := HOA.out.size
      have h8 := HXW.out
      refine ⟨_, rfl, ?_, ?_⟩
      · have h6 := HOA.out.trans HO.out
        exact (h6.tr t1 (fun i hi e => by omega)).tr s2 (fun i hi e => by omega)
      · exact Sl.of_owns (owns_only (owns_only HW2.out t1 (fun k hk e => by omega)) s2 (fun k hk e => by omega))
theorem filter_snoc (p : RecT → Bool) (L : List RecT) (k : Nat) (hk : k < L.length) : (L.take (k + 1)).filter p = (L.take k).filter p ++ if p L[k] then [L[k]] else [] := by
  rw [List.take_add_one, List.getElem?_eq_getElem hk, List.filter_append]
  congr 1
  cases h : p L[k] <;> simp [h]
set_option maxRecDepth 100000 in
set_option maxHeartbeats 1000000 in
theorem rnamedR_any (w : World) (most ttl r : Int) (v : Value) (L : List RecT) (name : ByteArray) (h : RSl w v L) (hL : L.length ≤ 1000000) (hks : ∀ x ∈ L, 2 ≤ x.key.size ∧ x.key.size ≤ 1000000 ∧ splitS x.key = x.key.extract 2 x.key.size) :
    Calls Tryd.prog 31 #[rstV most ttl v r, .string name] w fun e w' => ∃ v', e = .returned v' ∧ Only (fun _ => False) w w' ∧ RSl w' v' (L.filter (fun x => !unnamed name x)) := by
  obtain ⟨i0, hi0, iz0, iz1, iz2⟩ := info_parts infoRRec
  obtain ⟨a, cap, rfl, h1, h2, h3⟩ := Sl.cells recC_length h
  unfold maxLen at h2
  unfold rstV
  obtain ⟨W, hW⟩ : ∃ W, W = w.alloc (.cells #[.int .i64 most, .int .i64 ttl, .slice a L.length cap, .int .i64 r] 65) := ⟨_, rfl⟩
  have hbW : W.heap[w.heap.size]? = some (.cells #[.int .i64 most, .int .i64 ttl, .slice a L.length cap, .int .i64 r] 65 (0, 0)) := by rw [hW]; exact heap_alloc_new w _
  have hoW : Only (fun _ => False) w W := by rw [hW]; exact (Only.refl _ _).alloc _
  have hsW : W.heap.size = w.heap.size + 1 := by rw [hW]; simp
  have hC := h3.new hoW (fun _ _ _ => id)
  have HC := Lib.hid hC
  have HB1 := Lib.hid hbW
  have HOA := Lib.hid hoW
  have HKS := Lib.hid hks
  clear hC hbW hoW hks
  clear h h3 hsW
  go_enter Tryd.func31, Tryd.ntmps31
  go_upto_region 1 with (fail)
  rw [← hW]
  clear hW
  generalize w.heap.size = X at *
  go_wp2_with fail
  go_loopg [5, 6] L.length (fun g v5 v6 wr => ∃ k : Nat, v6 = .int .i64 k ∧ k ≤ L.length ∧ Only (fun _ => False) W wr ∧ RRow wr W.heap.size v5 ((L.take k).filter (fun x => !unnamed name x)) ∧ g = L.length - k)
  case atStart => exact ⟨0, rfl, Nat.zero_le _, Only.refl _ _, World.ownsRow_nil W _ _ _, rfl⟩
  case round =>
    obtain ⟨k, rfl, hk, ho, hown, hg⟩ := hrel
    have x2 : wr.cell? ⟨X, 2, none⟩ = some (.slice a L.length cap) := cell_at (ho.old HB1.out id) 2
    have htl : ((L.take k).filter (fun x => !unnamed name x)).length ≤ k := Nat.le_trans (List.length_filter_le _ _) (by simp; omega)
    have Hg := Lib.hid hg
    have HO := Lib.hid ho
    have HW := Lib.hid hown
    have HTL := Lib.hid htl
    clear hg ho hown htl
    by_cases hlt : k < L.length
    · obtain ⟨kb, koff, ha, hc⟩ := HC.out.at k hlt
      subst ha
      have hcr : ∀ i u, (recC L[k])[i]? = some u → wr.cell? ⟨kb, koff + k * 6 + i, none⟩ = some u := fun i u hu => HO.out.cell (hc i u hu) id
      have htk := filter_snoc (fun x => !unnamed name x) L k hlt
      have hxk := HKS.out _ (List.getElem_mem hlt)
      have hun : unnamed name L[k] = (!decide (splitS L[k].key = name) || L[k].gone) := rfl
      rw [hxk.2.2] at hun
      have hk1 := hxk.1
      have hk2 := hxk.2.1
      clear hxk hc
      generalize (L.take k).filter (fun x => !unnamed name x) = A at *
      generalize unnamed name L[k] = u at *
      generalize L[k] = x at *
      obtain ⟨k1, v1, o1, a1, g1, d1⟩ := x
      simp only at hk1 hk2 hun
      have HTK := Lib.hid htk
      have HUN := Lib.hid hun
      clear htk hun
      have y0 : wr.cell? ⟨kb, koff + k * 6, none⟩ = some (.string k1) := hcr 0 _ rfl
      have y1 := hcr 1 _ rfl
      have y2 := hcr 2 _ rfl
      have y3 := hcr 3 _ rfl
      have y4 := hcr 4 _ rfl
      have y5 := hcr 5 _ rfl
      clear hcr
      simp only at y1 y2 y3 y4 y5
      have hlt' : (k : Int) < (L.length : Int) := by omega
      have hs1 : (2 : Int) ≤ (k1.size : Int) := by omega
      cases hu : u with
      | true =>
        have HU := Lib.hid (hu ▸ HUN.out : true = _)
        subst hu
        by_cases hnm : k1.extract 2 k1.size = name
        · have hxb := str_eq hnm
          have hg1 : g1 = true := by have := HU.out; rw [decide_eq_true hnm] at this; simpa using this.symm
          subst hg1
          have HNM := Lib.hid hnm
          clear hnm
          go_wp2_with fail
          go_roundg (L.length - (k + 1))
          case measure => rw [Hg.out]; omega
          case rel =>
            refine ⟨k + 1, by go_num, by omega, HO.out, ?_, rfl⟩
            rw [HTK.out]
            simpa using HW.out
        · have hxb := str_ne hnm
          have HNM := Lib.hid hnm
          clear hnm
          go_wp2_with fail
          go_roundg (L.length - (k + 1))
          case measure => rw [Hg.out]; omega
          case rel =>
            refine ⟨k + 1, by go_num, by omega, HO.out, ?_, rfl⟩
            rw [HTK.out]
            simpa using HW.out
      | false =>
        have hu2 := HUN.out
        rw [hu] at hu2
        subst hu
        have hnm : k1.extract 2 k1.size = name := by
          by_cases h : k1.extract 2 k1.size = name
          · exact h
          · rw [decide_eq_false h] at hu2; cases hu2
        have hg1 : g1 = false := by rw [decide_eq_true hnm] at hu2; simpa using hu2.symm
        subst hg1
        have hxb := str_eq hnm
        have HNM := Lib.hid hnm
        have HU2 := Lib.hid hu2
        clear hnm hu2
        go_wp2_with (at_builtin; refine Wait.mk ?_)
        refine Wait.go (wpList_append_src _ rfl (.tmp 32) (.tmp 38) 63 63 rfl W.heap.size 35 i0 _ 6 64 Tryd.underlying63 hi0 iz0 iz1 iz2 rfl _ A.length (A.flatMap recC) rfl (HW.out.alloc _) _ 1 (recC ⟨k1, v1, o1, a1, false, d1⟩) rfl ?src4 ?m4 ?b4 ?base4 ?_)
        case src4 => exact Src.ofSlice _ Tryd.underlying63 _ _ _ _ rfl (news_new _ _ _) (recC_one _)
        case m4 => have h5 := HTL.out; unfold maxLen; omega
        case b4 => have h5 := HTL.out; omega
        case base4 => have h5 := HO.out.size; simp; omega
        intro v4 w5 own4 gr4 hv4
        have ho5 : Only (fun _ => False) W w5 := (HO.out.alloc _).own (HW.out.alloc _) (Nat.le_refl _) gr4
        have HO5 := Lib.hid ho5
        have HW5 := Lib.hid own4
        clear ho5 own4
        clear gr4 hv4 y0 y1 y2 y3 y4 y5 x2
        go_wp2_with fail
        go_roundg (L.length - (k + 1))
        case measure => rw [Hg.out]; omega
        case rel =>
          refine ⟨k + 1, by go_num, by omega, HO5.out, ?_, rfl⟩
          rw [HTK.out]
          unfold RRow
          simp only [Bool.not_false, if_true]
          rw [List.length_append, List.flatMap_append]
          have e1 : [RecT.mk k1 v1 o1 a1 false d1].flatMap recC = recC ⟨k1, v1, o1, a1, false, d1⟩ := by simp
          rw [e1]
          exact HW5.out
    · have hke : k = L.length := by omega
      have hlt' : ¬ (k : Int) < (L.length : Int) := by omega
      have hW := HW.out
      rw [hke, List.take_length] at hW
      have HW2 := Lib.hid hW
      clear hW
      clear hke
      go_wp2_with fail
      go_ret
      exact ⟨_, rfl, HOA.out.trans HO.out, Sl.of_owns HW2.out⟩
end Go.Proofs.YtjdlcfllmpdffaaDoor
/-! bellhoplaw15: speaks. -/
namespace Go.Proofs.YtjdlcfllmpdffaaDoor
open Go.Conc Go.RowKit Go.Maps

def spX : RecT := ⟨⟨#[0, 1, 97]⟩, 4294967296, 1, 0, false, ⟨#[97, 98, 99, 100, 101, 102, 103, 104, 105, 106]⟩⟩
def spY : RecT := ⟨⟨#[0, 2, 97]⟩, 4294967296, 2, 0, false, ⟨#[97, 98, 99, 100, 101, 102, 103, 104, 105, 106]⟩⟩
theorem sp1 : putE 1 9 [] spX = 0 := by decide +kernel
theorem sp2 : putE 1 9 [spX] spY = 5 := by decide +kernel
theorem sp3 : findV [spX] spX.key = spX ∧ (findS [spX] spX.key).isSome = true := by
  unfold findV
  have : findS [spX] spX.key = some spX := by simp [findS]
  rw [this]
  exact ⟨rfl, rfl⟩
theorem keepD10 {w : World} {p : Addr} {v : Value} (h : w.cell? p = some v) : w.drew.cell? p = some v := h
theorem sp4 : putS 1 9 [] spX = [spX] ∧ putR 1 9 [] spX 0 = 0 := by
  unfold putS putR
  rw [sp1]
  exact ⟨rfl, rfl⟩
theorem sp5 : putS 1 9 [spX] spY = [spX] ∧ putR 1 9 [spX] spY 0 = 1 := by
  unfold putS putR
  rw [sp2]
  exact ⟨rfl, rfl⟩
theorem sput_x (w : World) (s b : Nat) (m : Int) (h : StoreAt w s b 1 9 0 []) (hm : w.cell? ⟨0, 0, none⟩ = some (.int .i64 m)) :
    Calls Tryd.prog 14 #[.pointer (some ⟨s, 0, none⟩), .agg #[.string ⟨#[0, 1, 97]⟩, .int .u64 4294967296, .int .i64 1, .int .i64 0, .bool false, .string ⟨#[97, 98, 99, 100, 101, 102, 103, 104, 105, 106]⟩]] w fun e w' => e = .returned (.int .i64 0) ∧ Only (fun i => i = s ∨ i = b) w w' ∧ StoreAt w' s b 1 9 0 [spX] := by
  have h1 := sput_any w s b 1 9 0 [] h spX m hm (by decide) (by decide) (by omega) (by omega)
  refine h1.mono ?_
  rintro e w' ⟨rfl, h2, h3⟩
  rw [sp4.1, sp4.2] at h3
  exact ⟨by rw [sp1], h2, h3⟩
theorem sput_y (w : World) (s b : Nat) (m : Int) (h : StoreAt w s b 1 9 0 [spX]) (hm : w.cell? ⟨0, 0, none⟩ = some (.int .i64 m)) :
    Calls Tryd.prog 14 #[.pointer (some ⟨s, 0, none⟩), .agg #[.string ⟨#[0, 2, 97]⟩, .int .u64 4294967296, .int .i64 2, .int .i64 0, .bool false, .string ⟨#[97, 98, 99, 100, 101, 102, 103, 104, 105, 106]⟩]] w fun e w' => e = .returned (.int .i64 5) ∧ Only (fun i => i = s ∨ i = b) w w' ∧ StoreAt w' s b 1 9 1 [spX] := by
  have h1 := sput_any w s b 1 9 0 [spX] h spY m hm (by decide) (by decide) (by omega) (by omega)
  refine h1.mono ?_
  rintro e w' ⟨rfl, h2, h3⟩
  rw [sp5.1, sp5.2] at h3
  exact ⟨by rw [sp2], h2, h3⟩
theorem sget_x (w : World) (s b : Nat) (h : StoreAt w s b 1 9 1 [spX]) : Calls Tryd.prog 16 #[.pointer (some ⟨s, 0, none⟩), .string ⟨#[0, 1, 97]⟩] w fun e w' => e = .returned (.tuple #[.agg #[.string ⟨#[0, 1, 97]⟩, .int .u64 4294967296, .int .i64 1, .int .i64 0, .bool false, .string ⟨#[97, 98, 99, 100, 101, 102, 103, 104, 105, 106]⟩], .bool true]) ∧ Only (fun _ => False) w w' := by
  have h1 := sget_any w s b 1 9 1 [spX] h spX.key (by decide)
  rw [sp3.1, sp3.2] at h1
  exact h1
theorem eqX (w : World) : (binOp BinOp.eql 33 (.agg #[.string ⟨#[0, 1, 97]⟩, .int .u64 4294967296, .int .i64 1, .int .i64 0, .bool false, .string ⟨#[97, 98, 99, 100, 101, 102, 103, 104, 105, 106]⟩]) (.agg #[.string ⟨#[0, 1, 97]⟩, .int .u64 4294967296, .int .i64 1, .int .i64 0, .bool false, .string ⟨#[97, 98, 99, 100, 101, 102, 103, 104, 105, 106]⟩])).run Tryd.prog w = .ok (.bool true) w := by
  have := eqR w ⟨#[0, 1, 97]⟩ ⟨#[0, 1, 97]⟩ ⟨#[97, 98, 99, 100, 101, 102, 103, 104, 105, 106]⟩ ⟨#[97, 98, 99, 100, 101, 102, 103, 104, 105, 106]⟩ 4294967296 1 0 4294967296 1 0 false false
  rw [this]
  simp
set_option maxRecDepth 100000 in
set_option maxHeartbeats 4000000 in
theorem speaks15_any (w : World) (m : Int) (hm : w.cell? ⟨0, 0, none⟩ = some (.int .i64 m)) :
    Calls Tryd.prog 11 #[] w fun e w' => e = .returned (.bool true) ∧ Only (fun _ => False) w w' := by
  go_enter Tryd.func11, Tryd.ntmps11
  go_wp2_with fail
  refine (snew_ok w 1 9 (by omega) (by omega) (by omega) (by omega)).mono ?_
  rintro e w1 ⟨rfl, ho1, hs1⟩
  have hB : w.heap.size + 1 < w1.heap.size := hs1.lt.1
  have hm1 := ho1.cell hm id
  obtain ⟨W, hW⟩ : ∃ W, W = w1.alloc (.cells #[.string ⟨#[0, 1, 97]⟩, .int .u64 4294967296, .int .i64 1, .int .i64 0, .bool false, .string ⟨#[97, 98, 99, 100, 101, 102, 103, 104, 105, 106]⟩] 33) := ⟨_, rfl⟩
  have hbW : W.heap[w1.heap.size]? = some (.cells #[.string ⟨#[0, 1, 97]⟩, .int .u64 4294967296, .int .i64 1, .int .i64 0, .bool false, .string ⟨#[97, 98, 99, 100, 101, 102, 103, 104, 105, 106]⟩] 33 (0, 0)) := by rw [hW]; exact heap_alloc_new w1 _
  have hoW : Only (fun _ => False) w1 W := by rw [hW]; exact (Only.refl _ _).alloc _
  have hsW : W.heap.size = w1.heap.size + 1 := by rw [hW]; simp
  obtain ⟨W2, hW2⟩ : ∃ W2, W2 = W.alloc (.cells #[.string ⟨#[0, 2, 97]⟩, .int .u64 4294967296, .int .i64 2, .int .i64 0, .bool false, .string ⟨#[97, 98, 99, 100, 101, 102, 103, 104, 105, 106]⟩] 33) := ⟨_, rfl⟩
  have hbW2 : W2.heap[W.heap.size]? = some (.cells #[.string ⟨#[0, 2, 97]⟩, .int .u64 4294967296, .int .i64 2, .int .i64 0, .bool false, .string ⟨#[97, 98, 99, 100, 101, 102, 103, 104, 105, 106]⟩] 33 (0, 0)) := by rw [hW2]; exact heap_alloc_new W _
  have hoW2 : Only (fun _ => False) W W2 := by rw [hW2]; exact (Only.refl _ _).alloc _
  have hsW2 : W2.heap.size = W.heap.size + 1 := by rw [hW2]; simp
  have hbX := hoW2.old hbW id
  have hoA := ho1.trans (hoW.trans hoW2)
  have hs2 := (hs1.new hoW).new hoW2
  have hm2 := hoW2.cell (hoW.cell hm1 id) id
  rw [hsW] at hbW2
  have hsz : W2.heap.size = w1.heap.size + 2 := by omega
  have hm0 : (0 : Nat) < w.heap.size := World.block_lt_of_cell? _ _ hm
  have x0 : W2.cell? ⟨w1.heap.size, 0, none⟩ = some (.string ⟨#[0, 1, 97]⟩) := cell_at hbX 0
  have x1 : W2.cell? ⟨w1.heap.size, 1, none⟩ = some (.int .u64 4294967296) := cell_at hbX 1
  have x2 : W2.cell? ⟨w1.heap.size, 2, none⟩ = some (.int .i64 1) := cell_at hbX 2
  have x3 : W2.cell? ⟨w1.heap.size, 3, none⟩ = some (.int .i64 0) := cell_at hbX 3
  have x4 : W2.cell? ⟨w1.heap.size, 4, none⟩ = some (.bool false) := cell_at hbX 4
  have x5 : W2.cell? ⟨w1.heap.size, 5, none⟩ = some (.string ⟨#[97, 98, 99, 100, 101, 102, 103, 104, 105, 106]⟩) := cell_at hbX 5
  have y0 : W2.cell? ⟨(w1.heap.size + 1), 0, none⟩ = some (.string ⟨#[0, 2, 97]⟩) := cell_at hbW2 0
  have y1 : W2.cell? ⟨(w1.heap.size + 1), 1, none⟩ = some (.int .u64 4294967296) := cell_at hbW2 1
  have y2 : W2.cell? ⟨(w1.heap.size + 1), 2, none⟩ = some (.int .i64 2) := cell_at hbW2 2
  have y3 : W2.cell? ⟨(w1.heap.size + 1), 3, none⟩ = some (.int .i64 0) := cell_at hbW2 3
  have y4 : W2.cell? ⟨(w1.heap.size + 1), 4, none⟩ = some (.bool false) := cell_at hbW2 4
  have y5 : W2.cell? ⟨(w1.heap.size + 1), 5, none⟩ = some (.string ⟨#[97, 98, 99, 100, 101, 102, 103, 104, 105, 106]⟩) := cell_at hbW2 5
  have HS := Lib.hid hs2
  have HM := Lib.hid hm2
  have HOA := Lib.hid hoA
  have HSZ := Lib.hid hsz
  have HBX := Lib.hid hbX
  clear hs2 hm2 hoA hsz hbX
  clear hm hm1 hs1 ho1 hbW hbW2 hsW hsW2 hoW hoW2
  go_upto_region 4 with (fail)
  rw [← hW, ← hW2]
  clear hW hW2
  generalize hs : w.heap.size = b at *
  have HB := Lib.hid hs
  clear hs
  have HMD := Lib.hid (keepD10 HM.out)
  have HSD := Lib.hid (HS.out.new ((Only.refl (fun _ => False) W2).drew))
  have hnX : ¬ (w1.heap.size = b + 1 ∨ w1.heap.size = b) := by omega
  have hnY : ¬ (w1.heap.size + 1 = b + 1 ∨ w1.heap.size + 1 = b) := by omega
  have hn0 : ¬ (0 = b + 1 ∨ 0 = b) := by omega
  go_region_held3 (fun w' => w'.cell? ⟨w1.heap.size, 0, none⟩ = some (.string ⟨#[0, 1, 97]⟩) ∧ w'.cell? ⟨w1.heap.size, 1, none⟩ = some (.int .u64 4294967296) ∧ w'.cell? ⟨w1.heap.size, 2, none⟩ = some (.int .i64 1) ∧ w'.cell? ⟨w1.heap.size, 3, none⟩ = some (.int .i64 0) ∧ w'.cell? ⟨w1.heap.size, 4, none⟩ = some (.bool false) ∧ w'.cell? ⟨w1.heap.size, 5, none⟩ = some (.string ⟨#[97, 98, 99, 100, 101, 102, 103, 104, 105, 106]⟩) ∧ w'.cell? ⟨w1.heap.size + 1, 0, none⟩ = some (.string ⟨#[0, 2, 97]⟩) ∧ w'.cell? ⟨w1.heap.size + 1, 1, none⟩ = some (.int .u64 4294967296) ∧ w'.cell? ⟨w1.heap.size + 1, 2, none⟩ = some (.int .i64 2) ∧ w'.cell? ⟨w1.heap.size + 1, 3, none⟩ = some (.int .i64 0) ∧ w'.cell? ⟨w1.heap.size + 1, 4, none⟩ = some (.bool false) ∧ w'.cell? ⟨w1.heap.size + 1, 5, none⟩ = some (.string ⟨#[97, 98, 99, 100, 101, 102, 103, 104, 105, 106]⟩))
    ((go_split_ands; refine ⟨?_, ?_, ?_, ?_, ?_, ?_, ?_, ?_, ?_, ?_, ?_, ?_⟩ <;> (first
      | (with_reducible assumption)
      | (with_reducible apply keepD10; with_reducible assumption)
      | (with_reducible exact Only.cell h4 (by assumption) hnX)
      | (with_reducible exact Only.cell h4 (by assumption) hnY)
      | (with_reducible exact Only.cell h6 (by assumption) hnX)
      | (with_reducible exact Only.cell h6 (by assumption) hnY))))
    (first
      | (go_at_call 14; (with_reducible refine (sput_x _ (b + 1) b m HSD.out HMD.out).mono ?_); rintro e w4 ⟨rfl, h4, h5⟩)
      | (go_at_call 14; (with_reducible refine (sput_y _ (b + 1) b m h5 (Only.cell h4 HMD.out hn0)).mono ?_); rintro e w6 ⟨rfl, h6, h7⟩))
  have ho4 : Only (fun i => i = b + 1 ∨ i = b) W2 w4 := ((Only.refl _ W2).drew).trans h4
  have hbx6 := h6.old (ho4.old HBX.out (by omega)) (by omega)
  have hoB : Only (fun _ => False) w w6 := (HOA.out.tr ho4 (fun i hi e => by have := HB.out; omega)).tr h6 (fun i hi e => by have := HB.out; omega)
  have H7 := Lib.hid h7
  have HOB := Lib.hid hoB
  have HBX6 := Lib.hid hbx6
  clear h7 hoB hbx6
  clear h4 h5 h6 ho4 x0 x1 x2 x3 x4 x5 y0 y1 y2 y3 y4 y5
  go_wp2_with fail
  refine (sget_x w6 (b + 1) b H7.out).mono ?_
  rintro e w8 ⟨rfl, ho8⟩
  obtain ⟨W9, hW9⟩ : ∃ W9, W9 = w8.alloc (.cells #[.string ⟨#[0, 1, 97]⟩, .int .u64 4294967296, .int .i64 1, .int .i64 0, .bool false, .string ⟨#[97, 98, 99, 100, 101, 102, 103, 104, 105, 106]⟩] 33) := ⟨_, rfl⟩
  have hbW9 : W9.heap[w8.heap.size]? = some (.cells #[.string ⟨#[0, 1, 97]⟩, .int .u64 4294967296, .int .i64 1, .int .i64 0, .bool false, .string ⟨#[97, 98, 99, 100, 101, 102, 103, 104, 105, 106]⟩] 33 (0, 0)) := by rw [hW9]; exact heap_alloc_new w8 _
  have hoW9 : Only (fun _ => False) w8 W9 := by rw [hW9]; exact (Only.refl _ _).alloc _
  have hsW9 : W9.heap.size = w8.heap.size + 1 := by rw [hW9]; simp
  have hs9 := (H7.out.new ho8).new hoW9
  have hbx9 := hoW9.old (ho8.old HBX6.out id) id
  have x0 : W9.cell? ⟨w1.heap.size, 0, none⟩ = some (.string ⟨#[0, 1, 97]⟩) := cell_at hbx9 0
  have x1 : W9.cell? ⟨w1.heap.size, 1, none⟩ = some (.int .u64 4294967296) := cell_at hbx9 1
  have x2 : W9.cell? ⟨w1.heap.size, 2, none⟩ = some (.int .i64 1) := cell_at hbx9 2
  have x3 : W9.cell? ⟨w1.heap.size, 3, none⟩ = some (.int .i64 0) := cell_at hbx9 3
  have x4 : W9.cell? ⟨w1.heap.size, 4, none⟩ = some (.bool false) := cell_at hbx9 4
  have x5 : W9.cell? ⟨w1.heap.size, 5, none⟩ = some (.string ⟨#[97, 98, 99, 100, 101, 102, 103, 104, 105, 106]⟩) := cell_at hbx9 5
  have y0 : W9.cell? ⟨w8.heap.size, 0, none⟩ = some (.string ⟨#[0, 1, 97]⟩) := cell_at hbW9 0
  have y1 : W9.cell? ⟨w8.heap.size, 1, none⟩ = some (.int .u64 4294967296) := cell_at hbW9 1
  have y2 : W9.cell? ⟨w8.heap.size, 2, none⟩ = some (.int .i64 1) := cell_at hbW9 2
  have y3 : W9.cell? ⟨w8.heap.size, 3, none⟩ = some (.int .i64 0) := cell_at hbW9 3
  have y4 : W9.cell? ⟨w8.heap.size, 4, none⟩ = some (.bool false) := cell_at hbW9 4
  have y5 : W9.cell? ⟨w8.heap.size, 5, none⟩ = some (.string ⟨#[97, 98, 99, 100, 101, 102, 103, 104, 105, 106]⟩) := cell_at hbW9 5
  have hoC := HOB.out.trans (ho8.trans hoW9)
  have HS9 := Lib.hid hs9
  have HOC := Lib.hid hoC
  clear hs9 hoC
  clear ho8 hbx9 hbW9 hsW9 hoW9
  go_upto_region 6 with (fail)
  rw [← hW9]
  clear hW9
  have heq := eqX
  go_wp2_with (first
    | (go_at_call 35; refine (sref_any _ _ _ _ _ _ _ HS9.out).mono ?_; rintro e w10 ⟨rfl, rfl⟩)
    | (go_at_call 34; refine (slen_any _ _ _ _ _ _ _ HS9.out).mono ?_; rintro e w11 ⟨rfl, rfl⟩))
  go_ret
  exact ⟨rfl, HOC.out⟩
end Go.Proofs.YtjdlcfllmpdffaaDoor
/-! bellhopref15: Put. -/
namespace Go.Proofs.YtjdlcfllmpdffaaDoor
open Go.Conc Go.RowKit Go.Maps

theorem less_ltK (a b : ByteArray) : Op.bytesLess a.toList b.toList = decide (ltK a b) := by
  rw [Proofs.bytesLess_eq, ByteArray.toList_eq, ByteArray.toList_eq]
  rfl
theorem insS_cons (x z : RecT) (A : List RecT) : insS x (z :: A) = if x.key = z.key then x :: A else if ltK x.key z.key then x :: z :: A else z :: insS x A := rfl
theorem ins_app {x : RecT} : ∀ {A B : List RecT}, (∀ z ∈ A, x.key ≠ z.key ∧ ¬ ltK x.key z.key) → insS x (A ++ B) = A ++ insS x B
  | [], _, _ => rfl
  | z :: A, B, h => by
    obtain ⟨h1, h2⟩ := h z (by simp)
    rw [List.cons_append, insS_cons, if_neg h1, if_neg h2, ins_app (fun y hy => h y (by simp [hy])), List.cons_append]
theorem ins_in {x : RecT} : ∀ {A B : List RecT}, (∃ z ∈ A, ltK x.key z.key) → (∀ z ∈ A, x.key ≠ z.key) → insS x (A ++ B) = insS x A ++ B
  | [], _, ⟨_, h, _⟩, _ => by cases h
  | z :: A, B, ⟨y, hy, hl⟩, hn => by
    rw [List.cons_append, insS_cons, insS_cons, if_neg (hn z (by simp)), if_neg (hn z (by simp))]
    by_cases hlt : ltK x.key z.key
    · rw [if_pos hlt, if_pos hlt]; rfl
    · rw [if_neg hlt, if_neg hlt, ins_in ⟨y, (List.mem_cons.1 hy).resolve_left (fun e => hlt (e ▸ hl)), hl⟩ (fun z hz => hn z (by simp [hz])), List.cons_append]
/-- What Put's loop has behind so many records. -/
def PutLoop (x : RecT) (A : List RecT) (p : Bool) (out : List RecT) : Prop :=
  match p with
  | false => out = A ∧ ∀ z ∈ A, ¬ ltK x.key z.key
  | true => out = insS x A ∧ ∃ z ∈ A, ltK x.key z.key
theorem PutLoop.no {x y : RecT} {A out : List RecT} (h : PutLoop x A false out) (hn : ¬ ltK x.key y.key) : PutLoop x (A ++ [y]) false (out ++ [y]) := by
  obtain ⟨rfl, h2⟩ := h
  refine ⟨rfl, fun z hz => ?_⟩
  rcases List.mem_append.1 hz with hz | hz
  · exact h2 z hz
  · obtain rfl : z = y := by simpa using hz
    exact hn
theorem PutLoop.place {x y : RecT} {A out : List RecT} (h : PutLoop x A false out) (hlt : ltK x.key y.key) (hne : ∀ z ∈ A ++ [y], x.key ≠ z.key) : PutLoop x (A ++ [y]) true ((out ++ [x]) ++ [y]) := by
  obtain ⟨rfl, h2⟩ := h
  refine ⟨?_, y, by simp, hlt⟩
  rw [ins_app (fun z hz => ⟨hne z (by simp [hz]), h2 z hz⟩), insS_cons, if_neg (hne y (by simp)), if_pos hlt]
  simp
theorem PutLoop.on {x y : RecT} {A out : List RecT} (h : PutLoop x A true out) (hne : ∀ z ∈ A ++ [y], x.key ≠ z.key) : PutLoop x (A ++ [y]) true (out ++ [y]) := by
  obtain ⟨rfl, z, hz, hl⟩ := h
  exact ⟨by rw [ins_in ⟨z, hz, hl⟩ (fun z hz => hne z (by simp [hz]))], z, by simp [hz], hl⟩
theorem PutLoop.fin {x : RecT} {A out : List RecT} {p : Bool} (h : PutLoop x A p out) (hne : ∀ z ∈ A, x.key ≠ z.key) : insS x A = if p then out else out ++ [x] := by
  cases p
  · obtain ⟨rfl, h2⟩ := h
    have := ins_app (B := []) (fun z hz => ⟨hne z hz, h2 z hz⟩)
    rw [List.append_nil] at this
    rw [this]
    rfl
  · obtain ⟨rfl, _⟩ := h
    rfl
theorem ins_set {x : RecT} {L : List RecT} (h : Rising L) {i : Nat} (hi : i < L.length) (hk : L[i].key = x.key) : insS x L = L.set i x := by
  have e : L = L.take i ++ L[i] :: L.drop (i + 1) := by rw [List.getElem_cons_drop, List.take_append_drop]
  have h2 : Rising (L.take i ++ L[i] :: L.drop (i + 1)) := by rw [← e]; exact h
  have := ins_mid h2 (y := x) hk.symm
  rw [← e] at this
  rw [this, List.set_eq_take_append_cons_drop, if_pos hi]
/-- Where a key is. -/
theorem findI_some {L : List RecT} {k : ByteArray} {y : RecT} (h : findS L k = some y) : ∃ i, ∃ hi : i < L.length, findI L k = (i : Nat) ∧ L[i] = y ∧ L[i].key = k := by
  obtain ⟨h1, h2⟩ := findS_some h
  have hn : L.all (fun x => !decide (x.key = k)) = false := by
    rw [List.all_eq_false]
    exact ⟨y, h1, by simp [h2]⟩
  have hlt : L.findIdx (fun x => decide (x.key = k)) < L.length := List.findIdx_lt_length_of_exists ⟨y, h1, by simpa using h2⟩
  have hp := List.findIdx_getElem (w := hlt)
  refine ⟨_, hlt, ?_, ?_, by simpa using hp⟩
  · unfold findI idxV
    rw [hn]
    rfl
  · have h3 : L.find? (fun x => decide (x.key = k)) = some y := h
    rw [List.find?_eq_getElem?_findIdx, List.getElem?_eq_getElem hlt] at h3
    exact Option.some.inj h3
theorem findI_none {L : List RecT} {k : ByteArray} (h : findS L k = none) : findI L k = -1 := by
  have hn : L.all (fun x => !decide (x.key = k)) = true := by
    rw [List.all_eq_true]
    intro x hx
    simp [findS_none h x hx]
  unfold findI idxV
  rw [hn]
  rfl
def RPutP (w w' : World) (most ttl r : Int) (L : List RecT) (x : RecT) (e : Ending) : Prop :=
  ∃ v', e = .returned (.tuple #[rstV most ttl v' (putR most ttl L x r), .int .i64 (putE most ttl L x)]) ∧ Only (fun _ => False) w w' ∧ RSl w' v' (putS most ttl L x)
/-- A slice is the one that came in, or lies in a block of the call's own. -/
def NewOr (w w' : World) (v v' : Value) : Prop := v' = v ∨ ∀ b, v'.ownBlock = some b → w.heap.size ≤ b ∧ b < w'.heap.size
def RPutQ (w w' : World) (most ttl r : Int) (L : List RecT) (x : RecT) (v : Value) (e : Ending) : Prop :=
  ∃ v', e = .returned (.tuple #[rstV most ttl v' (putR most ttl L x r), .int .i64 (putE most ttl L x)]) ∧ Only (fun _ => False) w w' ∧ RSl w' v' (putS most ttl L x) ∧ NewOr w w' v v'
set_option maxRecDepth 100000 in
set_option maxHeartbeats 2000000 in
theorem rput_own (w : World) (most ttl r : Int) (v : Value) (L : List RecT) (h : RSl w v L) (hL : L.length ≤ 1000000) (hris : Rising L) (x : RecT) (hk : x.key.size ≤ 1000000) (hr0 : 0 ≤ r) (hr : r < 1000000) :
    Calls Tryd.prog 32 #[rstV most ttl v r, recT x] w fun e w' => RPutQ w w' most ttl r L x v e := by
  obtain ⟨i0, hi0, iz0, iz1, iz2⟩ := info_parts infoRRec
  obtain ⟨a, cap, rfl, h1, h2, h3⟩ := Sl.cells recC_length h
  unfold maxLen at h2
  have HE := Lib.hid (show putE most ttl L x = if goodR x = false then 4 else if ttl ≤ x.age then 7 else putFE most L.length x.ver (findS L x.key) from rfl)
  have HRP := Lib.hid (show ∀ w' e, (∃ v', e = .returned (.tuple #[rstV most ttl v' (putR most ttl L x r), .int .i64 (putE most ttl L x)]) ∧ Only (fun _ => False) w w' ∧ RSl w' v' (putS most ttl L x) ∧ NewOr w w' (.slice a L.length cap) v') → RPutQ w w' most ttl r L x (.slice a L.length cap) e from fun _ _ h => h)
  have hpS : putE most ttl L x = 0 → putR most ttl L x r = r ∧ putS most ttl L x = insS x L := fun e => by unfold putR putS; rw [e]; exact ⟨rfl, rfl⟩
  have hpR : putE most ttl L x = 5 → putR most ttl L x r = r + 1 ∧ putS most ttl L x = L := fun e => by unfold putR putS; rw [e]; exact ⟨rfl, rfl⟩
  have hpN : putE most ttl L x ≠ 0 → putE most ttl L x ≠ 5 → putR most ttl L x r = r ∧ putS most ttl L x = L := fun e f => by unfold putR putS; rw [if_neg e, if_neg f]; exact ⟨rfl, rfl⟩
  have HG := Lib.hid (fun w => rgood_any w x.key x.ver x.o x.age x.gone x.data (by unfold maxLen; omega))
  have hg0 : goodR x = goodP x.key x.ver x.o x.age x.gone x.data := rfl
  have HFD := Lib.hid (fun w v h => rfind_any w most ttl r v L x.key h)
  have HS := Lib.hid (fun i hi hk => ins_set (x := x) hris (i := i) hi hk)
  have HN := Lib.hid (fun h => findI_none (L := L) (k := x.key) h)
  have HY := Lib.hid (fun y h => findI_some (L := L) (k := x.key) (y := y) h)
  have HNK := Lib.hid (fun h => findS_none (L := L) (k := x.key) h)
  have HPL := Lib.hid (fun A p out h hne => PutLoop.fin (x := x) (A := A) (out := out) (p := p) h hne)
  have hxe : RecT.mk x.key x.ver x.o x.age x.gone x.data = x := by cases x; rfl
  have HPS := Lib.hid hpS
  have HPR := Lib.hid hpR
  have HPN := Lib.hid hpN
  have HXE := Lib.hid hxe
  have HG0 := Lib.hid hg0
  clear hpS hpR hpN hxe hg0
  unfold recT rstV
  obtain ⟨W, hW⟩ : ∃ W, W = w.alloc (.cells #[.int .i64 most, .int .i64 ttl, .slice a L.length cap, .int .i64 r] 65) := ⟨_, rfl⟩
  have hbW : W.heap[w.heap.size]? = some (.cells #[.int .i64 most, .int .i64 ttl, .slice a L.length cap, .int .i64 r] 65 (0, 0)) := by rw [hW]; exact heap_alloc_new w _
  have hoW : Only (fun _ => False) w W := by rw [hW]; exact (Only.refl _ _).alloc _
  have hsW : W.heap.size = w.heap.size + 1 := by rw [hW]; simp
  obtain ⟨W1, hW1⟩ : ∃ W1, W1 = W.alloc (.cells #[.string x.key, .int .u64 x.ver, .int .i64 x.o, .int .i64 x.age, .bool x.gone, .string x.data] 35) := ⟨_, rfl⟩
  have hbW1 : W1.heap[W.heap.size]? = some (.cells #[.string x.key, .int .u64 x.ver, .int .i64 x.o, .int .i64 x.age, .bool x.gone, .string x.data] 35 (0, 0)) := by rw [hW1]; exact heap_alloc_new W _
  have hoW1 : Only (fun _ => False) W W1 := by rw [hW1]; exact (Only.refl _ _).alloc _
  have hsW1 : W1.heap.size = W.heap.size + 1 := by rw [hW1]; simp
  obtain ⟨W2, hW2⟩ : ∃ W2, W2 = W1.alloc (.cells #[.int .i64 0, .int .i64 0, .slice none 0 0, .int .i64 0] 65) := ⟨_, rfl⟩
  have hbW2 : W2.heap[W1.heap.size]? = some (.cells #[.int .i64 0, .int .i64 0, .slice none 0 0, .int .i64 0] 65 (0, 0)) := by rw [hW2]; exact heap_alloc_new W1 _
  have hoW2 : Only (fun _ => False) W1 W2 := by rw [hW2]; exact (Only.refl _ _).alloc _
  have hsW2 : W2.heap.size = W1.heap.size + 1 := by rw [hW2]; simp
  have hb0 := hoW2.old (hoW1.old hbW id) id
  have hb1 := hoW2.old hbW1 id
  have hoA := (hoW.trans hoW1).trans hoW2
  have hsX : W.heap.size = w.heap.size + 1 ∧ W1.heap.size = w.heap.size + 2 ∧ W2.heap.size = w.heap.size + 3 := by omega
  rw [hsX.1] at hb1
  rw [hsX.2.1] at hbW2
  have HB0 := Lib.hid hb0
  have HB1 := Lib.hid hb1
  have HB2 := Lib.hid hbW2
  have HOA := Lib.hid hoA
  have HSX := Lib.hid hsX
  have HC := Lib.hid h3
  have HH := Lib.hid h
  clear hb0 hb1 hbW2 hoA hsX h3 h
  clear hbW hbW1 hoW hoW1 hoW2 hsW hsW1 hsW2
  have e6 : goodR x = goodP x.key x.ver x.o x.age x.gone x.data := rfl
  rw [← e6] at HG
  clear e6 HG0
  generalize goodR x = gd at *
  generalize putE most ttl L x = E at *
  go_enter Tryd.func32, Tryd.ntmps32
  go_upto_region 1 with (fail)
  rw [← hW, ← hW1, ← hW2]
  clear hW hW1 hW2
  generalize hX : w.heap.size = X at *
  have HXW := Lib.hid hX
  clear hX
  have y0 : W2.cell? ⟨(X + 1), 0, none⟩ = some (.string x.key) := cell_at HB1.out 0
  have y1 : W2.cell? ⟨(X + 1), 1, none⟩ = some (.int .u64 x.ver) := cell_at HB1.out 1
  have y2 : W2.cell? ⟨(X + 1), 2, none⟩ = some (.int .i64 x.o) := cell_at HB1.out 2
  have y3 : W2.cell? ⟨(X + 1), 3, none⟩ = some (.int .i64 x.age) := cell_at HB1.out 3
  have y4 : W2.cell? ⟨(X + 1), 4, none⟩ = some (.bool x.gone) := cell_at HB1.out 4
  have y5 : W2.cell? ⟨(X + 1), 5, none⟩ = some (.string x.data) := cell_at HB1.out 5
  go_wp2_with fail
  refine (HG.out _).mono ?_
  rintro e w3 ⟨rfl, ho3⟩
  have hb0 := ho3.old HB0.out id
  have hb1 := ho3.old HB1.out id
  have hb2 := ho3.old HB2.out id
  have hoB := HOA.out.trans ho3
  clear y0 y1 y2 y3 y4 y5 HB0 HB1 HB2 HOA
  cases gd
  · -- bad
    have e4 : E = 4 := by rw [HE.out]; rfl
    obtain ⟨n1, n2⟩ := HPN.out (by omega) (by omega)
    have H0 := Lib.hid hb0
    have H1 := Lib.hid hb1
    have H2 := Lib.hid hb2
    have HOB := Lib.hid hoB
    have N1 := Lib.hid n1
    have N2 := Lib.hid n2
    have E4 := Lib.hid e4
    clear hb0 hb1 hb2 hoB n1 n2 e4
    clear ho3
    have x0 : w3.cell? ⟨X, 0, none⟩ = some (.int .i64 most) := cell_at H0.out 0
    have x1 : w3.cell? ⟨X, 1, none⟩ = some (.int .i64 ttl) := cell_at H0.out 1
    have x2 : w3.cell? ⟨X, 2, none⟩ = some (.slice a L.length cap) := cell_at H0.out 2
    have x3 : w3.cell? ⟨X, 3, none⟩ = some (.int .i64 (r)) := cell_at H0.out 3
    have zf : ∀ i, w3.frozen? ⟨X + 2, i, none⟩ = false := free_at H2.out
    have z0 : w3.cell? ⟨(X + 2), 0, none⟩ = some (.int .i64 0) := cell_at H2.out 0
    have z1 : w3.cell? ⟨(X + 2), 1, none⟩ = some (.int .i64 0) := cell_at H2.out 1
    have z2 : w3.cell? ⟨(X + 2), 2, none⟩ = some (.slice none 0 0) := cell_at H2.out 2
    have z3 : w3.cell? ⟨(X + 2), 3, none⟩ = some (.int .i64 0) := cell_at H2.out 3
    have hn1 : ¬ X + 2 = X := by omega
    have hn2 : ¬ X = X + 2 := by omega
    go_wp2_with fail
    clear x0 x1 x2 x3 z0 z1 z2 z3 zf
    obtain ⟨s1, s2⟩ := lit_set H2.out [.int .i64 most, .int .i64 ttl, .slice a L.length cap, .int .i64 (r)] rfl
    rw [show World.setCells w3 (X + 2) 0 [.int .i64 most, .int .i64 ttl, .slice a L.length cap, .int .i64 (r)] = ((((w3.setCell ⟨(X + 2), 0, none⟩ (.int .i64 most)).setCell ⟨(X + 2), 1, none⟩ (.int .i64 ttl)).setCell ⟨(X + 2), 2, none⟩ (.slice a L.length cap)).setCell ⟨(X + 2), 3, none⟩ (.int .i64 (r))) from rfl] at s1 s2
    generalize ((((w3.setCell ⟨(X + 2), 0, none⟩ (.int .i64 most)).setCell ⟨(X + 2), 1, none⟩ (.int .i64 ttl)).setCell ⟨(X + 2), 2, none⟩ (.slice a L.length cap)).setCell ⟨(X + 2), 3, none⟩ (.int .i64 (r))) = wz at *
    have p0 : wz.cell? ⟨(X + 2), 0, none⟩ = some (.int .i64 most) := cell_at s1 0
    have p1 : wz.cell? ⟨(X + 2), 1, none⟩ = some (.int .i64 ttl) := cell_at s1 1
    have p2 : wz.cell? ⟨(X + 2), 2, none⟩ = some (.slice a L.length cap) := cell_at s1 2
    have p3 : wz.cell? ⟨(X + 2), 3, none⟩ = some (.int .i64 (r)) := cell_at s1 3
    refine bodyPost_ret (v := .tuple #[.agg #[.int .i64 most, .int .i64 ttl, .slice a L.length cap, .int .i64 (r)], .int .i64 4]) (by simp [results, Tryd.results32, go_sem, p0, p1, p2, p3]) rfl ?_
    refine HRP.out _ _ ?_
    skip
    have hfin := HOB.out.tr s2 (fun i hi e => by have := HXW.out; omega)
    exact ⟨.slice a L.length cap, by rw [N1.out, E4.out]; rfl, hfin, by rw [N2.out]; exact HH.out.new hfin, .inl rfl⟩
  · have y3 : w3.cell? ⟨X + 1, 3, none⟩ = some (.int .i64 x.age) := cell_at hb1 3
    have x1 : w3.cell? ⟨X, 1, none⟩ = some (.int .i64 ttl) := cell_at hb0 1
    by_cases ha : ttl ≤ x.age
    · -- old
      have e4 : E = 7 := by rw [HE.out, if_neg (by decide), if_pos ha]
      obtain ⟨n1, n2⟩ := HPN.out (by omega) (by omega)
      have H0 := Lib.hid hb0
      have H1 := Lib.hid hb1
      have H2 := Lib.hid hb2
      have HOB := Lib.hid hoB
      have N1 := Lib.hid n1
      have N2 := Lib.hid n2
      have E4 := Lib.hid e4
      clear hb0 hb1 hb2 hoB n1 n2 e4
      clear ho3
      go_upto_region 4 with (fail)
      clear x1 y3
      have x0 : w3.cell? ⟨X, 0, none⟩ = some (.int .i64 most) := cell_at H0.out 0
      have x1 : w3.cell? ⟨X, 1, none⟩ = some (.int .i64 ttl) := cell_at H0.out 1
      have x2 : w3.cell? ⟨X, 2, none⟩ = some (.slice a L.length cap) := cell_at H0.out 2
      have x3 : w3.cell? ⟨X, 3, none⟩ = some (.int .i64 (r)) := cell_at H0.out 3
      have zf : ∀ i, w3.frozen? ⟨X + 2, i, none⟩ = false := free_at H2.out
      have z0 : w3.cell? ⟨(X + 2), 0, none⟩ = some (.int .i64 0) := cell_at H2.out 0
      have z1 : w3.cell? ⟨(X + 2), 1, none⟩ = some (.int .i64 0) := cell_at H2.out 1
      have z2 : w3.cell? ⟨(X + 2), 2, none⟩ = some (.slice none 0 0) := cell_at H2.out 2
      have z3 : w3.cell? ⟨(X + 2), 3, none⟩ = some (.int .i64 0) := cell_at H2.out 3
      have hn1 : ¬ X + 2 = X := by omega
      have hn2 : ¬ X = X + 2 := by omega
      go_wp2_with fail
      clear x0 x1 x2 x3 z0 z1 z2 z3 zf
      obtain ⟨s1, s2⟩ := lit_set H2.out [.int .i64 most, .int .i64 ttl, .slice a L.length cap, .int .i64 (r)] rfl
      rw [show World.setCells w3 (X + 2) 0 [.int .i64 most, .int .i64 ttl, .slice a L.length cap, .int .i64 (r)] = ((((w3.setCell ⟨(X + 2), 0, none⟩ (.int .i64 most)).setCell ⟨(X + 2), 1, none⟩ (.int .i64 ttl)).setCell ⟨(X + 2), 2, none⟩ (.slice a L.length cap)).setCell ⟨(X + 2), 3, none⟩ (.int .i64 (r))) from rfl] at s1 s2
      generalize ((((w3.setCell ⟨(X + 2), 0, none⟩ (.int .i64 most)).setCell ⟨(X + 2), 1, none⟩ (.int .i64 ttl)).setCell ⟨(X + 2), 2, none⟩ (.slice a L.length cap)).setCell ⟨(X + 2), 3, none⟩ (.int .i64 (r))) = wz at *
      have p0 : wz.cell? ⟨(X + 2), 0, none⟩ = some (.int .i64 most) := cell_at s1 0
      have p1 : wz.cell? ⟨(X + 2), 1, none⟩ = some (.int .i64 ttl) := cell_at s1 1
      have p2 : wz.cell? ⟨(X + 2), 2, none⟩ = some (.slice a L.length cap) := cell_at s1 2
      have p3 : wz.cell? ⟨(X + 2), 3, none⟩ = some (.int .i64 (r)) := cell_at s1 3
      refine bodyPost_ret (v := .tuple #[.agg #[.int .i64 most, .int .i64 ttl, .slice a L.length cap, .int .i64 (r)], .int .i64 7]) (by simp [results, Tryd.results32, go_sem, p0, p1, p2, p3]) rfl ?_
      refine HRP.out _ _ ?_
      skip
      have hfin := HOB.out.tr s2 (fun i hi e => by have := HXW.out; omega)
      exact ⟨.slice a L.length cap, by rw [N1.out, E4.out]; rfl, hfin, by rw [N2.out]; exact HH.out.new hfin, .inl rfl⟩
    · have e0 : E = putFE most L.length x.ver (findS L x.key) := by rw [HE.out, if_neg (by decide), if_neg ha]
      have y0 : w3.cell? ⟨X + 1, 0, none⟩ = some (.string x.key) := cell_at hb1 0
      have z0 : w3.cell? ⟨X, 0, none⟩ = some (.int .i64 most) := cell_at hb0 0
      have z1 : w3.cell? ⟨X, 1, none⟩ = some (.int .i64 ttl) := cell_at hb0 1
      have z2 : w3.cell? ⟨X, 2, none⟩ = some (.slice a L.length cap) := cell_at hb0 2
      have z3 : w3.cell? ⟨X, 3, none⟩ = some (.int .i64 r) := cell_at hb0 3
      have hfd := HFD.out w3 (.slice a L.length cap) (HH.out.new hoB)
      unfold rstV at hfd
      generalize findS L x.key = fo at *
      generalize findI L x.key = fi at *
      have H0 := Lib.hid hb0
      have H1 := Lib.hid hb1
      have H2 := Lib.hid hb2
      have HOB := Lib.hid hoB
      have E0 := Lib.hid e0
      have HFF := Lib.hid hfd
      clear hb0 hb1 hb2 hoB e0 hfd
      clear ho3 HE HFD HG
      go_wp2_with fail
      refine HFF.out.mono ?_
      rintro e w4 ⟨rfl, ho4⟩
      have hb0 := ho4.old H0.out id
      have hb1 := ho4.old H1.out id
      have hb2 := ho4.old H2.out id
      have hoC := HOB.out.trans ho4
      clear y0 y3 z0 z1 z2 z3 x1 ho4 H0 H1 H2 HOB
      cases fo with
      | none =>
        have hm1 := HN.out rfl
        subst hm1
        have x2 : w4.cell? ⟨X, 2, none⟩ = some (.slice a L.length cap) := cell_at hb0 2
        have x0 : w4.cell? ⟨X, 0, none⟩ = some (.int .i64 most) := cell_at hb0 0
        by_cases hf : most ≤ (L.length : Int)
        · -- full
          have e4 : E = 5 := by rw [E0.out]; exact if_pos hf
          obtain ⟨n1, n2⟩ := HPR.out (by omega)
          have x3 : w4.cell? ⟨X, 3, none⟩ = some (.int .i64 r) := cell_at hb0 3
          have xf : ∀ i, w4.frozen? ⟨X, i, none⟩ = false := free_at hb0
          have t1 : Only (fun i => i = X) w4 (w4.setCell ⟨X, 3, none⟩ (.int .i64 (r + 1))) := (Only.refl _ _).setCell (S := fun i => i = X) (p := ⟨X, 3, none⟩) (.inr rfl) _
          have hb0' : (w4.setCell ⟨X, 3, none⟩ (.int .i64 (r + 1))).heap[X]? = some (.cells #[.int .i64 most, .int .i64 ttl, .slice a L.length cap, .int .i64 (r + 1)] 65 (0, 0)) := set_at hb0 3 _
          have hb2' := t1.old hb2 (by omega)
          obtain ⟨w5, hw5⟩ : ∃ w5, w5 = w4.setCell ⟨X, 3, none⟩ (.int .i64 (r + 1)) := ⟨_, rfl⟩
          rw [← hw5] at t1 hb0' hb2'
          have H0 := Lib.hid hb0'
          have H2 := Lib.hid hb2'
          have HOC := Lib.hid hoC
          have N1 := Lib.hid n1
          have N2 := Lib.hid n2
          have E4 := Lib.hid e4
          have T1 := Lib.hid t1
          clear hb0' hb2' hoC n1 n2 e4 t1
          clear hb0 hb1 hb2
          go_upto_region 14 with (fail)
          rw [← hw5]
          clear hw5 x0 x2 x3 xf
          have x0 : w5.cell? ⟨X, 0, none⟩ = some (.int .i64 most) := cell_at H0.out 0
          have x1 : w5.cell? ⟨X, 1, none⟩ = some (.int .i64 ttl) := cell_at H0.out 1
          have x2 : w5.cell? ⟨X, 2, none⟩ = some (.slice a L.length cap) := cell_at H0.out 2
          have x3 : w5.cell? ⟨X, 3, none⟩ = some (.int .i64 (r + 1)) := cell_at H0.out 3
          have zf : ∀ i, w5.frozen? ⟨X + 2, i, none⟩ = false := free_at H2.out
          have z0 : w5.cell? ⟨(X + 2), 0, none⟩ = some (.int .i64 0) := cell_at H2.out 0
          have z1 : w5.cell? ⟨(X + 2), 1, none⟩ = some (.int .i64 0) := cell_at H2.out 1
          have z2 : w5.cell? ⟨(X + 2), 2, none⟩ = some (.slice none 0 0) := cell_at H2.out 2
          have z3 : w5.cell? ⟨(X + 2), 3, none⟩ = some (.int .i64 0) := cell_at H2.out 3
          have hn1 : ¬ X + 2 = X := by omega
          have hn2 : ¬ X = X + 2 := by omega
          go_wp2_with fail
          clear x0 x1 x2 x3 z0 z1 z2 z3 zf
          obtain ⟨s1, s2⟩ := lit_set H2.out [.int .i64 most, .int .i64 ttl, .slice a L.length cap, .int .i64 (r + 1)] rfl
          rw [show World.setCells w5 (X + 2) 0 [.int .i64 most, .int .i64 ttl, .slice a L.length cap, .int .i64 (r + 1)] = ((((w5.setCell ⟨(X + 2), 0, none⟩ (.int .i64 most)).setCell ⟨(X + 2), 1, none⟩ (.int .i64 ttl)).setCell ⟨(X + 2), 2, none⟩ (.slice a L.length cap)).setCell ⟨(X + 2), 3, none⟩ (.int .i64 (r + 1))) from rfl] at s1 s2
          generalize ((((w5.setCell ⟨(X + 2), 0, none⟩ (.int .i64 most)).setCell ⟨(X + 2), 1, none⟩ (.int .i64 ttl)).setCell ⟨(X + 2), 2, none⟩ (.slice a L.length cap)).setCell ⟨(X + 2), 3, none⟩ (.int .i64 (r + 1))) = wz at *
          have p0 : wz.cell? ⟨(X + 2), 0, none⟩ = some (.int .i64 most) := cell_at s1 0
          have p1 : wz.cell? ⟨(X + 2), 1, none⟩ = some (.int .i64 ttl) := cell_at s1 1
          have p2 : wz.cell? ⟨(X + 2), 2, none⟩ = some (.slice a L.length cap) := cell_at s1 2
          have p3 : wz.cell? ⟨(X + 2), 3, none⟩ = some (.int .i64 (r + 1)) := cell_at s1 3
          refine bodyPost_ret (v := .tuple #[.agg #[.int .i64 most, .int .i64 ttl, .slice a L.length cap, .int .i64 (r + 1)], .int .i64 5]) (by simp [results, Tryd.results32, go_sem, p0, p1, p2, p3]) rfl ?_
          refine HRP.out _ _ ?_
          skip
          have hfin := (HOC.out.tr T1.out (fun i hi e => by have := HXW.out; omega)).tr s2 (fun i hi e => by have := HXW.out; omega)
          exact ⟨.slice a L.length cap, by rw [N1.out, E4.out]; rfl, hfin, by rw [N2.out]; exact HH.out.new hfin, .inl rfl⟩
        · -- loop
          have e4 : E = 0 := by rw [E0.out]; exact if_neg hf
          obtain ⟨n1, n2⟩ := HPS.out e4
          have hnk := HNK.out rfl
          have H0 := Lib.hid hb0
          have H1 := Lib.hid hb1
          have H2 := Lib.hid hb2
          have HOC := Lib.hid hoC
          have N1 := Lib.hid n1
          have N2 := Lib.hid n2
          have E4 := Lib.hid e4
          have HK1 := Lib.hid hnk
          clear hb0 hb1 hb2 hoC n1 n2 e4 hnk
          go_wp2_with fail
          clear x0 x2
          go_loopg [7, 8, 9] L.length (fun gg v7 v8 v9 wr => ∃ (k : Nat) (p : Bool) (out : List RecT), v9 = .int .i64 k ∧ v8 = .bool p ∧ k ≤ L.length ∧ Only (fun _ => False) w4 wr ∧ RRow wr w4.heap.size v7 out ∧ PutLoop x (L.take k) p out ∧ out.length ≤ k + 1 ∧ gg = L.length - k)
          case atStart => exact ⟨0, false, [], rfl, rfl, Nat.zero_le _, Only.refl _ _, World.ownsRow_nil w4 _ _ _, ⟨rfl, fun z hz => by cases hz⟩, by simp, rfl⟩
          case round =>
            obtain ⟨k, p, out, rfl, rfl, hkl, ho, hrow, hpl, hol, hg⟩ := hrel
            have x2 : wr.cell? ⟨X, 2, none⟩ = some (.slice a L.length cap) := cell_at (ho.old H0.out id) 2
            have Hg := Lib.hid hg
            have HO := Lib.hid ho
            have HROW := Lib.hid hrow
            have HPLP := Lib.hid hpl
            clear hg ho hrow hpl
            by_cases hlt : k < L.length
            · have hlt' : (k : Int) < (L.length : Int) := by omega
              have hk0 : (0 : Int) ≤ (k : Int) := by omega
              have hC5 := (HC.out.new HOC.out (fun _ _ _ => id)).new HO.out (fun _ _ _ => id)
              obtain ⟨b, off, ha, hc⟩ := hC5.at k hlt
              subst ha
              have htk : L.take (k + 1) = L.take k ++ [L[k]] := by rw [List.take_add_one, List.getElem?_eq_getElem hlt]; rfl
              have hne2 : ∀ z ∈ L.take k ++ [L[k]], x.key ≠ z.key := fun z hz => by
                rw [← htk] at hz
                exact fun e => HK1.out z (List.mem_of_mem_take hz) e.symm
              generalize hy : L[k] = y at *
              have y0 : wr.cell? ⟨X + 1, 0, none⟩ = some (.string x.key) := cell_at (HO.out.old H1.out id) 0
              have z0 : wr.cell? ⟨b, off + k * 6, none⟩ = some (.string y.key) := hc 0 _ rfl
              have HTK := Lib.hid htk
              have HNE := Lib.hid hne2
              have HCY := Lib.hid hc
              have HLY := Lib.hid hy
              clear htk hne2 hc hy
              go_upto_region 20 with (fail)
              go_cut [88] (fun v88 wx => ∃ q, v88 = .bool q ∧ (q = true → p = false ∧ ltK x.key y.key) ∧ (q = false → p = true ∨ ¬ ltK x.key y.key) ∧ Only (fun _ => False) wr wx)
              case first =>
                cases p
                · go_quiet (fail)
                  go_wp2_with fail
                  go_meet
                  rw [less_ltK]
                  exact ⟨_, rfl, fun h => ⟨trivial, of_decide_eq_true h⟩, fun h => .inr (of_decide_eq_false h), (Only.refl _ _).drewN _⟩
                · go_quiet (fail)
                  go_wp2_with fail
                  go_meet
                  exact ⟨_, rfl, fun h => by (cases h), fun _ => .inl trivial, (Only.refl _ _).drewN _⟩
              case rest =>
              obtain ⟨q, rfl, hq1, hq2, ho5⟩ := hcut
              have hrow5 := owns_only HROW.out ho5 (fun _ _ => id)
              have hb1 := ho5.old (HO.out.old H1.out id) id
              have hb0 := ho5.old (HO.out.old H0.out id) id
              have hoD := HO.out.trans ho5
              have x2 : wc.cell? ⟨X, 2, none⟩ = some (.slice (some ⟨b, off, none⟩) L.length cap) := cell_at hb0 2
              have hcy : ∀ i u, (recC y)[i]? = some u → wc.cell? ⟨b, off + k * 6 + i, none⟩ = some u := fun i u hu => ho5.cell (HCY.out i u hu) id
              have hol2 : out.length ≤ 1000001 := by omega
              have HQ1 := Lib.hid hq1
              have HQ2 := Lib.hid hq2
              have HROW5 := Lib.hid hrow5
              have HB15 := Lib.hid hb1
              have HB05 := Lib.hid hb0
              have HOD := Lib.hid hoD
              have HCY5 := Lib.hid hcy
              clear hq1 hq2 hrow5 hb1 hb0 hoD hcy
              clear ho5 y0 z0
              go_upto_if 88 with (fail)
              go_cut [7, 8] (fun v7 v8 wx => ∃ p' out', v8 = .bool p' ∧ RRow wx w4.heap.size v7 out' ∧ PutLoop x (L.take (k + 1)) p' (out' ++ [y]) ∧ out'.length ≤ k + 1 ∧ Only (fun _ => False) w4 wx)
              case first =>
                cases q
                · have hpl2 : PutLoop x (L.take (k + 1)) p (out ++ [y]) := by
                    have hq := HQ2.out rfl
                    rw [HTK.out]
                    cases p
                    · exact HPLP.out.no (hq.resolve_left (by simp))
                    · exact HPLP.out.on HNE.out
                  have HPL2 := Lib.hid hpl2
                  clear hpl2
                  go_wp2_with fail
                  go_meet
                  exact ⟨p, out, rfl, HROW5.out, HPL2.out, hol, HOD.out⟩
                · obtain ⟨hp, hlx⟩ := HQ1.out rfl
                  subst hp
                  have hlo : out.length = k := by
                    have h1 := HPLP.out.1
                    rw [h1, List.length_take]
                    omega
                  have y0 : wc.cell? ⟨(X + 1), 0, none⟩ = some (.string x.key) := cell_at HB15.out 0
                  have y1 : wc.cell? ⟨(X + 1), 1, none⟩ = some (.int .u64 x.ver) := cell_at HB15.out 1
                  have y2 : wc.cell? ⟨(X + 1), 2, none⟩ = some (.int .i64 x.o) := cell_at HB15.out 2
                  have y3 : wc.cell? ⟨(X + 1), 3, none⟩ = some (.int .i64 x.age) := cell_at HB15.out 3
                  have y4 : wc.cell? ⟨(X + 1), 4, none⟩ = some (.bool x.gone) := cell_at HB15.out 4
                  have y5 : wc.cell? ⟨(X + 1), 5, none⟩ = some (.string x.data) := cell_at HB15.out 5
                  have HLX := Lib.hid hlx
                  have HLO := Lib.hid hlo
                  clear hlx hlo
                  clear x2
                  go_wp2_with (at_builtin; refine Wait.mk ?_)
                  refine Wait.go (wpList_append_src _ rfl (.tmp 89) (.tmp 91) 63 63 rfl w4.heap.size 35 i0 _ 6 64 Tryd.underlying63 hi0 iz0 iz1 iz2 rfl _ out.length (out.flatMap recC) rfl (HROW5.out.alloc _) _ 1 (recC ⟨x.key, x.ver, x.o, x.age, x.gone, x.data⟩) rfl ?src4 ?m4 ?b4 ?base4 ?_)
                  case src4 => exact Src.ofSlice _ Tryd.underlying63 _ _ _ _ rfl (news_new _ _ _) (recC_one _)
                  case m4 => unfold maxLen; omega
                  case b4 => omega
                  case base4 => have := HOD.out.size; simp; omega
                  intro v4 w5 own4 gr4 _
                  have ho5 : Only (fun _ => False) w4 w5 := (HOD.out.alloc _).own (HROW5.out.alloc _) (Nat.le_refl _) gr4
                  have HO5 := Lib.hid ho5
                  have HW5 := Lib.hid own4
                  clear ho5 own4
                  clear gr4
                  go_wp2_with fail
                  go_meet
                  refine ⟨true, out ++ [x], rfl, ?_, ?_, ?_, HO5.out⟩
                  · unfold RRow
                    rw [List.length_append, List.flatMap_append]
                    have e1 : [x].flatMap recC = recC ⟨x.key, x.ver, x.o, x.age, x.gone, x.data⟩ := by simp
                    rw [e1]
                    exact HW5.out
                  · rw [HTK.out]
                    exact HPLP.out.place HLX.out HNE.out
                  · rw [List.length_append, HLO.out]
                    exact Nat.le_refl _
              case rest =>
              obtain ⟨p', out', rfl, hrow6, hpl6, hol6, ho6⟩ := hcut
              have x2 : wc.cell? ⟨X, 2, none⟩ = some (.slice (some ⟨b, off, none⟩) L.length cap) := cell_at (ho6.old H0.out id) 2
              have hC6 := ((HC.out.new HOC.out (fun _ _ _ => id)).new ho6 (fun _ _ _ => id))
              obtain ⟨_, _, he, hc6⟩ := hC6.at k hlt
              cases he
              rw [HLY.out] at hc6
              have q0 := hc6 0 _ rfl
              have q1 := hc6 1 _ rfl
              have q2 := hc6 2 _ rfl
              have q3 := hc6 3 _ rfl
              have q4 := hc6 4 _ rfl
              have q5 := hc6 5 _ rfl
              simp only [Nat.add_zero] at q0
              have HROW6 := Lib.hid hrow6
              have HPL6 := Lib.hid hpl6
              have HO6 := Lib.hid ho6
              clear hrow6 hpl6 ho6
              clear hc6 hC6
              go_wp2_with (at_builtin; refine Wait.mk ?_)
              refine Wait.go (wpList_append_src _ rfl (.tmp 93) (.tmp 99) 63 63 rfl w4.heap.size 35 i0 _ 6 64 Tryd.underlying63 hi0 iz0 iz1 iz2 rfl _ out'.length (out'.flatMap recC) rfl (HROW6.out.alloc _) _ 1 (recC ⟨y.key, y.ver, y.o, y.age, y.gone, y.data⟩) rfl ?src4 ?m4 ?b4 ?base4 ?_)
              case src4 => exact Src.ofSlice _ Tryd.underlying63 _ _ _ _ rfl (news_new _ _ _) (recC_one _)
              case m4 => unfold maxLen; omega
              case b4 => omega
              case base4 => have := HO6.out.size; simp; omega
              intro v4 w5 own4 gr4 _
              have ho5 : Only (fun _ => False) w4 w5 := (HO6.out.alloc _).own (HROW6.out.alloc _) (Nat.le_refl _) gr4
              have HO5 := Lib.hid ho5
              have HW5 := Lib.hid own4
              clear ho5 own4
              clear gr4 q0 q1 q2 q3 q4 q5 x2
              go_wp2_with fail
              go_roundg (L.length - (k + 1))
              case measure => rw [Hg.out]; omega
              case rel =>
                refine ⟨k + 1, p', out' ++ [y], by go_num, rfl, by omega, HO5.out, ?_, HPL6.out, by rw [List.length_append]; show out'.length + 1 ≤ _; omega, rfl⟩
                unfold RRow
                rw [List.length_append, List.flatMap_append]
                have e1 : [y].flatMap recC = recC ⟨y.key, y.ver, y.o, y.age, y.gone, y.data⟩ := by simp
                rw [e1]
                exact HW5.out
            · have hke : k = L.length := by omega
              have hlt' : ¬ (k : Int) < (L.length : Int) := by omega
              have hfin := HPLP.out
              rw [hke, List.take_length] at hfin
              have hfin2 := hfin.fin (fun z hz e => HK1.out z hz e.symm)
              have hb0 := HO.out.old H0.out id
              have hb1 := HO.out.old H1.out id
              have hb2 := HO.out.old H2.out id
              have hol2 : out.length ≤ 1000001 := by omega
              have HFIN := Lib.hid hfin2
              have HB05 := Lib.hid hb0
              have HB15 := Lib.hid hb1
              have HB25 := Lib.hid hb2
              clear hfin2 hb0 hb1 hb2
              clear hfin hke
              go_upto_if 102 with (fail)
              go_cut [7] (fun v7 wx => RRow wx w4.heap.size v7 (insS x L) ∧ Only (fun _ => False) w4 wx)
              case first =>
                cases p
                · have y0 : wr.cell? ⟨(X + 1), 0, none⟩ = some (.string x.key) := cell_at HB15.out 0
                  have y1 : wr.cell? ⟨(X + 1), 1, none⟩ = some (.int .u64 x.ver) := cell_at HB15.out 1
                  have y2 : wr.cell? ⟨(X + 1), 2, none⟩ = some (.int .i64 x.o) := cell_at HB15.out 2
                  have y3 : wr.cell? ⟨(X + 1), 3, none⟩ = some (.int .i64 x.age) := cell_at HB15.out 3
                  have y4 : wr.cell? ⟨(X + 1), 4, none⟩ = some (.bool x.gone) := cell_at HB15.out 4
                  have y5 : wr.cell? ⟨(X + 1), 5, none⟩ = some (.string x.data) := cell_at HB15.out 5
                  clear x2
                  have hfa : insS x L = out ++ [x] := HFIN.out
                  have HFA := Lib.hid hfa
                  clear hfa
                  go_wp2_with (at_builtin; refine Wait.mk ?_)
                  refine Wait.go (wpList_append_src _ rfl (.tmp 103) (.tmp 105) 63 63 rfl w4.heap.size 35 i0 _ 6 64 Tryd.underlying63 hi0 iz0 iz1 iz2 rfl _ out.length (out.flatMap recC) rfl (HROW.out.alloc _) _ 1 (recC ⟨x.key, x.ver, x.o, x.age, x.gone, x.data⟩) rfl ?src4 ?m4 ?b4 ?base4 ?_)
                  case src4 => exact Src.ofSlice _ Tryd.underlying63 _ _ _ _ rfl (news_new _ _ _) (recC_one _)
                  case m4 => unfold maxLen; omega
                  case b4 => omega
                  case base4 => have := HO.out.size; simp; omega
                  intro v4 w5 own4 gr4 _
                  have ho5 : Only (fun _ => False) w4 w5 := (HO.out.alloc _).own (HROW.out.alloc _) (Nat.le_refl _) gr4
                  have HO5 := Lib.hid ho5
                  have HW5 := Lib.hid own4
                  clear ho5 own4
                  clear gr4
                  go_wp2_with fail
                  go_meet
                  refine ⟨?_, HO5.out⟩
                  rw [HFA.out]
                  unfold RRow
                  rw [List.length_append, List.flatMap_append]
                  have e1 : [x].flatMap recC = recC ⟨x.key, x.ver, x.o, x.age, x.gone, x.data⟩ := by simp
                  rw [e1]
                  exact HW5.out
                · have hfa : insS x L = out := HFIN.out
                  have HFA := Lib.hid hfa
                  clear hfa
                  go_wp2_with fail
                  go_meet
                  refine ⟨?_, HO.out⟩
                  rw [HFA.out]
                  exact HROW.out
              case rest =>
              obtain ⟨hrow7, ho7⟩ := hcut
              obtain ⟨fa, fcap, rfl, _, _, _⟩ := Sl.cells recC_length (Sl.of_owns hrow7)
              have hb0 := ho7.old H0.out id
              have hb2 := ho7.old H2.out id
              have x2 : wc.cell? ⟨X, 2, none⟩ = some (.slice a L.length cap) := cell_at hb0 2
              have xf : ∀ i, wc.frozen? ⟨X, i, none⟩ = false := free_at hb0
              have hoE := HOC.out.trans ho7
              have hlw : X + 2 < w4.heap.size := lt_of_block H2.out
              have H06 := Lib.hid hb0
              have H26 := Lib.hid hb2
              have HOE := Lib.hid hoE
              have HOWN := Lib.hid hrow7
              clear hb0 hb2 hoE hrow7
              clear ho7
              go_upto_region 26 with (fail)
              obtain ⟨w7, hw7⟩ : ∃ w7, w7 = wc.setCell ⟨X, 2, none⟩ (.slice fa (insS x L).length fcap) := ⟨_, rfl⟩
              have t7 : Only (fun i => i = X) wc w7 := by rw [hw7]; exact (Only.refl _ _).setCell (S := fun i => i = X) (p := ⟨X, 2, none⟩) (.inr rfl) _
              have hb0 : w7.heap[X]? = some (.cells #[.int .i64 most, .int .i64 ttl, .slice fa (insS x L).length fcap, .int .i64 r] 65 (0, 0)) := by rw [hw7]; exact set_at H06.out 2 _
              have hb2 := t7.old H26.out (by omega)
              have own7 := owns_only HOWN.out t7 (fun k hk e => by omega)
              rw [← hw7]
              clear hw7 x2 xf
              have H08 := Lib.hid hb0
              have H28 := Lib.hid hb2
              have T7 := Lib.hid t7
              have HOWN8 := Lib.hid own7
              clear hb0 hb2 t7 own7
              have x0 : w7.cell? ⟨X, 0, none⟩ = some (.int .i64 most) := cell_at H08.out 0
              have x1 : w7.cell? ⟨X, 1, none⟩ = some (.int .i64 ttl) := cell_at H08.out 1
              have x2 : w7.cell? ⟨X, 2, none⟩ = some (.slice fa (insS x L).length fcap) := cell_at H08.out 2
              have x3 : w7.cell? ⟨X, 3, none⟩ = some (.int .i64 (r)) := cell_at H08.out 3
              have zf : ∀ i, w7.frozen? ⟨X + 2, i, none⟩ = false := free_at H28.out
              have z0 : w7.cell? ⟨(X + 2), 0, none⟩ = some (.int .i64 0) := cell_at H28.out 0
              have z1 : w7.cell? ⟨(X + 2), 1, none⟩ = some (.int .i64 0) := cell_at H28.out 1
              have z2 : w7.cell? ⟨(X + 2), 2, none⟩ = some (.slice none 0 0) := cell_at H28.out 2
              have z3 : w7.cell? ⟨(X + 2), 3, none⟩ = some (.int .i64 0) := cell_at H28.out 3
              have hn1 : ¬ X + 2 = X := by omega
              have hn2 : ¬ X = X + 2 := by omega
              go_wp2_with fail
              clear x0 x1 x2 x3 z0 z1 z2 z3 zf
              obtain ⟨s1, s2⟩ := lit_set H28.out [.int .i64 most, .int .i64 ttl, .slice fa (insS x L).length fcap, .int .i64 (r)] rfl
              rw [show World.setCells w7 (X + 2) 0 [.int .i64 most, .int .i64 ttl, .slice fa (insS x L).length fcap, .int .i64 (r)] = ((((w7.setCell ⟨(X + 2), 0, none⟩ (.int .i64 most)).setCell ⟨(X + 2), 1, none⟩ (.int .i64 ttl)).setCell ⟨(X + 2), 2, none⟩ (.slice fa (insS x L).length fcap)).setCell ⟨(X + 2), 3, none⟩ (.int .i64 (r))) from rfl] at s1 s2
              generalize ((((w7.setCell ⟨(X + 2), 0, none⟩ (.int .i64 most)).setCell ⟨(X + 2), 1, none⟩ (.int .i64 ttl)).setCell ⟨(X + 2), 2, none⟩ (.slice fa (insS x L).length fcap)).setCell ⟨(X + 2), 3, none⟩ (.int .i64 (r))) = wz at *
              have p0 : wz.cell? ⟨(X + 2), 0, none⟩ = some (.int .i64 most) := cell_at s1 0
              have p1 : wz.cell? ⟨(X + 2), 1, none⟩ = some (.int .i64 ttl) := cell_at s1 1
              have p2 : wz.cell? ⟨(X + 2), 2, none⟩ = some (.slice fa (insS x L).length fcap) := cell_at s1 2
              have p3 : wz.cell? ⟨(X + 2), 3, none⟩ = some (.int .i64 (r)) := cell_at s1 3
              refine bodyPost_ret (v := .tuple #[.agg #[.int .i64 most, .int .i64 ttl, .slice fa (insS x L).length fcap, .int .i64 (r)], .int .i64 0]) (by simp [results, Tryd.results32, go_sem, p0, p1, p2, p3]) rfl ?_
              refine HRP.out _ _ ?_
              skip
              have hX := HXW.out
              have hfin := (HOE.out.tr T7.out (fun i hi e => by omega)).tr s2 (fun i hi e => by omega)
              refine ⟨.slice fa (insS x L).length fcap, by rw [N1.out, E4.out]; rfl, hfin, ?_, .inr (fun b e => by have h1 := HOWN8.out.lt b e; have h2 := HOC.out.size; have h3 := s2.size; omega)⟩
              rw [N2.out]
              exact Sl.of_owns (owns_only HOWN8.out s2 (fun k hk e => by omega))
      | some y =>
        obtain ⟨i, hi, hfi, hLi, hLk⟩ := HY.out y rfl
        subst hfi
        subst hLi
        have hC4 := HC.out.new hoC (fun _ _ _ => id)
        obtain ⟨b, off, ha, hc⟩ := hC4.at i hi
        subst ha
        have hset := HS.out i hi hLk
        have z1 := hc 1 _ rfl
        have hE5 : E = if x.ver ≤ L[i].ver then 13 else 0 := E0.out
        have HOLD := Lib.hid hc
        generalize L[i].ver = v2 at *
        have x2 : w4.cell? ⟨X, 2, none⟩ = some (.slice (some ⟨b, off, none⟩) L.length cap) := cell_at hb0 2
        have y1 : w4.cell? ⟨X + 1, 1, none⟩ = some (.int .u64 x.ver) := cell_at hb1 1
        have hi1 : (0 : Int) ≤ (i : Int) ∧ (i : Int) < (L.length : Int) := by omega
        obtain ⟨hi2, hi3⟩ := hi1
        by_cases hv : x.ver ≤ v2
        · -- twice
          have e4 : E = 13 := by rw [hE5, if_pos hv]
          obtain ⟨n1, n2⟩ := HPN.out (by omega) (by omega)
          have hdd : decide ((x.ver : Int) ≤ (v2 : Int)) = true := decide_eq_true (by omega)
          have H0 := Lib.hid hb0
          have H1 := Lib.hid hb1
          have H2 := Lib.hid hb2
          have HOB := Lib.hid hoC
          have N1 := Lib.hid n1
          have N2 := Lib.hid n2
          have E4 := Lib.hid e4
          have E5 := Lib.hid hE5
          have HST := Lib.hid hset
          have HLK := Lib.hid hLk
          have HC4 := Lib.hid hC4
          clear hb0 hb1 hb2 hoC n1 n2 e4 hE5 hset hLk hC4
          clear hc
          go_upto_region 7 with (fail)
          go_quiet (fail)
          obtain ⟨w5, hw5⟩ : ∃ w5, w5 = w4.drewN nq := ⟨_, rfl⟩
          have ho5 : Only (fun _ => False) w4 w5 := by rw [hw5]; exact (Only.refl _ _).drewN _
          rw [← hw5]
          clear hw5 x2 y1 z1
          have hb0 := ho5.old H0.out id
          have hb2 := ho5.old H2.out id
          have hoD := HOB.out.trans ho5
          have H0' := Lib.hid hb0
          have H2' := Lib.hid hb2
          have HOD := Lib.hid hoD
          clear hb0 hb2 hoD
          clear ho5
          go_upto_region 8 with (fail)
          have x0 : w5.cell? ⟨X, 0, none⟩ = some (.int .i64 most) := cell_at H0'.out 0
          have x1 : w5.cell? ⟨X, 1, none⟩ = some (.int .i64 ttl) := cell_at H0'.out 1
          have x2 : w5.cell? ⟨X, 2, none⟩ = some (.slice (some ⟨b, off, none⟩) L.length cap) := cell_at H0'.out 2
          have x3 : w5.cell? ⟨X, 3, none⟩ = some (.int .i64 (r)) := cell_at H0'.out 3
          have zf : ∀ i, w5.frozen? ⟨X + 2, i, none⟩ = false := free_at H2'.out
          have z0 : w5.cell? ⟨(X + 2), 0, none⟩ = some (.int .i64 0) := cell_at H2'.out 0
          have z1 : w5.cell? ⟨(X + 2), 1, none⟩ = some (.int .i64 0) := cell_at H2'.out 1
          have z2 : w5.cell? ⟨(X + 2), 2, none⟩ = some (.slice none 0 0) := cell_at H2'.out 2
          have z3 : w5.cell? ⟨(X + 2), 3, none⟩ = some (.int .i64 0) := cell_at H2'.out 3
          have hn1 : ¬ X + 2 = X := by omega
          have hn2 : ¬ X = X + 2 := by omega
          go_wp2_with fail
          clear x0 x1 x2 x3 z0 z1 z2 z3 zf
          obtain ⟨s1, s2⟩ := lit_set H2'.out [.int .i64 most, .int .i64 ttl, .slice (some ⟨b, off, none⟩) L.length cap, .int .i64 (r)] rfl
          rw [show World.setCells w5 (X + 2) 0 [.int .i64 most, .int .i64 ttl, .slice (some ⟨b, off, none⟩) L.length cap, .int .i64 (r)] = ((((w5.setCell ⟨(X + 2), 0, none⟩ (.int .i64 most)).setCell ⟨(X + 2), 1, none⟩ (.int .i64 ttl)).setCell ⟨(X + 2), 2, none⟩ (.slice (some ⟨b, off, none⟩) L.length cap)).setCell ⟨(X + 2), 3, none⟩ (.int .i64 (r))) from rfl] at s1 s2
          generalize ((((w5.setCell ⟨(X + 2), 0, none⟩ (.int .i64 most)).setCell ⟨(X + 2), 1, none⟩ (.int .i64 ttl)).setCell ⟨(X + 2), 2, none⟩ (.slice (some ⟨b, off, none⟩) L.length cap)).setCell ⟨(X + 2), 3, none⟩ (.int .i64 (r))) = wz at *
          have p0 : wz.cell? ⟨(X + 2), 0, none⟩ = some (.int .i64 most) := cell_at s1 0
          have p1 : wz.cell? ⟨(X + 2), 1, none⟩ = some (.int .i64 ttl) := cell_at s1 1
          have p2 : wz.cell? ⟨(X + 2), 2, none⟩ = some (.slice (some ⟨b, off, none⟩) L.length cap) := cell_at s1 2
          have p3 : wz.cell? ⟨(X + 2), 3, none⟩ = some (.int .i64 (r)) := cell_at s1 3
          refine bodyPost_ret (v := .tuple #[.agg #[.int .i64 most, .int .i64 ttl, .slice (some ⟨b, off, none⟩) L.length cap, .int .i64 (r)], .int .i64 13]) (by simp [results, Tryd.results32, go_sem, p0, p1, p2, p3]) rfl ?_
          refine HRP.out _ _ ?_
          skip
          have hfin := HOD.out.tr s2 (fun i hi e => by have := HXW.out; omega)
          exact ⟨.slice (some ⟨b, off, none⟩) L.length cap, by rw [N1.out, E4.out]; rfl, hfin, by rw [N2.out]; exact HH.out.new hfin, .inl rfl⟩
        · -- newer
          have e4 : E = 0 := by rw [hE5, if_neg hv]
          obtain ⟨n1, n2⟩ := HPS.out e4
          rw [hset] at n2
          have hdd : decide ((x.ver : Int) ≤ (v2 : Int)) = false := decide_eq_false (by omega)
          have H0 := Lib.hid hb0
          have H1 := Lib.hid hb1
          have H2 := Lib.hid hb2
          have HOB := Lib.hid hoC
          have N1 := Lib.hid n1
          have N2 := Lib.hid n2
          have E4 := Lib.hid e4
          have E5 := Lib.hid hE5
          have HST := Lib.hid hset
          have HLK := Lib.hid hLk
          have HC4 := Lib.hid hC4
          clear hb0 hb1 hb2 hoC n1 n2 e4 hE5 hset hLk hC4
          clear hc
          go_upto_region 7 with (fail)
          go_quiet (fail)
          obtain ⟨w5, hw5⟩ : ∃ w5, w5 = w4.drewN nq := ⟨_, rfl⟩
          have ho5 : Only (fun _ => False) w4 w5 := by rw [hw5]; exact (Only.refl _ _).drewN _
          rw [← hw5]
          clear hw5 x2 y1 z1
          have hb0 := ho5.old H0.out id
          have hb1 := ho5.old H1.out id
          have hb2 := ho5.old H2.out id
          have hoD := HOB.out.trans ho5
          have x2 : w5.cell? ⟨X, 2, none⟩ = some (.slice (some ⟨b, off, none⟩) L.length cap) := cell_at hb0 2
          have hs5 := HH.out.new hoD
          have hxl : X < w5.heap.size := lt_of_block hb0
          have hxl1 : X + 1 < w5.heap.size := lt_of_block hb1
          have hxl2 : X + 2 < w5.heap.size := lt_of_block hb2
          have H0' := Lib.hid hb0
          have H1' := Lib.hid hb1
          have H2' := Lib.hid hb2
          have HOD := Lib.hid hoD
          have HS5 := Lib.hid hs5
          clear hb0 hb1 hb2 hoD hs5
          clear ho5
          go_upto_region 9 with (fail)
          go_wp2_with (at_builtin; refine Wait.mk ?_)
          refine Wait.go (wpList_append_src _ rfl (.tmp 47) (.tmp 49) 63 63 rfl w5.heap.size 35 i0 _ 6 64 Tryd.underlying63 hi0 iz0 iz1 iz2 rfl (.slice (some ⟨w5.heap.size, 0, none⟩) 0 0) 0 [] rfl (own_at (heap_alloc_new w5 _) _ _ (Nat.le_refl _)) _ L.length (L.flatMap recC) rfl ?src4 ?m4 ?b4 ?base4 ?_)
          case src4 => exact (HS5.out.new ((Only.refl _ _).alloc _)).src Tryd.underlying63 (fl_one recC_one L)
          case m4 => unfold maxLen; omega
          case b4 => omega
          case base4 => simp
          intro v6 w6 own6 gr6 _
          simp only [Nat.zero_add, List.nil_append] at own6
          have hne : L.flatMap recC ≠ [] := fun e => by have := congrArg List.length e; rw [fl_length recC_length] at this; simp at this; omega
          obtain ⟨g, cap6, cur, rfl, hg, hgb, hgc, hcm, hcs, ht⟩ := row_form own6 hne
          have ho6 : Only (fun _ => False) w5 w6 := ((Only.refl _ _).alloc _).own (own_at (heap_alloc_new w5 _) w5.heap.size 6 (Nat.le_refl _)) (Nat.le_refl _) gr6
          have hb0 := ho6.old H0'.out id
          have hb1 := ho6.old H1'.out id
          have hb2 := ho6.old H2'.out id
          have hoE := HOD.out.trans ho6
          have x2 : w6.cell? ⟨X, 2, none⟩ = some (.slice (some ⟨b, off, none⟩) L.length cap) := cell_at hb0 2
          have xf : ∀ i, w6.frozen? ⟨X, i, none⟩ = false := free_at hb0
          unfold maxLen at hcm
          have H06 := Lib.hid hb0
          have H16 := Lib.hid hb1
          have H26 := Lib.hid hb2
          have HOE := Lib.hid hoE
          have HOWN := Lib.hid own6
          clear hb0 hb1 hb2 hoE own6
          clear ho6 gr6 hgb hcs ht hne HST HLK HC4 HC HY HN HNK
          go_upto_region 10 with (fail)
          obtain ⟨w7, hw7⟩ : ∃ w7, w7 = w6.setCell ⟨X, 2, none⟩ (.slice (some ⟨g, 0, none⟩) L.length cap6) := ⟨_, rfl⟩
          have t7 : Only (fun i => i = X) w6 w7 := by rw [hw7]; exact (Only.refl _ _).setCell (S := fun i => i = X) (p := ⟨X, 2, none⟩) (.inr rfl) _
          have hb0 : w7.heap[X]? = some (.cells #[.int .i64 most, .int .i64 ttl, .slice (some ⟨g, 0, none⟩) L.length cap6, .int .i64 r] 65 (0, 0)) := by rw [hw7]; exact set_at H06.out 2 _
          have hb1 := t7.old H16.out (by omega)
          have hb2 := t7.old H26.out (by omega)
          have own7 := owns_only HOWN.out t7 (fun k hk e => by omega)
          rw [← hw7]
          clear hw7 x2 xf
          have x2 : w7.cell? ⟨X, 2, none⟩ = some (.slice (some ⟨g, 0, none⟩) L.length cap6) := cell_at hb0 2
          have y0 : w7.cell? ⟨(X + 1), 0, none⟩ = some (.string x.key) := cell_at hb1 0
          have y1 : w7.cell? ⟨(X + 1), 1, none⟩ = some (.int .u64 x.ver) := cell_at hb1 1
          have y2 : w7.cell? ⟨(X + 1), 2, none⟩ = some (.int .i64 x.o) := cell_at hb1 2
          have y3 : w7.cell? ⟨(X + 1), 3, none⟩ = some (.int .i64 x.age) := cell_at hb1 3
          have y4 : w7.cell? ⟨(X + 1), 4, none⟩ = some (.bool x.gone) := cell_at hb1 4
          have y5 : w7.cell? ⟨(X + 1), 5, none⟩ = some (.string x.data) := cell_at hb1 5
          obtain ⟨cur7, hg7, _⟩ := row_block own7
          have gf : ∀ i, w7.frozen? ⟨g, i, none⟩ = false := free_at hg7
          have gc : ∀ k u, (recC L[i])[k]? = some u → w7.cell? ⟨g, i * 6 + k, none⟩ = some u := fun k u hu => by
            have h6 : k < 6 := (List.getElem?_eq_some_iff.1 hu).1
            have := own7.cells (g := g) rfl (i * 6 + k) u (by rw [fl_get recC_length L i hi k h6]; exact hu)
            simpa [Addr.add_lit] using this
          have g0 := gc 0 _ rfl
          have g1 := gc 1 _ rfl
          have g2 := gc 2 _ rfl
          have g3 := gc 3 _ rfl
          have g4 := gc 4 _ rfl
          have g5 := gc 5 _ rfl
          simp only [Nat.add_zero] at g0
          have H07 := Lib.hid hb0
          have H17 := Lib.hid hb1
          have H27 := Lib.hid hb2
          have HOWN7 := Lib.hid own7
          have HG7 := Lib.hid hg7
          clear hb0 hb1 hb2 own7 hg7
          clear gc
          go_upto_region 11 with (fail)
          obtain ⟨w8, hw8⟩ : ∃ w8, w8 = ((((((w7.setCell ⟨g, i * 6, none⟩ (.string x.key)).setCell ⟨g, i * 6 + 1, none⟩ (.int .u64 x.ver)).setCell ⟨g, i * 6 + 2, none⟩ (.int .i64 x.o)).setCell ⟨g, i * 6 + 3, none⟩ (.int .i64 x.age)).setCell ⟨g, i * 6 + 4, none⟩ (.bool x.gone)).setCell ⟨g, i * 6 + 5, none⟩ (.string x.data)) := ⟨_, rfl⟩
          have e8 : w8 = w7.setCells g (i * 6) (recC x) := hw8.trans rfl
          have own8 := row_over HOWN7.out (i * 6) (recC x) (by rw [recC_length]; omega)
          rw [← e8, fl_set recC_length L i hi x] at own8
          have t8 : Only (fun i => i = g) w7 w8 := by rw [e8]; exact setCells_only g _ _ _
          rw [← hw8]
          clear hw8 e8 x2 y0 y1 y2 y3 y4 y5 g0 g1 g2 g3 g4 g5 gf
          have hb0 := t8.old H07.out (by omega)
          have hb2 := t8.old H27.out (by omega)
          have H08 := Lib.hid hb0
          have H28 := Lib.hid hb2
          have T7 := Lib.hid t7
          have T8 := Lib.hid t8
          have HOWN8 := Lib.hid own8
          clear hb0 hb2 t7 t8 own8
          have x0 : w8.cell? ⟨X, 0, none⟩ = some (.int .i64 most) := cell_at H08.out 0
          have x1 : w8.cell? ⟨X, 1, none⟩ = some (.int .i64 ttl) := cell_at H08.out 1
          have x2 : w8.cell? ⟨X, 2, none⟩ = some (.slice (some ⟨g, 0, none⟩) L.length cap6) := cell_at H08.out 2
          have x3 : w8.cell? ⟨X, 3, none⟩ = some (.int .i64 (r)) := cell_at H08.out 3
          have zf : ∀ i, w8.frozen? ⟨X + 2, i, none⟩ = false := free_at H28.out
          have z0 : w8.cell? ⟨(X + 2), 0, none⟩ = some (.int .i64 0) := cell_at H28.out 0
          have z1 : w8.cell? ⟨(X + 2), 1, none⟩ = some (.int .i64 0) := cell_at H28.out 1
          have z2 : w8.cell? ⟨(X + 2), 2, none⟩ = some (.slice none 0 0) := cell_at H28.out 2
          have z3 : w8.cell? ⟨(X + 2), 3, none⟩ = some (.int .i64 0) := cell_at H28.out 3
          have hn1 : ¬ X + 2 = X := by omega
          have hn2 : ¬ X = X + 2 := by omega
          go_wp2_with fail
          clear x0 x1 x2 x3 z0 z1 z2 z3 zf
          obtain ⟨s1, s2⟩ := lit_set H28.out [.int .i64 most, .int .i64 ttl, .slice (some ⟨g, 0, none⟩) L.length cap6, .int .i64 (r)] rfl
          rw [show World.setCells w8 (X + 2) 0 [.int .i64 most, .int .i64 ttl, .slice (some ⟨g, 0, none⟩) L.length cap6, .int .i64 (r)] = ((((w8.setCell ⟨(X + 2), 0, none⟩ (.int .i64 most)).setCell ⟨(X + 2), 1, none⟩ (.int .i64 ttl)).setCell ⟨(X + 2), 2, none⟩ (.slice (some ⟨g, 0, none⟩) L.length cap6)).setCell ⟨(X + 2), 3, none⟩ (.int .i64 (r))) from rfl] at s1 s2
          generalize ((((w8.setCell ⟨(X + 2), 0, none⟩ (.int .i64 most)).setCell ⟨(X + 2), 1, none⟩ (.int .i64 ttl)).setCell ⟨(X + 2), 2, none⟩ (.slice (some ⟨g, 0, none⟩) L.length cap6)).setCell ⟨(X + 2), 3, none⟩ (.int .i64 (r))) = wz at *
          have p0 : wz.cell? ⟨(X + 2), 0, none⟩ = some (.int .i64 most) := cell_at s1 0
          have p1 : wz.cell? ⟨(X + 2), 1, none⟩ = some (.int .i64 ttl) := cell_at s1 1
          have p2 : wz.cell? ⟨(X + 2), 2, none⟩ = some (.slice (some ⟨g, 0, none⟩) L.length cap6) := cell_at s1 2
          have p3 : wz.cell? ⟨(X + 2), 3, none⟩ = some (.int .i64 (r)) := cell_at s1 3
          refine bodyPost_ret (v := .tuple #[.agg #[.int .i64 most, .int .i64 ttl, .slice (some ⟨g, 0, none⟩) L.length cap6, .int .i64 (r)], .int .i64 0]) (by simp [results, Tryd.results32, go_sem, p0, p1, p2, p3]) rfl ?_
          refine HRP.out _ _ ?_
          skip
          have hX := HXW.out
          have h5 := HOD.out.size
          have hfin := ((HOE.out.tr T7.out (fun i hi e => by omega)).tr T8.out (fun i hi e => by omega)).tr s2 (fun i hi e => by omega)
          refine ⟨.slice (some ⟨g, 0, none⟩) L.length cap6, by rw [N1.out, E4.out]; rfl, hfin, ?_, .inr (fun b e => by have h1 := HOWN8.out.lt b e; have h3 := s2.size; omega)⟩
          rw [N2.out]
          have h9 := owns_only HOWN8.out s2 (fun k hk e => by omega)
          have h10 := Sl.of_owns h9
          unfold RSl
          rw [List.length_set]
          exact h10
theorem rput_any (w : World) (most ttl r : Int) (v : Value) (L : List RecT) (h : RSl w v L) (hL : L.length ≤ 1000000) (hris : Rising L) (x : RecT) (hk : x.key.size ≤ 1000000) (hr0 : 0 ≤ r) (hr : r < 1000000) :
    Calls Tryd.prog 32 #[rstV most ttl v r, recT x] w fun e w' => RPutP w w' most ttl r L x e :=
  (rput_own w most ttl r v L h hL hris x hk hr0 hr).mono fun _ _ ⟨v', h1, h2, h3, _⟩ => ⟨v', h1, h2, h3⟩
end Go.Proofs.YtjdlcfllmpdffaaDoor
/-! bellhoplaw15: same; what a store's reference keeps. -/
namespace Go.Proofs.YtjdlcfllmpdffaaDoor
open Go.Conc Go.RowKit Go.Maps

theorem fl_head (L : List RecT) (h : 0 < L.length) : (L.flatMap recC)[0]? = some (.string (L[0]).key) := by
  have := fl_get recC_length L 0 h 0 (by omega)
  rw [Nat.zero_mul, Nat.zero_add] at this
  exact this
/-- Records are kept where only blocks may change that hold no text. -/
theorem rsl_kept {S : Nat → Prop} {w w' : World} {v : Value} {L : List RecT} (h : RSl w v L) (ho : Only S w w') (hS : ∀ g, S g → ∀ i s, w.cell? ⟨g, i, none⟩ ≠ some (.string s)) : RSl w' v L := by
  obtain ⟨h1, a, cap, h2, h3, h4, h5⟩ := h
  refine ⟨h1, a, cap, h2, h3, h4, ?_⟩
  by_cases hn : 0 < L.length
  · rcases h5 with h5 | ⟨b, off, h5, h6⟩
    · exact .inl h5
    · refine .inr ⟨b, off, h5, fun j u hu => ho.cell (h6 j u hu) (fun hs => ?_)⟩
      exact hS b hs _ _ (h6 0 _ (fl_head L hn))
  · exact .inl (by omega)
theorem no_str {w : World} {b : Nat} {cs : Array Value} {t : TypeId} {f : Nat × Nat} (h : w.heap[b]? = some (.cells cs t f)) (hn : ∀ u ∈ cs.toList, ∀ s, u ≠ .string s) : ∀ i s, w.cell? ⟨b, i, none⟩ ≠ some (.string s) := by
  intro i s e
  rw [cell_at h] at e
  have h2 : cs.toList[i]? = some (.string s) := by simpa using e
  exact hn _ (List.mem_of_getElem? h2) s rfl
theorem good_split {x : RecT} (h : goodR x = true) : 2 ≤ x.key.size ∧ x.key.size ≤ 1000000 ∧ splitS x.key = x.key.extract 2 x.key.size := by
  have h64 := good_keys h
  unfold goodR goodP at h
  simp only [Bool.and_eq_true, beq_iff_eq] at h
  obtain ⟨⟨⟨⟨⟨h1, _⟩, _⟩, _⟩, _⟩, _⟩ := h
  unfold splitE at h1
  cases hs : splitOk x.key with
  | false => rw [hs] at h1; cases h1
  | true =>
    have hs' := hs
    unfold splitOk at hs'
    simp only [Bool.and_eq_true, decide_eq_true_eq] at hs'
    refine ⟨by omega, by omega, ?_⟩
    unfold splitS
    rw [hs]
    rfl
set_option maxRecDepth 100000 in
set_option maxHeartbeats 1000000 in
theorem same15_any (w : World) (va vb : Value) (L : List RecT) (ha : RSl w va L) (hb : RSl w vb L) :
    Calls Tryd.prog 28 #[va, vb] w fun e w' => e = .returned (.bool true) ∧ Only (fun _ => False) w w' := by
  obtain ⟨a, cap, rfl, h1, h2, h3⟩ := Sl.cells recC_length ha
  obtain ⟨a', cap', rfl, k1, k2, k3⟩ := Sl.cells recC_length hb
  unfold maxLen at h2 k2
  have HA := Lib.hid h3
  have HB := Lib.hid k3
  clear h3 k3
  clear ha hb
  go_enter Tryd.func28, Tryd.ntmps28
  go_wp2_with fail
  go_loopg [5] L.length (fun g v5 wr => ∃ j : Nat, v5 = .int .i64 j ∧ j ≤ L.length ∧ Only (fun _ => False) w wr ∧ g = L.length - j)
  case atStart => exact ⟨0, rfl, Nat.zero_le _, Only.refl _ _, rfl⟩
  case round =>
    obtain ⟨j, rfl, hj, ho, hg⟩ := hrel
    have Hg := Lib.hid hg
    have HO := Lib.hid ho
    clear hg ho
    by_cases hlt : j < L.length
    · obtain ⟨b, off, he, hc⟩ := HA.out.at j hlt
      subst he
      obtain ⟨b', off', he, hd⟩ := HB.out.at j hlt
      subst he
      have hcx : ∀ i u, (recC L[j])[i]? = some u → _ := fun i u hu => HO.out.cell (hc i u hu) id
      have hcy : ∀ i u, (recC L[j])[i]? = some u → _ := fun i u hu => HO.out.cell (hd i u hu) id
      generalize L[j] = z at *
      have p0 := hcx 0 _ rfl
      have p1 := hcx 1 _ rfl
      have p2 := hcx 2 _ rfl
      have p3 := hcx 3 _ rfl
      have p4 := hcx 4 _ rfl
      have p5 := hcx 5 _ rfl
      have q0 := hcy 0 _ rfl
      have q1 := hcy 1 _ rfl
      have q2 := hcy 2 _ rfl
      have q3 := hcy 3 _ rfl
      have q4 := hcy 4 _ rfl
      have q5 := hcy 5 _ rfl
      simp only [Nat.add_zero] at p0 q0
      have hne : ∀ w, (binOp BinOp.neq 33 (.agg #[.string z.key, .int .u64 z.ver, .int .i64 z.o, .int .i64 z.age, .bool z.gone, .string z.data]) (.agg #[.string z.key, .int .u64 z.ver, .int .i64 z.o, .int .i64 z.age, .bool z.gone, .string z.data])).run Tryd.prog w = .ok (.bool false) w := fun w => by
        rw [neR]
        simp
      have hlt' : (j : Int) < (L.length : Int) := by omega
      have hj0 : (0 : Int) ≤ (j : Int) := by omega
      clear hcx hcy hc hd
      go_wp2_with fail
      go_quiet (fail)
      go_wp2_with fail
      go_roundg (L.length - (j + 1))
      case measure => rw [Hg.out]; omega
      case rel => exact ⟨j + 1, by go_num, by omega, HO.out.drewN _, rfl⟩
    · have hlt' : ¬ (j : Int) < (L.length : Int) := by omega
      go_wp2_with fail
      go_ret
      exact ⟨rfl, HO.out⟩
end Go.Proofs.YtjdlcfllmpdffaaDoor
