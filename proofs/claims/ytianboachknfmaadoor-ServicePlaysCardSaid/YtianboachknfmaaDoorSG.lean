/- bellhopref15: Find, Tick, Named. -/
import Derived.Test.YtianboachknfmaaDoorME
/-! bellhopref15: Find, Tick, Named. -/
namespace Go.Proofs.YtianboachknfmaaDoor
open Go.Conc Go.RowKit Go.Maps

theorem infoRRec : (Tryd.prog.info? 35).map (fun i => (i.zero, i.size, i.bytes)) = some (some (recT zeroR), 6, 64) := by kernel_rfl
def rstV (most ttl : Int) (v : Value) (r : Int) : Value := .agg #[.int .i64 most, .int .i64 ttl, v, .int .i64 r]
/-- A slice of the reference's records. -/
abbrev RSl (w : World) (v : Value) (L : List RecT) : Prop := Sl w 6 v L.length (L.flatMap recC)
def findI (L : List RecT) (key : ByteArray) : Int := idxV (fun x => decide (x.key = key)) L
set_option maxRecDepth 100000 in
theorem rfind_any (w : World) (most ttl r : Int) (v : Value) (L : List RecT) (key : ByteArray) (h : RSl w v L) :
    Calls Tryd.prog 40 #[rstV most ttl v r, .string key] w fun e w' => e = .returned (.int .i64 (findI L key)) ∧ Only (fun _ => False) w w' := by
  obtain ⟨a, cap, rfl, h1, h2, h3⟩ := Sl.cells recC_length h
  unfold maxLen at h2
  unfold rstV
  obtain ⟨W, hW⟩ : ∃ W, W = w.alloc (.cells #[.int .i64 most, .int .i64 ttl, .slice a L.length cap, .int .i64 r] 95) := ⟨_, rfl⟩
  have hbW : W.heap[w.heap.size]? = some (.cells #[.int .i64 most, .int .i64 ttl, .slice a L.length cap, .int .i64 r] 95 (0, 0)) := by rw [hW]; exact heap_alloc_new w _
  have hoW : Only (fun _ => False) w W := by rw [hW]; exact (Only.refl _ _).alloc _
  have hsW : W.heap.size = w.heap.size + 1 := by rw [hW]; simp
  have hC := h3.new hoW (fun _ _ _ => id)
  have x2 : W.cell? ⟨w.heap.size, 2, none⟩ = some (.slice a L.length cap) := cell_at hbW 2
  have HC := Lib.hid hC
  have HOW := Lib.hid hoW
  clear hC hoW
  clear h h3 hbW hsW
  go_enter Tryd.func40, Tryd.ntmps40
  go_upto_region 1 with (fail)
  rw [← hW]
  clear hW
  go_wp2_with fail
  go_loopg [5] L.length (fun g v5 wr => ∃ j : Nat, v5 = .int .i64 j ∧ j ≤ L.length ∧ W = wr ∧ (∀ i (hi : i < L.length), i < j → L[i].key ≠ key) ∧ g = L.length - j)
  case atStart => exact ⟨0, rfl, Nat.zero_le _, rfl, fun _ _ h => absurd h (Nat.not_lt_zero _), rfl⟩
  case round =>
    obtain ⟨j, rfl, hj, rfl, hall, hg⟩ := hrel
    have Hg := Lib.hid hg
    have HA := Lib.hid hall
    clear hg hall
    by_cases hlt : j < L.length
    · obtain ⟨b, off, ha, hc⟩ := HC.out.at j hlt
      subst ha
      have y0 : W.cell? ⟨b, off + j * 6, none⟩ = some (.string L[j].key) := hc 0 _ rfl
      have hkj : ∃ k1, L[j].key = k1 := ⟨_, rfl⟩
      obtain ⟨k1, hk1⟩ := hkj
      rw [hk1] at y0
      have HK1 := Lib.hid hk1
      clear hk1
      clear hc
      have hlt' : (j : Int) < (L.length : Int) := by omega
      by_cases hx : k1 = key
      · have hxb := str_eq hx
        have HX := Lib.hid hx
        clear hx
        go_wp2_with fail
        go_ret
        refine ⟨?_, HOW.out⟩
        have hp : decide (L[j].key = key) = true := decide_eq_true (HK1.out.trans HX.out)
        have hi : L.findIdx (fun x => decide (x.key = key)) = j := (List.findIdx_eq hlt).2 ⟨hp, fun i hi => decide_eq_false (HA.out i (by omega) hi)⟩
        have hn : L.all (fun x => !decide (x.key = key)) = false := by
          rw [List.all_eq_false]
          exact ⟨L[j], List.getElem_mem hlt, by simp [HK1.out, HX.out]⟩
        unfold findI idxV
        rw [hn, hi]
        rfl
      · have hxb := str_ne hx
        have HX := Lib.hid hx
        clear hx
        go_wp2_with fail
        go_roundg (L.length - (j + 1))
        case measure => rw [Hg.out]; omega
        case rel =>
          refine ⟨j + 1, by go_num, by omega, rfl, fun i hi hij => ?_, rfl⟩
          rcases (by omega : i < j ∨ i = j) with h | rfl
          · exact HA.out i hi h
          · rw [HK1.out]; exact HX.out
    · have hlt' : ¬ (j : Int) < (L.length : Int) := by omega
      go_wp2_with fail
      go_ret
      refine ⟨?_, HOW.out⟩
      have hn : L.all (fun x => !decide (x.key = key)) = true := by
        rw [List.all_eq_true]
        intro x hx
        obtain ⟨i, hi, rfl⟩ := List.getElem_of_mem hx
        simp [HA.out i hi (by omega)]
      unfold findI idxV
      rw [hn]
      rfl
/-- A slice of the reference's records, of the call's own. -/
abbrev RRow (w : World) (base : Nat) (v : Value) (L : List RecT) : Prop := w.ownsRow base 35 6 v L.length (L.flatMap recC)
set_option maxRecDepth 100000 in
set_option maxHeartbeats 1000000 in
theorem rtick_any (w : World) (most ttl r : Int) (v : Value) (L : List RecT) (h : RSl w v L) (hL : L.length ≤ 1000000) (hag : ∀ x ∈ L, 0 ≤ x.age ∧ x.age < 1000000) :
    Calls Tryd.prog 39 #[rstV most ttl v r] w fun e w' => ∃ v', e = .returned (.tuple #[rstV most ttl v' r, .int .i64 ((L.length : Int) - (tickS ttl L).length)]) ∧ Only (fun _ => False) w w' ∧ RSl w' v' (tickS ttl L) := by
  obtain ⟨i0, hi0, iz0, iz1, iz2⟩ := info_parts infoRRec
  obtain ⟨a, cap, rfl, h1, h2, h3⟩ := Sl.cells recC_length h
  unfold maxLen at h2
  unfold rstV
  obtain ⟨W, hW⟩ : ∃ W, W = w.alloc (.cells #[.int .i64 most, .int .i64 ttl, .slice a L.length cap, .int .i64 r] 95) := ⟨_, rfl⟩
  have hbW : W.heap[w.heap.size]? = some (.cells #[.int .i64 most, .int .i64 ttl, .slice a L.length cap, .int .i64 r] 95 (0, 0)) := by rw [hW]; exact heap_alloc_new w _
  have hoW : Only (fun _ => False) w W := by rw [hW]; exact (Only.refl _ _).alloc _
  have hsW : W.heap.size = w.heap.size + 1 := by rw [hW]; simp
  obtain ⟨W1, hW1⟩ : ∃ W1, W1 = W.alloc (.cells #[.int .i64 0, .int .i64 0, .slice none 0 0, .int .i64 0] 95) := ⟨_, rfl⟩
  have hbW1 : W1.heap[W.heap.size]? = some (.cells #[.int .i64 0, .int .i64 0, .slice none 0 0, .int .i64 0] 95 (0, 0)) := by rw [hW1]; exact heap_alloc_new W _
  have hoW1 : Only (fun _ => False) W W1 := by rw [hW1]; exact (Only.refl _ _).alloc _
  have hsW1 : W1.heap.size = W.heap.size + 1 := by rw [hW1]; simp
  have hb1 := hoW1.old hbW id
  have hC := (h3.new hoW (fun _ _ _ => id)).new hoW1 (fun _ _ _ => id)
  have hoA := hoW.trans hoW1
  have hlt2 : w.heap.size < W1.heap.size ∧ W.heap.size = w.heap.size + 1 ∧ W1.heap.size = w.heap.size + 2 := by omega
  rw [hlt2.2.1] at hbW1
  have HC := Lib.hid hC
  have HB1 := Lib.hid hb1
  have HB2 := Lib.hid hbW1
  have HOA := Lib.hid hoA
  have HAG := Lib.hid hag
  have HLT := Lib.hid hlt2
  clear hC hb1 hbW1 hoA hag hlt2
  clear h h3 hbW
  go_enter Tryd.func39, Tryd.ntmps39
  go_upto_region 1 with (fail)
  rw [← hW, ← hW1]
  clear hW hW1 hsW hsW1 hoW hoW1
  generalize hX : w.heap.size = X at *
  have HXW := Lib.hid hX
  clear hX
  go_wp2_with fail
  go_loopg [4, 5] L.length (fun g v4 v5 wr => ∃ k : Nat, v5 = .int .i64 k ∧ k ≤ L.length ∧ Only (fun _ => False) W1 wr ∧ RRow wr W1.heap.size v4 (tickS ttl (L.take k)) ∧ g = L.length - k)
  case atStart => exact ⟨0, rfl, Nat.zero_le _, Only.refl _ _, World.ownsRow_nil W1 _ _ _, rfl⟩
  case round =>
    obtain ⟨k, rfl, hk, ho, hown, hg⟩ := hrel
    have x1 : wr.cell? ⟨X, 1, none⟩ = some (.int .i64 ttl) := cell_at (ho.old HB1.out id) 1
    have x2 : wr.cell? ⟨X, 2, none⟩ = some (.slice a L.length cap) := cell_at (ho.old HB1.out id) 2
    have htl := length_tick_le ttl (L.take k)
    have htl2 : (L.take k).length = k := by simp; omega
    have htk2 : (tickS ttl (L.take k)).length ≤ L.length := by omega
    have Hg := Lib.hid hg
    have HO := Lib.hid ho
    have HW := Lib.hid hown
    have HTL := Lib.hid htl
    have HTL2 := Lib.hid htl2
    clear hg ho hown htl htl2
    by_cases hlt : k < L.length
    · obtain ⟨kb, koff, ha, hc⟩ := HC.out.at k hlt
      subst ha
      have hcr : ∀ i u, (recC L[k])[i]? = some u → wr.cell? ⟨kb, koff + k * 6 + i, none⟩ = some u := fun i u hu => HO.out.cell (hc i u hu) id
      have htk : tickS ttl (L.take (k + 1)) = tickS ttl (L.take k) ++ tickS ttl [L[k]] := by
        rw [← tick_append, List.take_add_one, List.getElem?_eq_getElem hlt]; rfl
      have hxa := HAG.out _ (List.getElem_mem hlt)
      have HTK := Lib.hid htk
      clear htk
      clear hc
      generalize L[k] = x at *
      obtain ⟨k1, v1, o1, a1, g1, d1⟩ := x
      simp only at hxa
      have y0 : wr.cell? ⟨kb, koff + k * 6, none⟩ = some (.string k1) := hcr 0 _ rfl
      have y1 := hcr 1 _ rfl
      have y2 := hcr 2 _ rfl
      have y3 := hcr 3 _ rfl
      have y4 := hcr 4 _ rfl
      have y5 := hcr 5 _ rfl
      clear hcr
      simp only at y1 y2 y3 y4 y5
      have hlt' : (k : Int) < (L.length : Int) := by omega
      obtain ⟨V, hV⟩ : ∃ V, V = wr.alloc (.cells #[.string k1, .int .u64 v1, .int .i64 o1, .int .i64 (a1 + 1), .bool g1, .string d1] 35) := ⟨_, rfl⟩
      have hbV : V.heap[wr.heap.size]? = some (.cells #[.string k1, .int .u64 v1, .int .i64 o1, .int .i64 (a1 + 1), .bool g1, .string d1] 35 (0, 0)) := by rw [hV]; exact heap_alloc_new wr _
      have hoV : Only (fun _ => False) wr V := by rw [hV]; exact (Only.refl _ _).alloc _
      have hsV : V.heap.size = wr.heap.size + 1 := by rw [hV]; simp
      have HBV := Lib.hid hbV
      have HOV := Lib.hid hoV
      have HSV := Lib.hid hsV
      clear hbV hoV hsV
      go_upto_region 7 with (fail)
      rw [← hV]
      clear hV y0 y1 y2 y3 y4 y5
      have x1 := HOV.out.cell x1 id
      have x2 := HOV.out.cell x2 id
      have z0 : V.cell? ⟨wr.heap.size, 0, none⟩ = some (.string k1) := cell_at HBV.out 0
      have z1 : V.cell? ⟨wr.heap.size, 1, none⟩ = some (.int .u64 v1) := cell_at HBV.out 1
      have z2 : V.cell? ⟨wr.heap.size, 2, none⟩ = some (.int .i64 o1) := cell_at HBV.out 2
      have z3 : V.cell? ⟨wr.heap.size, 3, none⟩ = some (.int .i64 (a1 + 1)) := cell_at HBV.out 3
      have z4 : V.cell? ⟨wr.heap.size, 4, none⟩ = some (.bool g1) := cell_at HBV.out 4
      have z5 : V.cell? ⟨wr.heap.size, 5, none⟩ = some (.string d1) := cell_at HBV.out 5
      by_cases hy : a1 + 1 < ttl
      · have ht1 : tickS ttl [RecT.mk k1 v1 o1 a1 g1 d1] = [RecT.mk k1 v1 o1 (a1 + 1) g1 d1] := by rw [tick_one]; exact if_pos hy
        rw [ht1] at HTK
        clear ht1
        go_wp2_with (at_builtin; refine Wait.mk ?_)
        refine Wait.go (wpList_append_src _ rfl (.tmp 29) (.tmp 31) 82 82 rfl W1.heap.size 35 i0 _ 6 64 Tryd.underlying82 hi0 iz0 iz1 iz2 rfl _ (tickS ttl (L.take k)).length ((tickS ttl (L.take k)).flatMap recC) rfl ((owns_only HW.out HOV.out (fun _ _ => id)).alloc _) _ 1 (recC ⟨k1, v1, o1, a1 + 1, g1, d1⟩) rfl ?src4 ?m4 ?b4 ?base4 ?_)
        case src4 => exact Src.ofSlice _ Tryd.underlying82 _ _ _ _ rfl (news_new _ _ _) (recC_one _)
        case m4 => have h5 := HTL.out; have h6 := HTL2.out; unfold maxLen; omega
        case b4 => have h5 := HTL.out; have h6 := HTL2.out; omega
        case base4 => have h5 := HO.out.size; have h6 := HOV.out.size; simp; omega
        intro v4 w5 own4 gr4 hv4
        have ho5 : Only (fun _ => False) W1 w5 := ((HO.out.trans HOV.out).alloc _).own ((owns_only HW.out HOV.out (fun _ _ => id)).alloc _) (Nat.le_refl _) gr4
        have HO5 := Lib.hid ho5
        have HW5 := Lib.hid own4
        clear ho5 own4
        clear gr4 hv4 z0 z1 z2 z3 z4 z5 x1 x2
        go_wp2_with fail
        go_roundg (L.length - (k + 1))
        case measure => rw [Hg.out]; omega
        case rel =>
          refine ⟨k + 1, by go_num, by omega, HO5.out, ?_, rfl⟩
          unfold RRow
          rw [HTK.out, List.length_append, List.flatMap_append]
          have e1 : [RecT.mk k1 v1 o1 (a1 + 1) g1 d1].flatMap recC = recC ⟨k1, v1, o1, a1 + 1, g1, d1⟩ := by simp
          rw [e1]
          exact HW5.out
      · have ht1 : tickS ttl [RecT.mk k1 v1 o1 a1 g1 d1] = [] := by rw [tick_one]; exact if_neg hy
        rw [ht1, List.append_nil] at HTK
        clear ht1
        go_wp2_with fail
        go_roundg (L.length - (k + 1))
        case measure => rw [Hg.out]; omega
        case rel =>
          refine ⟨k + 1, by go_num, by omega, HO.out.trans HOV.out, ?_, rfl⟩
          rw [HTK.out]
          exact owns_only HW.out HOV.out (fun _ _ => id)
    · have hke : k = L.length := by omega
      have hlt' : ¬ (k : Int) < (L.length : Int) := by omega
      have hW := HW.out
      rw [hke, List.take_length] at hW htk2
      have hsl := Sl.of_owns hW
      obtain ⟨_, a4, cap4, rfl, g1, g2, g3⟩ := id hsl
      unfold maxLen at g2
      have HW2 := Lib.hid hW
      clear hW
      clear hke hsl g3
      have hb1r := HO.out.old HB1.out id
      have hb2r := HO.out.old HB2.out id
      have x0 : wr.cell? ⟨X, 0, none⟩ = some (.int .i64 most) := cell_at hb1r 0
      have x3 : wr.cell? ⟨X, 3, none⟩ = some (.int .i64 r) := cell_at hb1r 3
      have xf : ∀ i, wr.frozen? ⟨X, i, none⟩ = false := free_at hb1r
      have z0 : wr.cell? ⟨(X + 1), 0, none⟩ = some (.int .i64 0) := cell_at hb2r 0
      have z1 : wr.cell? ⟨(X + 1), 1, none⟩ = some (.int .i64 0) := cell_at hb2r 1
      have z2 : wr.cell? ⟨(X + 1), 2, none⟩ = some (.slice none 0 0) := cell_at hb2r 2
      have z3 : wr.cell? ⟨(X + 1), 3, none⟩ = some (.int .i64 0) := cell_at hb2r 3
      have zf : ∀ i, wr.frozen? ⟨X + 1, i, none⟩ = false := free_at hb2r
      have hn1 : ¬ X + 1 = X := by omega
      have hn2 : ¬ X = X + 1 := by omega
      have HB1R := Lib.hid hb1r
      have HB2R := Lib.hid hb2r
      clear hb1r hb2r
      go_wp2_with fail
      obtain ⟨wy, hwy⟩ : ∃ wy, wy = wr.setCell ⟨X, 2, none⟩ (.slice a4 (tickS ttl L).length cap4) := ⟨_, rfl⟩
      have t1 : Only (fun i => i = X) wr wy := by rw [hwy]; exact (Only.refl _ _).setCell (S := fun i => i = X) (p := ⟨X, 2, none⟩) (.inr rfl) _
      have hb2y := t1.old HB2R.out (by omega)
      rw [← hwy]
      clear hwy x0 x1 x2 x3 xf z0 z1 z2 z3 zf
      obtain ⟨s1, s2⟩ := lit_set hb2y [.int .i64 most, .int .i64 ttl, .slice a4 (tickS ttl L).length cap4, .int .i64 r] rfl
      rw [show World.setCells wy (X + 1) 0 [.int .i64 most, .int .i64 ttl, .slice a4 (tickS ttl L).length cap4, .int .i64 r] = ((((wy.setCell ⟨(X + 1), 0, none⟩ (.int .i64 most)).setCell ⟨(X + 1), 1, none⟩ (.int .i64 ttl)).setCell ⟨(X + 1), 2, none⟩ (.slice a4 (tickS ttl L).length cap4)).setCell ⟨(X + 1), 3, none⟩ (.int .i64 r)) from rfl] at s1 s2
      generalize ((((wy.setCell ⟨(X + 1), 0, none⟩ (.int .i64 most)).setCell ⟨(X + 1), 1, none⟩ (.int .i64 ttl)).setCell ⟨(X + 1), 2, none⟩ (.slice a4 (tickS ttl L).length cap4)).setCell ⟨(X + 1), 3, none⟩ (.int .i64 r)) = wz at *
      have p0 : wz.cell? ⟨(X + 1), 0, none⟩ = some (.int .i64 most) := cell_at s1 0
      have p1 : wz.cell? ⟨(X + 1), 1, none⟩ = some (.int .i64 ttl) := cell_at s1 1
      have p2 : wz.cell? ⟨(X + 1), 2, none⟩ = some (.slice a4 (tickS ttl L).length cap4) := cell_at s1 2
      have p3 : wz.cell? ⟨(X + 1), 3, none⟩ = some (.int .i64 r) := cell_at s1 3
      refine bodyPost_ret (v := .tuple #[.agg #[.int .i64 most, .int .i64 ttl, .slice a4 (tickS ttl L).length cap4, .int .i64 r], .int .i64 ((L.length : Int) - (tickS ttl L).length)]) (by simp [results, Tryd.results39, go_sem, p0, p1, p2, p3]) rfl ?_
      have hl := HLT.out
      have h5 := HOA.out.size
      have h8 := HXW.out
      refine ⟨_, rfl, ?_, ?_⟩
      · have h6 := HOA.out.trans HO.out
        exact (h6.tr t1 (fun i hi e => by omega)).tr s2 (fun i hi e => by omega)
      · exact Sl.of_owns (owns_only (owns_only HW2.out t1 (fun k hk e => by omega)) s2 (fun k hk e => by omega))
theorem filter_snoc (p : RecT → Bool) (L : List RecT) (k : Nat) (hk : k < L.length) : (L.take (k + 1)).filter p = (L.take k).filter p ++ if p L[k] then [L[k]] else [] := by
  rw [List.take_add_one, List.getElem?_eq_getElem hk, List.filter_append]
  congr 1
  cases h : p L[k] <;> simp [h]
set_option maxRecDepth 100000 in
set_option maxHeartbeats 1000000 in
theorem rnamedR_any (w : World) (most ttl r : Int) (v : Value) (L : List RecT) (name : ByteArray) (h : RSl w v L) (hL : L.length ≤ 1000000) (hks : ∀ x ∈ L, 2 ≤ x.key.size ∧ x.key.size ≤ 1000000 ∧ splitS x.key = x.key.extract 2 x.key.size) :
    Calls Tryd.prog 44 #[rstV most ttl v r, .string name] w fun e w' => ∃ v', e = .returned v' ∧ Only (fun _ => False) w w' ∧ RSl w' v' (L.filter (fun x => !unnamed name x)) := by
  obtain ⟨i0, hi0, iz0, iz1, iz2⟩ := info_parts infoRRec
  obtain ⟨a, cap, rfl, h1, h2, h3⟩ := Sl.cells recC_length h
  unfold maxLen at h2
  unfold rstV
  obtain ⟨W, hW⟩ : ∃ W, W = w.alloc (.cells #[.int .i64 most, .int .i64 ttl, .slice a L.length cap, .int .i64 r] 95) := ⟨_, rfl⟩
  have hbW : W.heap[w.heap.size]? = some (.cells #[.int .i64 most, .int .i64 ttl, .slice a L.length cap, .int .i64 r] 95 (0, 0)) := by rw [hW]; exact heap_alloc_new w _
  have hoW : Only (fun _ => False) w W := by rw [hW]; exact (Only.refl _ _).alloc _
  have hsW : W.heap.size = w.heap.size + 1 := by rw [hW]; simp
  have hC := h3.new hoW (fun _ _ _ => id)
  have HC := Lib.hid hC
  have HB1 := Lib.hid hbW
  have HOA := Lib.hid hoW
  have HKS := Lib.hid hks
  clear hC hbW hoW hks
  clear h h3 hsW
  go_enter Tryd.func44, Tryd.ntmps44
  go_upto_region 1 with (fail)
  rw [← hW]
  clear hW
  generalize w.heap.size = X at *
  go_wp2_with fail
  go_loopg [5, 6] L.length (fun g v5 v6 wr => ∃ k : Nat, v6 = .int .i64 k ∧ k ≤ L.length ∧ Only (fun _ => False) W wr ∧ RRow wr W.heap.size v5 ((L.take k).filter (fun x => !unnamed name x)) ∧ g = L.length - k)
  case atStart => exact ⟨0, rfl, Nat.zero_le _, Only.refl _ _, World.ownsRow_nil W _ _ _, rfl⟩
  case round =>
    obtain ⟨k, rfl, hk, ho, hown, hg⟩ := hrel
    have x2 : wr.cell? ⟨X, 2, none⟩ = some (.slice a L.length cap) := cell_at (ho.old HB1.out id) 2
    have htl : ((L.take k).filter (fun x => !unnamed name x)).length ≤ k := Nat.le_trans (List.length_filter_le _ _) (by simp; omega)
    have Hg := Lib.hid hg
    have HO := Lib.hid ho
    have HW := Lib.hid hown
    have HTL := Lib.hid htl
    clear hg ho hown htl
    by_cases hlt : k < L.length
    · obtain ⟨kb, koff, ha, hc⟩ := HC.out.at k hlt
      subst ha
      have hcr : ∀ i u, (recC L[k])[i]? = some u → wr.cell? ⟨kb, koff + k * 6 + i, none⟩ = some u := fun i u hu => HO.out.cell (hc i u hu) id
      have htk := filter_snoc (fun x => !unnamed name x) L k hlt
      have hxk := HKS.out _ (List.getElem_mem hlt)
      have hun : unnamed name L[k] = (!decide (splitS L[k].key = name) || L[k].gone) := rfl
      rw [hxk.2.2] at hun
      have hk1 := hxk.1
      have hk2 := hxk.2.1
      clear hxk hc
      generalize (L.take k).filter (fun x => !unnamed name x) = A at *
      generalize unnamed name L[k] = u at *
      generalize L[k] = x at *
      obtain ⟨k1, v1, o1, a1, g1, d1⟩ := x
      simp only at hk1 hk2 hun
      have HTK := Lib.hid htk
      have HUN := Lib.hid hun
      clear htk hun
      have y0 : wr.cell? ⟨kb, koff + k * 6, none⟩ = some (.string k1) := hcr 0 _ rfl
      have y1 := hcr 1 _ rfl
      have y2 := hcr 2 _ rfl
      have y3 := hcr 3 _ rfl
      have y4 := hcr 4 _ rfl
      have y5 := hcr 5 _ rfl
      clear hcr
      simp only at y1 y2 y3 y4 y5
      have hlt' : (k : Int) < (L.length : Int) := by omega
      have hs1 : (2 : Int) ≤ (k1.size : Int) := by omega
      cases hu : u with
      | true =>
        have HU := Lib.hid (hu ▸ HUN.out : true = _)
        subst hu
        by_cases hnm : k1.extract 2 k1.size = name
        · have hxb := str_eq hnm
          have hg1 : g1 = true := by have := HU.out; rw [decide_eq_true hnm] at this; simpa using this.symm
          subst hg1
          have HNM := Lib.hid hnm
          clear hnm
          go_wp2_with fail
          go_roundg (L.length - (k + 1))
          case measure => rw [Hg.out]; omega
          case rel =>
            refine ⟨k + 1, by go_num, by omega, HO.out, ?_, rfl⟩
            rw [HTK.out]
            simpa using HW.out
        · have hxb := str_ne hnm
          have HNM := Lib.hid hnm
          clear hnm
          go_wp2_with fail
          go_roundg (L.length - (k + 1))
          case measure => rw [Hg.out]; omega
          case rel =>
            refine ⟨k + 1, by go_num, by omega, HO.out, ?_, rfl⟩
            rw [HTK.out]
            simpa using HW.out
      | false =>
        have hu2 := HUN.out
        rw [hu] at hu2
        subst hu
        have hnm : k1.extract 2 k1.size = name := by
          by_cases h : k1.extract 2 k1.size = name
          · exact h
          · rw [decide_eq_false h] at hu2; cases hu2
        have hg1 : g1 = false := by rw [decide_eq_true hnm] at hu2; simpa using hu2.symm
        subst hg1
        have hxb := str_eq hnm
        have HNM := Lib.hid hnm
        have HU2 := Lib.hid hu2
        clear hnm hu2
        go_wp2_with (at_builtin; refine Wait.mk ?_)
        refine Wait.go (wpList_append_src _ rfl (.tmp 32) (.tmp 38) 82 82 rfl W.heap.size 35 i0 _ 6 64 Tryd.underlying82 hi0 iz0 iz1 iz2 rfl _ A.length (A.flatMap recC) rfl (HW.out.alloc _) _ 1 (recC ⟨k1, v1, o1, a1, false, d1⟩) rfl ?src4 ?m4 ?b4 ?base4 ?_)
        case src4 => exact Src.ofSlice _ Tryd.underlying82 _ _ _ _ rfl (news_new _ _ _) (recC_one _)
        case m4 => have h5 := HTL.out; unfold maxLen; omega
        case b4 => have h5 := HTL.out; omega
        case base4 => have h5 := HO.out.size; simp; omega
        intro v4 w5 own4 gr4 hv4
        have ho5 : Only (fun _ => False) W w5 := (HO.out.alloc _).own (HW.out.alloc _) (Nat.le_refl _) gr4
        have HO5 := Lib.hid ho5
        have HW5 := Lib.hid own4
        clear ho5 own4
        clear gr4 hv4 y0 y1 y2 y3 y4 y5 x2
        go_wp2_with fail
        go_roundg (L.length - (k + 1))
        case measure => rw [Hg.out]; omega
        case rel =>
          refine ⟨k + 1, by go_num, by omega, HO5.out, ?_, rfl⟩
          rw [HTK.out]
          unfold RRow
          simp only [Bool.not_false, if_true]
          rw [List.length_append, List.flatMap_append]
          have e1 : [RecT.mk k1 v1 o1 a1 false d1].flatMap recC = recC ⟨k1, v1, o1, a1, false, d1⟩ := by simp
          rw [e1]
          exact HW5.out
    · have hke : k = L.length := by omega
      have hlt' : ¬ (k : Int) < (L.length : Int) := by omega
      have hW := HW.out
      rw [hke, List.take_length] at hW
      have HW2 := Lib.hid hW
      clear hW
      clear hke
      go_wp2_with fail
      go_ret
      exact ⟨_, rfl, HOA.out.trans HO.out, Sl.of_owns HW2.out⟩
end Go.Proofs.YtianboachknfmaaDoor
