/- The walk of bellhoplaw04.ClockPlays. -/
import Derived.Test.YtjgcbcahikemdaaClk14
import Derived.Test.YtjgcbcahikemdaaClk10
namespace Go.Proofs.Ytjgcbcahikemdaa
open Go.Conc Go.RowKit

def szL (most : Int) : Int := min (max most 0) 64
theorem thC_one (t : ByteArray × Int) : ∀ u ∈ thC t, u.oneCell' = true := fun u hu => thsC_one [t] u (by simpa [thsC] using hu)
theorem ThRow.put {w : World} {B C : Nat} {v : Value} {L : List (ByteArray × (Int × Int))} {nm : ByteArray} {a c : Int} (h : w.ownsRow B 35 2 v ((dropL L nm).length + 1) (thsC (thL (dropL L nm)) ++ thC (nm, a))) (hB : C ≤ B) : ThRow w C v (putL L nm (a, c)) := by
  have h2 := ownsRow_base_a h hB
  unfold ThRow putL
  rw [thL_append, thsC_append, List.length_append]
  exact h2
theorem Inv.drop {L : List (ByteArray × (Int × Int))} {cnt : Int} {n : Nat} (h : Inv L cnt n) (k : ByteArray) : Inv (dropL L k) cnt n := h.filter _
set_option maxRecDepth 100000 in
set_option maxHeartbeats 20000000 in
theorem plays_any (w : World) (v : Value) (most : Int) (l : List (Int × ByteArray × Int)) (h : Sl w 3 v l.length (l.flatMap actCells)) (hs : ∀ a ∈ l, a.2.1.size ≤ maxLen ∧ (Lit.int .i64 a.1).wf = true) (_ : (Lit.int .i64 most).wf = true) :
    Calls Try.prog 4 #[.int .i64 most, v] w fun e w' => e = .returned (.bool true) ∧ Only (fun _ => False) w w' := by
  obtain ⟨_, ad, cap, rfl, h3, h4, h5⟩ := h
  go_enter Try.func4, Try.ntmps4
  go_wp2_with fail
  refine (speaks_any w).mono ?_
  rintro e w1 ⟨rfl, ho1⟩
  go_wp2_with fail
  refine (new_clk w1 most).mono ?_
  rintro e w2 ⟨rfl, ho2, hc2⟩
  go_upto_region 4 with (fail)
  go_cut [6] (fun v6 wx => v6 = .int .i64 (szL most) ∧ w2 = wx)
  case first =>
    go_wp2_with fail
    all_goals
      go_meet
      refine ⟨?_, rfl⟩
      unfold szL
      congr 1
      try omega
  case rest =>
  obtain ⟨rfl, rfl⟩ := hcut
  have hD : w.heap.size ≤ w1.heap.size ∧ w1.heap.size + 1 < w2.heap.size := ⟨ho1.size, lt_of_block hc2.blk⟩
  have hO := ho1.trans ho2
  have hA : ClkIs w2 (w1.heap.size + 1) w1.heap.size (szL most) 0 [] := hc2
  clear ho1 ho2 hc2
  go_wp2_with fail
  generalize w1.heap.size = MA at *
  generalize szL most = sz at *
  have HD := Lib.hid hD
  have HO := Lib.hid hO
  have HH5 := Lib.hid h5
  have HSZ := Lib.hid (fun a ha => (hs a ha).1 : ∀ a ∈ l, a.2.1.size ≤ maxLen)
  unfold maxLen at h4
  clear hs hD hO h5
  go_loopg [7, 8] (90 - 0) (fun g v7 v8 wr => ∃ (k : Nat) (cnt : Int) (L : List (ByteArray × (Int × Int))), v8 = .int .i64 k ∧ k ≤ l.length ∧ k ≤ 90 ∧ Only (fun i => i = MA + 1 ∨ i = MA) w2 wr ∧ ClkIs wr (MA + 1) MA sz cnt L ∧ Inv L cnt k ∧ ThRow wr w2.heap.size v7 L ∧ g = 90 - k)
  case atStart => exact ⟨0, 0, [], rfl, Nat.zero_le _, Nat.zero_le _, Only.refl _ _, hA, Inv.nil, World.ownsRow_nil _ _ _ _, rfl⟩
  case round =>
    obtain ⟨k, cnt, L, rfl, hk, hk90, ho, hA, hI, hrow, hg⟩ := hrel
    have Hg := Lib.hid hg
    have HOR := Lib.hid ho
    have HA := Lib.hid hA
    have HI := Lib.hid hI
    have HROW := Lib.hid hrow
    obtain ⟨am, capm, rfl, hnc, hcm, hcells⟩ := Sl.things (Sl.of_owns hrow)
    have HC := Lib.hid hcells
    unfold maxLen at hcm
    have hLl : L.length ≤ 90 := by have := hI.len; omega
    clear hg ho hA hI hrow hcells
    by_cases hlt : k < l.length ∧ k < 90
    · obtain ⟨hlt, hlt90⟩ := hlt
      obtain ⟨bb, off, ha, hcc⟩ := HH5.out.resolve_left (by omega)
      subst ha
      have z0 : w.cell? ⟨bb, off + k * 3, none⟩ = some (.int .i64 l[k].1) := hcc (k * 3 + 0) _ (by rw [acts_get l k hlt 0 (by decide)]; rfl)
      have z1 : w.cell? ⟨bb, off + (k * 3 + 1), none⟩ = some (.string l[k].2.1) := hcc _ _ (by rw [acts_get l k hlt 1 (by decide)]; rfl)
      have z2 : w.cell? ⟨bb, off + (k * 3 + 2), none⟩ = some (.int .i64 l[k].2.2) := hcc _ _ (by rw [acts_get l k hlt 2 (by decide)]; rfl)
      have hbw := World.block_lt_of_cell? _ _ z1
      have hnb : ¬ (bb = MA + 1 ∨ bb = MA) := by have := HD.out; have : bb < w.heap.size := hbw; omega
      have y0 := HOR.out.cell (HO.out.cell z0 id) hnb
      have y1 := HOR.out.cell (HO.out.cell z1 id) hnb
      have y2 := HOR.out.cell (HO.out.cell z2 id) hnb
      have hsz : l[k].2.1.size ≤ maxLen := HSZ.out _ (List.getElem_mem hlt)
      generalize l[k].1 = wh0 at *
      generalize l[k].2.1 = nm0 at *
      generalize l[k].2.2 = at0 at *
      clear z0 z1 z2 hcc hbw hnb
      rw [← Nat.add_assoc] at y1 y2
      have hA1 : (0 : Int) ≤ min (nm0.size : Int) 3 := by omega
      have hA2 : min (nm0.size : Int) 3 ≤ (nm0.size : Int) := by omega
      have hAs : (nm0.extract 0 (min (nm0.size : Int) 3).toNat).size ≤ maxLen := by rw [ByteArray.size_extract]; unfold maxLen at *; omega
      generalize hNm : nm0.extract 0 (min (nm0.size : Int) 3).toNat = nm at hAs
      have HAS := Lib.hid hAs
      have hlt' : (k : Int) < (l.length : Int) := by omega
      have hlt90' : (k : Int) < 90 := by omega
      go_upto_region 10 with (fail)
      obtain ⟨W, hW⟩ : ∃ W, W = wr.alloc (.cells #[.int .i64 wh0, .string nm0, .int .i64 at0] 27) := ⟨_, rfl⟩
      have hOW : Only (fun _ => False) wr W := by rw [hW]; exact (Only.refl _ _).alloc _
      have hbW : W.heap[wr.heap.size]? = some (.cells #[.int .i64 wh0, .string nm0, .int .i64 at0] 27) := by rw [hW]; exact heap_alloc_new wr _
      have hX : w2.heap.size ≤ wr.heap.size ∧ MA + 1 < w2.heap.size := ⟨HOR.out.size, by have := HD.out; omega⟩
      rw [← hW]
      clear hW
      have x0 : W.cell? ⟨wr.heap.size, 0, none⟩ = some (.int .i64 wh0) := cell_at hbW 0
      have x1 : W.cell? ⟨wr.heap.size, 1, none⟩ = some (.string nm0) := cell_at hbW 1
      have x2 : W.cell? ⟨wr.heap.size, 2, none⟩ = some (.int .i64 at0) := cell_at hbW 2
      clear y0 y1 y2 hbW
      have HOW := Lib.hid hOW
      clear hOW
      generalize wr.heap.size = X at *
      go_wp2_with fail
      clear hNm hA1 hA2
      go_loopg [11, 12, 13] L.length (fun g v11 v12 v13 wx => ∃ m : Nat, v13 = .int .i64 m ∧ m ≤ L.length ∧ v11 = .int .i64 (lastS (thL (L.take m)) nm).1 ∧ v12 = .bool (lastS (thL (L.take m)) nm).2 ∧ W = wx ∧ g = L.length - m)
      case atStart => exact ⟨0, rfl, Nat.zero_le _, rfl, rfl, rfl, rfl⟩
      case round =>
        obtain ⟨m, rfl, hm, rfl, rfl, rfl, hg2⟩ := hrel
        have Hg2 := Lib.hid hg2
        clear hg2
        by_cases hlm : m < L.length
        · obtain ⟨b2, off2, ha2, hcc⟩ := HC.out.out.resolve_left (by omega)
          subst ha2
          have t0 := HOW.out.cell (hcc m hlm).1 id
          have t1 := HOW.out.cell (hcc m hlm).2 id
          have htk : thL (L.take (m + 1)) = thL (L.take m) ++ [(L[m].1, L[m].2.1)] := by rw [List.take_add_one, List.getElem?_eq_getElem hlm, thL_append]; rfl
          have HTK := Lib.hid htk
          clear hcc htk
          generalize L[m].1 = xn at *
          generalize L[m].2.1 = xa at *
          have hlm' : (m : Int) < (L.length : Int) := by omega
          by_cases hx : xn = nm
          · have hxb := str_eq hx
            go_wp2_with fail
            go_roundg (L.length - (m + 1))
            case measure => rw [Hg2.out]; omega
            case rel => exact ⟨m + 1, by go_num, by omega, by rw [HTK.out, lastS_snoc, if_pos hx], by rw [HTK.out, lastS_snoc, if_pos hx], rfl, rfl⟩
          · have hxb := str_ne hx
            go_wp2_with fail
            go_roundg (L.length - (m + 1))
            case measure => rw [Hg2.out]; omega
            case rel => exact ⟨m + 1, by go_num, by omega, by rw [HTK.out, lastS_snoc, if_neg hx], by rw [HTK.out, lastS_snoc, if_neg hx], rfl, rfl⟩
        · obtain rfl : m = L.length := by omega
          have hlm' : ¬ ((L.length : Nat) : Int) < (L.length : Int) := by omega
          rw [List.take_length, lastS_look HA.out.map.apart]
          go_upto_region 23 with (fail)
          generalize Int.tmod (wrap64 (Int.tmod wh0 5 + 5)) 5 = q
          have HAW := Lib.hid (HA.out.kept HOW.out id id)
          have HRW := Lib.hid (owns_only HROW.out HOW.out (fun _ _ => id))
          have hpos : 0 ≤ cnt ∧ cnt < 1000000 ∧ L.length < 1000000 := by have h1 := HI.out.pos; have h2 := HI.out.cnt; omega
          have HPOS := Lib.hid hpos
          have HXX := Lib.hid (show ¬ (X = MA) ∧ ¬ (X = MA + 1 ∨ X = MA) by omega)
          have HMB := Lib.hid (show MA + 1 < w2.heap.size by omega)
          have HX2 := Lib.hid x2
          obtain ⟨i0, hi0, iz0, iz1, iz2⟩ := info_parts infoThing
          clear hpos hAs x0 x1 x2 hX
          by_cases q2 : q = 2
          · subst q2
            go_wp2_with fail
            refine (unset_clk W (MA + 1) MA sz cnt L HAW.out nm HAS.out).mono ?_
            rintro e w3 ⟨rfl, h3'⟩
            have HS3 := Lib.hid h3'.1
            have HA3 := Lib.hid h3'.2
            have hr3 := owns_only HRW.out HS3.out (fun k hk e => by have := HMB.out; omega)
            clear h3'
            go_wp2_with fail
            refine (rdrop_any w3 _ (thL L) nm (by rw [thL_length]; exact Sl.of_owns hr3) (by rw [thL_length]; omega)).mono ?_
            rintro e w4 ⟨v4, rfl, o4, r4⟩
            rw [thL_rdrop, thL_length] at r4
            have HR4 := Lib.hid (ownsRow_base_a r4 (Nat.le_trans HOR.out.size (Nat.le_trans HOW.out.size HS3.out.size)))
            have HA4 := Lib.hid (HA3.out.kept o4 id id)
            have HO4 := Lib.hid (((HOR.out.trans (HOW.out.weaken (fun _ _ => False.elim))).trans (HS3.out.weaken (fun i _ e => .inr e))).trans (o4.weaken (fun _ _ => False.elim)))
            obtain ⟨a4, cap4, rfl, _, _, _⟩ := Sl.things (Sl.of_owns r4)
            clear r4 o4 hr3
            go_wp2_with (first | (refine (len_clk _ _ _ _ _ _ HA4.out).mono ?_; rintro e w5 ⟨rfl, rfl⟩))
            go_roundg (90 - (k + 1))
            case measure => rw [Hg.out]; omega
            case rel => exact ⟨k + 1, _, _, by go_num, by omega, by omega, HO4.out, HA4.out, (HI.out.drop nm).mono (by omega), HR4.out, rfl⟩
          by_cases q3 : q = 3
          · subst q3
            clear q2
            go_wp2_with fail
            refine (when_clk W (MA + 1) MA sz cnt L HAW.out nm HAS.out).mono ?_
            rintro e w3 ⟨rfl, h3'⟩
            have HA3 := Lib.hid (HAW.out.kept h3' id id)
            have HR3 := Lib.hid (owns_only HRW.out h3' (fun _ _ => id))
            have HO3 := Lib.hid ((HOR.out.trans (HOW.out.weaken (fun _ _ => False.elim))).trans (h3'.weaken (fun _ _ => False.elim)))
            clear h3'
            generalize ((lookL L nm).getD (0, 0)).1 = at1 at *
            cases (lookL L nm).isSome
            all_goals
              go_wp2_with (first | (refine (len_clk _ _ _ _ _ _ HA3.out).mono ?_; rintro e w5 ⟨rfl, rfl⟩))
              go_roundg (90 - (k + 1))
              case measure => rw [Hg.out]; omega
              case rel => exact ⟨k + 1, _, _, by go_num, by omega, by omega, HO3.out, HA3.out, HI.out.mono (by omega), HR3.out, rfl⟩
          by_cases q4 : q = 4
          · subst q4
            clear q2 q3
            have x2' := HX2.out
            go_wp2_with fail
            clear x2'
            refine (due_clk W (MA + 1) MA sz cnt L at0 HAW.out HI.out.sizes HPOS.out.2.2).mono ?_
            rintro e w3 ⟨v3, o3, rfl, p3, s3, r3, on3, cl3⟩
            have hr3 := owns_only HRW.out on3 (fun k hk e => by have := HMB.out; omega)
            have x2 := on3.cell HX2.out HXX.out.1
            have HP3 := Lib.hid p3
            have HS3 := Lib.hid s3
            have HR3 := Lib.hid r3
            have HON3 := Lib.hid on3
            have HCL3 := Lib.hid cl3
            clear p3 s3 r3 on3 cl3
            go_wp2_with fail
            refine (rdue_any w3 _ L at0 (Sl.of_owns hr3) (by omega) HI.out.orders).mono ?_
            rintro e w4 ⟨v4, v5, rfl, o4, OL, RL, n4, t4, P4, P5⟩
            obtain ⟨d1, d2, d3⟩ := P4.done HAW.out.map.apart P5
            subst d3
            have hmem : ∀ x ∈ o3, ∃ v, (x, v) ∈ L := due_mem HP3.out
            obtain rfl : o3 = OL.map (·.1) := due_unique HAW.out.map.apart HI.out.orders (HP3.out.trans d1.symm) hmem HS3.out d2
            have HA4 := Lib.hid (HCL3.out.kept o4 id id)
            have HO4 := Lib.hid (((HOR.out.trans (HOW.out.weaken (fun _ _ => False.elim))).trans (HON3.out.weaken (fun i _ e => .inr e))).trans (o4.weaken (fun _ _ => False.elim)))
            have HR4 := Lib.hid (ownsRow_base_a t4 (Nat.le_trans HOR.out.size (Nat.le_trans HOW.out.size HON3.out.size)))
            have HI4 := Lib.hid ((HI.out.filter (fun p => decide (at0 < p.2.1))).mono (show k ≤ k + 1 by omega))
            have s3 : Sl w4 1 v3 (OL.map (·.1)).length ((OL.map (·.1)).map .string) := Sl.of_owns (owns_only HR3.out o4 (fun _ _ => id))
            have s4 : Sl w4 1 v4 (OL.map (·.1)).length ((OL.map (·.1)).map .string) := by
              have h := Sl.of_owns n4
              rw [List.map_map, List.length_map]
              exact h
            have hol : (OL.map (·.1)).length ≤ 90 := by
              have := P4.perm.length_eq
              rw [List.length_append] at this
              rw [List.length_map]
              omega
            have HNP := Lib.hid P4
            clear P4 P5 d1 d2 hmem t4 n4 o4 HP3 HS3 HR3 hr3 HNP HCL3 HON3
            generalize OL.map (·.1) = o at *
            clear OL
            generalize L.filter (fun p => decide (at0 < p.2.1)) = L4 at *
            obtain ⟨a5, cap5, rfl, _, _, _⟩ := Sl.things (Sl.of_owns HR4.out)
            obtain ⟨_, a3, cap3, rfl, g1, g2, c3⟩ := s3
            obtain ⟨_, a4, cap4, rfl, g3, g4, c4⟩ := s4
            unfold maxLen at g2 g4
            have C3 := Lib.hid c3
            have C4 := Lib.hid c4
            clear c3 c4 x2
            go_wp2_with fail
            go_loopg [19] o.length (fun g v19 wx => ∃ j : Nat, v19 = .int .i64 j ∧ j ≤ o.length ∧ Only (fun _ => False) w4 wx ∧ g = o.length - j)
            case atStart => exact ⟨0, rfl, Nat.zero_le _, Only.refl _ _, rfl⟩
            case round =>
              obtain ⟨j, rfl, hj, hoj, hgj⟩ := hrel
              have Hgj := Lib.hid hgj
              have HOJ := Lib.hid hoj
              clear hgj hoj
              by_cases hjl : j < o.length
              · obtain ⟨b3, f3, ha3, hc3⟩ := C3.out.resolve_left (by omega)
                obtain ⟨b4, f4, ha4, hc4⟩ := C4.out.resolve_left (by omega)
                subst ha3
                subst ha4
                have u3 := HOJ.out.cell (hc3 j (.string o[j]) (by simp [hjl])) id
                have u4' := HOJ.out.cell (hc4 j (.string o[j]) (by simp [hjl])) id
                generalize o[j] = sj at *
                clear hc3 hc4
                have hjl' : (j : Int) < (o.length : Int) := by omega
                go_upto_region 39 with (fail)
                go_quiet (fail)
                go_wp2_with fail
                go_roundg (o.length - (j + 1))
                case measure => rw [Hgj.out]; omega
                case rel => exact ⟨j + 1, by go_num, by omega, HOJ.out.drewN _, rfl⟩
              · have hjl' : ¬ (j : Int) < (o.length : Int) := by omega
                have HA5 := Lib.hid (HA4.out.kept HOJ.out id id)
                have HR5 := Lib.hid (owns_only HR4.out HOJ.out (fun _ _ => id))
                go_wp2_with (first | (refine (len_clk _ _ _ _ _ _ HA5.out).mono ?_; rintro e w5 ⟨rfl, rfl⟩))
                go_roundg (90 - (k + 1))
                case measure => rw [Hg.out]; omega
                case rel => exact ⟨k + 1, _, _, by go_num, by omega, by omega, HO4.out.trans (HOJ.out.weaken (fun _ _ => False.elim)), HA5.out, HI4.out, HR5.out, rfl⟩
          · have d2 : decide (q = 2) = false := decide_eq_false q2
            have d3 : decide (q = 3) = false := decide_eq_false q3
            have d4 : decide (q = 4) = false := decide_eq_false q4
            go_upto_region 18 with (fail)
            clear q2 q3 q4 d2 d3 d4
            have HSETP := Lib.hid (set_clk W (MA + 1) MA sz cnt L HAW.out nm HAS.out at0 HPOS.out.1 HPOS.out.2.1 HPOS.out.2.2)
            have HI4 := Lib.hid (HI.out.set sz HAS.out at0)
            have hcase : (okSet sz L nm = true ∧ ((lookL L nm).isSome = true ∨ ((lookL L nm).isSome = false ∧ (L.length : Int) < sz))) ∨ (okSet sz L nm = false ∧ (lookL L nm).isSome = false ∧ ¬ (L.length : Int) < sz) := by
              unfold okSet
              cases (lookL L nm).isSome <;> by_cases h : (L.length : Int) < sz <;> simp [h]
            generalize (lookL L nm).isSome = bs at *
            generalize ((lookL L nm).getD (0, 0)).1 = at1 at *
            have HDL := Lib.hid (show (dropL L nm).length ≤ 90 by have := List.length_filter_le (fun p : ByteArray × (Int × Int) => !decide (p.1 = nm)) L; unfold dropL; omega)
            rcases hcase with ⟨hok, hc⟩ | ⟨hok, rfl, hl⟩
            · --< set1
              have hset2 : Calls Try.prog 10 #[.pointer (some ⟨MA + 1, 0, none⟩), .string nm, .int .i64 at0] W fun e w' => e = .returned (.bool true) ∧ SetDone W (MA + 1) MA sz (cnt + 1) (putL L nm (at0, cnt + 1)) w' := by
                refine HSETP.out.mono ?_
                rintro e w' ⟨rfl, h'⟩
                exact ⟨by rw [hok], set_yes h' hok⟩
              have HSET := Lib.hid hset2
              unfold setL cntS at HI4
              rw [if_pos hok, if_pos hok] at HI4
              clear hset2 HSETP hok
              have x2 := HX2.out
              rcases hc with rfl | ⟨rfl, hl⟩
              all_goals
                go_wp2_with fail
                refine HSET.out.mono ?_
                rintro e w3 ⟨rfl, h3'⟩
                have HS3 := Lib.hid h3'.1
                have HA3 := Lib.hid h3'.2
                have HR3 := Lib.hid (owns_only HRW.out HS3.out (fun k hk e => by have := HMB.out; omega))
                clear x2
                have x2 := HS3.out.cell HX2.out HXX.out.2
                clear h3'
                go_upto_region 22 with (fail)
                go_region_law (first
                  | (go_simp
                     refine (rdrop_any _ _ (thL L) nm (by rw [thL_length]; first | exact Sl.of_owns (owns_only HR3.out ((Only.refl (fun _ => False) _).drew) (fun _ _ => id)) | exact Sl.of_owns (owns_only HR3.out (((Only.refl (fun _ => False) _).alloc _).drew) (fun _ _ => id))) (by rw [thL_length]; omega)).mono ?_
                     rintro e w4 ⟨v4, rfl, o4, r4⟩
                     rw [thL_rdrop, thL_length] at r4
                     have O4 : Only (fun _ => False) w3 w4 := by first | exact ((Only.refl (fun _ => False) w3).drew).trans o4 | exact (((Only.refl (fun _ => False) w3).alloc _).drew).trans o4
                     have x4 := O4.cell x2 id
                     have R5 : ThRow w4 w3.heap.size v4 (dropL L nm) := ownsRow_base_a r4 (by simp))
                  | (refine step_append_src rfl (.tmp 92) (.tmp 97) 33 33 rfl w3.heap.size 35 i0 _ 2 24 Try.underlying33 hi0 iz0 iz1 iz2 rfl v4 (dropL L nm).length (thsC (thL (dropL L nm))) rfl (by first | exact R5 | exact owns_only R5 ((Only.refl (fun _ => False) _).alloc _) (fun _ _ => id)) _ 1 (thC (nm, at0)) rfl (Sl.src Try.underlying33 (by first | exact Sl.fresh _ [.string nm, .int .i64 at0] _ 1 2 rfl (by decide) | exact (Sl.fresh _ [.string nm, .int .i64 at0] 35 1 2 rfl (by decide)).kept (((Only.refl (fun _ => False) _).drew).trans o4) (fun _ _ _ => id)) (thC_one _)) (by have := HDL.out; unfold maxLen; omega) (by have := HDL.out; omega) (by have := O4.size; first | exact this | simp; omega) ?_
                     intro v5 w5 own5 gr5 hv5
                     have O5 : Only (fun _ => False) w3 w5 := by first | exact O4.grown gr5 (fun k e => .inl (hv5 k e)) | exact (O4.alloc _).grown gr5 (fun k e => .inl (hv5 k e))))
                all_goals (
                  have HA5 := Lib.hid (HA3.out.kept O5 id id)
                  have HP5 := Lib.hid (ThRow.put (c := cnt + 1) own5 (Nat.le_trans HOR.out.size (Nat.le_trans HOW.out.size HS3.out.size)))
                  have HO5 := Lib.hid (((HOR.out.trans (HOW.out.weaken (fun _ _ => False.elim))).trans HS3.out).trans (O5.weaken (fun _ _ => False.elim)))
                  obtain ⟨a5, cap5, rfl, _, _, _⟩ := Sl.things (Sl.of_owns HP5.out)
                  clear own5 gr5 hv5 O5 O4 x4 R5 r4 o4
                  go_wp2_with (first | (refine (len_clk _ _ _ _ _ _ HA5.out).mono ?_; rintro e w6 ⟨rfl, rfl⟩))
                  go_roundg (90 - (k + 1))
                  case measure => rw [Hg.out]; omega
                  case rel => exact ⟨k + 1, _, _, by go_num, by omega, by omega, HO5.out, HA5.out, HI4.out.mono (by omega), HP5.out, rfl⟩)
            · --< set0
              have hset2 : Calls Try.prog 10 #[.pointer (some ⟨MA + 1, 0, none⟩), .string nm, .int .i64 at0] W fun e w' => e = .returned (.bool false) ∧ SetDone W (MA + 1) MA sz cnt L w' := by
                refine HSETP.out.mono ?_
                rintro e w' ⟨rfl, h'⟩
                exact ⟨by rw [hok], set_no h' hok⟩
              have HSET := Lib.hid hset2
              unfold setL cntS at HI4
              rw [hok] at HI4
              clear hset2 HSETP hok
              have x2 := HX2.out
              go_wp2_with fail
              refine HSET.out.mono ?_
              rintro e w3 ⟨rfl, h3'⟩
              have HS3 := Lib.hid h3'.1
              have HA3 := Lib.hid h3'.2
              have HR3 := Lib.hid (owns_only HRW.out HS3.out (fun k hk e => by have := HMB.out; omega))
              have HO3 := Lib.hid ((HOR.out.trans (HOW.out.weaken (fun _ _ => False.elim))).trans HS3.out)
              clear h3' x2
              go_wp2_with (first | (refine (len_clk _ _ _ _ _ _ HA3.out).mono ?_; rintro e w6 ⟨rfl, rfl⟩))
              go_roundg (90 - (k + 1))
              case measure => rw [Hg.out]; omega
              case rel => exact ⟨k + 1, _, _, by go_num, by omega, by omega, HO3.out, HA3.out, HI4.out.mono (by omega), HR3.out, rfl⟩
    · have HLT := Lib.hid hlt
      clear hlt
      have HE := Lib.hid ((HO.out.tr HOR.out (S := fun _ => False) (fun i hi e => by have := HD.out; omega)))
      rcases (by have := HLT.out; omega : (¬ (k : Int) < (l.length : Int)) ∨ ((k : Int) < (l.length : Int) ∧ ¬ (k : Int) < 90)) with e1 | ⟨e1, e2⟩
      all_goals
        go_wp2_with (first
          | (go_at_call 17; refine (whenI_nil _ _).mono ?_; rintro e w5 ⟨rfl, rfl⟩)
          | (go_at_call 18; refine (setI_nil _ _ _).mono ?_; rintro e w5 ⟨rfl, rfl⟩)
          | (go_at_call 19; refine (unsetI_nil _ _).mono ?_; rintro e w5 ⟨rfl, rfl⟩)
          | (go_at_call 20; refine (dueI_nil _ _).mono ?_; rintro e w5 ⟨rfl, ho5⟩)
          | (go_at_call 21; refine (lenI_nil _).mono ?_; rintro e w6 ⟨rfl, rfl⟩))
        go_ret
        exact ⟨rfl, HE.out.trans ho5⟩
end Go.Proofs.Ytjgcbcahikemdaa
