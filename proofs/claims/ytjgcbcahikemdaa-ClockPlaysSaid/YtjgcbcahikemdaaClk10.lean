/- The walk of bellhoplaw04.ClockSplits. -/
import Derived.Test.YtjgcbcahikemdaaClk9
import Derived.Deep.RegionHeld3
namespace Go.Proofs.Ytjgcbcahikemdaa
open Go.Conc Go.RowKit

def setL (most cnt : Int) (L : List (ByteArray × (Int × Int))) (k : ByteArray) (a : Int) : List (ByteArray × (Int × Int)) := if okSet most L k then putL L k (a, cnt + 1) else L
def cntS (most cnt : Int) (L : List (ByteArray × (Int × Int))) (k : ByteArray) : Int := if okSet most L k then cnt + 1 else cnt
theorem set_done {w : World} {c b : Nat} {most cnt : Int} {L : List (ByteArray × (Int × Int))} {k : ByteArray} {a : Int} {w' : World} (h : SetPost w c b most cnt L k a w') : SetDone w c b most (cntS most cnt L k) (setL most cnt L k a) w' := by
  unfold cntS setL
  cases hk : okSet most L k
  · exact set_no h hk
  · exact set_yes h hk
/-- What holds of a clock's entries behind n sets. -/
structure Inv (L : List (ByteArray × (Int × Int))) (cnt : Int) (n : Nat) : Prop where
  orders : Orders L
  le : ∀ p ∈ L, p.2.2 ≤ cnt
  sizes : ∀ p ∈ L, p.1.size ≤ maxLen
  len : L.length ≤ n
  pos : 0 ≤ cnt
  cnt : cnt ≤ n
theorem Inv.nil : Inv [] 0 0 := ⟨List.Pairwise.nil, by simp, by simp, Nat.le_refl _, by decide, by decide⟩
theorem Inv.set {L : List (ByteArray × (Int × Int))} {cnt : Int} {n : Nat} (h : Inv L cnt n) (most : Int) {k : ByteArray} (hk : k.size ≤ maxLen) (a : Int) : Inv (setL most cnt L k a) (cntS most cnt L k) (n + 1) := by
  unfold setL cntS
  cases okSet most L k
  · exact ⟨h.orders, h.le, h.sizes, by have := h.len; simp; omega, h.pos, by have := h.cnt; simp; omega⟩
  · have ho := orders_put h.orders h.le k a
    refine ⟨ho.1, ho.2, ?_, ?_, by have := h.pos; simp; omega, by have := h.cnt; simp; omega⟩
    · intro p hp
      rcases List.mem_append.1 hp with hp | hp
      · exact h.sizes p (mem_dropL.1 hp).1
      · obtain rfl : p = (k, (a, cnt + 1)) := by simpa using hp
        exact hk
    · have h1 : (dropL L k).length ≤ L.length := List.length_filter_le _ _
      have h2 := h.len
      simp only [if_true, putL, List.length_append, List.length_cons, List.length_nil]
      omega
theorem Inv.mono {L : List (ByteArray × (Int × Int))} {cnt : Int} {n m : Nat} (h : Inv L cnt n) (hm : n ≤ m) : Inv L cnt m := ⟨h.orders, h.le, h.sizes, Nat.le_trans h.len hm, h.pos, Int.le_trans h.cnt (by omega)⟩
theorem Inv.filter {L : List (ByteArray × (Int × Int))} {cnt : Int} {n : Nat} (h : Inv L cnt n) (f : ByteArray × (Int × Int) → Bool) : Inv (L.filter f) cnt n :=
  ⟨h.orders.filter _, fun p hp => h.le p (List.mem_filter.1 hp).1, fun p hp => h.sizes p (List.mem_filter.1 hp).1, Nat.le_trans (List.length_filter_le _ _) h.len, h.pos, h.cnt⟩
def actCells (a : Int × ByteArray × Int) : List Value := [.int .i64 a.1, .string a.2.1, .int .i64 a.2.2]
theorem acts_get (l : List (Int × ByteArray × Int)) (k : Nat) (hk : k < l.length) (i : Nat) (hi : i < 3) : (l.flatMap actCells)[k * 3 + i]? = (actCells l[k])[i]? := by
  induction l generalizing k with
  | nil => exact absurd hk (by simp)
  | cons a l ih =>
    rw [List.flatMap_cons]
    cases k with
    | zero => rw [List.getElem?_append_left (by simp [actCells]; omega)]; simp
    | succ k =>
      rw [List.getElem?_append_right (by simp [actCells]; omega), show (k + 1) * 3 + i - (actCells a).length = k * 3 + i by simp [actCells]; omega]
      simpa using ih k (by simpa using hk)
set_option maxRecDepth 100000 in
set_option maxHeartbeats 4000000 in
theorem splits_any (w : World) (v : Value) (l : List (Int × ByteArray × Int)) (now later : Int) (h : Sl w 3 v l.length (l.flatMap actCells)) (hs : ∀ a ∈ l, a.2.1.size ≤ maxLen ∧ (Lit.int .i64 a.1).wf = true) (_ : (Lit.int .i64 now).wf = true) (_ : (Lit.int .i64 later).wf = true) :
    Calls Try.prog 3 #[v, .int .i64 now, .int .i64 later] w fun e w' => e = .returned (.bool true) ∧ Only (fun _ => False) w w' := by
  obtain ⟨_, ad, cap, rfl, h3, h4, h5⟩ := h
  go_enter Try.func3, Try.ntmps3
  go_wp2_with fail
  refine (speaks_any w).mono ?_
  rintro e w1 ⟨rfl, ho1⟩
  go_upto_if 21 with (fail)
  go_cut [1, 2] (fun v1 v2 wx => ∃ n m : Int, v1 = .int .i64 n ∧ v2 = .int .i64 m ∧ n ≤ m ∧ w1 = wx)
  case first =>
    go_wp2_with fail
    all_goals
      go_meet
      refine ⟨_, _, rfl, rfl, ?_, rfl⟩
      omega
  case rest =>
  obtain ⟨now', later', rfl, rfl, hnl, rfl⟩ := hcut
  go_wp2_with fail
  refine (new_clk w1 64).mono ?_
  rintro e w2 ⟨rfl, ho2, hc2⟩
  go_wp2_with fail
  refine (new_clk w2 64).mono ?_
  rintro e w3 ⟨rfl, ho3, hc3⟩
  rw [show min (max (64 : Int) 0) 64 = 64 by decide] at hc2 hc3
  have hA := hc2.kept ho3 id id
  have hB := hc3
  have hD : w.heap.size ≤ w1.heap.size ∧ w1.heap.size + 1 < w2.heap.size := ⟨ho1.size, lt_of_block hc2.blk⟩
  have hO := (ho1.trans ho2).trans ho3
  clear ho1 ho2 ho3 hc2 hc3
  go_wp2_with fail
  generalize w1.heap.size = MA at *
  generalize w2.heap.size = MB at *
  have HD := Lib.hid hD
  have HO := Lib.hid hO
  have HH5 := Lib.hid h5
  have HSZ := Lib.hid (fun a ha => (hs a ha).1 : ∀ a ∈ l, a.2.1.size ≤ maxLen)
  have HNL := Lib.hid hnl
  unfold maxLen at h4
  clear hs hD hO h5 hnl
  go_loopg [9] (60 - 0) (fun g v9 wr => ∃ (k : Nat) (cnt : Int) (L : List (ByteArray × (Int × Int))), v9 = .int .i64 k ∧ k ≤ l.length ∧ k ≤ 60 ∧ Only (fun i => i = MA + 1 ∨ i = MA ∨ i = MB + 1 ∨ i = MB) w3 wr ∧ ClkIs wr (MA + 1) MA 64 cnt L ∧ ClkIs wr (MB + 1) MB 64 cnt L ∧ Inv L cnt k ∧ g = 60 - k)
  case atStart => exact ⟨0, 0, [], rfl, Nat.zero_le _, Nat.zero_le _, Only.refl _ _, hA, hB, Inv.nil, rfl⟩
  case round =>
    obtain ⟨k, cnt, L, rfl, hk, hk60, ho, hA, hB, hI, hg⟩ := hrel
    have Hg := Lib.hid hg
    have HOR := Lib.hid ho
    have HA := Lib.hid hA
    have HB := Lib.hid hB
    have HI := Lib.hid hI
    clear hg ho hA hB hI
    by_cases hlt : k < l.length ∧ k < 60
    · obtain ⟨hlt, hlt60⟩ := hlt
      obtain ⟨bb, off, ha, hcc⟩ := HH5.out.resolve_left (by omega)
      subst ha
      have z1 : w.cell? ⟨bb, off + (k * 3 + 1), none⟩ = some (.string l[k].2.1) := hcc _ _ (by rw [acts_get l k hlt 1 (by decide)]; rfl)
      have z2 : w.cell? ⟨bb, off + (k * 3 + 2), none⟩ = some (.int .i64 l[k].2.2) := hcc _ _ (by rw [acts_get l k hlt 2 (by decide)]; rfl)
      have hbw := World.block_lt_of_cell? _ _ z1
      have hnb : ¬ (bb = MA + 1 ∨ bb = MA ∨ bb = MB + 1 ∨ bb = MB) := by have := HD.out; have : bb < w.heap.size := hbw; omega
      have y1 := HOR.out.cell (HO.out.cell z1 id) hnb
      have y2 := HOR.out.cell (HO.out.cell z2 id) hnb
      have hsz : l[k].2.1.size ≤ maxLen := HSZ.out _ (List.getElem_mem hlt)
      have HNB := Lib.hid hnb
      generalize l[k].2.1 = nm0 at *
      generalize l[k].2.2 = at0 at *
      clear z1 z2 hcc hbw hnb
      rw [← Nat.add_assoc] at y1 y2
      have hA1 : (0 : Int) ≤ min (nm0.size : Int) 2 := by omega
      have hA2 : min (nm0.size : Int) 2 ≤ (nm0.size : Int) := by omega
      have hAs : (nm0.extract 0 (min (nm0.size : Int) 2).toNat).size ≤ maxLen := by rw [ByteArray.size_extract]; unfold maxLen at *; omega
      generalize hNm : nm0.extract 0 (min (nm0.size : Int) 2).toNat = nm at hAs
      go_upto_region 9 with (fail)
      go_quiet (fail)
      clear hNm hA1 hA2 y1
      obtain ⟨W, hW⟩ : ∃ W, W = wr.drewN nq := ⟨_, rfl⟩
      have hwo : Only (fun _ => False) wr W := by rw [hW]; exact (Only.refl (fun _ => False) wr).drewN _
      rw [← hW]
      have x2 := hwo.cell y2 id
      have HWO := Lib.hid hwo
      have HX2 := Lib.hid x2
      clear hW hwo y2
      have hAd := HA.out.kept (HWO.out.trans (Only.refl _ _).drew) id id
      have hBd := HB.out.kept (HWO.out.trans (Only.refl _ _).drew) id id
      have HAd := Lib.hid hAd
      have HBd := Lib.hid hBd
      have hpos : 0 ≤ cnt ∧ cnt < 1000000 ∧ L.length < 1000000 := by have h1 := HI.out.pos; have h2 := HI.out.cnt; have h3 := HI.out.len; omega
      have HPOS := Lib.hid hpos
      have HAS := Lib.hid hAs
      clear hAd hBd hpos hAs hsz
      go_upto_region 10 with (fail)
      have hS1 : ∀ w2, SetPost W.drew (MA + 1) MA 64 cnt L nm at0 w2 → w2.cell? ⟨bb, off + k * 3 + 2, none⟩ = some (.int .i64 at0) := fun w2 h2 => h2.1.cell (a := W.drew) HX2.out (fun e => HNB.out (by rcases e with e | e; exact .inl e; exact .inr (.inl e)))
      have hS2 : ∀ w2 w4, SetPost W.drew (MA + 1) MA 64 cnt L nm at0 w2 → SetPost w2 (MB + 1) MB 64 cnt L nm at0 w4 → w4.cell? ⟨bb, off + k * 3 + 2, none⟩ = some (.int .i64 at0) := fun w2 w4 h2 h4 => h4.1.cell (hS1 w2 h2) (fun e => HNB.out (by rcases e with e | e; exact .inr (.inr (.inl e)); exact .inr (.inr (.inr e))))
      have hB2 : ∀ w2, SetPost W.drew (MA + 1) MA 64 cnt L nm at0 w2 → ClkIs w2 (MB + 1) MB 64 cnt L := fun w2 h2 => HBd.out.kept h2.1 (by have := HD.out; omega) (by have := HD.out; omega)
      have HS1 := Lib.hid hS1
      have HS2 := Lib.hid hS2
      have HB2 := Lib.hid hB2
      clear hS1 hS2 hB2
      go_region_held3 (fun w' => w'.cell? ⟨bb, off + k * 3 + 2, none⟩ = some (.int .i64 at0))
        (first | exact HX2.out | exact HS1.out _ (by assumption) | exact HS2.out _ _ (by assumption) (by assumption))
        (first
          | (go_at_call 10; (with_reducible refine (set_clk _ (MA + 1) MA 64 cnt L HAd.out nm HAS.out at0 HPOS.out.1 HPOS.out.2.1 HPOS.out.2.2).mono ?_); rintro e w2 ⟨rfl, h2⟩)
          | (go_at_call 10; (with_reducible refine (set_clk _ (MB + 1) MB 64 cnt L (HB2.out _ h2) nm HAS.out at0 HPOS.out.1 HPOS.out.2.1 HPOS.out.2.2).mono ?_); rintro e w4 ⟨rfl, h4⟩))
      have hA4 := set_done h2
      have hB4 := set_done h4
      have HA4 := Lib.hid ((hA4.clk).kept hB4.only (by have := HD.out; omega) (by have := HD.out; omega))
      have HB4 := Lib.hid hB4.clk
      have HO4 := Lib.hid (((HOR.out.trans (HWO.out.weaken (fun _ _ => False.elim))).drew.trans (hA4.only.weaken (fun i _ e => by rcases e with e | e; exact .inl e; exact .inr (.inl e)))).trans (hB4.only.weaken (fun i _ e => by rcases e with e | e; exact .inr (.inr (.inl e)); exact .inr (.inr (.inr e)))))
      have HI4 := Lib.hid (HI.out.set 64 HAS.out at0)
      clear h2 h4 hA4 hB4
      generalize okSet 64 L nm = ok at *
      go_wp2_with fail
      go_roundg (60 - (k + 1))
      case measure => rw [Hg.out]; omega
      case rel => exact ⟨k + 1, _, _, by go_num, by omega, by omega, HO4.out, HA4.out, HB4.out, HI4.out, rfl⟩
    · have hw : (k : Int) < (l.length : Int) → (k : Int) = 60 := by omega
      have HLT := Lib.hid hlt
      clear hlt
      rcases (by omega : (¬ (k : Int) < (l.length : Int)) ∨ ((k : Int) < (l.length : Int) ∧ ¬ (k : Int) < 60)) with e1 | ⟨e1, e2⟩
      all_goals
        go_upto_region 12 with (fail)
        clear hw
        try clear e2
        clear e1
        have HL6 := Lib.hid (show L.length ≤ 60 by have := HI.out.len; omega)
        go_wp2_with (first | (refine (len_clk _ _ _ _ _ _ HA.out).mono ?_; rintro e w5 ⟨rfl, rfl⟩))
        refine (due_clk wr (MA + 1) MA 64 cnt L now' HA.out HI.out.sizes (by have := HL6.out; omega)).mono ?_
        rintro e w5 ⟨v1, o1, rfl, p1, s1, r1, on1, cl1⟩
        have hB5 := HB.out.kept on1 (by have := HD.out; omega) (by have := HD.out; omega)
        have HB5 := Lib.hid hB5
        have HC5 := Lib.hid cl1
        have HR5 := Lib.hid (And.intro p1 (And.intro s1 r1))
        have HO5 := Lib.hid on1
        clear p1 s1 r1 on1 cl1 hB5
        go_wp2_with fail
        refine (due_clk w5 (MA + 1) MA 64 cnt _ later' HC5.out (HI.out.filter _).sizes (by have := HL6.out; have := (HI.out.filter (fun p => decide (now' < p.2.1))).len; omega)).mono ?_
        rintro e w6 ⟨v2, o2, rfl, p2, s2, r2, on2, cl2⟩
        have hB6 := HB5.out.kept on2 (by have := HD.out; omega) (by have := HD.out; omega)
        have HB6 := Lib.hid hB6
        have HC6 := Lib.hid cl2
        have HR6 := Lib.hid (And.intro p2 (And.intro s2 r2))
        have HO6 := Lib.hid on2
        clear p2 s2 r2 on2 cl2 hB6
        go_wp2_with fail
        refine (due_clk w6 (MB + 1) MB 64 cnt L later' HB6.out HI.out.sizes (by have := HL6.out; omega)).mono ?_
        rintro e w7 ⟨v3, o3, rfl, p3, s3, r3, on3, cl3⟩
        have hsz6 : MA < wr.heap.size ∧ MB < wr.heap.size := ⟨HA.out.map.lt, HB.out.map.lt⟩
        have hsz7 : wr.heap.size ≤ w5.heap.size ∧ w5.heap.size ≤ w6.heap.size := ⟨HO5.out.size, HO6.out.size⟩
        have hcl7 := HC6.out.kept on3 (by have := HD.out; omega) (by have := HD.out; omega)
        have hsplit := due_split HA.out.map.apart HI.out.orders HNL.out HR5.out.1 HR5.out.2.1 HR6.out.1 HR6.out.2.1 p3 s3
        have hff : (L.filter (fun p => decide (now' < p.2.1))).filter (fun p => decide (later' < p.2.1)) = L.filter (fun p => decide (later' < p.2.1)) := by
          rw [List.filter_filter]
          refine List.filter_congr (fun p _ => ?_)
          have := HNL.out
          by_cases h2 : later' < p.2.1
          · have : now' < p.2.1 := by omega
            simp [h2, this]
          · simp [h2]
        rw [hff] at hcl7
        have hlen3 : (L.filter (fun p => decide (later' < p.2.1))).length + o3.length = L.length := by
          have h1 := (List.filter_append_perm (fun p : ByteArray × (Int × Int) => decide (later' < p.2.1)) L).length_eq
          have h2 := p3.length_eq
          rw [List.length_append] at h1
          rw [List.length_map] at h2
          omega
        have q1 : Sl w7 1 v1 o1.length (o1.map .string) := Sl.of_owns (owns_only (owns_only HR5.out.2.2 HO6.out (fun k hk e => by omega)) on3 (fun k hk e => by omega))
        have q2 : Sl w7 1 v2 o2.length (o2.map .string) := Sl.of_owns (owns_only HR6.out.2.2 on3 (fun k hk e => by omega))
        have q3 : Sl w7 1 v3 o3.length (o3.map .string) := Sl.of_owns r3
        have HO7 := Lib.hid (((HOR.out.trans (HO5.out.weaken (fun i _ e => .inr (.inl e)))).trans (HO6.out.weaken (fun i _ e => .inr (.inl e)))).trans (on3.weaken (fun i _ e => .inr (.inr (.inr e)))))
        have HA7 := Lib.hid hcl7
        have HB7 := Lib.hid cl3
        have hl60 := HL6.out
        generalize hLF : (L.filter (fun p => decide (later' < p.2.1))).length = lf at *
        clear p3 s3 r3 on3 cl3 hcl7 hff HR5 HR6 HO5 HO6 HB5 HB6 HC5 HC6 hsz6 hsz7
        subst hsplit
        have hl12 : (o1 ++ o2).length = o1.length + o2.length := List.length_append
        rw [hl12] at q3 hlen3
        obtain ⟨_, a1, cap1, rfl, g1, g2, q1⟩ := q1
        obtain ⟨_, a2, cap2, rfl, g3, g4, q2⟩ := q2
        obtain ⟨_, a3, cap3, rfl, g5, g6, q3⟩ := q3
        unfold maxLen at g2 g4 g6
        have Q1 := Lib.hid q1
        have Q2 := Lib.hid q2
        have Q3 := Lib.hid q3
        clear q1 q2 q3 hl12
        have hbn : ((lf : Int) + ((o1.length : Int) + (o2.length : Int)) != (L.length : Int)) = false := by simp; omega
        go_wp2_with (first | (go_at_call 11; (with_reducible refine (len_clk _ (MA + 1) _ _ _ _ HA7.out).mono ?_); rintro e w8 ⟨rfl, rfl⟩) | (go_at_call 11; (with_reducible refine (len_clk _ (MB + 1) _ _ _ _ HB7.out).mono ?_); rintro e w8 ⟨rfl, rfl⟩))
        go_loopg [15] (o1.length + o2.length) (fun g v15 wx => ∃ j : Nat, v15 = .int .i64 j ∧ j ≤ o1.length + o2.length ∧ w7 = wx ∧ g = o1.length + o2.length - j)
        case atStart => exact ⟨0, rfl, Nat.zero_le _, rfl, rfl⟩
        case round =>
          obtain ⟨j, rfl, hj, rfl, hg⟩ := hrel
          have Hg := Lib.hid hg
          clear hg
          by_cases hlt : j < o1.length + o2.length
          · obtain ⟨b3, f3, ha3, hc3⟩ := Q3.out.resolve_left (by omega)
            subst ha3
            have hjl : j < (o1 ++ o2).length := by rw [List.length_append]; exact hlt
            have hlt' : (j : Int) < ((o1.length + o2.length : Nat) : Int) := by omega
            have z3 : w7.cell? ⟨b3, f3 + j, none⟩ = some (.string (o1 ++ o2)[j]) := hc3 j _ (by rw [List.getElem?_map, List.getElem?_eq_getElem hjl]; rfl)
            clear hc3
            by_cases h1 : j < o1.length
            · obtain ⟨b1, f1, ha1, hc1⟩ := Q1.out.resolve_left (by omega)
              subst ha1
              have z1 : w7.cell? ⟨b1, f1 + j, none⟩ = some (.string (o1 ++ o2)[j]) := hc1 j _ (by rw [List.getElem?_map, List.getElem?_eq_getElem h1, List.getElem_append_left h1]; rfl)
              generalize (o1 ++ o2)[j] = s at *
              have h1' : (j : Int) < (o1.length : Int) := by omega
              clear hc1
              go_wp2_with fail
              go_roundg (o1.length + o2.length - (j + 1))
              case measure => rw [Hg.out]; omega
              case rel => exact ⟨j + 1, by go_num, by omega, rfl, rfl⟩
            · obtain ⟨b2, f2, ha2, hc2⟩ := Q2.out.resolve_left (by omega)
              subst ha2
              have z2 : w7.cell? ⟨b2, f2 + (j - o1.length), none⟩ = some (.string (o1 ++ o2)[j]) := hc2 (j - o1.length) _ (by rw [List.getElem_append_right (by omega), List.getElem?_map, List.getElem?_eq_getElem (show j - o1.length < o2.length by omega)]; rfl)
              obtain ⟨j2, hj2⟩ : ∃ j2, j = o1.length + j2 := ⟨j - o1.length, by omega⟩
              generalize (o1 ++ o2)[j] = s at *
              have h1' : ¬ (j : Int) < (o1.length : Int) := by omega
              clear hc2
              rw [show j - o1.length = j2 by omega] at z2
              have hsub : ((j : Nat) : Int) - ((o1.length : Nat) : Int) = (j2 : Nat) := by omega
              have hj2l : (j2 : Int) < (o2.length : Int) := by omega
              clear hj2
              go_wp2_with fail
              go_roundg (o1.length + o2.length - (j + 1))
              case measure => rw [Hg.out]; omega
              case rel => exact ⟨j + 1, by go_num, by omega, rfl, rfl⟩
          · have hlt' : ¬ (j : Int) < ((o1.length + o2.length : Nat) : Int) := by omega
            go_wp2_with fail
            go_ret
            exact ⟨rfl, HO.out.tr HO7.out (fun i hi e => by have := HD.out; omega)⟩
end Go.Proofs.Ytjgcbcahikemdaa
