/- A slice of structs that came in (bellhop/bellhoplaw16.Rec), as a list. -/
import Derived.Test.YtjdlcfllmpdffaaGreatDoorMI
import Derived.Deep.CutBlock
import Derived.Test.YtjdlcfllmpdffaaGreatDoorMA
/-! bellhoplaw16.made. -/
namespace Go.Proofs.YtjdlcfllmpdffaaGreatDoor
open Go.Conc Go.RowKit Go.Maps

/-- The first so many records. -/
def recsL (l : List RecA) (k : Nat) : List RecT := (l.take k).map rec16
theorem recsL_snoc (l : List RecA) (k : Nat) (hk : k < l.length) : recsL l (k + 1) = recsL l k ++ [rec16 l[k]] := by
  unfold recsL
  rw [List.take_add_one, List.getElem?_eq_getElem hk, List.map_append]
  rfl
theorem recsL_len (l : List RecA) (k : Nat) : (recsL l k).length ≤ k := by unfold recsL; simp; omega
theorem recsL_end {l : List RecA} {k n : Nat} (hk : k ≤ l.length) (hk2 : k ≤ n) (h : ¬ (k < l.length ∧ k < n)) : recsL l k = recsL l n := by
  unfold recsL
  rcases (by omega : k = l.length ∨ k = n) with e | e
  · rw [e, List.take_length, List.take_of_length_le (by omega)]
  · rw [e]
/-- What a store of records holds. -/
def madeL (ttl : Int) (l : List RecA) (k : Nat) : List RecT := takeS 48 ttl [] (recsL l k)
theorem madeL_snoc (ttl : Int) (l : List RecA) (k : Nat) (hk : k < l.length) : madeL ttl l (k + 1) = putS 48 ttl (madeL ttl l k) (rec16 l[k]) := by
  unfold madeL takeS
  rw [recsL_snoc l k hk, List.foldl_append]
  rfl
theorem madeL_end {ttl : Int} {l : List RecA} {k n : Nat} (hk : k ≤ l.length) (hk2 : k ≤ n) (h : ¬ (k < l.length ∧ k < n)) : madeL ttl l k = madeL ttl l n := by
  unfold madeL
  rw [recsL_end hk hk2 h]
theorem rec16_bd (a : RecA) (h : rowA a) : (rec16 a).ver < 2 ^ 64 ∧ (rec16 a).key.size ≤ 1000 := by
  obtain ⟨_, _, _, h4, _⟩ := h
  unfold rec16
  simp only
  refine ⟨by omega, ?_⟩
  rw [keyB_size]
  have := nameB_size (a.nm % 4)
  omega
/-- A reference's store that lies in a block. -/
structure RStAt (w : World) (P : Nat) (ttl r : Int) (L : List RecT) : Prop where
  out : ∃ v, w.heap[P]? = some (.cells #[.int .i64 48, .int .i64 ttl, v, .int .i64 r] 27 (0, 0)) ∧ RSl w v L
/-- A store's blocks hold no text. -/
theorem StoreAt.noStr {w : World} {s b : Nat} {most ttl r : Int} {L : List RecT} (h : StoreAt w s b most ttl r L) : ∀ g, (g = s ∨ g = b) → ∀ i x, w.cell? ⟨g, i, none⟩ ≠ some (.string x) := by
  rintro g (rfl | rfl) i x
  · exact no_str h.blk (by simp) i x
  · obtain ⟨es, c, hb, _⟩ := h.map.own
    simp [World.cell?, hb]
theorem rst_noStr {w : World} {P : Nat} {a b : Int} {v : Value} {r : Int} {T : TypeId} {f : Nat × Nat} {p cap : _} (hv : v = .slice p cap cap ∨ ∃ n, v = .slice p n cap) (h : w.heap[P]? = some (.cells #[.int .i64 a, .int .i64 b, v, .int .i64 r] T f)) : ∀ i x, w.cell? ⟨P, i, none⟩ ≠ some (.string x) := by
  refine no_str h (fun u hu s => ?_)
  simp only [List.mem_cons, List.not_mem_nil, or_false] at hu
  rcases hu with rfl | rfl | rfl | rfl
  · simp
  · simp
  · rcases hv with rfl | ⟨n, rfl⟩ <;> simp
  · simp
theorem rsl_noStr {w : World} {P : Nat} {a b r : Int} {v : Value} {T : TypeId} {f : Nat × Nat} {L : List RecT} (hs : RSl w v L) (h : w.heap[P]? = some (.cells #[.int .i64 a, .int .i64 b, v, .int .i64 r] T f)) : ∀ i x, w.cell? ⟨P, i, none⟩ ≠ some (.string x) := by
  obtain ⟨p, cap, rfl, _⟩ := Sl.cells recC_length hs
  exact rst_noStr (.inr ⟨_, rfl⟩) h
theorem onlyPut {W w : World} {Q i : Nat} (h : Only (fun i => i = Q) W w) (v : Value) : Only (fun i => i = Q) W (w.setCell ⟨Q, i, none⟩ v) := h.setCell (S := fun i => i = Q) (p := ⟨Q, i, none⟩) (.inr rfl) v
def MadeP (w w' : World) (ttl : Int) (l : List RecA) (e : Ending) : Prop :=
  ∃ s b r r' v', e = .returned (.tuple #[.pointer (some ⟨s, 0, none⟩), rstV 48 ttl v' r']) ∧ Only (fun _ => False) w w' ∧ w.heap.size ≤ s ∧ w.heap.size ≤ b ∧ StoreAt w' s b 48 ttl r (madeL ttl l 30) ∧ 0 ≤ r ∧ r ≤ 30 ∧ 0 ≤ r' ∧ r' ≤ 30 ∧ RSl w' v' (madeL ttl l 30)
set_option maxRecDepth 100000 in
set_option maxHeartbeats 4000000 in
theorem made16_any (w : World) (m : Int) (hm : w.cell? ⟨0, 0, none⟩ = some (.int .i64 m)) (v : Value) (l : List RecA) (h : Sl w 5 v l.length (l.flatMap recAC)) (hl : ∀ a ∈ l, rowA a) (ttl : Int) (ht1 : 1 ≤ ttl) (ht2 : ttl ≤ 65535) :
    Calls Tryz.prog 6 #[v, .int .i64 ttl] w fun e w' => MadeP w w' ttl l e := by
  obtain ⟨a, cap, rfl, h1, h2, h3⟩ := Sl.cells recAC_length h
  unfold maxLen at h2
  obtain ⟨W, hW⟩ : ∃ W, W = w.alloc (.cells #[.int .i64 0, .int .i64 0, .slice none 0 0, .int .i64 0] 27) := ⟨_, rfl⟩
  have hbW : W.heap[w.heap.size]? = some (.cells #[.int .i64 0, .int .i64 0, .slice none 0 0, .int .i64 0] 27 (0, 0)) := by rw [hW]; exact heap_alloc_new w _
  have hoW : Only (fun _ => False) w W := by rw [hW]; exact (Only.refl _ _).alloc _
  have hsW : W.heap.size = w.heap.size + 1 := by rw [hW]; simp
  have hmW := hoW.cell hm id
  have hnew := snew_ok W 48 ttl (by omega) (by omega) ht1 ht2
  have h0 : 0 < w.heap.size := World.block_lt_of_cell? _ _ hm
  have hbl : 0 < l.length → ∀ lb off, a = some ⟨lb, off, none⟩ → lb < w.heap.size := fun h0 lb off e => by
    obtain ⟨lb', off', e', hc⟩ := h3.at 0 h0
    rw [e] at e'
    cases e'
    exact World.block_lt_of_cell? _ _ (hc 0 _ rfl)
  have HC := Lib.hid h3
  have HL := Lib.hid hl
  have HM := Lib.hid hmW
  have HOW := Lib.hid hoW
  have HBW := Lib.hid hbW
  have HNEW := Lib.hid hnew
  have HSW := Lib.hid hsW
  have HBL := Lib.hid hbl
  clear h3 hl hmW hoW hbW hnew hsW hbl
  clear h hm
  go_enter Tryz.func6, Tryz.ntmps6
  go_upto_region 1 with (fail)
  rw [← hW]
  clear hW
  go_wp2_with fail
  refine HNEW.out.mono ?_
  rintro e w2 ⟨rfl, ho2, hst2⟩
  have hB : W.heap.size + 1 < w2.heap.size := hst2.lt.1
  have hb2 := ho2.old HBW.out id
  have hm2 := ho2.cell HM.out id
  have hoA := HOW.out.trans ho2
  obtain ⟨W3, hW3⟩ : ∃ W3, W3 = w2.alloc (.cells #[.int .i64 48, .int .i64 ttl, .slice none 0 0, .int .i64 0] 27) := ⟨_, rfl⟩
  have hbW3 : W3.heap[w2.heap.size]? = some (.cells #[.int .i64 48, .int .i64 ttl, .slice none 0 0, .int .i64 0] 27 (0, 0)) := by rw [hW3]; exact heap_alloc_new w2 _
  have hoW3 : Only (fun _ => False) w2 W3 := by rw [hW3]; exact (Only.refl _ _).alloc _
  have hsW3 : W3.heap.size = w2.heap.size + 1 := by rw [hW3]; simp
  have hst3 := hst2.new hoW3
  have hbQ := hoW3.old hb2 id
  have hoB := hoA.trans hoW3
  have hm3 := hoW3.cell hm2 id
  have hsz : w.heap.size < W.heap.size := by have := HSW.out; omega
  clear ho2 hb2 hoA hst2
  go_upto_region 3 with (fail)
  rw [← hW3]
  clear hW3 hoW3 HNEW HBW HM
  have hszP : w2.heap.size < W3.heap.size := by omega
  generalize hQ : w.heap.size = Q at *
  generalize hbE : W.heap.size = b at *
  generalize hP : w2.heap.size = P at *
  have hord : 0 < Q ∧ Q < b ∧ b + 1 < P ∧ P < W3.heap.size := by omega
  have HST := Lib.hid hst3
  have HBP := Lib.hid hbW3
  have HBQ := Lib.hid hbQ
  have HOB := Lib.hid hoB
  have HM := Lib.hid hm3
  have HORD := Lib.hid hord
  have HQ := Lib.hid hQ
  clear hst3 hbW3 hbQ hoB hm3 hord hQ
  clear hsW3 hbE hP hB hsz h0 hszP
  have hCx := HC.out.new HOB.out (fun _ _ _ => id)
  have HCX := Lib.hid hCx
  clear hCx
  go_upto_block 0 with fail
  go_cut [9] (fun _ wx => ∃ r r', Only (fun i => i = b + 1 ∨ i = b ∨ i = P) W3 wx ∧ StoreAt wx (b + 1) b 48 ttl r (madeL ttl l 30) ∧ 0 ≤ r ∧ r ≤ 30 ∧ 0 ≤ r' ∧ r' ≤ 30 ∧ RStAt wx P ttl r' (madeL ttl l 30))
  case first =>
    go_wp2_with fail
    go_loopg [9] 30 (fun g v9 wr => ∃ (k : Nat) (r r' : Int), v9 = .int .i64 k ∧ k ≤ l.length ∧ k ≤ 30 ∧ Only (fun i => i = b + 1 ∨ i = b ∨ i = P) W3 wr ∧ StoreAt wr (b + 1) b 48 ttl r (madeL ttl l k) ∧ 0 ≤ r ∧ r ≤ k ∧ 0 ≤ r' ∧ r' ≤ k ∧ RStAt wr P ttl r' (madeL ttl l k) ∧ g = 30 - k)
    case atStart => exact ⟨0, 0, 0, rfl, Nat.zero_le _, Nat.zero_le _, Only.refl _ _, HST.out, Int.le_refl _, Int.le_refl _, Int.le_refl _, Int.le_refl _, ⟨_, HBP.out, Sl.nil _ _⟩, rfl⟩
    case round =>
      obtain ⟨k, r, r', rfl, hk, hk30, ho, hst, hr0, hr, hq0, hq, hrs, hg⟩ := hrel
      have Hg := Lib.hid hg
      have HO := Lib.hid ho
      have HST1 := Lib.hid hst
      have HRS := Lib.hid hrs
      clear hg ho hst hrs
      by_cases hlt : k < l.length ∧ k < 30
      · -- round
        obtain ⟨hlt, hlt30⟩ := hlt
        obtain ⟨lb, off, he, hc⟩ := HCX.out.at k hlt
        have hlb : lb < Q := HBL.out (by omega) lb off he
        subst he
        have hcr : ∀ i u, (recAC l[k])[i]? = some u → wr.cell? ⟨lb, off + k * 5 + i, none⟩ = some u := fun i u hu => HO.out.cell (hc i u hu) (fun e => by
          have h8 := HORD.out
          have h9 : lb = b + 1 ∨ lb = b ∨ lb = P := e
          omega)
        have HTS := Lib.hid (madeL_snoc ttl l k hlt)
        have HREC := Lib.hid (fun w => rec16_any w l[k] (HL.out _ (List.getElem_mem hlt)))
        have HTO := Lib.hid (fun w => told16_any w (rec16 l[k]))
        obtain ⟨hbd1, hbd2⟩ := rec16_bd l[k] (HL.out _ (List.getElem_mem hlt))
        have hlt' : (k : Int) < (l.length : Int) := by omega
        have hlt30' : (k : Int) < 30 := by omega
        have hk0 : (0 : Int) ≤ (k : Int) := by omega
        generalize rec16 l[k] = R at *
        generalize l[k] = x at *
        generalize madeL ttl l k = D at *
        have hDl : D.length ≤ 48 := HST1.out.ok.len
        have HPUT := Lib.hid (fun w hst hm => sput_any w (b + 1) b 48 ttl r D hst R m hm hbd1 (by omega) hr0 (by omega))
        have HRP := Lib.hid (fun w v hv => rput_any w 48 ttl r' v D hv (by omega) HST1.out.ok.rises R (by omega) hq0 (by omega))
        have hrr := putR_range 48 ttl D R r
        have hqq := putR_range 48 ttl D R r'
        obtain ⟨o1, n1, l1, c1, a1⟩ := x
        obtain ⟨k1, v1, o2, a2, g2, d2⟩ := R
        unfold recT at HREC HTO HPUT HRP
        unfold rstV at HRP
        unfold RPutP SPut at *
        unfold rstV at HRP
        simp only at HREC HTO HPUT HRP
        generalize putR 48 ttl D ⟨k1, v1, o2, a2, g2, d2⟩ r = r2 at *
        generalize putR 48 ttl D ⟨k1, v1, o2, a2, g2, d2⟩ r' = q2 at *
        generalize putE 48 ttl D ⟨k1, v1, o2, a2, g2, d2⟩ = E at *
        generalize putS 48 ttl D ⟨k1, v1, o2, a2, g2, d2⟩ = D2 at *
        have y0 := hcr 0 _ rfl
        have y1 := hcr 1 _ rfl
        have y2 := hcr 2 _ rfl
        have y3 := hcr 3 _ rfl
        have y4 := hcr 4 _ rfl
        simp only [Nat.add_zero] at y0
        simp only at y0 y1 y2 y3 y4
        have HRR := Lib.hid hrr
        have HQQ := Lib.hid hqq
        clear hrr hqq
        clear hc hcr hbd1 hbd2
        go_wp2_with fail
        refine (HREC.out _).mono ?_
        rintro e w4 ⟨rfl, ho4⟩
        go_wp2_with fail
        refine (HTO.out _).mono ?_
        rintro e w5 ⟨rfl, ho5⟩
        have hst5 := (HST1.out.new ho4).new ho5
        have hoC : Only (fun i => i = b + 1 ∨ i = b ∨ i = P) W3 w5 := HO.out.trans ((ho4.trans ho5).weaken (fun _ _ => False.elim))
        have hm5 := hoC.cell HM.out (fun e => by
          have h8 := HORD.out
          have h9 : 0 = b + 1 ∨ 0 = b ∨ 0 = P := e
          omega)
        obtain ⟨v5, hbp5, hsl5⟩ := HRS.out.out
        have hbp5 := (ho4.trans ho5).old hbp5 id
        have hsl5 := hsl5.new (ho4.trans ho5)
        have hP5 := HPUT.out w5 hst5 hm5
        have hy5 : ∀ i u, wr.cell? ⟨lb, off + k * 5 + i, none⟩ = some u → w5.cell? ⟨lb, off + k * 5 + i, none⟩ = some u := fun i u hu => (ho4.trans ho5).cell hu id
        have HP5 := Lib.hid hP5
        have HBP5 := Lib.hid hbp5
        have HSL5 := Lib.hid hsl5
        have HOC := Lib.hid hoC
        have HST5 := Lib.hid hst5
        clear hP5 hbp5 hsl5 hoC hst5
        have z0 := hy5 0 _ y0
        have z1 := hy5 1 _ y1
        have z2 := hy5 2 _ y2
        have z3 := hy5 3 _ y3
        have z4 := hy5 4 _ y4
        simp only [Nat.add_zero] at z0
        clear ho4 ho5 y0 y1 y2 y3 y4 hm5 hy5 HPUT HTO
        go_wp2_with fail
        refine HP5.out.mono ?_
        rintro e w6 ⟨rfl, ho6, hst6⟩
        have hlbs : ¬ (lb = b + 1 ∨ lb = b) := by have h8 := HORD.out; omega
        have hPs : ¬ (P = b + 1 ∨ P = b) := by have h8 := HORD.out; omega
        have z0 := ho6.cell z0 hlbs
        have z1 := ho6.cell z1 hlbs
        have z2 := ho6.cell z2 hlbs
        have z3 := ho6.cell z3 hlbs
        have z4 := ho6.cell z4 hlbs
        have hbp6 := ho6.old HBP5.out hPs
        have hsl6 := rsl_kept HSL5.out ho6 HST5.out.noStr
        obtain ⟨pa, pcap, rfl, _⟩ := Sl.cells recC_length hsl6
        have hns6 := rsl_noStr hsl6 hbp6
        have hoD : Only (fun i => i = b + 1 ∨ i = b ∨ i = P) W3 w6 := HOC.out.trans (ho6.weaken (fun _ _ e => e.elim .inl (fun e => .inr (.inl e))))
        have p0 : w6.cell? ⟨P, 0, none⟩ = some (.int .i64 48) := cell_at hbp6 0
        have p1 : w6.cell? ⟨P, 1, none⟩ = some (.int .i64 ttl) := cell_at hbp6 1
        have p2 : w6.cell? ⟨P, 2, none⟩ = some (.slice pa D.length pcap) := cell_at hbp6 2
        have p3 : w6.cell? ⟨P, 3, none⟩ = some (.int .i64 r') := cell_at hbp6 3
        have HBP6 := Lib.hid hbp6
        have HSL6 := Lib.hid hsl6
        have HNS6 := Lib.hid hns6
        have HOD := Lib.hid hoD
        have HST6 := Lib.hid hst6
        clear hbp6 hsl6 hns6 hoD hst6
        clear ho6 HP5 HBP5 HSL5 HOC HST5
        have hr2 : 0 ≤ r2 ∧ r2 ≤ ((k + 1 : Nat) : Int) ∧ 0 ≤ q2 ∧ q2 ≤ ((k + 1 : Nat) : Int) := by have h1 := HRR.out; have h2 := HQQ.out; omega
        have HR2 := Lib.hid hr2
        clear hr2
        go_upto_region 9 with (fail)
        go_region_law (first
            | (go_simp
               go_at_call 20
               refine (HREC.out _).mono ?_
               rintro e w7 ⟨rfl, ho7⟩
               have o7 : Only (fun _ => False) w6 w7 := Only.trans (by (repeat (first | (with_reducible assumption) | (with_reducible exact Only.refl _ _) | (with_reducible refine Only.drew ?_) | (with_reducible refine Only.alloc ?_ _) | (with_reducible refine onlySet ?_ (by first | (with_reducible assumption) | omega) _) | (with_reducible refine Only.trans ?_ (by with_reducible assumption))))) ho7
               have hb7 := o7.old HBP6.out id
               have q0 := cell_at hb7 0
               have q1 := cell_at hb7 1
               have q2' := cell_at hb7 2
               have q3 := cell_at hb7 3
               simp at q0 q1 q2' q3)
            | (go_simp
               go_at_call 21
               refine (HRP.out _ _ (HSL6.out.new (show Only (fun _ => False) w6 _ by (repeat (first | (with_reducible assumption) | (with_reducible exact Only.refl _ _) | (with_reducible refine Only.drew ?_) | (with_reducible refine Only.alloc ?_ _) | (with_reducible refine onlySet ?_ (by first | (with_reducible assumption) | omega) _) | (with_reducible refine Only.trans ?_ (by with_reducible assumption))))))).mono ?_
               rintro e w8 ⟨v8, rfl, ho8, hs8⟩
               obtain ⟨va, vcap, rfl, _⟩ := Sl.cells recC_length hs8
               have o8 : Only (fun _ => False) w6 w8 := Only.trans (by (repeat (first | (with_reducible assumption) | (with_reducible exact Only.refl _ _) | (with_reducible refine Only.drew ?_) | (with_reducible refine Only.alloc ?_ _) | (with_reducible refine onlySet ?_ (by first | (with_reducible assumption) | omega) _) | (with_reducible refine Only.trans ?_ (by with_reducible assumption))))) ho8
               have hb8 := o8.old HBP6.out id
               have s0 := cell_at hb8 0
               have s1 := cell_at hb8 1
               have s2 := cell_at hb8 2
               have s3 := cell_at hb8 3
               have sf := free_at hb8
               have hn8 := rsl_noStr (HSL6.out.new o8) hb8
               simp at s0 s1 s2 s3))
        all_goals (
          have hp8 := o8.weaken (T := fun i => i = P) (fun _ _ => False.elim)
          clear z0 z1 z2 z3 z4 p0 p1 p2 p3
          go_wp2_with fail
          go_roundg (30 - (k + 1))
          case measure => rw [Hg.out]; omega
          case rel =>
            refine ⟨k + 1, r2, q2, by go_num, by omega, by omega, HOD.out.trans (Only.weaken (S := fun i => i = P) ?_ (fun _ _ e => .inr (.inr e))), ?_, HR2.out.1, HR2.out.2.1, HR2.out.2.2.1, HR2.out.2.2.2, ?_, rfl⟩
            · (repeat (first | (with_reducible assumption) | (with_reducible exact Only.refl _ _) | (with_reducible refine Only.drew ?_) | (with_reducible refine onlyPut ?_ _)))
            · rw [HTS.out]
              refine HST6.out.kept (S := fun i => i = P) ?_ (by have h8 := HORD.out; omega) (by have h8 := HORD.out; omega)
              (repeat (first | (with_reducible assumption) | (with_reducible exact Only.refl _ _) | (with_reducible refine Only.drew ?_) | (with_reducible refine onlyPut ?_ _)))
            · rw [HTS.out]
              refine ⟨_, ?_, rsl_kept hs8 (S := fun i => i = P) ?_ (fun g e => by subst e; exact hn8)⟩
              · (apply Eq.trans; (case h₁ => repeat (first | (with_reducible assumption) | (with_reducible exact heap_alloc_new _ _) | (with_reducible apply blk_new; (repeat (first | (with_reducible rfl) | (with_reducible apply sz_set) | (with_reducible apply sz_alloc) | (with_reducible apply sz_drew))); done) | (with_reducible apply blk_same) | (with_reducible apply blk_ne; case hn => (first | assumption | omega)) | (with_reducible apply blk_old) | (with_reducible apply blk_drew))); (case h₂ => rfl))
              · (repeat (first | (with_reducible assumption) | (with_reducible exact Only.refl _ _) | (with_reducible refine Only.drew ?_) | (with_reducible refine onlyPut ?_ _))))
      · have HE := Lib.hid (madeL_end (ttl := ttl) hk hk30 hlt)
        rcases (by omega : (¬ (k : Int) < (l.length : Int)) ∨ ((k : Int) < (l.length : Int) ∧ ¬ (k : Int) < 30)) with e1 | ⟨e1, e2⟩
        all_goals
          clear hlt
          go_wp2_with fail
          go_meet
          exact ⟨r, r', HO.out, by rw [← HE.out]; exact HST1.out, hr0, by omega, hq0, by omega, by rw [← HE.out]; exact HRS.out⟩
  case rest =>
  obtain ⟨r, r', ho, hst, hr0, hr, hq0, hq, hrs⟩ := hcut
  generalize wc = wy at *
  obtain ⟨v5, hbp, hsl⟩ := hrs.out
  have hbq := ho.old HBQ.out (by have h8 := HORD.out; intro e; have h9 : Q = b + 1 ∨ Q = b ∨ Q = P := e; omega)
  obtain ⟨pa, pcap, rfl, _⟩ := Sl.cells recC_length hsl
  have p0 : wy.cell? ⟨P, 0, none⟩ = some (.int .i64 48) := cell_at hbp 0
  have p1 : wy.cell? ⟨P, 1, none⟩ = some (.int .i64 ttl) := cell_at hbp 1
  have p2 : wy.cell? ⟨P, 2, none⟩ = some (.slice pa (madeL ttl l 30).length pcap) := cell_at hbp 2
  have p3 : wy.cell? ⟨P, 3, none⟩ = some (.int .i64 r') := cell_at hbp 3
  have qf : ∀ i, wy.frozen? ⟨Q, i, none⟩ = false := free_at hbq
  have hnq : ∀ i x, wy.cell? ⟨Q, i, none⟩ ≠ some (.string x) := rst_noStr (p := none) (cap := 0) (.inl rfl) hbq
  have hne : ¬ Q = P := by have h8 := HORD.out; omega
  have q0 : wy.cell? ⟨Q, 0, none⟩ = some (.int .i64 0) := cell_at hbq 0
  have q1 : wy.cell? ⟨Q, 1, none⟩ = some (.int .i64 0) := cell_at hbq 1
  have q2 : wy.cell? ⟨Q, 2, none⟩ = some (.slice none 0 0) := cell_at hbq 2
  have q3 : wy.cell? ⟨Q, 3, none⟩ = some (.int .i64 0) := cell_at hbq 3
  have HO := Lib.hid ho
  have HST2 := Lib.hid hst
  have HBP2 := Lib.hid hbp
  have HBQ2 := Lib.hid hbq
  have HSL := Lib.hid hsl
  have HNQ := Lib.hid hnq
  have HR := Lib.hid hr0
  have HR1 := Lib.hid hr
  have HQ0 := Lib.hid hq0
  have HQ1 := Lib.hid hq
  clear ho hst hbp hbq hsl hnq hr0 hr hq0 hq
  clear hrs HST HBP HBQ
  go_upto_region 10 with (fail)
  go_cut [4] (fun v4 wx => v4 = .pointer (some ⟨b + 1, 0, none⟩) ∧ wx.heap[Q]? = some (.cells #[.int .i64 48, .int .i64 ttl, .slice pa (madeL ttl l 30).length pcap, .int .i64 r'] 27 (0, 0)) ∧ Only (fun i => i = Q) wy wx)
  case first =>
    have hbq2 := HBQ2.out
    go_region
    all_goals
      go_wp2_with fail
      go_meet
      refine ⟨rfl, ?_, ?_⟩
      · (apply Eq.trans; (case h₁ => repeat (first | (with_reducible assumption) | (with_reducible exact heap_alloc_new _ _) | (with_reducible apply blk_new; (repeat (first | (with_reducible rfl) | (with_reducible apply sz_set) | (with_reducible apply sz_alloc) | (with_reducible apply sz_drew))); done) | (with_reducible apply blk_same) | (with_reducible apply blk_ne; case hn => (first | assumption | omega)) | (with_reducible apply blk_old) | (with_reducible apply blk_drew))); (case h₂ => rfl))
      · (repeat (first | (with_reducible exact Only.refl _ _) | (with_reducible refine Only.drew ?_) | (with_reducible refine onlyPut ?_ _)))
  case rest =>
  obtain ⟨rfl, hbz, hoz⟩ := hcut
  generalize wc = wz at *
  clear p0 p1 p2 p3 q0 q1 q2 q3 qf
  have hst3 := HST2.out.kept hoz (by have h8 := HORD.out; omega) (by have h8 := HORD.out; omega)
  have hsl3 := rsl_kept HSL.out (S := fun i => i = Q) hoz (fun g e => by subst e; exact HNQ.out)
  have hoY : Only (fun _ => False) w wz := (HOB.out.tr HO.out (fun i hi e => by
    have h8 := HORD.out
    have h9 : i = b + 1 ∨ i = b ∨ i = P := e
    have h10 := HQ.out
    omega)).tr hoz (fun i hi e => by have h10 := HQ.out; have h9 : i = Q := e; omega)
  have p0 : wz.cell? ⟨Q, 0, none⟩ = some (.int .i64 48) := cell_at hbz 0
  have p1 : wz.cell? ⟨Q, 1, none⟩ = some (.int .i64 ttl) := cell_at hbz 1
  have p2 : wz.cell? ⟨Q, 2, none⟩ = some (.slice pa (madeL ttl l 30).length pcap) := cell_at hbz 2
  have p3 : wz.cell? ⟨Q, 3, none⟩ = some (.int .i64 r') := cell_at hbz 3
  have HST3 := Lib.hid hst3
  have HSL3 := Lib.hid hsl3
  have HOY := Lib.hid hoY
  clear hst3 hsl3 hoY
  clear hoz hbz
  go_wp2_with fail
  refine bodyPost_ret (v := .tuple #[.pointer (some ⟨b + 1, 0, none⟩), .agg #[.int .i64 48, .int .i64 ttl, .slice pa (madeL ttl l 30).length pcap, .int .i64 r']]) (by simp [results, Tryz.results6, go_sem, p0, p1, p2, p3]) rfl ?_
  have h8 := HORD.out
  have h10 := HQ.out
  exact ⟨b + 1, b, r, r', _, rfl, HOY.out, by omega, by omega, HST3.out, HR.out, HR1.out, HQ0.out, HQ1.out, HSL3.out⟩
end Go.Proofs.YtjdlcfllmpdffaaGreatDoor
/-! bellhoplaw16.packed. -/
namespace Go.Proofs.YtjdlcfllmpdffaaGreatDoor
open Go.Conc Go.RowKit Go.Maps

theorem packM_get {P : List MsgP} {kind : Int} {S : List RecT} (hP : P.map (·.1) = packM kind S) (i : Nat) (hi : i < P.length) : P[i].1 = chunkM kind S i ∧ i < (S.length + 15) / 16 := by
  have hl : P.length = (S.length + 15) / 16 := by
    have := congrArg List.length hP
    simpa [packM] using this
  refine ⟨?_, by omega⟩
  have h1 : (P.map (·.1))[i]? = (packM kind S)[i]? := by rw [hP]
  rw [List.getElem?_map, List.getElem?_eq_getElem hi] at h1
  unfold packM at h1
  rw [List.getElem?_map, List.getElem?_range (by omega)] at h1
  simpa using h1
theorem chunk_get {kind : Int} {S : List RecT} {i k : Nat} (hk : k < (chunkM kind S i).recs.length) : ∃ h : 16 * i + k < S.length, (chunkM kind S i).recs[k] = S[16 * i + k] := by
  unfold chunkM at hk ⊢
  simp only [List.length_take, List.length_drop] at hk
  refine ⟨by omega, ?_⟩
  simp only [List.getElem_take, List.getElem_drop]
theorem chunk_len (kind : Int) (S : List RecT) (i : Nat) : (chunkM kind S i).recs.length = min 16 (S.length - 16 * i) := by
  unfold chunkM
  simp only [List.length_take, List.length_drop]
end Go.Proofs.YtjdlcfllmpdffaaGreatDoor
/-! bellhoplaw16.speaks. -/
namespace Go.Proofs.YtjdlcfllmpdffaaGreatDoor
open Go.Conc Go.RowKit Go.Maps

def sp16A : RecA := ⟨1, 0, 0, 0, 0⟩
def sp16X : RecT := rec16 sp16A
theorem sp16_put : putE 48 100 [] sp16X = 0 := by decide +kernel
theorem sp16_made : madeL 100 [sp16A] 30 = [sp16X] ∧ madeL 100 [] 30 = [] := by
  have h : putS 48 100 [] sp16X = [sp16X] := by
    unfold putS
    rw [if_pos sp16_put]
    rfl
  exact ⟨h, rfl⟩
def sp16Y : RecT := sentR sp16X
theorem sp16_ans : answerM 100 [sp16X] [] = [⟨14, 0, 0, false, [], [], [sp16Y]⟩] := by
  have h1 : newerL [sp16X] [] = [sp16X] := rfl
  have h2 : sentL 100 [sp16X] = [sp16Y] := by
    unfold sentL
    have : decide (sp16Y.age < 100) = true := by decide +kernel
    show List.filter _ [sp16Y] = _
    rw [List.filter_cons, this]
    rfl
  unfold answerM
  rw [h1, h2]
  rfl
theorem sp16_age : sp16Y.age = 2 := by decide +kernel
theorem sp16_put2 : putE 48 100 [] sp16Y = 0 := by decide +kernel
theorem sp16_take : takeO 48 100 [] [sp16Y] = [sp16Y] ∧ takeS 48 100 [] [sp16Y] = [sp16Y] := by
  have h : putS 48 100 [] sp16Y = [sp16Y] := by
    unfold putS
    rw [if_pos sp16_put2]
    rfl
  refine ⟨?_, h⟩
  unfold takeO
  rw [if_pos sp16_put2]
  rfl
set_option maxRecDepth 100000 in
set_option maxHeartbeats 4000000 in
theorem speaks16_any (w : World) (m : Int) (hm : w.cell? ⟨0, 0, none⟩ = some (.int .i64 m)) :
    Calls Tryz.prog 5 #[] w fun e w' => e = .returned (.bool true) ∧ Only (fun _ => False) w w' := by
  have h0 : 0 < w.heap.size := World.block_lt_of_cell? _ _ hm
  obtain ⟨W, hW⟩ : ∃ W, W = w.alloc (.cells #[.int .u8 1, .int .u8 0, .int .u8 0, .int .u8 0, .int .u16 0] 63) := ⟨_, rfl⟩
  have hbW : W.heap[w.heap.size]? = some (.cells #[.int .u8 1, .int .u8 0, .int .u8 0, .int .u8 0, .int .u16 0] 63 (0, 0)) := by rw [hW]; exact heap_alloc_new w _
  have hoW : Only (fun _ => False) w W := by rw [hW]; exact (Only.refl _ _).alloc _
  have hsW : W.heap.size = w.heap.size + 1 := by rw [hW]; simp
  have hsl : Sl W 5 (.slice (some ⟨w.heap.size, 0, none⟩) 1 1) [sp16A].length ([sp16A].flatMap recAC) := by rw [hW]; exact Sl.fresh w _ _ 1 5 rfl (by unfold maxLen; decide)
  have hmW := hoW.cell hm id
  have hmade := made16_any W m hmW _ [sp16A] hsl (fun a ha => by rw [List.mem_singleton.1 ha]; exact ⟨by decide, by decide, by decide, by decide, by decide⟩) 100 (by omega) (by omega)
  unfold MadeP at hmade
  rw [sp16_made.1] at hmade
  have HMADE := Lib.hid hmade
  have HOW := Lib.hid hoW
  have HM := Lib.hid hmW
  clear hmade hoW hmW
  clear hm hsl hbW hsW
  go_enter Tryz.func5, Tryz.ntmps5
  go_wp2_with fail
  rw [← hW]
  clear hW
  refine HMADE.out.mono ?_
  rintro e w1 ⟨s1, b1, r1, q1, v1, rfl, ho1, hs1, hb1, hst1, _, _, _, _, hsl1⟩
  obtain ⟨va, vcap, rfl, _⟩ := Sl.cells recC_length hsl1
  unfold rstV
  obtain ⟨V1, hV1⟩ : ∃ V1, V1 = w1.alloc (.cells #[.int .i64 48, .int .i64 100, .slice va 1 vcap, .int .i64 q1] 27) := ⟨_, rfl⟩
  have hbV1 : V1.heap[w1.heap.size]? = some (.cells #[.int .i64 48, .int .i64 100, .slice va 1 vcap, .int .i64 q1] 27 (0, 0)) := by rw [hV1]; exact heap_alloc_new w1 _
  have hoV1 : Only (fun _ => False) w1 V1 := by rw [hV1]; exact (Only.refl _ _).alloc _
  have hsV1 : V1.heap.size = w1.heap.size + 1 := by rw [hV1]; simp
  have hm1 := hoV1.cell (ho1.cell HM.out id) id
  have hst1 := hst1.new hoV1
  have hoA := (HOW.out.trans ho1).trans hoV1
  have hmade := made16_any V1 m hm1 (.slice none 0 0) [] (Sl.nil _ _) (fun a ha => by cases ha) 100 (by omega) (by omega)
  unfold MadeP at hmade
  rw [sp16_made.2] at hmade
  have HMADE2 := Lib.hid hmade
  have HST1 := Lib.hid hst1
  have HOA := Lib.hid hoA
  have HM1 := Lib.hid hm1
  clear hmade hst1 hoA hm1
  clear HMADE ho1 hoV1 hbV1 hsV1 hs1 hb1 hsl1 HOW HM
  go_upto_region 2 with (fail)
  rw [← hV1]
  clear hV1
  go_wp2_with fail
  refine HMADE2.out.mono ?_
  rintro e w2 ⟨s2, b2, r2, q2, v2, rfl, ho2, hs2, hb2, hst2, hr20, hr21, _, _, hsl2⟩
  obtain ⟨va2, vcap2, rfl, _⟩ := Sl.cells recC_length hsl2
  unfold rstV
  obtain ⟨V2, hV2⟩ : ∃ V2, V2 = w2.alloc (.cells #[.int .i64 48, .int .i64 100, .slice va2 0 vcap2, .int .i64 q2] 27) := ⟨_, rfl⟩
  have hbV2 : V2.heap[w2.heap.size]? = some (.cells #[.int .i64 48, .int .i64 100, .slice va2 0 vcap2, .int .i64 q2] 27 (0, 0)) := by rw [hV2]; exact heap_alloc_new w2 _
  have hoV2 : Only (fun _ => False) w2 V2 := by rw [hV2]; exact (Only.refl _ _).alloc _
  have hsV2 : V2.heap.size = w2.heap.size + 1 := by rw [hV2]; simp
  have hst1 := (HST1.out.new ho2).new hoV2
  have hst2 := hst2.new hoV2
  have hm2 := hoV2.cell (ho2.cell HM1.out id) id
  have hoB := (HOA.out.trans ho2).trans hoV2
  have hsz : w.heap.size ≤ V1.heap.size := HOA.out.size
  have hsb : w.heap.size ≤ s2 ∧ w.heap.size ≤ b2 ∧ s2 ≠ 0 ∧ b2 ≠ 0 := by omega
  have HST1 := Lib.hid hst1
  have HST2 := Lib.hid hst2
  have HM2 := Lib.hid hm2
  have HOB := Lib.hid hoB
  have HSB := Lib.hid hsb
  have HR2 := Lib.hid hr20
  have HR21 := Lib.hid hr21
  clear hst1 hst2 hm2 hoB hsb hr20 hr21
  clear HMADE2 ho2 hoV2 hbV2 hsV2 hs2 hb2 hsl2 hsz HOA HM1
  go_upto_region 3 with (fail)
  rw [← hV2]
  clear hV2
  have HASK := Lib.hid (dask_any V2 s2 b2 48 100 r2 [] HST2.out)
  go_wp2_with fail
  refine HASK.out.mono ?_
  rintro e w3 ⟨vq, rfl, ho3, hq⟩
  obtain ⟨vn, vi, vr, rfl, m1, m2, m3⟩ := hq.out
  obtain ⟨n1, n2, rfl, _⟩ := Sl.cells intC_length m1
  obtain ⟨i1, i2, rfl, _⟩ := Sl.cells idT_length m2
  obtain ⟨c1, c2, rfl, _⟩ := Sl.cells recC_length m3
  simp only [askMsg, List.length_nil, List.map_nil]
  have hq2 : MsgIs w3 (.agg #[.int .i64 13, .int .i64 0, .int .i64 0, .bool false, .slice n1 0 n2, .slice i1 0 i2, .slice c1 0 c2]) (askMsg []) := hq
  obtain ⟨V3, hV3⟩ : ∃ V3, V3 = w3.alloc (.cells #[.int .i64 13, .int .i64 0, .int .i64 0, .bool false, .slice n1 0 n2, .slice i1 0 i2, .slice c1 0 c2] 36) := ⟨_, rfl⟩
  have hbV3 : V3.heap[w3.heap.size]? = some (.cells #[.int .i64 13, .int .i64 0, .int .i64 0, .bool false, .slice n1 0 n2, .slice i1 0 i2, .slice c1 0 c2] 36 (0, 0)) := by rw [hV3]; exact heap_alloc_new w3 _
  have hoV3 : Only (fun _ => False) w3 V3 := by rw [hV3]; exact (Only.refl _ _).alloc _
  have hsV3 : V3.heap.size = w3.heap.size + 1 := by rw [hV3]; simp
  have hans := answer_any V3 s1 b1 48 100 r1 [sp16X] ((HST1.out.new ho3).new hoV3) _ (askMsg []) (hq2.new hoV3) (by simp [askMsg]) (fun p hp => by cases hp)
  rw [show answerM 100 [sp16X] (askMsg []).ids = [⟨14, 0, 0, false, [], [], [sp16Y]⟩] from sp16_ans] at hans
  have hst2 := (HST2.out.new ho3).new hoV3
  have hm3 := hoV3.cell (ho3.cell HM2.out id) id
  have hoC := (HOB.out.trans ho3).trans hoV3
  have HANS := Lib.hid hans
  have HST2 := Lib.hid hst2
  have HM3 := Lib.hid hm3
  have HOC := Lib.hid hoC
  have HBQ := Lib.hid hbV3
  clear hans hst2 hm3 hoC hbV3
  clear HASK HST1 HM2 HOB ho3 hoV3 hsV3 hq hq2 m1 m2 m3
  have x0 : V3.cell? ⟨w3.heap.size, 0, none⟩ = some (.int .i64 13) := cell_at HBQ.out 0
  have x1 : V3.cell? ⟨w3.heap.size, 1, none⟩ = some (.int .i64 0) := cell_at HBQ.out 1
  have x2 : V3.cell? ⟨w3.heap.size, 2, none⟩ = some (.int .i64 0) := cell_at HBQ.out 2
  have x3 : V3.cell? ⟨w3.heap.size, 3, none⟩ = some (.bool false) := cell_at HBQ.out 3
  have x4 : V3.cell? ⟨w3.heap.size, 4, none⟩ = some (.slice n1 0 n2) := cell_at HBQ.out 4
  have x5 : V3.cell? ⟨w3.heap.size, 5, none⟩ = some (.slice i1 0 i2) := cell_at HBQ.out 5
  have x6 : V3.cell? ⟨w3.heap.size, 6, none⟩ = some (.slice c1 0 c2) := cell_at HBQ.out 6
  go_upto_region 6 with (fail)
  rw [← hV3]
  clear hV3
  go_wp2_with fail
  refine HANS.out.mono ?_
  rintro e w4 ⟨v4, rfl, ho4, hrow4⟩
  obtain ⟨P, hP, hown, heach⟩ := hrow4.out
  obtain ⟨p, rfl, hp⟩ : ∃ p, P = [p] ∧ p.1 = ⟨14, 0, 0, false, [], [], [sp16Y]⟩ := by
    cases P with
    | nil => cases hP
    | cons p P =>
      cases P with
      | nil => exact ⟨p, rfl, (List.cons.inj hP).1⟩
      | cons q P => cases (List.cons.inj hP).2
  have hei := heach p List.mem_cons_self
  obtain ⟨pa, pcap, rfl, p1, p2, p3⟩ := Sl.cells cellsM_length (Sl.of_owns hown)
  obtain ⟨mb, moff, rfl, hc⟩ := p3.at 0 (Nat.zero_lt_one)
  obtain ⟨mm, un, ui, ur⟩ := p
  simp only at hp
  subst hp
  have hrr : RSl w4 ur [sp16Y] := Sl.of_owns hei.r
  have hblk : RecBlk w4 ur := RecBlk.of_row hei.r
  obtain ⟨ra, rcap, rfl, _, _, r3⟩ := Sl.cells recC_length hrr
  obtain ⟨rb, roff, rfl, hrc⟩ := r3.at 0 (Nat.zero_lt_one)
  have y0 := hc 0 _ rfl
  have y6 := hc 6 _ rfl
  simp only [Nat.zero_mul, Nat.add_zero] at y0 y6
  have z3 := hrc 3 _ rfl
  simp only [Nat.zero_mul, Nat.add_zero, List.getElem_cons_zero, sp16_age] at z3
  have hb4 := ho4.old HBQ.out id
  have x0' : w4.cell? ⟨w3.heap.size, 0, none⟩ = some (.int .i64 13) := cell_at hb4 0
  have x5' : w4.cell? ⟨w3.heap.size, 5, none⟩ = some (.slice i1 0 i2) := cell_at hb4 5
  have htk := take_any w4 s2 b2 48 100 r2 [] (HST2.out.new ho4) m (ho4.cell HM3.out id) HSB.out.2.2 _ [sp16Y] hrr hblk (by decide) (fun x hx => by rw [List.mem_singleton.1 hx]; exact ⟨by decide +kernel, by decide +kernel⟩) HR2.out (by have := HR21.out; omega)
  rw [sp16_take.1, sp16_take.2] at htk
  have hoD := HOC.out.trans ho4
  have HTK := Lib.hid htk
  have HOD := Lib.hid hoD
  clear htk hoD
  clear x0 x1 x2 x3 x4 x5 x6 hrow4 hown heach hei hc hrr hblk r3 hrc hb4 ho4 p3 hP
  go_wp2_with fail
  refine HTK.out.mono ?_
  rintro e w5 ⟨v5, rfl, ho5, hrow5, r5, _, _, hst5⟩
  obtain ⟨ta, tcap, rfl, _⟩ := Sl.cells recC_length (Sl.of_owns hrow5)
  have hlen := slen_any w5 s2 b2 48 100 r5 [sp16Y] hst5
  have hoE := HOD.out.tr ho5 (fun i hi e => by have := HSB.out; have h9 : i = s2 ∨ i = b2 := e; omega)
  have HLEN := Lib.hid hlen
  have HOE := Lib.hid hoE
  clear hlen hoE
  clear hrow5 hst5 ho5
  go_wp2_with fail
  refine HLEN.out.mono ?_
  rintro e w6 ⟨rfl, rfl⟩
  go_wp2_with fail
  go_ret
  exact ⟨rfl, HOE.out⟩
end Go.Proofs.YtjdlcfllmpdffaaGreatDoor
/-! A slice of structs that came in (bellhop/bellhoplaw16.Rec), as a list. -/
namespace Go.Proofs.YtjdlcfllmpdffaaGreatDoor
open Go.Conc Go.RowKit Go.ChangeShapes Go.WideShapes Go.ChangeAt Go.WideMaps Go.WideElems

/-- What is known of an element that came in. -/
def rowP_sl_recs16 (a : RecA) : Prop := a.org < 256 ∧ a.nm < 256 ∧ a.life < 256 ∧ a.cnt < 256 ∧ a.age < 65536
theorem rows_sl_recs16 : ∀ rows : List (List Value), (∀ r ∈ rows, r.length = 5 ∧ ∃ a : RecA, r = recAC a ∧ rowP_sl_recs16 a) →
    ∃ l : List RecA, rows.length = l.length ∧ rows.flatten = l.flatMap recAC ∧ ∀ a ∈ l, rowP_sl_recs16 a
  | [], _ => ⟨[], rfl, rfl, by simp⟩
  | r :: rows, h => by
    obtain ⟨l, h1, h2, h3⟩ := rows_sl_recs16 rows (fun r' h' => h r' (by simp [h']))
    obtain ⟨_, a, rfl, h4⟩ := h r (by simp)
    refine ⟨a :: l, by simp [h1], by simp [h2], fun b hb => ?_⟩
    rcases List.mem_cons.1 hb with rfl | hb
    · exact h4
    · exact h3 b hb
set_option maxRecDepth 100000 in
theorem sl_recs16 {H : Type} {enc : TypeId × Value → H} {w : World} {base : Nat} {held : Bool} {v : Value} {d : DataW H} {ps : List MemPlace} (hok : Value.okWide Tryz.prog w .any base 22 v) (h : DataW.Trod enc Tryz.prog w 0 (fun _ => true) held 22 v d ps) :
    ∃ l : List RecA, Sl w 5 v l.length (l.flatMap recAC) ∧ ∀ a ∈ l, rowP_sl_recs16 a := by
  have hc : Tryz.prog.cellsOf 63 = 5 := by kernel_rfl
  have cu16 : Tryz.prog.cellsOf 61 = 1 := by kernel_rfl
  have cu8 : Tryz.prog.cellsOf 5 = 1 := by kernel_rfl
  obtain ⟨rows, h1, h2⟩ := sl_structs (Q := fun r => ∃ a : RecA, r = recAC a ∧ rowP_sl_recs16 a) Tryz.underlying22 hc (by decide) hok h (fun n cs x hx => by
    obtain ⟨xs, m, _, _, hl, hlen, hel⟩ := DataW.trod_struct Tryz.underlying63 hx
    rw [hc] at hl
    match cs, hl with
    | [k0, k1, k2, k3, k4], _ =>
      match xs, hlen with
      | [y0, y1, y2, y3, y4], _ =>
        have e0 : DataW.trod enc Tryz.prog w 0 (fun _ => true) held m 5 ((([k0, k1, k2, k3, k4] : List Value).drop 0).take (Tryz.prog.cellsOf 5)) = some y0 := hel 0 _ rfl
        rw [cu8] at e0
        have f0 : DataW.trod enc Tryz.prog w 0 (fun _ => true) held m 5 [k0] = some y0 := e0
        have e1 : DataW.trod enc Tryz.prog w 0 (fun _ => true) held m 5 ((([k0, k1, k2, k3, k4] : List Value).drop 1).take (Tryz.prog.cellsOf 5)) = some y1 := hel 1 _ rfl
        rw [cu8] at e1
        have f1 : DataW.trod enc Tryz.prog w 0 (fun _ => true) held m 5 [k1] = some y1 := e1
        have e2 : DataW.trod enc Tryz.prog w 0 (fun _ => true) held m 5 ((([k0, k1, k2, k3, k4] : List Value).drop 2).take (Tryz.prog.cellsOf 5)) = some y2 := hel 2 _ rfl
        rw [cu8] at e2
        have f2 : DataW.trod enc Tryz.prog w 0 (fun _ => true) held m 5 [k2] = some y2 := e2
        have e3 : DataW.trod enc Tryz.prog w 0 (fun _ => true) held m 5 ((([k0, k1, k2, k3, k4] : List Value).drop 3).take (Tryz.prog.cellsOf 5)) = some y3 := hel 3 _ rfl
        rw [cu8] at e3
        have f3 : DataW.trod enc Tryz.prog w 0 (fun _ => true) held m 5 [k3] = some y3 := e3
        have e4 : DataW.trod enc Tryz.prog w 0 (fun _ => true) held m 61 ((([k0, k1, k2, k3, k4] : List Value).drop 4).take (Tryz.prog.cellsOf 61)) = some y4 := hel 4 _ rfl
        rw [cu16] at e4
        have f4 : DataW.trod enc Tryz.prog w 0 (fun _ => true) held m 61 [k4] = some y4 := e4
        obtain ⟨z0, g0, _, w0⟩ := DataW.trod_int Tryz.underlying5 f0
        obtain ⟨z1, g1, _, w1⟩ := DataW.trod_int Tryz.underlying5 f1
        obtain ⟨z2, g2, _, w2⟩ := DataW.trod_int Tryz.underlying5 f2
        obtain ⟨z3, g3, _, w3⟩ := DataW.trod_int Tryz.underlying5 f3
        obtain ⟨z4, g4, _, w4⟩ := DataW.trod_int Tryz.underlying61 f4
        cases g0
        cases g1
        cases g2
        cases g3
        cases g4
        obtain ⟨z0, rfl, q0⟩ := nat_u8 w0
        obtain ⟨z1, rfl, q1⟩ := nat_u8 w1
        obtain ⟨z2, rfl, q2⟩ := nat_u8 w2
        obtain ⟨z3, rfl, q3⟩ := nat_u8 w3
        obtain ⟨z4, rfl, q4⟩ := nat_u16 w4
        exact ⟨⟨z0, z1, z2, z3, z4⟩, rfl, ⟨q0, q1, q2, q3, q4⟩⟩)
  obtain ⟨l, e1, e2, e3⟩ := rows_sl_recs16 rows h2
  rw [e1, e2] at h1
  exact ⟨l, h1, e3⟩
end Go.Proofs.YtjdlcfllmpdffaaGreatDoor
