/- The reference's two. -/
import Derived.Test.YtbdfijgejkimnaaGreatDoorNF
import Derived.Deep.RegionHeld3
import Derived.Test.YtbdfijgejkimnaaGreatDoorNB
import Derived.Test.YtbdfijgejkimnaaGreatDoorNC
import Derived.Test.YtbdfijgejkimnaaGreatDoorNE
import Derived.Test.YtbdfijgejkimnaaGreatDoorNA
import Derived.Deep.CutBlock
/-! Answer: the places of services. -/
namespace Go.Proofs.YtbdfijgejkimnaaGreatDoor
open Go.Conc Go.RowKit Go.Maps

def rrS (ttl : Int) (x : RecT) : RR := ⟨33, (ttl - x.age).toNat, (0, 0, 0, 0), bA x.data 6 * 256 + bA x.data 7, bA x.data 8 * 256 + bA x.data 9, bA x.data 4 * 256 + bA x.data 5, tgtL x.o.toNat⟩
theorem kcD {w : World} {p : Addr} {v : Value} (h : w.cell? p = some v) : w.drew.cell? p = some v := h
theorem kcN {w : World} {p : Addr} {v : Value} {o : Obj} (h : w.cell? p = some v) : (w.alloc o).cell? p = some v := ((Only.refl (fun _ => False) w).alloc o).cell h id
theorem RpRow.dr {w : World} {base : Nat} {v : Value} {L : List RRv} (h : RpRow w base v L) : RpRow w.drew base v L := h.new ((Only.refl _ _).drew)
theorem RpRow.al {w : World} {base : Nat} {v : Value} {L : List RRv} (h : RpRow w base v L) (o : Obj) : RpRow (w.alloc o) base v L := h.new ((Only.refl _ _).alloc o)
set_option maxRecDepth 100000 in
set_option maxHeartbeats 4000000 in
theorem places_any (w : World) (ttl m : Int) (v : Value) (L : List RecT) (hE : EnvW w m) (h : Sl w 6 v L.length (L.flatMap recC)) (hL : ∀ x ∈ L, TellOk ttl x) (ho : ∀ x ∈ L, 1 ≤ x.o ∧ x.o ≤ 65535) (hl : L.length ≤ 48) (ht : ttl ≤ 65535) :
    Calls Tryz.prog 39 #[.int .i64 ttl, v] w fun e w' => RecsP w w' (L.map (rrS ttl)) e := by
  obtain ⟨i0, hi0, iz0, iz1, iz2⟩ := info_parts infoRR
  obtain ⟨sa, cap, rfl, q1, q2, q3⟩ := Sl.cells recC_length h
  unfold maxLen at q2
  have HC := Lib.hid q3
  have HL := Lib.hid hL
  have HE := Lib.hid hE
  have HORG := Lib.hid ho
  clear q3 hL hE ho
  clear h
  go_enter Tryz.func39, Tryz.ntmps39
  go_wp2_with fail
  go_loopg [5, 12] L.length (fun g v5 v12 wr => ∃ (k : Nat) (E : List RRv), v12 = .int .i64 k ∧ k ≤ L.length ∧ Only (fun _ => False) w wr ∧ RpRow wr w.heap.size v5 E ∧ E.map (·.r) = (L.take k).map (rrS ttl) ∧ g = L.length - k)
  case atStart => exact ⟨0, [], rfl, Nat.zero_le _, Only.refl _ _, RpRow.nil _ _, rfl, rfl⟩
  case round =>
    obtain ⟨k, E, rfl, hk, ho, hrow, hE, hg⟩ := hrel
    have hEl : E.length = k := by
      have h1 := congrArg List.length hE
      rw [List.length_map, List.length_map, List.length_take] at h1
      omega
    have HEL := Lib.hid hEl
    clear hEl
    by_cases hlt : k < L.length
    · -- round
      have hlt' : (k : Int) < (L.length : Int) := by omega
      obtain ⟨lb, off, rfl, hc⟩ := HC.out.at k hlt
      have HSN := Lib.hid (show (L.take (k + 1)).map (rrS ttl) = (L.take k).map (rrS ttl) ++ [rrS ttl L[k]] by rw [List.take_add_one, List.getElem?_eq_getElem hlt, Option.toList_some, List.map_append]; rfl)
      have HTO := Lib.hid (HL.out _ (List.getElem_mem hlt))
      have hor := HORG.out _ (List.getElem_mem hlt)
      have hcr : ∀ i u, (recC L[k])[i]? = some u → wr.cell? ⟨lb, off + k * 6 + i, none⟩ = some u := fun i u hu => ho.cell (hc i u hu) id
      generalize L[k] = x at *
      have htv := tell_yes HTO.out
      have hfa := HTO.out.facts
      have hyo := HTO.out.young
      have hve := HTO.out.ver
      have hrs : rrS ttl x = ⟨33, (ttl - x.age).toNat, (0, 0, 0, 0), bA x.data 6 * 256 + bA x.data 7, bA x.data 8 * 256 + bA x.data 9, bA x.data 4 * 256 + bA x.data 5, tgtL x.o.toNat⟩ := rfl
      obtain ⟨k1, n1, o1, a1, g1, d1⟩ := x
      simp only at htv hfa hyo hve hrs hor
      obtain ⟨oN, rfl⟩ : ∃ oN : Nat, o1 = oN := ⟨o1.toNat, by omega⟩
      rw [Int.toNat_natCast] at hrs
      have y0 := hcr 0 _ rfl
      have y1 := hcr 1 _ rfl
      have y2 := hcr 2 _ rfl
      have y3 := hcr 3 _ rfl
      have y4 := hcr 4 _ rfl
      have y5 := hcr 5 _ rfl
      simp only [Nat.add_zero] at y0 y1 y2 y3 y4 y5
      obtain ⟨W8, hW8⟩ : ∃ W8, W8 = wr.alloc (.cells #[.string k1, .int .u64 n1, .int .i64 oN, .int .i64 a1, .bool g1, .string d1] 69) := ⟨_, rfl⟩
      have hbW8 : W8.heap[wr.heap.size]? = some (.cells #[.string k1, .int .u64 n1, .int .i64 oN, .int .i64 a1, .bool g1, .string d1] 69 (0, 0)) := by rw [hW8]; exact heap_alloc_new wr _
      have hoW8 : Only (fun _ => False) wr W8 := by rw [hW8]; exact (Only.refl _ _).alloc _
      have hsW8 : W8.heap.size = wr.heap.size + 1 := by rw [hW8]; simp
      have HT := Lib.hid (tell_any W8 k1 n1 oN a1 g1 d1 m (hoW8.cell (ho.cell HE.out.max id) id) hve hfa.2.2)
      rw [htv.1, htv.2] at HT
      obtain ⟨tt, htt⟩ : ∃ tt : Nat, ttl - a1 = tt := ⟨(ttl - a1).toNat, by omega⟩
      have hw64 : IntKind.i64.wrap (tt : Int) = tt := by rw [IntKind.wrap_i64]; omega
      have hw32 : IntKind.u32.wrap (tt : Int) = tt := by rw [IntKind.wrap_u32]; omega
      rw [htt, Int.toNat_natCast] at hrs
      have HO := Lib.hid ho
      have HROW := Lib.hid hrow
      have HEE := Lib.hid hE
      have Hg := Lib.hid hg
      have HRS := Lib.hid hrs
      have HBW8 := Lib.hid hbW8
      have HOW8 := Lib.hid hoW8
      have HSW8 := Lib.hid hsW8
      clear ho hrow hE hg hrs hbW8 hoW8 hsW8
      clear hc hcr
      go_upto_region 5 with (fail)
      rw [← hW8]
      clear hW8
      have x0 : W8.cell? ⟨wr.heap.size, 0, none⟩ = some (.string k1) := cell_at HBW8.out 0
      have x1 : W8.cell? ⟨wr.heap.size, 1, none⟩ = some (.int .u64 n1) := cell_at HBW8.out 1
      have x2 : W8.cell? ⟨wr.heap.size, 2, none⟩ = some (.int .i64 oN) := cell_at HBW8.out 2
      have x3 : W8.cell? ⟨wr.heap.size, 3, none⟩ = some (.int .i64 a1) := cell_at HBW8.out 3
      have x4 : W8.cell? ⟨wr.heap.size, 4, none⟩ = some (.bool g1) := cell_at HBW8.out 4
      have x5 : W8.cell? ⟨wr.heap.size, 5, none⟩ = some (.string d1) := cell_at HBW8.out 5
      unfold svcV at HT
      generalize k1.extract 2 k1.size = nm at *
      generalize bA d1 4 * 256 + bA d1 5 = po at *
      generalize bA d1 6 * 256 + bA d1 7 = pr at *
      generalize bA d1 8 * 256 + bA d1 9 = wt at *
      generalize bA d1 0 = b0 at *
      generalize bA d1 1 = b1 at *
      generalize bA d1 2 = b2 at *
      generalize bA d1 3 = b3 at *
      go_wp2_with fail
      refine HT.out.mono ?_
      rintro e w9 ⟨rfl, ho9⟩
      obtain ⟨W9, hW9⟩ : ∃ W9, W9 = w9.alloc (.cells #[.string nm, .int .u8 b0, .int .u8 b1, .int .u8 b2, .int .u8 b3, .int .u16 po, .int .u16 pr, .int .u16 wt] 147) := ⟨_, rfl⟩
      have hbW9 : W9.heap[w9.heap.size]? = some (.cells #[.string nm, .int .u8 b0, .int .u8 b1, .int .u8 b2, .int .u8 b3, .int .u16 po, .int .u16 pr, .int .u16 wt] 147 (0, 0)) := by rw [hW9]; exact heap_alloc_new w9 _
      have hoW9 : Only (fun _ => False) w9 W9 := by rw [hW9]; exact (Only.refl _ _).alloc _
      have hsW9 : W9.heap.size = w9.heap.size + 1 := by rw [hW9]; simp
      have s5 : W9.cell? ⟨w9.heap.size, 5, none⟩ = some (.int .u16 po) := cell_at hbW9 5
      have s6 : W9.cell? ⟨w9.heap.size, 6, none⟩ = some (.int .u16 pr) := cell_at hbW9 6
      have s7 : W9.cell? ⟨w9.heap.size, 7, none⟩ = some (.int .u16 wt) := cell_at hbW9 7
      have z2 := hoW9.cell (ho9.cell x2 id) id
      have z3 := hoW9.cell (ho9.cell x3 id) id
      have ho89 : Only (fun _ => False) w W9 := ((HO.out.trans HOW8.out).trans ho9).trans hoW9
      have hrow9 : RpRow W9 w.heap.size u5 E := (((HROW.out.new HOW8.out).new ho9).new hoW9)
      have hszw : w.heap.size ≤ W9.heap.size := ho89.size
      have hbR : W9.heap[wr.heap.size]? = some (.cells #[.string k1, .int .u64 n1, .int .i64 oN, .int .i64 a1, .bool g1, .string d1] 69 (0, 0)) := hoW9.old (ho9.old HBW8.out id) id
      have HTG := Lib.hid (fun (W' : World) (h : Only (fun _ => False) W9 W') => target_ok W' m oN ((HE.out.new ho89).new h) (by omega) (by omega))
      obtain ⟨ra, rc, rfl⟩ : ∃ ra rc, u5 = .slice ra E.length rc := by obtain ⟨_, ra, rc, h, _⟩ := Sl.of_owns hrow9.row; exact ⟨ra, rc, h⟩
      have ho89' := ho89
      have HO89 := Lib.hid ho89
      have HBR := Lib.hid hbR
      have HB9 := Lib.hid hbW9
      have HRW := Lib.hid hrow9
      clear ho89 hbR hbW9 hrow9
      clear x0 x1 x2 x3 x4 x5 y0 y1 y2 y3 y4 y5 ho9 hoW9
      have htt2 := htt
      go_upto_region 7 with (fail)
      rw [← hW9]
      clear hW9
      generalize w9.heap.size = B9 at *
      generalize wr.heap.size = B8 at *
      go_region_held3 (fun w' => w'.cell? ⟨B8, 2, none⟩ = some (.int .i64 oN) ∧ w'.cell? ⟨B8, 3, none⟩ = some (.int .i64 a1) ∧ w'.cell? ⟨B9, 5, none⟩ = some (.int .u16 po) ∧ w'.cell? ⟨B9, 6, none⟩ = some (.int .u16 pr) ∧ w'.cell? ⟨B9, 7, none⟩ = some (.int .u16 wt))
        ((go_split_ands; refine ⟨?_, ?_, ?_, ?_, ?_⟩ <;> (repeat (first | (with_reducible assumption) | (with_reducible apply kcD) | (with_reducible apply kcN)))))
        (first
          | (go_at_call 24; (with_reducible refine (HTG.out _ (by (repeat (first | (with_reducible assumption) | (with_reducible exact Only.refl _ _) | (with_reducible refine Only.drew ?_) | (with_reducible refine Only.alloc ?_ _) | (with_reducible refine onlySet ?_ (by first | (with_reducible assumption) | omega) _) | (with_reducible refine Only.trans ?_ (by with_reducible assumption)))))).mono ?_); rintro e w10 ⟨vt, rfl, ho10, hot⟩
             have oX : Only (fun _ => False) W9 w10 := (by (refine Only.trans (b := _) ?_ ho10; (repeat (first | (with_reducible assumption) | (with_reducible exact Only.refl _ _) | (with_reducible refine Only.drew ?_) | (with_reducible refine Only.alloc ?_ _) | (with_reducible refine onlySet ?_ (by first | (with_reducible assumption) | omega) _) | (with_reducible refine Only.trans ?_ (by with_reducible assumption))))))
             obtain ⟨_, ta, tc, rfl, _⟩ := Sl.of_owns hot
             have q2 := oX.cell z2 id
             have q3 := oX.cell z3 id
             have q5 := oX.cell s5 id
             have q6 := oX.cell s6 id
             have q7 := oX.cell s7 id
             have hb8X := oX.old HBR.out id
             have hb9X := oX.old HB9.out id
             have hszX : w.heap.size ≤ w10.heap.size := Nat.le_trans hszw oX.size
             have rowX := owns_kept HRW.out.row oX (fun _ _ => id)
             have rowA := HRW.out.new oX
             have hot2 : w10.ownsRow w.heap.size 9 1 (.slice ta 3 tc) 3 ((tgtL oN).map .string) := ownsBase hot (Nat.le_trans hszw (Only.size (S := fun _ => False) (by (repeat (first | (with_reducible assumption) | (with_reducible exact Only.refl _ _) | (with_reducible refine Only.drew ?_) | (with_reducible refine Only.alloc ?_ _) | (with_reducible refine onlySet ?_ (by first | (with_reducible assumption) | omega) _) | (with_reducible refine Only.trans ?_ (by with_reducible assumption))))))))
          | (refine stepAppend rfl (.tmp 23) (.tmp 39) 37 37 rfl w.heap.size 46 i0 _ 10 48 Tryz.underlying37 hi0 iz0 iz1 iz2 rfl (.slice ra E.length rc) E.length (E.flatMap rrC) rfl (show World.ownsRow _ w.heap.size 46 10 (.slice ra E.length rc) E.length (E.flatMap rrC) from ?_) _ 1 (rrC ⟨⟨33, tt, (0, 0, 0, 0), pr, wt, po, tgtL oN⟩, .slice ta 3 tc⟩) rfl (Src.ofSlice _ Tryz.underlying37 _ _ _ _ rfl (news_at (e := 46) ?_) (rrC_one (w := w10) (base := w.heap.size) hot2)) ?_ ?_ ?_ ?_
             · (repeat (first | (with_reducible assumption) | (with_reducible refine ownsDr ?_) | (with_reducible refine ownsAl ?_ _)))
             · (apply Eq.trans; (case h₁ => repeat (first | (with_reducible assumption) | (with_reducible exact heap_alloc_new _ _) | (with_reducible apply blk_new; (repeat (first | (with_reducible rfl) | (with_reducible apply sz_set) | (with_reducible apply sz_alloc) | (with_reducible apply sz_drew))); done) | (with_reducible apply blk_same) | (with_reducible apply blk_ne; case hn => (first | assumption | omega)) | (with_reducible apply blk_old) | (with_reducible apply blk_drew))); (case h₂ => rfl))
             · have := HEL.out; unfold maxLen; omega
             · have := HEL.out; omega
             · first | assumption | (simp; omega)
             intro va wa owna gra hva
             have l8 : wa.heap[B8]? = some (.cells #[.string k1, .int .u64 n1, .int .i64 oN, .int .i64 a1, .bool g1, .string d1] 69 (0, 0)) := (by (refine blkGr (e' := 46) (size := 10) (base := w.heap.size) (n := E.length) (xs := E.flatMap rrC) ?_ ?_ (by decide) gra; (· (apply Eq.trans; (case h₁ => repeat (first | (with_reducible assumption) | (with_reducible exact heap_alloc_new _ _) | (with_reducible apply blk_new; (repeat (first | (with_reducible rfl) | (with_reducible apply sz_set) | (with_reducible apply sz_alloc) | (with_reducible apply sz_drew))); done) | (with_reducible apply blk_same) | (with_reducible apply blk_ne; case hn => (first | assumption | omega)) | (with_reducible apply blk_old) | (with_reducible apply blk_drew))); (case h₂ => rfl))); (· (repeat (first | (with_reducible assumption) | (with_reducible refine ownsDr ?_) | (with_reducible refine ownsAl ?_ _))))))
             have l9 : wa.heap[B9]? = some (.cells #[.string nm, .int .u8 b0, .int .u8 b1, .int .u8 b2, .int .u8 b3, .int .u16 po, .int .u16 pr, .int .u16 wt] 147 (0, 0)) := (by (refine blkGr (e' := 46) (size := 10) (base := w.heap.size) (n := E.length) (xs := E.flatMap rrC) ?_ ?_ (by decide) gra; (· (apply Eq.trans; (case h₁ => repeat (first | (with_reducible assumption) | (with_reducible exact heap_alloc_new _ _) | (with_reducible apply blk_new; (repeat (first | (with_reducible rfl) | (with_reducible apply sz_set) | (with_reducible apply sz_alloc) | (with_reducible apply sz_drew))); done) | (with_reducible apply blk_same) | (with_reducible apply blk_ne; case hn => (first | assumption | omega)) | (with_reducible apply blk_old) | (with_reducible apply blk_drew))); (case h₂ => rfl))); (· (repeat (first | (with_reducible assumption) | (with_reducible refine ownsDr ?_) | (with_reducible refine ownsAl ?_ _))))))
             have a2 : wa.cell? ⟨B8, 2, none⟩ = some (.int .i64 oN) := cell_at l8 2
             have a3 : wa.cell? ⟨B8, 3, none⟩ = some (.int .i64 a1) := cell_at l8 3
             have a5 : wa.cell? ⟨B9, 5, none⟩ = some (.int .u16 po) := cell_at l9 5
             have a6 : wa.cell? ⟨B9, 6, none⟩ = some (.int .u16 pr) := cell_at l9 6
             have a7 : wa.cell? ⟨B9, 7, none⟩ = some (.int .u16 wt) := cell_at l9 7
             have oXa : Only (fun _ => False) w wa := (by (refine Only.grown ?_ gra (fun j e => .inl (rowX.lt j e).1); (repeat (first | (with_reducible assumption) | (with_reducible exact Only.refl _ _) | (with_reducible refine Only.drew ?_) | (with_reducible refine Only.alloc ?_ _) | (with_reducible refine onlySet ?_ (by first | (with_reducible assumption) | omega) _) | (with_reducible refine Only.trans ?_ (by with_reducible assumption))))))
             have rfin : RpRow wa w.heap.size va (E ++ [⟨⟨33, tt, (0, 0, 0, 0), pr, wt, po, tgtL oN⟩, .slice ta 3 tc⟩]) := (by (refine RpRow.app (w := _) (L := E) ?_ ?_ rfl owna gra; (· (repeat (first | (with_reducible assumption) | (with_reducible refine RpRow.dr ?_) | (with_reducible refine RpRow.al ?_ _)))); (· (show World.ownsRow _ w.heap.size 9 1 (.slice ta 3 tc) 3 ((tgtL oN).map .string); (repeat (first | (with_reducible assumption) | (with_reducible refine ownsDr ?_) | (with_reducible refine ownsAl ?_ _)))))))))
      all_goals
        have HOXA := Lib.hid oXa
        have HRF := Lib.hid rfin
        clear oXa rfin
        clear owna gra hva
        go_wp2_with fail
        go_roundg (L.length - (k + 1))
        case measure => rw [Hg.out]; omega
        case rel => exact ⟨k + 1, _, by go_num, by omega, by (have := HOXA.out; (repeat (first | (with_reducible assumption) | (with_reducible exact Only.refl _ _) | (with_reducible refine Only.drew ?_) | (with_reducible refine Only.alloc ?_ _) | (with_reducible refine onlySet ?_ (by first | (with_reducible assumption) | omega) _) | (with_reducible refine Only.trans ?_ (by with_reducible assumption))))), HRF.out, by rw [HSN.out, List.map_append, HEE.out, HRS.out]; rfl, rfl⟩
    · -- end
      have hlt' : ¬ (k : Int) < (L.length : Int) := by omega
      rw [List.take_of_length_le (by omega)] at hE
      have HO := Lib.hid ho
      have HROW := Lib.hid hrow
      have HEE := Lib.hid hE
      clear ho hrow hE
      go_wp2_with fail
      go_ret
      exact ⟨_, E, rfl, HO.out, HROW.out, HEE.out⟩
end Go.Proofs.YtbdfijgejkimnaaGreatDoor
/-! The program's Fold. -/
namespace Go.Proofs.YtbdfijgejkimnaaGreatDoor
open Go.Conc Go.RowKit

/-- The bytes of which the first have been made small. -/
def half (l : List UInt8) (i : Nat) : List UInt8 := (l.take i).map foldU ++ l.drop i
theorem half_length (l : List UInt8) (i : Nat) : (half l i).length = l.length := by simp [half]; omega
theorem half_at (l : List UInt8) (i : Nat) (hi : i < l.length) : (half l i)[i]? = l[i]? := by
  rw [half, List.getElem?_append_right (by simp; omega)]
  simp [Nat.min_eq_left (Nat.le_of_lt hi)]
theorem half_next (l : List UInt8) (i : Nat) (b : UInt8) (hb : l[i]? = some b) : half l (i + 1) = (half l i).set i (foldU b) := by
  have hi : i < l.length := (List.getElem?_eq_some_iff.1 hb).1
  unfold half
  rw [List.set_append_right _ _ (by simp; omega)]
  have e : i - ((l.take i).map foldU).length = 0 := by simp; omega
  rw [e, List.drop_eq_getElem_cons hi, List.set_cons_zero, List.take_add_one, hb]
  simp
theorem half_full (l : List UInt8) : half l l.length = l.map foldU := by simp [half]
theorem byteVals_set (l : List UInt8) (i : Nat) (b : UInt8) : byteVals (l.set i b) = (byteVals l).set i (.int .u8 b.toNat) := by simp [byteVals]
theorem set_self {l : List UInt8} {i : Nat} {b : UInt8} (h : l[i]? = some b) : l.set i b = l := by
  obtain ⟨h1, h2⟩ := List.getElem?_eq_some_iff.1 h
  rw [← h2]
  exact List.set_getElem_self h1

set_option maxRecDepth 100000 in
set_option maxHeartbeats 2000000 in
theorem fold_any (w : World) (v : Value) (l : List ByteArray) (h : Sl w 1 v l.length (l.map .string)) (hs : ∀ s ∈ l, s.size ≤ 1000) (hll : l.length ≤ 1000) :
    Calls Tryz.prog 32 #[v] w fun e w' => ∃ v', e = .returned v' ∧ Only (fun _ => False) w w' ∧ Sl w' 1 v' l.length ((l.map foldS).map .string) := by
  obtain ⟨i0, hi0, hz0, hz1, hz2⟩ := info_parts infoStr
  obtain ⟨_, a, cap, rfl, h3, h4, h5⟩ := h
  unfold maxLen at h4
  have Hs := Lib.hid hs
  have H5 := Lib.hid h5
  have hcv := fun (w : World) (s : ByteArray) => run_bytes_of_string (P := Tryz.prog) w 9 61 5 s Tryz.underlying9 Tryz.underlying61 Tryz.underlying5
  clear hs h5
  go_enter Tryz.func32, Tryz.ntmps32
  go_wp2_with fail
  go_loopg [3, 5, 6, 7, 8, 11] l.length (fun g v3 v5 v6 v7 v8 v11 wx => ∃ (k : Nat), v11 = .int .i64 k ∧ k ≤ l.length ∧ Only (fun _ => False) w wx ∧ wx.ownsRow w.heap.size 9 1 v3 k (((l.take k).map foldS).map .string) ∧ g = l.length - k)
  case atStart => exact ⟨0, rfl, Nat.zero_le _, Only.refl _ _, World.ownsRow_nil _ _ _ _, rfl⟩
  case round =>
    obtain ⟨k, rfl, hk, ho, hown, hg⟩ := hrel
    have Hg := Lib.hid hg
    clear hg
    by_cases hlt : k < l.length
    · obtain ⟨b, off, ha, hc⟩ := H5.out.resolve_left (by omega)
      subst ha
      have hz := ho.cell (strs_cell hc hlt) id
      have hsz := Hs.out _ (List.getElem_mem hlt)
      have hlk : l[k]? = some l[k] := List.getElem?_eq_getElem hlt
      generalize l[k] = s at *
      have HLK := Lib.hid hlk
      clear hc hlk
      have hge := grownCap_ge wr s.size 0 5
      have hle := grownCap_le_maxLen wr s.size 0 5 (by unfold maxLen; omega)
      have hB := Byt.new wr s (grownCap wr s.size 0 5)
      have hsl : s.data.toList.length = s.size := rfl
      go_wp2_with fail
      generalize grownCap wr s.size 0 5 = C at *
      generalize (bytesRow s C).size = N at *
      have hown2 : (wr.alloc (.cells (bytesRow s C) 5 (N, N + 1))).drew.ownsRow w.heap.size 9 1 u3 k (((l.take k).map foldS).map .string) := owns_kept hown ((Only.refl (fun _ => False) wr).alloc _).drew (fun _ _ => id)
      have ho2 : Only (fun _ => False) w (wr.alloc (.cells (bytesRow s C) 5 (N, N + 1))).drew := (ho.alloc _).drew
      have hge3 : w.heap.size ≤ wr.heap.size := ho.size
      have hu3 : ∀ j, u3.ownBlock = some j → j < wr.heap.size := fun j e => (hown.lt j e).2
      clear hown ho
      go_loopg [7, 8, 19] s.size (fun g' v7 v8 v19 wy => ∃ j : Nat, v19 = .int .i64 j ∧ j ≤ s.size ∧ Only (fun _ => False) w wy ∧ Byt wy wr.heap.size N (byteVals (half s.data.toList j)) ∧ wy.ownsRow w.heap.size 9 1 u3 k (((l.take k).map foldS).map .string) ∧ g' = s.size - j)
      case atStart => exact ⟨0, rfl, Nat.zero_le _, ho2, by simpa [half] using hB, hown2, rfl⟩
      case round =>
        clear hB hown2 ho2
        obtain ⟨j, rfl, hj, ho, hB, hown, hg'⟩ := hrel
        have Hg' := Lib.hid hg'
        clear hg'
        by_cases hjl : j < s.size
        · obtain ⟨b, -, -, hb⟩ := drop_byte' s j hjl
          have hhalf : (byteVals (half s.data.toList j))[j]? = some (.int .u8 b.toNat) := by
            rw [byteVals, List.getElem?_map, half_at _ _ hjl, hb]
            rfl
          have hz2 := hB.cell hhalf
          have hf2 : _ = false := hB.free (j := j) (by rw [byteVals, List.length_map, half_length]; exact hjl)
          have hnx := half_next s.data.toList j b hb
          have hkeep : foldU b = b → half s.data.toList (j + 1) = half s.data.toList j := fun e => by
            rw [hnx, e]
            exact set_self (by rw [half_at _ _ hjl, hb])
          have hst := hB.store j (.int .u8 ((foldU b).toNat : Int))
          rw [← byteVals_set, ← hnx] at hst
          have HNX := Lib.hid hkeep
          have HST := Lib.hid hst
          have hbl : b.toNat < 256 := UInt8.toNat_lt b
          have hfu : foldU b = if 65 ≤ b.toNat ∧ b.toNat ≤ 90 then UInt8.ofNat (b.toNat + 32) else b := rfl
          have HFU := Lib.hid hfu
          clear hb hhalf hnx hkeep hst hfu
          by_cases h65 : 65 ≤ b.toNat
          · have q1 : decide ((65 : Int) ≤ ((b.toNat : Nat) : Int)) = true := by simp; omega
            by_cases h90 : b.toNat ≤ 90
            · have q2 : decide (((b.toNat : Nat) : Int) ≤ 90) = true := by simp; omega
              go_wp2_with fail
              go_roundg (s.size - (j + 1))
              case measure => rw [Hg'.out]; omega
              case rel =>
                have e3 : ((foldU b).toNat : Int) = (b.toNat : Int) - 65 + 97 := by
                  rw [HFU.out, if_pos ⟨h65, h90⟩, UInt8.toNat_ofNat']
                  omega
                rw [e3] at HST
                exact ⟨j + 1, by go_num, by omega, ho.setCell (.inl hge3) _, HST.out, ownsRow_setCell_other hown (fun e => by have := hu3 _ e; simp at this) _, rfl⟩
            · have q2 : decide (((b.toNat : Nat) : Int) ≤ 90) = false := by simp; omega
              go_wp2_with fail
              go_roundg (s.size - (j + 1))
              case measure => rw [Hg'.out]; omega
              case rel => exact ⟨j + 1, by go_num, by omega, ho, by rw [HNX.out (by rw [HFU.out, if_neg (by omega)])]; exact hB, hown, rfl⟩
          · have q1 : decide ((65 : Int) ≤ ((b.toNat : Nat) : Int)) = false := by simp; omega
            go_wp2_with fail
            go_roundg (s.size - (j + 1))
            case measure => rw [Hg'.out]; omega
            case rel => exact ⟨j + 1, by go_num, by omega, ho, by rw [HNX.out (by rw [HFU.out, if_neg (by omega)])]; exact hB, hown, rfl⟩
        · have hje : j = s.size := by omega
          have hfull : half s.data.toList j = (foldS s).data.toList := by
            rw [foldS_data, hje, ← hsl, half_full]
          rw [hfull] at hB
          have hfl : (foldS s).data.toList.length = s.size := foldS_size s
          have hslB := hB.sl (n := s.size) (cap := C) hfl.symm hge hle
          have hn : ((foldS s).data.toList.map fun b => (b.toNat : Int)).length = s.size := by rw [List.length_map]; exact hfl
          have hstr := run_bytes_str Tryz.underlying61 Tryz.underlying5 Tryz.underlying9 hslB
          rw [bytesOf_nat, show (⟨(foldS s).data.toList.toArray⟩ : ByteArray) = foldS s from str_ext (by simp)] at hstr
          generalize hFS : foldS s = F at *
          have HFS := Lib.hid hFS
          clear hfull hslB hn hB hFS
          go_wp2_with (at_builtin; refine Wait.mk ?_)
          refine Wait.go (wpList_append_src _ rfl (.tmp 37) (.tmp 40) 34 34 rfl w.heap.size 9 i0 _ 1 16 Tryz.underlying34 hi0 hz0 hz1 hz2 rfl u3 k (((l.take k).map foldS).map .string) rfl (hown.alloc _) _ 1 [.string F] rfl ?src4 ?m4 ?b4 ?base4 ?_)
          case src4 => exact Src.ofSlice _ Tryz.underlying34 _ _ _ _ rfl (news_new _ _ _) (str_one [F])
          case m4 => unfold maxLen; omega
          case b4 => omega
          case base4 => have := ho.size; simp; omega
          intro v1 w5 own1 gr1 hv1
          have ho5 : Only (fun _ => False) w w5 := (ho.alloc _).grown gr1 (fun j e => .inl (hown.lt j e).1)
          go_wp2_with fail
          go_roundg (l.length - (k + 1))
          case measure => rw [Hg.out]; omega
          case rel =>
            refine ⟨k + 1, by go_num, by omega, ho5, ?_, rfl⟩
            have e : l.take (k + 1) = l.take k ++ [s] := by rw [List.take_add_one, HLK.out]; rfl
            rw [e, List.map_append, List.map_append, List.map_singleton, List.map_singleton, HFS.out]
            exact own1
    · have hkl : k = l.length := by omega
      subst hkl
      clear hlt
      go_wp2_with fail
      go_ret
      refine ⟨_, rfl, ho, ?_⟩
      have := Sl.of_owns hown
      rwa [List.take_length] at this
end Go.Proofs.YtbdfijgejkimnaaGreatDoor
/-! Answer: Lookup. -/
namespace Go.Proofs.YtbdfijgejkimnaaGreatDoor
open Go.Conc Go.RowKit Go.Maps

/-- The records that a name means; what is told of them. -/
def heldM (L : List RecT) (l : List ByteArray) : List RecT := if 0 < nodeM l then L.filter (fun x => !offO (nodeM l) x) else if servM l = ⟨#[]⟩ then [] else L.filter (fun x => !unnamed (servM l) x)
def lookM (ttl : Int) (L : List RecT) (l : List ByteArray) (typ : Nat) : List RR :=
  if typ = 1 then addrsM ttl (heldM L l) else if typ = 33 ∧ nodeM l = 0 then (heldM L l).map (rrS ttl) else []
theorem lookM_nil {ttl : Int} {L : List RecT} {l : List ByteArray} {typ : Nat} (h : heldM L l = []) : lookM ttl L l typ = [] := by
  unfold lookM
  rw [h]
  split
  · rfl
  · split <;> rfl
/-- What is told: a row of records, and whether the name is known. -/
def LookP (w w' : World) (M : List RR) (known : Bool) (e : Ending) : Prop := ∃ v E, e = .returned (.tuple #[v, .bool known]) ∧ Only (fun _ => False) w w' ∧ RpRow w' w.heap.size v E ∧ E.map (·.r) = M
/-- A store as Lookup sees it. -/
structure SeesAt (w : World) (sv : Value) (ttl : Int) (L : List RecT) : Prop where
  org : ∀ w' n, Only (fun _ => False) w w' → Calls Tryz.prog 34 #[sv, .int .i64 n] w' fun e w2 => ∃ v, e = .returned v ∧ Only (fun _ => False) w' w2 ∧ RecRow w2 w'.heap.size v (L.filter (fun x => !offO n x))
  nam : ∀ w' name, Only (fun _ => False) w w' → Calls Tryz.prog 36 #[sv, .string name] w' fun e w2 => ∃ v, e = .returned v ∧ Only (fun _ => False) w' w2 ∧ RecRow w2 w'.heap.size v (L.filter (fun x => !unnamed name x))
  life : ∀ w', Only (fun _ => False) w w' → Calls Tryz.prog 38 #[sv] w' fun e w2 => e = .returned (.int .i64 ttl) ∧ w' = w2
  len : L.length ≤ 48
  young : ttl ≤ 65535
  tell : ∀ x ∈ L, x.gone = false → TellOk ttl x
  node : ∀ x ∈ L, 1 ≤ x.o ∧ x.o ≤ 65535
theorem SeesAt.new {w w' : World} {sv : Value} {ttl : Int} {L : List RecT} (h : SeesAt w sv ttl L) (ho : Only (fun _ => False) w w') : SeesAt w' sv ttl L :=
  ⟨fun w2 n h2 => h.org w2 n (ho.trans h2), fun w2 n h2 => h.nam w2 n (ho.trans h2), fun w2 h2 => h.life w2 (ho.trans h2), h.len, h.young, h.tell, h.node⟩
theorem RpRow.base {w : World} {b c : Nat} {v : Value} {E : List RRv} (h : RpRow w b v E) (hc : c ≤ b) : RpRow w c v E := ⟨ownsBase h.row hc, fun e he => ownsBase (h.tgt e he) hc⟩
theorem held_in {L : List RecT} {l : List ByteArray} : ∀ x ∈ heldM L l, x ∈ L ∧ x.gone = false := by
  intro x hx
  unfold heldM at hx
  split at hx
  · obtain ⟨h1, h2⟩ := List.mem_filter.1 hx
    refine ⟨h1, ?_⟩
    unfold offO at h2
    simp at h2
    exact h2.2
  · split at hx
    · cases hx
    · obtain ⟨h1, h2⟩ := List.mem_filter.1 hx
      refine ⟨h1, ?_⟩
      unfold unnamed at h2
      simp at h2
      exact h2.2
theorem held_len (L : List RecT) (l : List ByteArray) : (heldM L l).length ≤ L.length := by
  unfold heldM
  split
  · exact List.length_filter_le _ _
  · split
    · exact Nat.zero_le _
    · exact List.length_filter_le _ _
set_option maxRecDepth 100000 in
set_option maxHeartbeats 4000000 in
theorem lookup_any (w : World) (m ttl : Int) (sv v : Value) (L : List RecT) (l : List ByteArray) (typ : Nat) (hE : EnvW w m) (hS : SeesAt w sv ttl L) (hsv : ∃ a, sv = .pointer a) (hv : Sl w 1 v l.length (l.map .string)) (hn : l.length ≤ 1000) (hs : ∀ s ∈ l, s.size ≤ 90) :
    Calls Tryz.prog 13 #[sv, v, .int .u16 typ] w fun e w' => LookP w w' (lookM ttl L (l.map foldS) typ) (decide (heldM L (l.map foldS) ≠ [])) e := by
  obtain ⟨sp, rfl⟩ := hsv
  have HF := Lib.hid (fold_any w v l hv (fun s h => by have := hs s h; omega) hn)
  obtain ⟨_, va, vc, rfl, _⟩ := id hv
  have hsz : ∀ s ∈ l.map foldS, s.size ≤ 90 := fun s h => by
    obtain ⟨t, ht, rfl⟩ := List.mem_map.1 h
    rw [foldS_size]
    exact hs t ht
  have hlen : (l.map foldS).length ≤ 1000 := by rw [List.length_map]; exact hn
  have hll : l.length = (l.map foldS).length := by rw [List.length_map]
  rw [hll] at HF
  generalize l.map foldS = f at *
  obtain ⟨kn, hkn⟩ : ∃ kn, kn = decide (heldM L f ≠ []) := ⟨_, rfl⟩
  obtain ⟨M, hM⟩ : ∃ M, M = lookM ttl L f typ := ⟨_, rfl⟩
  rw [← hkn, ← hM]
  have HSZ := Lib.hid hsz
  have HLEN := Lib.hid hlen
  have HE := Lib.hid hE
  have HS := Lib.hid hS
  have HKN := Lib.hid hkn
  have HMM := Lib.hid hM
  clear hsz hlen hE hS hkn hM
  clear hs hv
  go_enter Tryz.func13, Tryz.ntmps13
  go_wp2_with fail
  refine HF.out.mono ?_
  rintro e w1 ⟨v1, rfl, ho1, hf1⟩
  have HND := Lib.hid (node25_any w1 m v1 f (HE.out.new ho1) hf1 (fun s h => by have := HSZ.out s h; omega))
  have HF1 := Lib.hid hf1
  obtain ⟨_, fa, fc, rfl, _⟩ := id hf1
  have HO1 := Lib.hid ho1
  clear ho1
  clear hf1 hll hn
  go_wp2_with fail
  refine HND.out.mono ?_
  rintro e w2 ⟨rfl, ho2⟩
  have HO2 := Lib.hid ho2
  clear ho2
  have ho12 := HO1.out.trans HO2.out
  have HO12 := Lib.hid ho12
  have HHE := Lib.hid (show ∀ n, n = nodeM f → heldM L f = if 0 < n then L.filter (fun x => !offO n x) else if servM f = ⟨#[]⟩ then [] else L.filter (fun x => !unnamed (servM f) x) from fun n e => by rw [e]; rfl)
  clear ho12
  obtain ⟨n, hn⟩ : ∃ n, n = nodeM f := ⟨_, rfl⟩
  rw [← hn]
  have HHN := Lib.hid (HHE.out n hn)
  have HNN := Lib.hid hn
  clear hn HHE
  go_upto_if 16 with (fail)
  go_cut [9] (fun v9 wx => Only (fun _ => False) w wx ∧ RecRow wx w.heap.size v9 (heldM L f))
  case first =>
    by_cases h0 : 0 < n
    · -- origin
      have HHP := HHN.out
      rw [if_pos h0] at HHP
      have HORG := Lib.hid (HS.out.org w2 n HO12.out)
      have h0' : (0 : Int) < (n : Int) := by omega
      have HHQ := Lib.hid HHP
      clear HHP HHN
      go_wp2_with fail
      refine HORG.out.mono ?_
      rintro e w3 ⟨vh, rfl, ho3, hr3⟩
      have HO3 := Lib.hid ho3
      have HR3 := Lib.hid hr3
      clear ho3 hr3
      go_wp2_with fail
      go_meet
      exact ⟨HO12.out.trans HO3.out, by rw [HHQ.out]; exact ownsBase HR3.out HO12.out.size⟩
    · have h0' : ¬ (0 : Int) < (n : Int) := by omega
      have HSV := Lib.hid (service_any w2 m _ f (HE.out.new HO12.out) (HF1.out.new HO2.out) HLEN.out HSZ.out)
      have HHP := HHN.out
      rw [if_neg h0] at HHP
      generalize servM f = t at *
      by_cases ht : t = ⟨#[]⟩
      · -- none
        rw [if_pos ht] at HHP
        subst ht
        have HHQ := Lib.hid HHP
        clear HHP HHN
        go_wp2_with fail
        refine HSV.out.mono ?_
        rintro e w3 ⟨rfl, ho3⟩
        have HO3 := Lib.hid ho3
        clear ho3
        go_wp2_with fail
        go_meet
        exact ⟨HO12.out.trans HO3.out, by rw [HHQ.out]; exact World.ownsRow_nil _ _ _ _⟩
      · -- named
        rw [if_neg ht] at HHP
        have hne := empty_false (s := t) (fun e => ht (str_ext (List.eq_nil_of_length_eq_zero e)))
        have HHQ := Lib.hid HHP
        clear HHP HHN ht
        go_wp2_with fail
        refine HSV.out.mono ?_
        rintro e w3 ⟨rfl, ho3⟩
        have HNM := Lib.hid (HS.out.nam w3 t (HO12.out.trans ho3))
        have HO3 := Lib.hid ho3
        clear ho3
        go_wp2_with fail
        refine HNM.out.mono ?_
        rintro e w4 ⟨vh, rfl, ho4, hr4⟩
        have HO4 := Lib.hid ho4
        have HR4 := Lib.hid hr4
        clear ho4 hr4
        go_wp2_with fail
        go_meet
        exact ⟨(HO12.out.trans HO3.out).trans HO4.out, by rw [HHQ.out]; exact ownsBase HR4.out (HO12.out.trans HO3.out).size⟩
  case rest =>
  obtain ⟨ho3, hr3⟩ := hcut
  rename World => w3
  obtain ⟨H, hH⟩ : ∃ H, H = heldM L f := ⟨_, rfl⟩
  have HIN := Lib.hid (show ∀ x ∈ H, x ∈ L ∧ x.gone = false by rw [hH]; exact held_in)
  have HHL := Lib.hid (show H.length ≤ 48 by rw [hH]; exact Nat.le_trans (held_len L f) HS.out.len)
  have HLM := Lib.hid (show M = if typ = 1 then addrsM ttl H else if typ = 33 ∧ n = 0 then H.map (rrS ttl) else [] by rw [HMM.out, HNN.out, hH]; rfl)
  have HLN := Lib.hid (show H = [] → M = [] by rw [hH, HMM.out]; exact lookM_nil)
  rw [← hH] at hr3
  have HHH := Lib.hid hH
  clear hH
  obtain ⟨_, ha, hc, rfl, _⟩ := Sl.of_owns hr3
  have HO3 := Lib.hid ho3
  have HR3 := Lib.hid hr3
  clear ho3 hr3
  by_cases hz : H.length = 0
  · obtain rfl : H = [] := List.eq_nil_of_length_eq_zero hz
    have HM := Lib.hid (HLN.out rfl)
    have HK := Lib.hid (show kn = false by rw [HKN.out, ← HHH.out]; rfl)
    clear hz
    go_wp2_with fail
    go_ret2
    exact ⟨_, [], by rw [HK.out]; rfl, HO3.out, RpRow.nil _ _, by rw [HM.out]; rfl⟩
  · have hzi : ¬ (H.length : Int) = 0 := by omega
    have HK := Lib.hid (show kn = true by rw [HKN.out]; exact decide_eq_true (fun e => hz (by rw [HHH.out, e]; rfl)))
    have HTL := Lib.hid (fun w' h => HS.out.life w' (HO3.out.trans h))
    have HTE := Lib.hid (show ∀ x ∈ H, TellOk ttl x from fun x hx => HS.out.tell x (HIN.out x hx).1 (HIN.out x hx).2)
    by_cases h1 : typ = 1
    · have HM := Lib.hid (show M = addrsM ttl H by rw [HLM.out, if_pos h1])
      subst h1
      have HAD := Lib.hid (addresses_any w3 ttl m _ H (HE.out.new HO3.out).max (Sl.of_owns HR3.out) HTE.out HHL.out HS.out.young)
      go_wp2_with fail
      refine (HTL.out w3 (Only.refl _ _)).mono ?_
      rintro e w' ⟨rfl, rfl⟩
      go_wp2_with fail
      refine HAD.out.mono ?_
      rintro e w4 ⟨v', E, rfl, ho4, hr4, hE4⟩
      have HO4 := Lib.hid ho4
      have HR4 := Lib.hid hr4
      have HE4 := Lib.hid hE4
      clear ho4 hr4 hE4
      go_wp2_with fail
      go_ret2
      exact ⟨_, E, by rw [HK.out]; rfl, HO3.out.trans HO4.out, HR4.out.base HO3.out.size, by rw [HM.out]; exact HE4.out⟩
    · have h1' : ¬ (typ : Int) = 1 := by omega
      by_cases h33 : typ = 33 ∧ n = 0
      · have HM := Lib.hid (show M = H.map (rrS ttl) by rw [HLM.out, if_neg h1, if_pos h33])
        obtain ⟨rfl, rfl⟩ := h33
        have HPL := Lib.hid (places_any w3 ttl m _ H (HE.out.new HO3.out) (Sl.of_owns HR3.out) HTE.out (fun x hx => HS.out.node x (HIN.out x hx).1) HHL.out HS.out.young)
        go_wp2_with fail
        refine (HTL.out w3 (Only.refl _ _)).mono ?_
        rintro e w' ⟨rfl, rfl⟩
        go_wp2_with fail
        refine HPL.out.mono ?_
        rintro e w4 ⟨v', E, rfl, ho4, hr4, hE4⟩
        have HO4 := Lib.hid ho4
        have HR4 := Lib.hid hr4
        have HE4 := Lib.hid hE4
        clear ho4 hr4 hE4
        go_wp2_with fail
        go_ret2
        exact ⟨_, E, by rw [HK.out]; rfl, HO3.out.trans HO4.out, HR4.out.base HO3.out.size, by rw [HM.out]; exact HE4.out⟩
      · have HM := Lib.hid (show M = [] by rw [HLM.out, if_neg h1, if_neg h33])
        by_cases h3 : typ = 33
        · have hn0 : ¬ (n : Int) = 0 := fun e => h33 ⟨h3, by omega⟩
          subst h3
          go_wp2_with fail
          go_ret2
          exact ⟨_, [], by rw [HK.out]; rfl, HO3.out, RpRow.nil _ _, by rw [HM.out]; rfl⟩
        · have h3' : ¬ (typ : Int) = 33 := by omega
          go_wp2_with fail
          go_ret2
          exact ⟨_, [], by rw [HK.out]; rfl, HO3.out, RpRow.nil _ _, by rw [HM.out]; rfl⟩
end Go.Proofs.YtbdfijgejkimnaaGreatDoor
/-! Answer: a store as Lookup sees it. -/
namespace Go.Proofs.YtbdfijgejkimnaaGreatDoor
open Go.Conc Go.RowKit Go.Maps

theorem good_node {x : RecT} (h : goodR x = true) : 1 ≤ x.o ∧ x.o ≤ 65535 ∧ splitOk x.key = true ∧ splitN x.key = x.o := by
  unfold goodR goodP at h
  simp only [Bool.and_eq_true, decide_eq_true_eq, beq_iff_eq] at h
  obtain ⟨⟨⟨⟨⟨h1, h2⟩, _⟩, _⟩, _⟩, _⟩ := h
  cases hs : splitOk x.key with
  | false => rw [(split_bad hs).2.2] at h1; exact absurd h1 (by decide)
  | true =>
    have h3 := hs
    unfold splitOk nodeB at h3
    simp only [Bool.and_eq_true, decide_eq_true_eq] at h3
    have h4 : splitN x.key = (nodeN x.key : Nat) := by unfold splitN; rw [if_pos hs]
    rw [← h2, h4]
    exact ⟨h3.2.1.1, h3.2.1.2, rfl, rfl⟩
theorem sees_store {w : World} {s b : Nat} {most ttl r m : Int} {L : List RecT} (h : StoreAt w s b most ttl r L) (hm : w.cell? ⟨0, 0, none⟩ = some (.int .i64 m)) (hv : ∀ x ∈ L, x.ver < 2 ^ 64) : SeesAt w (.pointer (some ⟨s, 0, none⟩)) ttl L :=
  ⟨fun w' n ho => origin_any w' s b most ttl r L (h.new ho) n, fun w' name ho => snamed_any w' s b most ttl r L (h.new ho) name m (ho.cell hm id), fun w' ho => sttl_any w' s b most ttl r L (h.new ho), h.ok.len, h.ok.ttlB.2, fun x hx hg => ⟨(h.ok.goods x hx).1, hg, (h.ok.goods x hx).2, hv x hx⟩, fun x hx => by have := good_node (h.ok.goods x hx).1; exact ⟨this.1, this.2.1⟩⟩
theorem sees_nil (w : World) : SeesAt w (.pointer none) 0 [] :=
  ⟨fun w' n _ => origin_nil w' n, fun w' name _ => snamed_nil w' name, fun w' _ => sttl_nil w', by decide, by decide, fun x hx => (by cases hx), fun x hx => (by cases hx)⟩
theorem held_nil (l : List ByteArray) : heldM [] l = [] := by
  unfold heldM
  split
  · rfl
  · split <;> rfl
end Go.Proofs.YtbdfijgejkimnaaGreatDoor
/-! Answer's reference: two bytes' number, digits. -/
namespace Go.Proofs.YtbdfijgejkimnaaGreatDoor
open Go.Conc Go.RowKit Go.Lib

set_option maxRecDepth 100000 in
theorem rget22_any (w : World) (s : ByteArray) (i : Nat) (h : i + 1 < s.size) (hi : i ≤ 100000) : Calls Tryz.prog 30 #[.string s, .int .i64 i] w fun e w' => e = .returned (.int .i64 (256 * bA s i + bA s (i + 1) : Nat)) ∧ Only (fun _ => False) w w' := by
  have h0 : (0 : Int) ≤ (i : Int) := by omega
  have h1 : (i : Int) < (s.size : Int) := by omega
  have h2 : (i : Int) + 1 < (s.size : Int) := by omega
  have hw : IntKind.i64.wrap ((i : Int) + 1) = (i : Int) + 1 := by rw [IntKind.wrap_i64]; omega
  have h3 : (0 : Int) ≤ (i : Int) + 1 := by omega
  have h4 : ((i : Int) + 1).toNat = i + 1 := by omega
  have g0 := bA_get s i (by omega)
  have g1 := bA_get s (i + 1) (by omega)
  have b0 := bA_lt s i
  have b1 := bA_lt s (i + 1)
  generalize bA s i = x at *
  generalize bA s (i + 1) = y at *
  have e1 : IntKind.i64.wrap (x : Int) = x := by rw [IntKind.wrap_i64]; omega
  have e2 : IntKind.i64.wrap (y : Int) = y := by rw [IntKind.wrap_i64]; omega
  have e3 : IntKind.i64.wrap (256 * (x : Int)) = 256 * x := by rw [IntKind.wrap_i64]; omega
  have e4 : IntKind.i64.wrap (256 * (x : Int) + y) = 256 * x + y := by rw [IntKind.wrap_i64]; omega
  go_enter Tryz.func30, Tryz.ntmps30
  go_upto_region 1 with (fail)
  go_quiet (fail)
  go_wp2_with fail
  go_ret
  exact ⟨ret_int (by omega), (Only.refl _ _).drewN _⟩
set_option maxRecDepth 100000 in
theorem rnumber_any (w : World) (s : ByteArray) (i : Nat) (h : i + 1 < s.size) (hi : i ≤ 100000) : Calls Tryz.prog 42 #[.string s, .int .i64 i] w fun e w' => e = .returned (.int .u16 (256 * bA s i + bA s (i + 1) : Nat)) ∧ Only (fun _ => False) w w' := by
  have HG := Lib.hid (rget22_any w s i h hi)
  have b0 := bA_lt s i
  have b1 := bA_lt s (i + 1)
  have hnb : 256 * bA s i + bA s (i + 1) < 65536 := by omega
  generalize 256 * bA s i + bA s (i + 1) = n at *
  have hw : IntKind.u16.wrap (n : Int) = n := by rw [IntKind.wrap_u16]; omega
  go_enter Tryz.func42, Tryz.ntmps42
  go_wp2_with fail
  refine HG.out.mono ?_
  rintro e w1 ⟨rfl, ho⟩
  have HO := Lib.hid ho
  clear ho
  go_wp2_with fail
  go_ret
  exact ⟨rfl, HO.out⟩
/-- The digits that are still to be put ahead. -/
def decR (n : Nat) : List UInt8 := if n = 0 then [] else decDigits n
theorem decR_step {n : Nat} (h : 0 < n) : decR n = decR (n / 10) ++ [UInt8.ofNat (48 + n % 10)] := by
  unfold decR
  rw [if_neg (by omega)]
  by_cases h10 : n < 10
  · rw [dec_small h10, if_pos (by omega), show n % 10 = n by omega]
    rfl
  · rw [dec_big h10, if_neg (by omega)]
set_option maxRecDepth 100000 in
theorem rdigits_any (w : World) (n : Nat) (h1 : 1 ≤ n) (h2 : n ≤ 65535) : Calls Tryz.prog 43 #[.int .i64 n] w fun e w' => e = .returned (.string (itoaB n)) ∧ Only (fun _ => False) w w' := by
  go_enter Tryz.func43, Tryz.ntmps43
  go_wp2_with fail
  go_loopg [0, 3] n (fun g v0 v3 wr => ∃ (r : Nat) (s : ByteArray), v0 = .int .i64 r ∧ v3 = .string s ∧ r ≤ n ∧ Only (fun _ => False) w wr ∧ decR r ++ s.data.toList = decDigits n ∧ g = r)
  case atStart => exact ⟨n, _, rfl, rfl, Nat.le_refl _, Only.refl _ _, by unfold decR; rw [if_neg (by omega)]; exact List.append_nil _, rfl⟩
  case round =>
    obtain ⟨r, s, rfl, rfl, hr, ho, hd, hg⟩ := hrel
    by_cases h0 : 0 < r
    · have h0' : (0 : Int) < (r : Int) := by omega
      have hm : ((r : Int).tmod 10) = ((r % 10 : Nat) : Int) := by rw [Int.tmod_eq_emod_of_nonneg (by omega)]; rfl
      have hdv : ((r : Int).tdiv 10) = ((r / 10 : Nat) : Int) := by rw [Int.tdiv_eq_ediv_of_nonneg (by omega)]; rfl
      have hlt : r % 10 < 10 := Nat.mod_lt _ (by decide)
      have HST := Lib.hid (decR_step h0)
      have hle : r / 10 < r := Nat.div_lt_self h0 (by decide)
      generalize r % 10 = d at *
      generalize hq : r / 10 = q at *
      have hw1 : IntKind.i64.wrap (48 + (d : Int)) = 48 + d := by rw [IntKind.wrap_i64]; omega
      have hw2 : IntKind.u8.wrap (48 + (d : Int)) = 48 + d := by rw [IntKind.wrap_u8]; omega
      have hcv := conv1 wr wr.heap.size (48 + (d : Int)) rfl
      have e1 : (bytesOf [48 + (d : Int)]).size = 1 := rfl
      have e2 : s.size ≤ 5 := by
        have h3 := congrArg List.length hd
        have h4 := nDig5 h2
        rw [List.length_append, size_data] at h3
        omega
      have e3 : (bytesOf [48 + (d : Int)]).data.toList = [UInt8.ofNat (48 + d)] := by
        show [UInt8.ofNat (48 + (d : Int)).toNat] = _
        rw [show (48 + (d : Int)).toNat = 48 + d by omega]
      have HE3 := Lib.hid e3
      clear e3
      have HO := Lib.hid ho
      have HD := Lib.hid hd
      have Hg := Lib.hid hg
      clear ho hd hg
      go_wp2_with fail
      go_roundg q
      case measure => rw [Hg.out]; exact hle
      case rel => exact ⟨q, _, rfl, rfl, by omega, HO.out.alloc _, by
        rw [← HD.out, HST.out]
        rw [ByteArray.data_append, Array.toList_append, HE3.out, List.append_assoc], rfl⟩
    · have h0' : ¬ (0 : Int) < (r : Int) := by omega
      obtain rfl : r = 0 := by omega
      have HF := Lib.hid (show s = itoaB n from str_ext (by rw [itoaB_data, ← hd]; rfl))
      have HO := Lib.hid ho
      clear ho
      clear hd
      go_wp2_with fail
      go_ret
      exact ⟨by rw [HF.out]; rfl, HO.out⟩
end Go.Proofs.YtbdfijgejkimnaaGreatDoor
/-! Answer's reference: node. -/
namespace Go.Proofs.YtbdfijgejkimnaaGreatDoor
open Go.Conc Go.RowKit Go.Lib

theorem numD_lt : ∀ (l : List UInt8), l.all digitB = true → numD 0 l < 10 ^ l.length := by
  intro l
  induction hn : l.length generalizing l with
  | zero =>
    obtain rfl : l = [] := List.eq_nil_of_length_eq_zero hn
    intro _; decide
  | succ k ih =>
    intro h
    obtain ⟨r, c, rfl⟩ : ∃ r c, l = r ++ [c] := ⟨l.dropLast, l.getLast (fun e => by rw [e] at hn; cases hn), (List.dropLast_concat_getLast _).symm⟩
    rw [List.length_append, List.length_singleton] at hn
    rw [List.all_append, Bool.and_eq_true] at h
    have h1 := ih r (by omega) h.1
    have h2 : digitB c = true := by simpa using h.2
    rw [digitB_iff] at h2
    rw [numD_snoc, Nat.pow_succ]
    omega
theorem numN_eq {x : ByteArray} (h1 : 1 ≤ x.size) (h5 : x.size ≤ 5) : numN x = if x.data.toList.all digitB = true ∧ bA x 0 ≠ 48 ∧ numD 0 x.data.toList ≤ 65535 then numD 0 x.data.toList else 0 := by
  unfold numN bA
  rw [← size_data] at h1 h5
  cases hx : x.data.toList with
  | nil => rw [hx] at h1; simp at h1
  | cons c r =>
    rw [hx] at h5
    simp only [List.getD_cons_zero]
    have h4 : r.length ≤ 4 := by simp at h5; omega
    by_cases ha : (c :: r).all digitB = true ∧ c.toNat ≠ 48 ∧ numD 0 (c :: r) ≤ 65535
    · rw [if_pos ha, if_pos ⟨ha.1, ha.2.1, h4, ha.2.2⟩]
    · rw [if_neg ha, if_neg (fun e => ha ⟨e.1, e.2.1, e.2.2.2⟩)]
theorem numN_bad {x : ByteArray} (h : x.size < 1 ∨ 5 < x.size) : numN x = 0 := by
  unfold numN
  rw [← size_data] at h
  split
  · rfl
  · rename_i c r e
    rw [e, List.length_cons] at h
    exact if_neg (fun h2 => by omega)
theorem take_byte (x : ByteArray) (k : Nat) (h : k < x.size) : x.data.toList.take (k + 1) = x.data.toList.take k ++ [x.data.toList[k]'h] ∧ (x.data.toList[k]'h).toNat = bA x k := by
  have h2 : k < x.data.toList.length := h
  refine ⟨by rw [List.take_add_one, List.getElem?_eq_getElem h2]; rfl, ?_⟩
  unfold bA
  rw [List.getD_eq_getElem?_getD, List.getElem?_eq_getElem h2]
  rfl
set_option maxRecDepth 100000 in
set_option maxHeartbeats 4000000 in
theorem rnode_any (w : World) (v : Value) (l : List ByteArray) (hv : Sl w 1 v l.length (l.map .string)) (hs : ∀ s ∈ l, s.size ≤ 100000) : Calls Tryz.prog 40 #[v] w fun e w' => e = .returned (.int .i64 (nodeM l : Nat)) ∧ w = w' := by
  obtain ⟨_, a, c, rfl, h1, h2, h3⟩ := id hv
  unfold maxLen at h2
  by_cases h3l : l.length = 3
  · match l, h3l with
    | [x, y, z], _ =>
      obtain ⟨b, off, rfl, hc⟩ := h3.resolve_left (by simp)
      have c0 : w.cell? ⟨b, off, none⟩ = some (.string x) := hc 0 _ rfl
      have c1 : w.cell? ⟨b, off + 1, none⟩ = some (.string y) := hc 1 _ rfl
      have c2 : w.cell? ⟨b, off + 2, none⟩ = some (.string z) := hc 2 _ rfl
      have hxs := hs x (by simp)
      have HND := Lib.hid (show nodeM [x, y, z] = if y = nodeS ∧ z = bellS then numN x else 0 from rfl)
      obtain ⟨Nd, hNd⟩ : ∃ Nd, Nd = nodeM [x, y, z] := ⟨_, rfl⟩
      rw [← hNd]
      rw [← hNd] at HND
      clear hNd h3 hc hs hv
      simp only [List.length_cons, List.length_nil] at *
      by_cases hy : y = nodeS
      · have ey : (y.toList == [110, 111, 100, 101]) = true := by rw [hy]; decide +kernel
        by_cases hz : z = bellS
        · have ez : (z.toList == [98, 101, 108, 108]) = true := by rw [hz]; decide +kernel
          have HN := HND.out
          rw [if_pos ⟨hy, hz⟩] at HN
          clear hy hz HND
          by_cases hx : x.size < 1 ∨ 5 < x.size
          · -- size
            rw [numN_bad hx] at HN
            subst HN
            rcases hx with hx | hx
            · have hx' : (x.size : Int) < 1 := by omega
              go_enter Tryz.func40, Tryz.ntmps40
              go_wp2_with fail
              go_ret
              exact ⟨rfl, rfl⟩
            · have hx0 : ¬ (x.size : Int) < 1 := by omega
              have hx' : (5 : Int) < (x.size : Int) := by omega
              go_enter Tryz.func40, Tryz.ntmps40
              go_wp2_with fail
              go_ret
              exact ⟨rfl, rfl⟩
          · -- loop
            have hx0 : ¬ (x.size : Int) < 1 := by omega
            have hx5 : ¬ (5 : Int) < (x.size : Int) := by omega
            have HNE := Lib.hid (numN_eq (x := x) (by omega) (by omega))
            have HNN := Lib.hid HN
            clear HN
            go_enter Tryz.func40, Tryz.ntmps40
            go_wp2_with fail
            go_loopg [3, 4] x.size (fun g v3 v4 wr => ∃ k : Nat, v3 = .int .i64 (numD 0 (x.data.toList.take k) : Nat) ∧ v4 = .int .i64 k ∧ k ≤ x.size ∧ w = wr ∧ (x.data.toList.take k).all digitB = true ∧ g = x.size - k)
            case atStart => exact ⟨0, rfl, rfl, Nat.zero_le _, rfl, rfl, rfl⟩
            case round =>
              obtain ⟨k, rfl, rfl, hk, rfl, hd, hg⟩ := hrel
              have hb := numD_lt _ hd
              have hl : (x.data.toList.take k).length = k := by rw [List.length_take, size_data]; omega
              rw [hl] at hb
              have hb6 : numD 0 (x.data.toList.take k) < 100000 := Nat.lt_of_lt_of_le hb (Nat.le_trans (Nat.pow_le_pow_right (by decide) (show k ≤ 5 by omega)) (by decide))
              clear hb hl
              by_cases hlt : k < x.size
              · have hlt' : (k : Int) < (x.size : Int) := by omega
                have hk0 : (0 : Int) ≤ (k : Int) := by omega
                obtain ⟨ht, hbk⟩ := take_byte x k hlt
                have g0 := bA_get x k hlt
                have b0 := bA_lt x k
                generalize x.data.toList[k] = cc at *
                have HSN := Lib.hid (show numD 0 (x.data.toList.take (k + 1)) = 10 * numD 0 (x.data.toList.take k) + (bA x k - 48) by rw [ht, numD_snoc, hbk])
                have HAL := Lib.hid (show (x.data.toList.take (k + 1)).all digitB = digitB cc by rw [ht, List.all_append, hd]; simp)
                have HDC := Lib.hid (show digitB cc = true ↔ 48 ≤ bA x k ∧ bA x k ≤ 57 by rw [digitB_iff, hbk])
                have HBAD := Lib.hid (show digitB cc = false → numN x = 0 from fun e => by
                  rw [HNE.out]
                  refine if_neg (fun h => ?_)
                  have h4 := List.all_eq_true.1 h.1 cc (List.mem_of_mem_take (i := k + 1) (by rw [ht]; simp))
                  rw [e] at h4
                  cases h4)
                generalize bA x k = bk at *
                generalize numD 0 (x.data.toList.take k) = q at *
                have Hg := Lib.hid hg
                have HD := Lib.hid hd
                have HBK := Lib.hid hbk
                have HT := Lib.hid ht
                clear hg hd hbk ht
                by_cases hlo : bk < 48
                · have hlo' : (bk : Int) < 48 := by omega
                  have HZ := Lib.hid (show Nd = 0 by rw [HNN.out]; exact HBAD.out (by
                    cases h : digitB cc with
                    | false => rfl
                    | true => have := HDC.out.1 h; omega))
                  go_wp2_with fail
                  go_ret
                  exact ⟨by rw [HZ.out]; rfl, rfl⟩
                · have hlo' : ¬ (bk : Int) < 48 := by omega
                  by_cases hhi : 57 < bk
                  · have hhi' : (57 : Int) < (bk : Int) := by omega
                    have HZ := Lib.hid (show Nd = 0 by rw [HNN.out]; exact HBAD.out (by
                      cases h : digitB cc with
                      | false => rfl
                      | true => have := HDC.out.1 h; omega))
                    go_wp2_with fail
                    go_ret
                    exact ⟨by rw [HZ.out]; rfl, rfl⟩
                  · have hhi' : ¬ (57 : Int) < (bk : Int) := by omega
                    have hw1 : IntKind.i64.wrap (10 * (q : Int)) = 10 * q := by rw [IntKind.wrap_i64]; omega
                    have hw2 : IntKind.u8.wrap ((bk : Int) - 48) = bk - 48 := by rw [IntKind.wrap_u8]; omega
                    have hw3 : IntKind.i64.wrap ((bk : Int) - 48) = bk - 48 := by rw [IntKind.wrap_i64]; omega
                    have hw4 : IntKind.i64.wrap (10 * (q : Int) + (bk - 48)) = 10 * q + (bk - 48) := by rw [IntKind.wrap_i64]; omega
                    go_wp2_with fail
                    go_roundg (x.size - (k + 1))
                    case measure => rw [Hg.out]; omega
                    case rel => exact ⟨k + 1, by rw [HSN.out]; congr 1; omega, by go_num, by omega, rfl, by rw [HAL.out]; exact HDC.out.2 (by omega), rfl⟩
              · have hlt' : ¬ (k : Int) < (x.size : Int) := by omega
                obtain rfl : k = x.size := by omega
                have htk : x.data.toList.take x.size = x.data.toList := List.take_of_length_le (Nat.le_refl _)
                rw [htk] at hb6 hd
                have HTK := Lib.hid htk
                have g0 := bA_get x 0 (by omega)
                have b0 := bA_lt x 0
                have hx00 : (0 : Int) < (x.size : Int) := by omega
                have HNE2 := Lib.hid (show numN x = if bA x 0 ≠ 48 ∧ numD 0 x.data.toList ≤ 65535 then numD 0 x.data.toList else 0 by
                  rw [HNE.out]
                  by_cases hh : bA x 0 ≠ 48 ∧ numD 0 x.data.toList ≤ 65535
                  · rw [if_pos hh, if_pos ⟨hd, hh⟩]
                  · rw [if_neg hh, if_neg (fun e => hh e.2)])
                rw [htk]
                generalize bA x 0 = b00 at *
                generalize numD 0 x.data.toList = q at *
                have hs0 : (x[0]'(by omega)).toNat = b00 := g0
                by_cases hq : 65535 < q
                · have hq' : (65535 : Int) < (q : Int) := by omega
                  have HZ := Lib.hid (show Nd = 0 by rw [HNN.out, HNE2.out, if_neg (fun e => by omega)])
                  go_wp2_with fail
                  go_ret
                  exact ⟨by rw [HZ.out]; rfl, rfl⟩
                · have hq' : ¬ (65535 : Int) < (q : Int) := by omega
                  by_cases h48 : b00 = 48
                  · have HZ := Lib.hid (show Nd = 0 by rw [HNN.out, HNE2.out, if_neg (fun e => e.1 h48)])
                    subst h48
                    go_wp2_with fail
                    go_ret
                    exact ⟨by rw [HZ.out]; rfl, rfl⟩
                  · have h48' : ¬ (b00 : Int) = 48 := by omega
                    have HZ := Lib.hid (show Nd = q by rw [HNN.out, HNE2.out, if_pos ⟨h48, by omega⟩])
                    go_wp2_with fail
                    go_ret
                    exact ⟨by rw [HZ.out]; rfl, rfl⟩
        · -- bell
          have ez : (z.toList == [98, 101, 108, 108]) = false := by
            have := str_ne hz
            rwa [show bellS.toList = [98, 101, 108, 108] by decide +kernel] at this
          have HN := HND.out
          rw [if_neg (fun e => hz e.2)] at HN
          subst HN
          clear hy hz
          go_enter Tryz.func40, Tryz.ntmps40
          go_wp2_with fail
          go_ret
          exact ⟨rfl, rfl⟩
      · -- node
        have ey : (y.toList == [110, 111, 100, 101]) = false := by
          have := str_ne hy
          rwa [show nodeS.toList = [110, 111, 100, 101] by decide +kernel] at this
        have HN := HND.out
        rw [if_neg (fun e => hy e.1)] at HN
        subst HN
        clear hy
        go_enter Tryz.func40, Tryz.ntmps40
        go_wp2_with fail
        go_ret
        exact ⟨rfl, rfl⟩
  · -- len
    have HZ := Lib.hid (nodeM_zero (l := l) (fun k _ _ e => h3l (by rw [e]; rfl)))
    have h3l' : ¬ (l.length : Int) = 3 := by omega
    clear hv h3
    go_enter Tryz.func40, Tryz.ntmps40
    go_wp2_with fail
    go_ret
    exact ⟨by rw [HZ.out]; rfl, rfl⟩
end Go.Proofs.YtbdfijgejkimnaaGreatDoor
/-! Answer's reference: service. -/
namespace Go.Proofs.YtbdfijgejkimnaaGreatDoor
open Go.Conc Go.RowKit Go.Lib

def servR (l : List ByteArray) : ByteArray := if 0 < nodeM l then ⟨#[]⟩ else servM l
theorem joinL_nil : joinL [] = ⟨#[]⟩ := by simp [joinL, Lib.join]
theorem joinL_snoc : ∀ (L : List ByteArray) (x : ByteArray), L ≠ [] → (joinL (L ++ [x])).data.toList = (joinL L).data.toList ++ 46 :: x.data.toList
  | [], _, h => absurd rfl h
  | [a], x, _ => by
    rw [List.singleton_append, joinL_cons a [x] (by simp), joinL_one, joinL_one]
  | a :: b :: L, x, _ => by
    rw [List.cons_append, joinL_cons a ((b :: L) ++ [x]) (by simp), joinL_snoc (b :: L) x (by simp), joinL_cons a (b :: L) (by simp)]
    simp
theorem noDot_at (y : ByteArray) : noDot y = true ↔ ∀ j, j < y.size → bA y j ≠ 46 := by
  unfold noDot
  rw [List.all_eq_true]
  constructor
  · intro h j hj e
    have h2 := h _ (List.getElem_mem (show j < y.data.toList.length from hj))
    have h3 := (take_byte y j hj).2
    rw [e] at h3
    simp only [Bool.not_eq_true', decide_eq_false_iff_not] at h2
    exact h2 (UInt8.toNat_inj.1 h3)
  · intro h c hc
    obtain ⟨j, hj, rfl⟩ := List.getElem_of_mem hc
    have h3 := (take_byte y j hj).2
    have h4 := h j hj
    rw [← h3] at h4
    simp only [Bool.not_eq_true', decide_eq_false_iff_not]
    exact fun e => h4 (by rw [e]; rfl)
theorem joinL_next {L : List ByteArray} {x : ByteArray} (h : L ≠ []) : joinL (L ++ [x]) = (joinL L ++ ⟨#[46]⟩) ++ x := str_ext (by
  rw [joinL_snoc L x h, ByteArray.data_append, ByteArray.data_append, Array.toList_append, Array.toList_append, List.append_assoc]
  rfl)
theorem joinL_first (x : ByteArray) : joinL ([] ++ [x]) = ⟨#[]⟩ ++ x := str_ext (by
  rw [List.nil_append, joinL_one, ByteArray.data_append, Array.toList_append]
  rfl)
theorem servM_all {L : List ByteArray} (hL : L ≠ []) (hd : L.all noDot = true) : servM (L ++ [bellS]) = if namedP (joinL L) = true then joinL L else ⟨#[]⟩ := by
  have hc := (dots_join L hL).2 hd
  by_cases hn : namedP (joinL L) = true
  · rw [if_pos hn, servM_yes hL hn hc]
  · rw [if_neg hn, servM_no hL (fun e => hn e.1)]
theorem servM_dot {L : List ByteArray} (hL : L ≠ []) (hd : L.all noDot = false) : servM (L ++ [bellS]) = ⟨#[]⟩ := servM_no hL (fun e => by
  have := (dots_join L hL).1 e.2
  rw [hd] at this
  cases this)
set_option maxRecDepth 100000 in
set_option maxHeartbeats 4000000 in
theorem rservice_any (w : World) (v : Value) (l : List ByteArray) (hv : Sl w 1 v l.length (l.map .string)) (hn : l.length ≤ 1000) (hs : ∀ s ∈ l, s.size ≤ 90) : Calls Tryz.prog 41 #[v] w fun e w' => e = .returned (.string (servR l)) ∧ w = w' := by
  have HNO := Lib.hid (rnode_any w v l hv (fun s h => by have := hs s h; omega))
  by_cases h2 : l.length < 2
  · -- short
    have HZ := Lib.hid (show servR l = ⟨#[]⟩ by unfold servR; rw [servM_short h2]; split <;> rfl)
    obtain ⟨_, a, c, rfl, _, _, _⟩ := id hv
    have hlt : (l.length : Int) < 2 := by omega
    clear hv HNO
    go_enter Tryz.func41, Tryz.ntmps41
    go_wp2_with fail
    go_ret
    exact ⟨by rw [HZ.out]; rfl, rfl⟩
  · obtain ⟨L, x, rfl⟩ : ∃ L x, l = L ++ [x] := ⟨l.dropLast, l.getLast (fun e => by rw [e] at h2; exact h2 (by decide)), (List.dropLast_concat_getLast _).symm⟩
    have hLn : L ≠ [] := fun e => by rw [e] at h2; simp at h2
    have hLl : 1 ≤ L.length := List.length_pos_iff.2 hLn
    have HJL := Lib.hid (fun k => show (joinL (L.take k)).size ≤ 91000 by
      have h3 := join_len 90 (L.take k) (fun s hs' => hs s (by simp [List.mem_of_mem_take hs']))
      rw [size_data] at h3
      have h4 : (L.take k).length ≤ 1000 := by rw [List.length_take]; rw [List.length_append, List.length_singleton] at hn; omega
      omega)
    have HSZ := Lib.hid (show ∀ s ∈ L, s.size ≤ 90 from fun s h => hs s (by simp [h]))
    obtain ⟨N, hN⟩ : ∃ N, N = (L ++ [x]).length := ⟨_, rfl⟩
    have hNL : N = L.length + 1 := by rw [hN, List.length_append, List.length_singleton]
    rw [← hN] at hv h2 hn
    obtain ⟨_, a, c, rfl, h1, hm, h3⟩ := id hv
    unfold maxLen at hm
    obtain ⟨b, off, rfl, hc⟩ := h3.resolve_left (by omega)
    have c0 : w.cell? ⟨b, off + L.length, none⟩ = some (.string x) := hc L.length _ (by simp)
    have HCL := Lib.hid (show ∀ k (hk : k < L.length), w.cell? ⟨b, off + k, none⟩ = some (.string L[k]) from fun k hk => hc k _ (by rw [List.map_append, List.getElem?_append_left (by rw [List.length_map]; exact hk), List.getElem?_map, List.getElem?_eq_getElem hk]; rfl))
    subst hNL
    have hw : IntKind.i64.wrap (((L.length + 1 : Nat) : Int) - 1) = (L.length : Int) := by rw [IntKind.wrap_i64]; omega
    have hw' : IntKind.i64.wrap ((L.length : Int) + 1 - 1) = (L.length : Int) := by rw [IntKind.wrap_i64]; omega
    have hlt : ¬ ((L.length : Int) + 1) < 2 := by omega
    have HND := Lib.hid (show servR (L ++ [x]) = if 0 < nodeM (L ++ [x]) then ⟨#[]⟩ else servM (L ++ [x]) from rfl)
    obtain ⟨S, hS⟩ : ∃ S, S = servR (L ++ [x]) := ⟨_, rfl⟩
    rw [← hS]
    rw [← hS] at HND
    clear hS h3 hc hv hs h2 hN
    by_cases hx : x = bellS
    · have ex : (x.toList == [98, 101, 108, 108]) = true := by rw [hx]; decide +kernel
      have HSA := Lib.hid (fun hd => servM_all hLn hd)
      have HSD := Lib.hid (fun hd => servM_dot hLn hd)
      rw [hx] at HND HNO
      clear hx
      generalize nodeM (L ++ [bellS]) = nd at *
      by_cases hnd : 0 < nd
      · -- node
        have hnd' : (0 : Int) < (nd : Int) := by omega
        have HZ := Lib.hid (show S = ⟨#[]⟩ by rw [HND.out, if_pos hnd])
        go_enter Tryz.func41, Tryz.ntmps41
        go_wp2_with fail
        refine HNO.out.mono ?_
        rintro e w' ⟨rfl, rfl⟩
        go_wp2_with fail
        go_ret
        exact ⟨by rw [HZ.out]; rfl, rfl⟩
      · -- loops
        have HZ := Lib.hid (show S = servM (L ++ [bellS]) by rw [HND.out, if_neg hnd])
        obtain rfl : nd = 0 := by omega
        clear HND hnd
        go_enter Tryz.func41, Tryz.ntmps41
        go_wp2_with fail
        refine HNO.out.mono ?_
        rintro e w' ⟨rfl, rfl⟩
        go_wp2_with fail
        go_loopg [3, 4] L.length (fun g v3 v4 wr => ∃ i : Nat, v3 = .string (joinL (L.take i)) ∧ v4 = .int .i64 i ∧ i ≤ L.length ∧ w = wr ∧ (L.take i).all noDot = true ∧ g = L.length - i)
        case atStart => exact ⟨0, by rw [List.take_zero, joinL_nil], rfl, Nat.zero_le _, rfl, rfl, rfl⟩
        case round =>
          obtain ⟨i, rfl, rfl, hi, rfl, hd, hg⟩ := hrel
          by_cases hlt : i < L.length
          · have hlt' : (i : Int) < (L.length : Int) := by omega
            have hi0 : (0 : Int) ≤ (i : Int) := by omega
            have ci := HCL.out i hlt
            have hy := HSZ.out _ (List.getElem_mem hlt)
            have htk : L.take (i + 1) = L.take i ++ [L[i]] := by rw [List.take_add_one, List.getElem?_eq_getElem hlt]; rfl
            have HAL := Lib.hid (show noDot L[i] = true → (L.take (i + 1)).all noDot = true from fun e => by rw [htk, List.all_append, hd]; simp [e])
            have HBAD := Lib.hid (show noDot L[i] = false → L.all noDot = false from fun e => by
              cases h : L.all noDot with
              | false => rfl
              | true =>
                have := List.all_eq_true.1 h _ (List.getElem_mem hlt)
                rw [e] at this
                cases this)
            have HJN := Lib.hid (show joinL (L.take (i + 1)) = if i = 0 then ⟨#[]⟩ ++ L[i] else (joinL (L.take i) ++ ⟨#[46]⟩) ++ L[i] by
              rw [htk]
              by_cases h0 : i = 0
              · subst h0
                rw [if_pos rfl, List.take_zero, joinL_first]
              · rw [if_neg h0]
                exact joinL_next (fun e => by have := congrArg List.length e; rw [List.length_take, List.length_nil] at this; omega))
            have hjs : (joinL (L.take i)).size ≤ 100000 := Nat.le_trans (HJL.out i) (by decide)
            generalize L[i] = y at *
            have HJ0 := Lib.hid (show i = 0 → joinL (L.take i) = ⟨#[]⟩ from fun e => by rw [e, List.take_zero, joinL_nil])
            generalize joinL (L.take i) = J at *
            have Hg := Lib.hid hg
            have HD := Lib.hid hd
            clear hg hd
            clear htk
            go_wp2_with fail
            go_loopg [5] y.size (fun g2 v5 wr2 => ∃ k : Nat, v5 = .int .i64 k ∧ k ≤ y.size ∧ w = wr2 ∧ (∀ j, j < k → bA y j ≠ 46) ∧ g2 = y.size - k)
            case atStart => exact ⟨0, rfl, Nat.zero_le _, rfl, fun j h => absurd h (by omega), rfl⟩
            case round =>
              obtain ⟨k, rfl, hk, rfl, hnk, hg2⟩ := hrel
              by_cases hlk : k < y.size
              · -- inner
                have hlk' : (k : Int) < (y.size : Int) := by omega
                have hk0 : (0 : Int) ≤ (k : Int) := by omega
                have g0 := bA_get y k hlk
                have b0 := bA_lt y k
                have HNX := Lib.hid (show bA y k ≠ 46 → ∀ j, j < k + 1 → bA y j ≠ 46 from fun e j hj => by
                  rcases Nat.lt_succ_iff_lt_or_eq.1 hj with h | h
                  · exact hnk j h
                  · rw [h]; exact e)
                have HND2 := Lib.hid (show bA y k = 46 → noDot y = false from fun e => by
                  cases h : noDot y with
                  | false => rfl
                  | true => exact absurd e ((noDot_at y).1 h k hlk))
                generalize bA y k = bk at *
                have Hg2 := Lib.hid hg2
                clear hg2
                clear hnk
                by_cases h46 : bk = 46
                · have HF := Lib.hid (show S = ⟨#[]⟩ by rw [HZ.out]; exact HSD.out (HBAD.out (HND2.out h46)))
                  subst h46
                  go_wp2_with fail
                  go_ret
                  exact ⟨by rw [HF.out]; rfl, rfl⟩
                · have h46' : ¬ (bk : Int) = 46 := by omega
                  have HNX2 := Lib.hid (HNX.out h46)
                  go_wp2_with fail
                  go_roundg (y.size - (k + 1))
                  case measure => rw [Hg2.out]; omega
                  case rel => exact ⟨k + 1, by go_num, by omega, rfl, HNX2.out, rfl⟩
              · -- next
                have hlk' : ¬ (k : Int) < (y.size : Int) := by omega
                have HOK := Lib.hid (show noDot y = true from (noDot_at y).2 (fun j hj => hnk j (by omega)))
                clear hnk
                by_cases h0 : i = 0
                · have HJF := HJN.out
                  rw [if_pos h0] at HJF
                  have HJ00 := HJ0.out h0
                  subst HJ00
                  have HJG := Lib.hid HJF
                  clear HJF
                  have h0' : ¬ (0 : Int) < (i : Int) := by omega
                  clear h0
                  go_wp2_with fail
                  go_roundg (L.length - (i + 1))
                  case measure => rw [Hg.out]; omega
                  case rel => exact ⟨i + 1, by rw [HJG.out], by go_num, by omega, rfl, HAL.out HOK.out, rfl⟩
                · have HJF := HJN.out
                  rw [if_neg h0] at HJF
                  have HJG := Lib.hid HJF
                  clear HJF
                  have h0' : (0 : Int) < (i : Int) := by omega
                  go_wp2_with fail
                  go_roundg (L.length - (i + 1))
                  case measure => rw [Hg.out]; omega
                  case rel => exact ⟨i + 1, by rw [HJG.out], by go_num, by omega, rfl, HAL.out HOK.out, rfl⟩
          · -- end
            have hlt' : ¬ (i : Int) < (L.length : Int) := by omega
            rw [List.take_of_length_le (by omega)] at hd ⊢
            have hF := HSA.out hd
            rw [← HZ.out] at hF
            have hjs := HJL.out L.length
            rw [List.take_of_length_le (Nat.le_refl _)] at hjs
            have HNM := Lib.hid (rnamed_any w (joinL L) (by unfold maxLen; omega))
            generalize joinL L = J at *
            clear hd hjs
            cases hnm : namedP J with
            | true =>
              rw [hnm, if_pos rfl] at hF
              have HF := Lib.hid hF
              rw [hnm] at HNM
              clear hF hnm
              go_wp2_with fail
              refine HNM.out.mono ?_
              rintro e w' ⟨rfl, rfl⟩
              go_wp2_with fail
              go_ret
              exact ⟨by rw [HF.out]; rfl, rfl⟩
            | false =>
              rw [hnm, if_neg (by decide)] at hF
              have HF := Lib.hid hF
              rw [hnm] at HNM
              clear hF hnm
              go_wp2_with fail
              refine HNM.out.mono ?_
              rintro e w' ⟨rfl, rfl⟩
              go_wp2_with fail
              go_ret
              exact ⟨by rw [HF.out]; rfl, rfl⟩
    · -- bell
      have ex : (x.toList == [98, 101, 108, 108]) = false := by
        have := str_ne hx
        rwa [show bellS.toList = [98, 101, 108, 108] by decide +kernel] at this
      have HZ := Lib.hid (show S = ⟨#[]⟩ by rw [HND.out, servM_last hx]; split <;> rfl)
      clear HND hx
      go_enter Tryz.func41, Tryz.ntmps41
      go_wp2_with fail
      go_ret
      exact ⟨by rw [HZ.out]; rfl, rfl⟩
end Go.Proofs.YtbdfijgejkimnaaGreatDoor
/-! Answer's reference: its records; what Lookup keeps, record by record. -/
namespace Go.Proofs.YtbdfijgejkimnaaGreatDoor
open Go.Conc Go.RowKit Go.Maps

def rr24C (e : RRv) : List Value := [.int .i64 e.r.typ, .int .u32 e.r.ttl, .int .u8 e.r.a.1, .int .u8 e.r.a.2.1, .int .u8 e.r.a.2.2.1, .int .u8 e.r.a.2.2.2, .int .u16 e.r.pr, .int .u16 e.r.wt, .int .u16 e.r.po, e.v]
theorem rr24C_length (e : RRv) : (rr24C e).length = 10 := rfl
theorem rr24C_one {w : World} {base : Nat} {e : RRv} (h : TgtRow w base e) : ∀ u ∈ rr24C e, u.oneCell' = true := by
  intro u hu
  obtain ⟨_, a, c, he, _⟩ := Sl.of_owns h
  simp only [rr24C, List.mem_cons, List.not_mem_nil, or_false] at hu
  rcases hu with rfl | rfl | rfl | rfl | rfl | rfl | rfl | rfl | rfl | rfl
  all_goals first | rfl | (rw [he]; rfl)
structure RpRow24 (w : World) (base : Nat) (v : Value) (L : List RRv) : Prop where
  row : w.ownsRow base 48 10 v L.length (L.flatMap rr24C)
  tgt : ∀ e ∈ L, TgtRow w base e
theorem RpRow24.nil (w : World) (base : Nat) : RpRow24 w base (.slice none 0 0) [] := ⟨World.ownsRow_nil _ _ _ _, fun _ h => by cases h⟩
theorem RpRow24.new {w w' : World} {base : Nat} {v : Value} {L : List RRv} (h : RpRow24 w base v L) (ho : Only (fun _ => False) w w') : RpRow24 w' base v L := ⟨owns_kept h.row ho (fun _ _ => id), fun e he => owns_kept (h.tgt e he) ho (fun _ _ => id)⟩
theorem RpRow24.base {w : World} {b c : Nat} {v : Value} {E : List RRv} (h : RpRow24 w b v E) (hc : c ≤ b) : RpRow24 w c v E := ⟨ownsBase h.row hc, fun e he => ownsBase (h.tgt e he) hc⟩
theorem infoRR24 : (Tryz.prog.info? 48).map (fun i => (i.zero, i.size, i.bytes)) = some (some (.agg #[.int .i64 0, .int .u32 0, .int .u8 0, .int .u8 0, .int .u8 0, .int .u8 0, .int .u16 0, .int .u16 0, .int .u16 0, .slice none 0 0]), 10, 48) := by kernel_rfl
theorem RpRow24.app {w w' : World} {base n : Nat} {v v' : Value} {L : List RRv} {e : RRv} (h : RpRow24 w base v L) (ht : TgtRow w base e) (hn : n = L.length + 1) (own : w'.ownsRow base 48 10 v' n (L.flatMap rr24C ++ rr24C e)) (gr : w.grownBy w' v.ownBlock) : RpRow24 w' base v' (L ++ [e]) := by
  subst hn
  refine ⟨by rw [List.length_append, List.flatMap_append, List.flatMap_singleton]; exact own, fun x hx => ?_⟩
  rcases List.mem_append.1 hx with hx | hx
  · exact ownsGr (h.tgt x hx) h.row (by decide) gr rfl
  · rw [List.mem_singleton] at hx
    subst hx
    exact ownsGr ht h.row (by decide) gr rfl
/-- Is a record kept, for a node n or a service t? -/
def keepM (n : Nat) (t : ByteArray) (x : RecT) : Bool := !x.gone && ((decide (0 < n) && decide (x.o = n)) || (!decide (t = ⟨#[]⟩) && decide (x.key.extract 2 x.key.size = t)))
theorem good_splitA {x : RecT} (h : goodR x = true) : splitS x.key = x.key.extract 2 x.key.size ∧ 2 ≤ x.key.size := by
  obtain ⟨_, _, h3, _⟩ := good_node h
  refine ⟨by unfold splitS; rw [if_pos h3], ?_⟩
  unfold splitOk at h3
  simp only [Bool.and_eq_true, decide_eq_true_eq] at h3
  exact h3.1
theorem held_eq {L : List RecT} (hg : ∀ x ∈ L, goodR x = true) (l : List ByteArray) : heldM L l = L.filter (keepM (nodeM l) (servR l)) := by
  unfold heldM servR
  by_cases h0 : 0 < nodeM l
  · rw [if_pos h0, if_pos h0]
    refine List.filter_congr (fun x hx => ?_)
    unfold keepM offO
    rw [decide_eq_true h0]
    simp [Bool.and_comm]
  · rw [if_neg h0, if_neg h0]
    by_cases ht : servM l = ⟨#[]⟩
    · rw [if_pos ht, ht]
      symm
      rw [List.filter_eq_nil_iff]
      intro x hx
      unfold keepM
      rw [decide_eq_false h0]
      simp
    · rw [if_neg ht]
      refine List.filter_congr (fun x hx => ?_)
      unfold keepM unnamed
      rw [decide_eq_false h0, (good_splitA (hg x hx)).1]
      simp [ht, Bool.and_comm]
/-- The records told, over a beginning of the store. -/
def lookK (ttl : Int) (n : Nat) (t : ByteArray) (typ : Nat) (L : List RecT) : List RR :=
  if typ = 1 then addrsM ttl (L.filter (keepM n t)) else if typ = 33 ∧ n = 0 then (L.filter (keepM n t)).map (rrS ttl) else []
theorem lookM_eq {ttl : Int} {L : List RecT} (hg : ∀ x ∈ L, goodR x = true) (l : List ByteArray) (typ : Nat) : lookM ttl L l typ = lookK ttl (nodeM l) (servR l) typ L := by
  unfold lookM lookK
  rw [held_eq hg]
theorem keep_snoc (p : RecT → Bool) (L : List RecT) (k : Nat) (hk : k < L.length) : (L.take (k + 1)).filter p = (L.take k).filter p ++ if p L[k] then [L[k]] else [] := by
  rw [List.take_add_one, List.getElem?_eq_getElem hk, Option.toList_some, List.filter_append]
  cases h : p L[k] <;> simp [h]
theorem addrs_app (ttl : Int) (L : List RecT) (x : RecT) : addrsM ttl (L ++ [x]) = addA ttl (addrsM ttl L) x := by
  unfold addrsM
  rw [List.foldl_append]
  rfl
theorem lookK_skip {ttl : Int} {n : Nat} {t : ByteArray} {typ : Nat} {L : List RecT} {k : Nat} (hk : k < L.length) (h : keepM n t L[k] = false) : lookK ttl n t typ (L.take (k + 1)) = lookK ttl n t typ (L.take k) ∧ (L.take (k + 1)).filter (keepM n t) = (L.take k).filter (keepM n t) := by
  have e : (L.take (k + 1)).filter (keepM n t) = (L.take k).filter (keepM n t) := by rw [keep_snoc _ L k hk, h]; simp
  refine ⟨?_, e⟩
  unfold lookK
  rw [e]
theorem lookK_take {ttl : Int} {n : Nat} {t : ByteArray} {typ : Nat} {L : List RecT} {k : Nat} (hk : k < L.length) (h : keepM n t L[k] = true) : lookK ttl n t typ (L.take (k + 1)) = (if typ = 1 then addA ttl (lookK ttl n t typ (L.take k)) L[k] else if typ = 33 ∧ n = 0 then lookK ttl n t typ (L.take k) ++ [rrS ttl L[k]] else []) ∧ (L.take (k + 1)).filter (keepM n t) ≠ [] := by
  have e : (L.take (k + 1)).filter (keepM n t) = (L.take k).filter (keepM n t) ++ [L[k]] := by rw [keep_snoc _ L k hk, h]; rfl
  refine ⟨?_, by rw [e]; simp⟩
  unfold lookK
  rw [e]
  by_cases h1 : typ = 1
  · rw [if_pos h1, if_pos h1, if_pos h1, addrs_app]
  · rw [if_neg h1, if_neg h1, if_neg h1]
    by_cases h2 : typ = 33 ∧ n = 0
    · rw [if_pos h2, if_pos h2, if_pos h2, List.map_append]
      rfl
    · rw [if_neg h2, if_neg h2]
theorem lookK_len (ttl : Int) (n : Nat) (t : ByteArray) (typ : Nat) (L : List RecT) : (lookK ttl n t typ L).length ≤ L.length := by
  have h1 := List.length_filter_le (keepM n t) L
  unfold lookK
  split
  · have := addrs_len ttl (L.filter (keepM n t)) _ (Nat.le_refl _)
    rw [List.take_length] at this
    omega
  · split
    · rw [List.length_map]; exact h1
    · exact Nat.zero_le _
end Go.Proofs.YtbdfijgejkimnaaGreatDoor
/-! The reference's two. -/
namespace Go.Proofs.YtbdfijgejkimnaaGreatDoor
open Go.Conc Go.RowKit

def twoB (p : Nat) : ByteArray := bytesOf [(p : Int) / 256, (p : Int) % 256]
theorem two_any (w : World) (p : Nat) (hp : p < 65536) : Calls Tryz.prog 48 #[.int .u16 p] w fun e w' => e = .returned (.string (twoB p)) ∧ w' = w.alloc (.cells #[.int .u8 ((p : Int) / 256), .int .u8 ((p : Int) % 256)] 5) := by
  have hc2 := cv2
  have h0 : (0 : Int) ≤ (p : Int) := by omega
  have h1 : (p : Int) ≤ 65535 := by omega
  unfold twoB
  go_enter Tryz.func48, Tryz.ntmps48
  go_wp2_with fail
  go_ret
  exact ⟨rfl, rfl⟩

end Go.Proofs.YtbdfijgejkimnaaGreatDoor
