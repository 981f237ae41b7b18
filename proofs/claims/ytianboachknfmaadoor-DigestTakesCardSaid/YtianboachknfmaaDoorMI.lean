/- bellhoplaw16.ids. -/
import Derived.Test.YtianboachknfmaaDoorMH
import Derived.Test.YtianboachknfmaaDoorMA
import Derived.Test.YtianboachknfmaaDoorME
/-! digest's reference, plainly: what is told, wanted, newer, given, sent. -/
namespace Go.Proofs.YtianboachknfmaaDoor
open Go.Conc Go.RowKit Go.Maps

theorem told_has {L : List RecT} (h : Rising L) (k : ByteArray) (v : Nat) : toldB (L.map toId) k v = hasB L k v := by
  unfold toldB hasB findV
  rw [List.any_map]
  cases hf : findS L k with
  | none =>
    have hn := findS_none hf
    simp only [Option.isSome_none, Bool.false_and]
    rw [List.any_eq_false]
    intro x hx
    simp [toId, hn x hx]
  | some y =>
    obtain ⟨h1, h2⟩ := findS_some hf
    simp only [Option.isSome_some, Bool.true_and, Option.getD_some]
    rw [Bool.eq_iff_iff, List.any_eq_true]
    constructor
    · rintro ⟨x, hx, hp⟩
      obtain ⟨e1, e2⟩ := Bool.and_eq_true_iff.1 hp
      have e1 : x.key = k := of_decide_eq_true e1
      have e2 : v ≤ x.ver := of_decide_eq_true e2
      have h3 := findS_mem h hx
      rw [e1, hf] at h3
      cases h3
      exact decide_eq_true e2
    · intro hv
      have hv := of_decide_eq_true hv
      exact ⟨y, h1, Bool.and_eq_true_iff.2 ⟨decide_eq_true h2, decide_eq_true hv⟩⟩
theorem wantedT {L : List RecT} (h : Rising L) (I : List (ByteArray × Nat)) : wantedL L I = I.filter (fun p => !toldB (L.map toId) p.1 p.2) := by
  unfold wantedL
  congr 1
  funext p
  rw [told_has h]
theorem told_snocB (I : List (ByteArray × Nat)) (key : ByteArray) (ver : Nat) (k : Nat) (hk : k < I.length) : toldB (I.take (k + 1)) key ver = (toldB (I.take k) key ver || (decide (I[k].1 = key) && decide (ver ≤ I[k].2))) := by
  unfold toldB
  rw [List.take_add_one, List.getElem?_eq_getElem hk, List.any_append]
  simp
theorem newer_snoc (L : List RecT) (I : List (ByteArray × Nat)) (k : Nat) (hk : k < L.length) : newerL (L.take (k + 1)) I = newerL (L.take k) I ++ if toldB I L[k].key L[k].ver then [] else [L[k]] := by
  unfold newerL
  rw [List.take_add_one, List.getElem?_eq_getElem hk, List.filter_append]
  congr 1
  cases h : toldB I L[k].key L[k].ver <;> simp [h]
theorem metB_snoc (I : List (ByteArray × Nat)) (key : ByteArray) (k : Nat) (hk : k < I.length) : metB (I.take (k + 1)) key = (metB (I.take k) key || decide (I[k].1 = key)) := by
  unfold metB
  rw [List.take_add_one, List.getElem?_eq_getElem hk, List.any_append]
  simp
theorem map_snoc (L : List RecT) (k : Nat) (hk : k < L.length) : (L.take (k + 1)).map toId = (L.take k).map toId ++ [toId L[k]] := by
  rw [List.take_add_one, List.getElem?_eq_getElem hk, List.map_append]
  rfl
/-- Records as the reference sends them. -/
def rsentL (ttl : Int) (l : List RecT) : List RecT := l.flatMap (fun x => if x.age < ttl - 2 then [{ x with age := x.age + 2 }] else [])
theorem rsent_snoc (ttl : Int) (l : List RecT) (k : Nat) (hk : k < l.length) : rsentL ttl (l.take (k + 1)) = rsentL ttl (l.take k) ++ if l[k].age < ttl - 2 then [{ l[k] with age := l[k].age + 2 }] else [] := by
  unfold rsentL
  rw [List.take_add_one, List.getElem?_eq_getElem hk, List.flatMap_append]
  simp
theorem rsent_len (ttl : Int) (l : List RecT) : (rsentL ttl l).length ≤ l.length := by
  induction l with
  | nil => exact Nat.le_refl _
  | cons x l ih =>
    have e : rsentL ttl (x :: l) = (if x.age < ttl - 2 then [{ x with age := x.age + 2 }] else []) ++ rsentL ttl l := rfl
    rw [e, List.length_append, List.length_cons]
    have : (if x.age < ttl - 2 then [{ x with age := x.age + 2 }] else []).length ≤ 1 := by split <;> simp
    omega
theorem rsent_eq (ttl : Int) (l : List RecT) (h : ∀ x ∈ l, 0 ≤ x.age ∧ x.age ≤ 65533) : rsentL ttl l = sentL ttl l := by
  unfold rsentL sentL
  induction l with
  | nil => rfl
  | cons x l ih =>
    have hx := h x List.mem_cons_self
    have e : sentR x = { x with age := x.age + 2 } := by
      unfold sentR
      rw [show min (max x.age 0) 65533 = x.age by omega]
    rw [List.flatMap_cons, ih (fun y hy => h y (List.mem_cons_of_mem _ hy)), List.map_cons, List.filter_cons, e]
    by_cases c : x.age < ttl - 2
    · rw [if_pos c, if_pos (decide_eq_true (show x.age + 2 < ttl by omega))]
      rfl
    · rw [if_neg c, if_neg (by simp; omega)]
      rfl
end Go.Proofs.YtianboachknfmaaDoor
/-! bellhopref16: Has, Ids, Wanted, Newer, Sent. -/
namespace Go.Proofs.YtianboachknfmaaDoor
open Go.Conc Go.RowKit Go.Maps

theorem infoRId : (Tryd.prog.info? 116).map (fun i => (i.zero, i.size, i.bytes)) = some (some (.agg #[.string ⟨#[]⟩, .int .u64 0]), 2, 24) := by kernel_rfl
/-- A slice of the reference's ids of the call's own. -/
abbrev RIRow (w : World) (base : Nat) (v : Value) (I : List (ByteArray × Nat)) : Prop := w.ownsRow base 116 2 v I.length (I.flatMap idT)
abbrev ISl (w : World) (v : Value) (I : List (ByteArray × Nat)) : Prop := Sl w 2 v I.length (I.flatMap idT)
theorem toldB_yes {I : List (ByteArray × Nat)} {k : Nat} (hk : k < I.length) {key : ByteArray} {ver : Nat} (h1 : I[k].1 = key) (h2 : ver ≤ I[k].2) : toldB I key ver = true := by
  unfold toldB
  rw [List.any_eq_true]
  exact ⟨I[k], List.getElem_mem hk, by simp [h1, h2]⟩
set_option maxRecDepth 100000 in
theorem rhas_any (w : World) (v : Value) (I : List (ByteArray × Nat)) (h : ISl w v I) (key : ByteArray) (ver : Nat) :
    Calls Tryd.prog 88 #[v, .string key, .int .u64 ver] w fun e w' => e = .returned (.bool (toldB I key ver)) ∧ w = w' := by
  obtain ⟨a, cap, rfl, h1, h2, h3⟩ := Sl.cells idT_length h
  unfold maxLen at h2
  have HC := Lib.hid h3
  clear h3
  clear h
  go_enter Tryd.func88, Tryd.ntmps88
  go_wp2_with fail
  go_loopg [7] I.length (fun g v7 wr => ∃ k : Nat, v7 = .int .i64 k ∧ k ≤ I.length ∧ w = wr ∧ toldB (I.take k) key ver = false ∧ g = I.length - k)
  case atStart => exact ⟨0, rfl, Nat.zero_le _, rfl, rfl, rfl⟩
  case round =>
    obtain ⟨k, rfl, hk, rfl, hno, hg⟩ := hrel
    have Hg := Lib.hid hg
    have HNO := Lib.hid hno
    clear hg hno
    by_cases hlt : k < I.length
    · obtain ⟨b, off, he, hc⟩ := HC.out.at k hlt
      subst he
      have HTS := Lib.hid (told_snocB I key ver k hlt)
      have HY := Lib.hid (fun h1 h2 => toldB_yes (I := I) hlt (key := key) (ver := ver) h1 h2)
      have hlt' : (k : Int) < (I.length : Int) := by omega
      generalize I[k] = p at *
      obtain ⟨kx, vx⟩ := p
      have p0 := hc 0 _ rfl
      have p1 := hc 1 _ rfl
      simp only [Nat.add_zero] at p0
      clear hc
      by_cases hx : kx = key
      · have hxb := str_eq hx
        have HX := Lib.hid hx
        clear hx
        by_cases hv : ver ≤ vx
        · have hv2 : (ver : Int) ≤ (vx : Int) := by omega
          have HV := Lib.hid (HY.out HX.out hv)
          clear hv
          go_wp2_with fail
          go_ret
          exact ⟨by rw [HV.out]; rfl, rfl⟩
        · have hv2 : ¬ (ver : Int) ≤ (vx : Int) := by omega
          have HV := Lib.hid (show (decide (kx = key) && decide (ver ≤ vx)) = false by rw [decide_eq_false hv, Bool.and_false])
          clear hv
          go_wp2_with fail
          go_roundg (I.length - (k + 1))
          case measure => rw [Hg.out]; omega
          case rel => exact ⟨k + 1, by go_num, by omega, rfl, by rw [HTS.out, HNO.out, HV.out]; rfl, rfl⟩
      · have hxb := str_ne hx
        have HV := Lib.hid (show (decide (kx = key) && decide (ver ≤ vx)) = false by rw [decide_eq_false hx, Bool.false_and])
        clear hx
        go_wp2_with fail
        go_roundg (I.length - (k + 1))
        case measure => rw [Hg.out]; omega
        case rel => exact ⟨k + 1, by go_num, by omega, rfl, by rw [HTS.out, HNO.out, HV.out]; rfl, rfl⟩
    · have hke : k = I.length := by omega
      have hlt' : ¬ (k : Int) < (I.length : Int) := by omega
      have hn := HNO.out
      rw [hke, List.take_length] at hn
      have HN := Lib.hid hn
      clear hn
      clear hke
      go_wp2_with fail
      go_ret
      exact ⟨by rw [HN.out]; rfl, rfl⟩
set_option maxRecDepth 100000 in
set_option maxHeartbeats 1000000 in
theorem rids_any (w : World) (v : Value) (L : List RecT) (h : RSl w v L) (hL : L.length ≤ 1000000) :
    Calls Tryd.prog 52 #[v] w fun e w' => ∃ v', e = .returned v' ∧ Only (fun _ => False) w w' ∧ RIRow w' w.heap.size v' (L.map toId) := by
  obtain ⟨i0, hi0, iz0, iz1, iz2⟩ := info_parts infoRId
  obtain ⟨a, cap, rfl, h1, h2, h3⟩ := Sl.cells recC_length h
  unfold maxLen at h2
  have HC := Lib.hid h3
  clear h3
  clear h
  go_enter Tryd.func52, Tryd.ntmps52
  go_wp2_with fail
  go_loopg [3, 4] L.length (fun g v3 v4 wr => ∃ k : Nat, v4 = .int .i64 k ∧ k ≤ L.length ∧ Only (fun _ => False) w wr ∧ RIRow wr w.heap.size v3 ((L.take k).map toId) ∧ g = L.length - k)
  case atStart => exact ⟨0, rfl, Nat.zero_le _, Only.refl _ _, World.ownsRow_nil _ _ _ _, rfl⟩
  case round =>
    obtain ⟨k, rfl, hk, ho, hrow, hg⟩ := hrel
    have Hg := Lib.hid hg
    have HO := Lib.hid ho
    have HROW := Lib.hid hrow
    clear hg ho hrow
    by_cases hlt : k < L.length
    · obtain ⟨b, off, he, hc⟩ := HC.out.at k hlt
      subst he
      have hcr : ∀ i u, (recC L[k])[i]? = some u → _ := fun i u hu => HO.out.cell (hc i u hu) id
      have HTS := Lib.hid (map_snoc L k hlt)
      have hll : ((L.take k).map toId).length ≤ k := by simp; omega
      have hlt' : (k : Int) < (L.length : Int) := by omega
      generalize (L.take k).map toId = D at *
      generalize L[k] = x at *
      obtain ⟨k1, v1, o1, a1, g1, d1⟩ := x
      have y0 := hcr 0 _ rfl
      have y1 := hcr 1 _ rfl
      simp only [Nat.add_zero] at y0
      simp only at y0 y1
      have HLL := Lib.hid hll
      clear hll
      clear hc hcr
      have hk0 : (0 : Int) ≤ (k : Int) := by omega
      go_wp2_with fail
      go_region_law (first
        | (refine step_append_src rfl (.tmp 11) (.tmp 23) 111 111 rfl w.heap.size 116 i0 _ 2 24 Tryd.underlying111 hi0 iz0 iz1 iz2 rfl u3 D.length (D.flatMap idT) rfl (owns_kept HROW.out ((Only.refl (fun _ => False) _).alloc _).drew (fun _ _ => id)) _ 1 (idT (k1, v1)) rfl (Src.ofSlice _ Tryd.underlying111 _ _ _ _ rfl (news_at (heapA _ _ _ rfl)) (idT_one _)) (by have := HLL.out; unfold maxLen; omega) (by have := HLL.out; omega) (by have := HO.out.size; simp; omega) ?_
           intro v5 w5 own5 gr5 hv5
           have ho5 : Only (fun _ => False) w w5 := (HO.out.alloc _).drew.grown gr5 (fun j e => .inl (hv5 j e))
           have HO5 := Lib.hid ho5; have HW5 := Lib.hid own5; clear ho5 own5 gr5 hv5))
      all_goals (
        go_wp2_with fail
        go_roundg (L.length - (k + 1))
        case measure => rw [Hg.out]; omega
        case rel =>
          refine ⟨k + 1, by go_num, by omega, HO5.out, ?_, rfl⟩
          unfold RIRow
          rw [HTS.out, List.length_append, List.flatMap_append, List.flatMap_singleton]
          exact HW5.out)
    · have hke : k = L.length := by omega
      have hlt' : ¬ (k : Int) < (L.length : Int) := by omega
      have hW := HROW.out
      rw [hke, List.take_length] at hW
      have HW2 := Lib.hid hW
      clear hW
      clear hke
      go_wp2_with fail
      go_ret
      exact ⟨_, rfl, HO.out, HW2.out⟩
theorem wantB_snoc (M I : List (ByteArray × Nat)) (k : Nat) (hk : k < I.length) : (I.take (k + 1)).filter (fun p => !toldB M p.1 p.2) = (I.take k).filter (fun p => !toldB M p.1 p.2) ++ if toldB M I[k].1 I[k].2 then [] else [I[k]] := by
  rw [List.take_add_one, List.getElem?_eq_getElem hk, List.filter_append]
  congr 1
  cases h : toldB M I[k].1 I[k].2 <;> simp [h]
set_option maxRecDepth 100000 in
set_option maxHeartbeats 2000000 in
theorem rwanted_any (w : World) (most ttl r : Int) (v : Value) (L : List RecT) (h : RSl w v L) (hL : L.length ≤ 1000000) (u : Value) (I : List (ByteArray × Nat)) (hu : ISl w u I) (hI : I.length ≤ 1000000) :
    Calls Tryd.prog 54 #[rstV most ttl v r, u] w fun e w' => ∃ v', e = .returned v' ∧ Only (fun _ => False) w w' ∧ RIRow w' w.heap.size v' (I.filter (fun p => !toldB (L.map toId) p.1 p.2)) := by
  obtain ⟨i0, hi0, iz0, iz1, iz2⟩ := info_parts infoRId
  obtain ⟨a, cap, rfl, h1, h2, _⟩ := Sl.cells recC_length h
  obtain ⟨b, cap2, rfl, k1, k2, k3⟩ := Sl.cells idT_length hu
  unfold maxLen at h2 k2
  unfold rstV
  obtain ⟨W, hW⟩ : ∃ W, W = w.alloc (.cells #[.int .i64 most, .int .i64 ttl, .slice a L.length cap, .int .i64 r] 95) := ⟨_, rfl⟩
  have hbW : W.heap[w.heap.size]? = some (.cells #[.int .i64 most, .int .i64 ttl, .slice a L.length cap, .int .i64 r] 95 (0, 0)) := by rw [hW]; exact heap_alloc_new w _
  have hoW : Only (fun _ => False) w W := by rw [hW]; exact (Only.refl _ _).alloc _
  have hsW : W.heap.size = w.heap.size + 1 := by rw [hW]; simp
  have hh := h.new hoW
  have HC := Lib.hid k3
  have HH := Lib.hid hh
  have HOW := Lib.hid hoW
  have HBW := Lib.hid hbW
  clear k3 hh hoW hbW
  clear h hu hsW
  go_enter Tryd.func54, Tryd.ntmps54
  go_upto_region 1 with (fail)
  rw [← hW]
  clear hW
  go_wp2_with fail
  go_loopg [5, 6] I.length (fun g v5 v6 wr => ∃ k : Nat, v6 = .int .i64 k ∧ k ≤ I.length ∧ Only (fun _ => False) W wr ∧ RIRow wr W.heap.size v5 ((I.take k).filter (fun p => !toldB (L.map toId) p.1 p.2)) ∧ g = I.length - k)
  case atStart => exact ⟨0, rfl, Nat.zero_le _, Only.refl _ _, World.ownsRow_nil _ _ _ _, rfl⟩
  case round =>
    obtain ⟨k, rfl, hk, ho, hrow, hg⟩ := hrel
    have Hg := Lib.hid hg
    have HO := Lib.hid ho
    have HROW := Lib.hid hrow
    clear hg ho hrow
    by_cases hlt : k < I.length
    · obtain ⟨lb, off, he, hc⟩ := HC.out.at k hlt
      subst he
      have HWS := Lib.hid (wantB_snoc (L.map toId) I k hlt)
      have hwl : ((I.take k).filter (fun p => !toldB (L.map toId) p.1 p.2)).length ≤ k := Nat.le_trans (List.length_filter_le _ _) (List.length_take_le _ _)
      have hlt' : (k : Int) < (I.length : Int) := by omega
      have hoX := HOW.out.trans HO.out
      have HHAS := Lib.hid (fun w v (h : ISl w v (L.map toId)) => rhas_any w v (L.map toId) h I[k].1 I[k].2)
      generalize (I.take k).filter (fun p => !toldB (L.map toId) p.1 p.2) = D at *
      generalize toldB (L.map toId) I[k].1 I[k].2 = q at *
      generalize I[k] = p at *
      obtain ⟨kx, vx⟩ := p
      have y0 := hoX.cell (hc 0 _ rfl) id
      have y1 := hoX.cell (hc 1 _ rfl) id
      simp only [Nat.add_zero] at y0
      have y2 : wr.cell? ⟨w.heap.size, 2, none⟩ = some (.slice a L.length cap) := cell_at (HO.out.old HBW.out id) 2
      have HIDS := Lib.hid (fun w' (h : Only (fun _ => False) wr w') => rids_any w' _ L ((HH.out.new HO.out).new h) hL)
      have HCC : ∀ w', Only (fun _ => False) wr w' → w'.cell? ⟨lb, off + k * 2, none⟩ = some (.string kx) ∧ w'.cell? ⟨lb, off + k * 2 + 1, none⟩ = some (.int .u64 vx) ∧ w'.cell? ⟨w.heap.size, 2, none⟩ = some (.slice a L.length cap) := fun w' h => ⟨h.cell y0 id, h.cell y1 id, h.cell y2 id⟩
      have HC0 := Lib.hid HCC
      have HWL := Lib.hid hwl
      clear HCC hwl
      clear hc hoX
      go_upto_region 5 with (fail)
      go_cut [27] (fun v27 wx => v27 = .bool (!q) ∧ Only (fun _ => False) wr wx)
      case first =>
        go_region_held3 (fun w' => Only (fun _ => False) wr w' ∧ w'.cell? ⟨lb, off + k * 2, none⟩ = some (.string kx) ∧ w'.cell? ⟨lb, off + k * 2 + 1, none⟩ = some (.int .u64 vx) ∧ w'.cell? ⟨w.heap.size, 2, none⟩ = some (.slice a L.length cap))
          ((go_split_ands; (refine heldO HC0.out ?_); (repeat (first | (with_reducible assumption) | (with_reducible exact Only.refl _ _) | (with_reducible refine Only.drew ?_) | (with_reducible refine Only.alloc ?_ _) | (with_reducible refine onlySet ?_ (by first | (with_reducible assumption) | omega) _) | (with_reducible refine Only.trans ?_ (by with_reducible assumption))))))
          (first
            | (go_at_call 52; (with_reducible refine (HIDS.out _ (by (repeat (first | (with_reducible assumption) | (with_reducible exact Only.refl _ _) | (with_reducible refine Only.drew ?_) | (with_reducible refine Only.alloc ?_ _) | (with_reducible refine onlySet ?_ (by first | (with_reducible assumption) | omega) _) | (with_reducible refine Only.trans ?_ (by with_reducible assumption)))))).mono ?_); rintro e w6 ⟨v6, rfl, ho6, hrow6⟩; have hsl6 := Sl.of_owns hrow6; have HSL6 := Lib.hid hsl6; clear hsl6 hrow6)
            | (go_at_call 88; (with_reducible refine (HHAS.out _ _ (Sl.new HSL6.out (by (repeat (first | (with_reducible assumption) | (with_reducible exact Only.refl _ _) | (with_reducible refine Only.drew ?_) | (with_reducible refine Only.alloc ?_ _) | (with_reducible refine onlySet ?_ (by first | (with_reducible assumption) | omega) _) | (with_reducible refine Only.trans ?_ (by with_reducible assumption))))))).mono ?_); rintro e w7 ⟨rfl, rfl⟩))
        all_goals
          go_split_ands
          go_wp2_with fail
          go_meet
          exact ⟨rfl, by (repeat (first | (with_reducible assumption) | (with_reducible exact Only.refl _ _) | (with_reducible refine Only.drew ?_) | (with_reducible refine Only.alloc ?_ _) | (with_reducible refine onlySet ?_ (by first | (with_reducible assumption) | omega) _) | (with_reducible refine Only.trans ?_ (by with_reducible assumption))))⟩
      case rest =>
      obtain ⟨rfl, hoz⟩ := hcut
      have hoA := HO.out.trans hoz
      have hrowA := owns_only HROW.out hoz (fun _ _ => id)
      have y0' := hoz.cell y0 id
      have y1' := hoz.cell y1 id
      have HOA := Lib.hid hoA
      have HRA := Lib.hid hrowA
      clear hoA hrowA
      clear hoz y0 y1 y2 HHAS HIDS
      cases q
      · go_wp2_with (at_builtin; refine Wait.mk ?_)
        refine Wait.go (wpList_append_src _ rfl (.tmp 28) (.tmp 33) 111 111 rfl W.heap.size 116 i0 _ 2 24 Tryd.underlying111 hi0 iz0 iz1 iz2 rfl _ D.length (D.flatMap idT) rfl (HRA.out.alloc _) _ 1 (idT (kx, vx)) rfl ?src4 ?m4 ?b4 ?base4 ?_)
        case src4 => exact Src.ofSlice _ Tryd.underlying111 _ _ _ _ rfl (news_new _ _ _) (idT_one _)
        case m4 => have := HWL.out; unfold maxLen; omega
        case b4 => have := HWL.out; omega
        case base4 => have := HOA.out.size; simp; omega
        intro v4 w6 own4 gr4 _
        have ho6 : Only (fun _ => False) W w6 := (HOA.out.alloc _).own (HRA.out.alloc _) (Nat.le_refl _) gr4
        have HO6 := Lib.hid ho6
        have HW6 := Lib.hid own4
        clear ho6 own4
        clear gr4 y0' y1'
        go_wp2_with fail
        go_roundg (I.length - (k + 1))
        case measure => rw [Hg.out]; omega
        case rel =>
          refine ⟨k + 1, by go_num, by omega, HO6.out, ?_, rfl⟩
          unfold RIRow
          rw [HWS.out, if_neg (by decide), List.length_append, List.flatMap_append, List.flatMap_singleton]
          exact HW6.out
      · clear y0' y1'
        go_wp2_with fail
        go_roundg (I.length - (k + 1))
        case measure => rw [Hg.out]; omega
        case rel =>
          refine ⟨k + 1, by go_num, by omega, HOA.out, ?_, rfl⟩
          rw [HWS.out, if_pos trivial, List.append_nil]
          exact HRA.out
    · have hke : k = I.length := by omega
      have hlt' : ¬ (k : Int) < (I.length : Int) := by omega
      have hW := HROW.out
      rw [hke, List.take_length] at hW
      have HW2 := Lib.hid hW
      clear hW
      clear hke
      go_wp2_with fail
      go_ret
      exact ⟨_, rfl, HOW.out.trans HO.out, ownsRow_base_a HW2.out HOW.out.size⟩
set_option maxRecDepth 100000 in
set_option maxHeartbeats 2000000 in
theorem rnewer_any (w : World) (most ttl r : Int) (v : Value) (L : List RecT) (h : RSl w v L) (hL : L.length ≤ 1000000) (u : Value) (I : List (ByteArray × Nat)) (hu : ISl w u I) :
    Calls Tryd.prog 56 #[rstV most ttl v r, u] w fun e w' => ∃ v', e = .returned v' ∧ Only (fun _ => False) w w' ∧ RRow w' w.heap.size v' (newerL L I) := by
  obtain ⟨i0, hi0, iz0, iz1, iz2⟩ := info_parts infoRRec
  obtain ⟨a, cap, rfl, h1, h2, h3⟩ := Sl.cells recC_length h
  unfold maxLen at h2
  unfold rstV
  obtain ⟨W, hW⟩ : ∃ W, W = w.alloc (.cells #[.int .i64 most, .int .i64 ttl, .slice a L.length cap, .int .i64 r] 95) := ⟨_, rfl⟩
  have hbW : W.heap[w.heap.size]? = some (.cells #[.int .i64 most, .int .i64 ttl, .slice a L.length cap, .int .i64 r] 95 (0, 0)) := by rw [hW]; exact heap_alloc_new w _
  have hoW : Only (fun _ => False) w W := by rw [hW]; exact (Only.refl _ _).alloc _
  have hsW : W.heap.size = w.heap.size + 1 := by rw [hW]; simp
  have hC := h3.new hoW (fun _ _ _ => id)
  have hu2 := Sl.new hu hoW
  have HC := Lib.hid hC
  have HU := Lib.hid hu2
  have HOW := Lib.hid hoW
  have HBW := Lib.hid hbW
  clear hC hu2 hoW hbW
  clear h h3 hu hsW
  go_enter Tryd.func56, Tryd.ntmps56
  go_upto_region 1 with (fail)
  rw [← hW]
  clear hW
  go_wp2_with fail
  go_loopg [5, 6] L.length (fun g v5 v6 wr => ∃ k : Nat, v6 = .int .i64 k ∧ k ≤ L.length ∧ Only (fun _ => False) W wr ∧ RRow wr W.heap.size v5 (newerL (L.take k) I) ∧ g = L.length - k)
  case atStart => exact ⟨0, rfl, Nat.zero_le _, Only.refl _ _, World.ownsRow_nil _ _ _ _, rfl⟩
  case round =>
    obtain ⟨k, rfl, hk, ho, hrow, hg⟩ := hrel
    have y2 : wr.cell? ⟨w.heap.size, 2, none⟩ = some (.slice a L.length cap) := cell_at (ho.old HBW.out id) 2
    have Hg := Lib.hid hg
    have HO := Lib.hid ho
    have HROW := Lib.hid hrow
    clear hg ho hrow
    by_cases hlt : k < L.length
    · obtain ⟨lb, off, he, hc⟩ := HC.out.at k hlt
      subst he
      have hcr : ∀ i u, (recC L[k])[i]? = some u → _ := fun i u hu => HO.out.cell (hc i u hu) id
      have HWS := Lib.hid (newer_snoc L I k hlt)
      have hwl : (newerL (L.take k) I).length ≤ k := Nat.le_trans (List.length_filter_le _ _) (List.length_take_le _ _)
      have hlt' : (k : Int) < (L.length : Int) := by omega
      have HHAS := Lib.hid (fun n => rhas_any (wr.drewN n) u I ((HU.out.new HO.out).new ((Only.refl _ _).drewN n)) L[k].key L[k].ver)
      generalize newerL (L.take k) I = D at *
      generalize toldB I L[k].key L[k].ver = q at *
      generalize L[k] = x at *
      obtain ⟨k1, v1, o1, a1, g1, d1⟩ := x
      have y0 := hcr 0 _ rfl
      have y1 := hcr 1 _ rfl
      simp only [Nat.add_zero] at y0
      simp only at y0 y1
      have HWL := Lib.hid hwl
      have HCR := Lib.hid hcr
      clear hwl hcr
      clear hc
      go_upto_region 5 with (fail)
      go_quiet ((go_at_call 88; exact quiet_id (HHAS.out _)))
      obtain ⟨w6, hw6⟩ : ∃ w6, w6 = wr.drewN nq := ⟨_, rfl⟩
      have ho6 : Only (fun _ => False) wr w6 := by rw [hw6]; exact (Only.refl _ _).drewN _
      rw [← hw6]
      have hoA := HO.out.trans ho6
      have hrowA := owns_only HROW.out ho6 (fun _ _ => id)
      have z2 := ho6.cell y2 id
      have z0 := ho6.cell y0 id
      have z1 := ho6.cell y1 id
      have z3 := ho6.cell (HCR.out 2 _ rfl) id
      have z4 := ho6.cell (HCR.out 3 _ rfl) id
      have z5 := ho6.cell (HCR.out 4 _ rfl) id
      have z6 := ho6.cell (HCR.out 5 _ rfl) id
      have HOA := Lib.hid hoA
      have HRA := Lib.hid hrowA
      clear hoA hrowA
      clear ho6 y0 y1 y2 hw6 HHAS
      simp only at z3 z4 z5 z6
      cases q
      · go_wp2_with (at_builtin; refine Wait.mk ?_)
        refine Wait.go (wpList_append_src _ rfl (.tmp 29) (.tmp 35) 82 82 rfl W.heap.size 35 i0 _ 6 64 Tryd.underlying82 hi0 iz0 iz1 iz2 rfl _ D.length (D.flatMap recC) rfl (HRA.out.alloc _) _ 1 (recC ⟨k1, v1, o1, a1, g1, d1⟩) rfl ?src4 ?m4 ?b4 ?base4 ?_)
        case src4 => exact Src.ofSlice _ Tryd.underlying82 _ _ _ _ rfl (news_new _ _ _) (recC_one _)
        case m4 => have := HWL.out; unfold maxLen; omega
        case b4 => have := HWL.out; omega
        case base4 => have := HOA.out.size; simp; omega
        intro v4 w7 own4 gr4 _
        have ho7 : Only (fun _ => False) W w7 := (HOA.out.alloc _).own (HRA.out.alloc _) (Nat.le_refl _) gr4
        have HO7 := Lib.hid ho7
        have HW7 := Lib.hid own4
        clear ho7 own4
        clear gr4 z0 z1 z2 z3 z4 z5 z6
        go_wp2_with fail
        go_roundg (L.length - (k + 1))
        case measure => rw [Hg.out]; omega
        case rel =>
          refine ⟨k + 1, by go_num, by omega, HO7.out, ?_, rfl⟩
          unfold RRow
          rw [HWS.out, if_neg (by decide), List.length_append, List.flatMap_append, List.flatMap_singleton]
          exact HW7.out
      · clear z0 z1 z2 z3 z4 z5 z6
        go_wp2_with fail
        go_roundg (L.length - (k + 1))
        case measure => rw [Hg.out]; omega
        case rel =>
          refine ⟨k + 1, by go_num, by omega, HOA.out, ?_, rfl⟩
          rw [HWS.out, if_pos trivial, List.append_nil]
          exact HRA.out
    · have hke : k = L.length := by omega
      have hlt' : ¬ (k : Int) < (L.length : Int) := by omega
      have hW := HROW.out
      rw [hke, List.take_length] at hW
      have HW2 := Lib.hid hW
      clear hW
      clear hke
      go_wp2_with fail
      go_ret
      exact ⟨_, rfl, HOW.out.trans HO.out, ownsRow_base_a HW2.out HOW.out.size⟩
set_option maxRecDepth 100000 in
set_option maxHeartbeats 2000000 in
theorem rsent_any (w : World) (ttl : Int) (ht0 : 0 ≤ ttl) (ht1 : ttl ≤ 65535) (v : Value) (L : List RecT) (h : RSl w v L) (hL : L.length ≤ 1000000) (hag : ∀ x ∈ L, 0 ≤ x.age ∧ x.age ≤ 65533) :
    Calls Tryd.prog 89 #[v, .int .i64 ttl] w fun e w' => ∃ v', e = .returned v' ∧ Only (fun _ => False) w w' ∧ RRow w' w.heap.size v' (rsentL ttl L) := by
  obtain ⟨i0, hi0, iz0, iz1, iz2⟩ := info_parts infoRRec
  obtain ⟨a, cap, rfl, h1, h2, h3⟩ := Sl.cells recC_length h
  unfold maxLen at h2
  have HC := Lib.hid h3
  have HAG := Lib.hid hag
  clear h3 hag
  clear h
  go_enter Tryd.func89, Tryd.ntmps89
  go_wp2_with fail
  go_loopg [5, 6] L.length (fun g v5 v6 wr => ∃ k : Nat, v6 = .int .i64 k ∧ k ≤ L.length ∧ Only (fun _ => False) w wr ∧ RRow wr w.heap.size v5 (rsentL ttl (L.take k)) ∧ g = L.length - k)
  case atStart => exact ⟨0, rfl, Nat.zero_le _, Only.refl _ _, World.ownsRow_nil _ _ _ _, rfl⟩
  case round =>
    obtain ⟨k, rfl, hk, ho, hrow, hg⟩ := hrel
    have Hg := Lib.hid hg
    have HO := Lib.hid ho
    have HROW := Lib.hid hrow
    clear hg ho hrow
    by_cases hlt : k < L.length
    · obtain ⟨lb, off, he, hc⟩ := HC.out.at k hlt
      subst he
      have hcr : ∀ i u, (recC L[k])[i]? = some u → _ := fun i u hu => HO.out.cell (hc i u hu) id
      have HWS := Lib.hid (rsent_snoc ttl L k hlt)
      have hwl : (rsentL ttl (L.take k)).length ≤ k := Nat.le_trans (rsent_len _ _) (List.length_take_le _ _)
      have hlt' : (k : Int) < (L.length : Int) := by omega
      obtain ⟨ha1, ha2⟩ := HAG.out L[k] (List.getElem_mem hlt)
      generalize rsentL ttl (L.take k) = D at *
      generalize L[k] = x at *
      obtain ⟨k1, v1, o1, a1, g1, d1⟩ := x
      simp only at ha1 ha2 HWS
      have y0 := hcr 0 _ rfl
      have y1 := hcr 1 _ rfl
      have y2 := hcr 2 _ rfl
      have y3 := hcr 3 _ rfl
      have y4 := hcr 4 _ rfl
      have y5 := hcr 5 _ rfl
      simp only [Nat.add_zero] at y0
      simp only at y0 y1 y2 y3 y4 y5
      have HWL := Lib.hid hwl
      clear hwl
      clear hc hcr
      obtain ⟨V, hV⟩ : ∃ V, V = wr.alloc (.cells #[.string k1, .int .u64 v1, .int .i64 o1, .int .i64 a1, .bool g1, .string d1] 35) := ⟨_, rfl⟩
      have hbV : V.heap[wr.heap.size]? = some (.cells #[.string k1, .int .u64 v1, .int .i64 o1, .int .i64 a1, .bool g1, .string d1] 35 (0, 0)) := by rw [hV]; exact heap_alloc_new wr _
      have hoV : Only (fun _ => False) wr V := by rw [hV]; exact (Only.refl _ _).alloc _
      have hsV : V.heap.size = wr.heap.size + 1 := by rw [hV]; simp
      have hoA := HO.out.trans hoV
      have hrowA := owns_only HROW.out hoV (fun _ _ => id)
      have HBV := Lib.hid hbV
      have HOA := Lib.hid hoA
      have HRA := Lib.hid hrowA
      clear hbV hoA hrowA
      clear hoV
      go_upto_region 6 with (fail)
      rw [← hV]
      clear hV y0 y1 y2 y3 y4 y5
      have z3 : V.cell? ⟨wr.heap.size, 3, none⟩ = some (.int .i64 a1) := cell_at HBV.out 3
      have zf : ∀ i, V.frozen? ⟨wr.heap.size, i, none⟩ = false := free_at HBV.out
      by_cases hc : a1 < ttl - 2
      · have HT := Lib.hid hc
        obtain ⟨V2, hV2⟩ : ∃ V2, V2 = V.setCell ⟨wr.heap.size, 3, none⟩ (.int .i64 (a1 + 2)) := ⟨_, rfl⟩
        have hb2 : V2.heap[wr.heap.size]? = some (.cells #[.string k1, .int .u64 v1, .int .i64 o1, .int .i64 (a1 + 2), .bool g1, .string d1] 35 (0, 0)) := by rw [hV2]; exact set_at HBV.out 3 _
        have ho2 : Only (fun i => i = wr.heap.size) V V2 := by rw [hV2]; exact (Only.refl _ _).setCell (S := fun i => i = wr.heap.size) (p := ⟨wr.heap.size, 3, none⟩) (.inr rfl) _
        have hrow2 := owns_kept HRA.out ho2 (fun i hi e => by
          have h9 := (HROW.out.lt i hi).2
          omega)
        have hoB : Only (fun _ => False) w V2 := HOA.out.tr ho2 (fun i hi e => by have := HO.out.size; omega)
        have HB2 := Lib.hid hb2
        have HR2 := Lib.hid hrow2
        have HOB := Lib.hid hoB
        clear hb2 hrow2 hoB
        clear ho2
        go_upto_region 8 with (fail)
        rw [← hV2]
        clear hV2 z3 zf
        have z0 : V2.cell? ⟨wr.heap.size, 0, none⟩ = some (.string k1) := cell_at HB2.out 0
        have z1 : V2.cell? ⟨wr.heap.size, 1, none⟩ = some (.int .u64 v1) := cell_at HB2.out 1
        have z2 : V2.cell? ⟨wr.heap.size, 2, none⟩ = some (.int .i64 o1) := cell_at HB2.out 2
        have z3 : V2.cell? ⟨wr.heap.size, 3, none⟩ = some (.int .i64 (a1 + 2)) := cell_at HB2.out 3
        have z4 : V2.cell? ⟨wr.heap.size, 4, none⟩ = some (.bool g1) := cell_at HB2.out 4
        have z5 : V2.cell? ⟨wr.heap.size, 5, none⟩ = some (.string d1) := cell_at HB2.out 5
        go_wp2_with (at_builtin; refine Wait.mk ?_)
        refine Wait.go (wpList_append_src _ rfl (.tmp 27) (.tmp 29) 82 82 rfl w.heap.size 35 i0 _ 6 64 Tryd.underlying82 hi0 iz0 iz1 iz2 rfl _ D.length (D.flatMap recC) rfl (HR2.out.alloc _) _ 1 (recC ⟨k1, v1, o1, a1 + 2, g1, d1⟩) rfl ?src4 ?m4 ?b4 ?base4 ?_)
        case src4 => exact Src.ofSlice _ Tryd.underlying82 _ _ _ _ rfl (news_new _ _ _) (recC_one _)
        case m4 => have := HWL.out; unfold maxLen; omega
        case b4 => have := HWL.out; omega
        case base4 => have := HOB.out.size; simp; omega
        intro v4 w7 own4 gr4 _
        have ho7 : Only (fun _ => False) w w7 := (HOB.out.alloc _).own (HR2.out.alloc _) (Nat.le_refl _) gr4
        have HO7 := Lib.hid ho7
        have HW7 := Lib.hid own4
        clear ho7 own4
        clear gr4 z0 z1 z2 z3 z4 z5
        go_wp2_with fail
        go_roundg (L.length - (k + 1))
        case measure => rw [Hg.out]; omega
        case rel =>
          refine ⟨k + 1, by go_num, by omega, HO7.out, ?_, rfl⟩
          unfold RRow
          rw [HWS.out, if_pos HT.out, List.length_append, List.flatMap_append, List.flatMap_singleton]
          exact HW7.out
      · have HT := Lib.hid hc
        have hc' : ttl - 2 ≤ a1 := by omega
        go_wp2_with fail
        go_roundg (L.length - (k + 1))
        case measure => rw [Hg.out]; omega
        case rel =>
          refine ⟨k + 1, by go_num, by omega, HOA.out, ?_, rfl⟩
          rw [HWS.out, if_neg (Int.not_lt.2 HT.out), List.append_nil]
          exact HRA.out
    · have hke : k = L.length := by omega
      have hlt' : ¬ (k : Int) < (L.length : Int) := by omega
      have hW := HROW.out
      rw [hke, List.take_length] at hW
      have HW2 := Lib.hid hW
      clear hW
      clear hke
      go_wp2_with fail
      go_ret
      exact ⟨_, rfl, HO.out, HW2.out⟩
end Go.Proofs.YtianboachknfmaaDoor
/-! bellhoplaw16: name, rec, told. -/
namespace Go.Proofs.YtianboachknfmaaDoor
open Go.Conc Go.RowKit Go.Maps

set_option maxRecDepth 100000 in
theorem name16_any (w : World) (n : Nat) (hn : n < 256) : Calls Tryd.prog 90 #[.int .u8 n] w fun e w' => e = .returned (.string (nameB (n % 4))) ∧ Only (fun _ => False) w w' := by
  have hb := and3_u8 n hn
  have h4 : n % 4 < 4 := Nat.mod_lt _ (by omega)
  generalize hq : n % 4 = q at *
  clear hq hn
  rcases (by omega : q = 0 ∨ q = 1 ∨ q = 2 ∨ q = 3) with rfl | rfl | rfl | rfl
  all_goals
    clear h4
    go_enter Tryd.func90, Tryd.ntmps90
    go_wp2_with fail
    go_ret
    exact ⟨rfl, (Only.refl _ _).alloc _⟩
structure RecA where
  org : Nat
  nm : Nat
  life : Nat
  cnt : Nat
  age : Nat
def recAC (a : RecA) : List Value := [.int .u8 a.org, .int .u8 a.nm, .int .u8 a.life, .int .u8 a.cnt, .int .u16 a.age]
theorem recAC_length (a : RecA) : (recAC a).length = 5 := rfl
def rowA (a : RecA) : Prop := a.org < 256 ∧ a.nm < 256 ∧ a.life < 256 ∧ a.cnt < 256 ∧ a.age < 65536
def data16 (g : Bool) : ByteArray := if g then ⟨#[]⟩ else dataS
def rec16 (a : RecA) : RecT := ⟨keyB (1 + (a.org % 4 : Nat)) (nameB (a.nm % 4)), (1 + a.life % 2) * 4294967296 + a.cnt, 1 + (a.org % 4 : Nat), (a.age % 120 : Nat), decide (a.cnt % 4 = 3), data16 (decide (a.cnt % 4 = 3))⟩
theorem nameB_size (n : Nat) : (nameB n).size ≤ 3 := by
  match n with
  | 0 => decide
  | 1 => decide
  | 2 => decide
  | n + 3 => exact Nat.le_refl 3
set_option maxRecDepth 100000 in
set_option maxHeartbeats 4000000 in
theorem rec16_any (w : World) (a : RecA) (h : rowA a) :
    Calls Tryd.prog 59 #[.agg #[.int .u8 a.org, .int .u8 a.nm, .int .u8 a.life, .int .u8 a.cnt, .int .u16 a.age]] w fun e w' => e = .returned (recT (rec16 a)) ∧ Only (fun _ => False) w w' := by
  obtain ⟨org, nm, life, cnt, age⟩ := a
  obtain ⟨h1, h2, h3, h4, h5⟩ := h
  unfold rec16 recT
  simp only at h1 h2 h3 h4 h5 ⊢
  have hb1 := and3_u8 org h1
  have hb2 := and1_u8 life h3
  have hb3 := and3_u8 cnt h4
  have HNM := Lib.hid (fun w => name16_any w nm h2)
  have hq4 : org % 4 < 4 := Nat.mod_lt _ (by omega)
  have hl2 : life % 2 < 2 := Nat.mod_lt _ (by omega)
  generalize org % 4 = q at *
  generalize life % 2 = lf at *
  have HKY := Lib.hid (fun w => rkey_any w (1 + (q : Int)) (nameB (nm % 4)) (by omega) (by omega) (Nat.le_trans (nameB_size _) (by omega)))
  generalize nameB (nm % 4) = N at *
  generalize keyB (1 + (q : Int)) N = K at *
  have hw1 : IntKind.u8.wrap (1 + (lf : Int)) = 1 + (lf : Int) := by
    rcases (by omega : lf = 0 ∨ lf = 1) with e | e <;> rw [e] <;> rfl
  have hver : IntKind.u64.wrap (IntKind.u64.wrap (IntKind.u64.wrap (1 + (lf : Int)) * 4294967296) + IntKind.u64.wrap (cnt : Int)) = (((1 + lf) * 4294967296 + cnt : Nat) : Int) := by
    show ((((1 + (lf : Int)) % 18446744073709551616) * 4294967296) % 18446744073709551616 + (cnt : Int) % 18446744073709551616) % 18446744073709551616 = _
    omega
  have HVER := Lib.hid hver
  have HAGE := Lib.hid (show ((age % 120 : Nat) : Int) = (age : Int) % 120 by omega)
  rw [HAGE.out]
  have hag2 : (IntKind.i64.wrap (age : Int)).tmod 120 = (age : Int) % 120 := by
    rw [IntWalk.i64_in _ (by omega), Int.tmod_eq_emod_of_nonneg (by omega)]
  have HAGE2 := Lib.hid hag2
  clear hag2
  generalize ((1 + lf) * 4294967296 + cnt) = VV at *
  obtain ⟨g, hg⟩ : ∃ g, decide (cnt % 4 = 3) = g := ⟨_, rfl⟩
  obtain ⟨dd, hdd⟩ : ∃ dd, data16 g = dd := ⟨_, rfl⟩
  rw [hg, hdd]
  have HB1 := Lib.hid hb1
  have HB2 := Lib.hid hb2
  have HB3 := Lib.hid hb3
  have HW1 := Lib.hid hw1
  have HG := Lib.hid hg
  have HDT := Lib.hid hdd
  clear hb1 hb2 hb3 hw1 hg hdd
  clear hver
  obtain ⟨W, hW⟩ : ∃ W, W = w.alloc (.cells #[.int .u8 org, .int .u8 nm, .int .u8 life, .int .u8 cnt, .int .u16 age] 126) := ⟨_, rfl⟩
  have hbW : W.heap[w.heap.size]? = some (.cells #[.int .u8 org, .int .u8 nm, .int .u8 life, .int .u8 cnt, .int .u16 age] 126 (0, 0)) := by rw [hW]; exact heap_alloc_new w _
  have hoW : Only (fun _ => False) w W := by rw [hW]; exact (Only.refl _ _).alloc _
  have hsW : W.heap.size = w.heap.size + 1 := by rw [hW]; simp
  obtain ⟨W1, hW1⟩ : ∃ W1, W1 = W.alloc (.cells #[.string ⟨#[]⟩, .int .u64 0, .int .i64 0, .int .i64 0, .bool false, .string ⟨#[]⟩] 35) := ⟨_, rfl⟩
  have hbW1 : W1.heap[W.heap.size]? = some (.cells #[.string ⟨#[]⟩, .int .u64 0, .int .i64 0, .int .i64 0, .bool false, .string ⟨#[]⟩] 35 (0, 0)) := by rw [hW1]; exact heap_alloc_new W _
  have hoW1 : Only (fun _ => False) W W1 := by rw [hW1]; exact (Only.refl _ _).alloc _
  have hsW1 : W1.heap.size = W.heap.size + 1 := by rw [hW1]; simp
  have hbX := hoW1.old hbW id
  have hoA := hoW.trans hoW1
  rw [hsW] at hbW1
  have x0 : W1.cell? ⟨w.heap.size, 0, none⟩ = some (.int .u8 org) := cell_at hbX 0
  have x1 : W1.cell? ⟨w.heap.size, 1, none⟩ = some (.int .u8 nm) := cell_at hbX 1
  have x2 : W1.cell? ⟨w.heap.size, 2, none⟩ = some (.int .u8 life) := cell_at hbX 2
  have x3 : W1.cell? ⟨w.heap.size, 3, none⟩ = some (.int .u8 cnt) := cell_at hbX 3
  have x4 : W1.cell? ⟨w.heap.size, 4, none⟩ = some (.int .u16 age) := cell_at hbX 4
  have hsz : W1.heap.size = w.heap.size + 2 := by omega
  have HBX := Lib.hid hbX
  have HBR := Lib.hid hbW1
  have HOA := Lib.hid hoA
  have HSZ := Lib.hid hsz
  clear hbX hbW1 hoA hsz
  go_enter Tryd.func59, Tryd.ntmps59
  go_upto_region 1 with (fail)
  rw [← hW, ← hW1]
  clear hW hW1 hoW hoW1 hsW hsW1 hbW
  generalize hX : w.heap.size = X at *
  have HXW := Lib.hid hX
  clear hX
  have hb1 := HB1.out
  go_upto_region 2 with (fail)
  clear hb1
  have HCC : ∀ w', Only (fun _ => False) W1 w' → w'.cell? ⟨X, 1, none⟩ = some (.int .u8 nm) ∧ w'.cell? ⟨X, 2, none⟩ = some (.int .u8 life) ∧ w'.cell? ⟨X, 3, none⟩ = some (.int .u8 cnt) ∧ w'.cell? ⟨X, 4, none⟩ = some (.int .u16 age) := fun w' h => ⟨h.cell x1 id, h.cell x2 id, h.cell x3 id, h.cell x4 id⟩
  have HC0 := Lib.hid HCC
  clear HCC
  have hag : (age : Int) < 65536 := by omega
  go_cut [4] (fun v4 wx => ∃ B, v4 = .pointer (some ⟨B, 0, none⟩) ∧ wx.heap[B]? = some (.cells #[.string K, .int .u64 VV, .int .i64 (1 + (q : Int)), .int .i64 ((age : Int) % 120), .bool false, .string ⟨#[97, 98, 99, 100, 101, 102, 103, 104, 105, 106]⟩] 35 (0, 0)) ∧ Only (fun _ => False) W1 wx ∧ W1.heap.size ≤ B)
  case first =>
    have hb2 := HB2.out
    have hw1 := HW1.out
    go_region_held3 (fun w' => Only (fun _ => False) W1 w' ∧ w'.cell? ⟨X, 1, none⟩ = some (.int .u8 nm) ∧ w'.cell? ⟨X, 2, none⟩ = some (.int .u8 life) ∧ w'.cell? ⟨X, 3, none⟩ = some (.int .u8 cnt) ∧ w'.cell? ⟨X, 4, none⟩ = some (.int .u16 age))
      ((go_split_ands; (refine heldO HC0.out ?_); (repeat (first | (with_reducible assumption) | (with_reducible exact Only.refl _ _) | (with_reducible refine Only.drew ?_) | (with_reducible refine Only.alloc ?_ _) | (with_reducible refine onlySet ?_ (by first | (with_reducible assumption) | omega) _) | (with_reducible refine Only.trans ?_ (by with_reducible assumption))))))
      (first
        | (go_at_call 90; (with_reducible refine (HNM.out _).mono ?_); rintro e w2 ⟨rfl, ho2⟩; have hz2 : W1.heap.size ≤ w2.heap.size := (by have h7 := Only.size ho2; first | exact h7 | (simp at h7; omega)); (try (have ha2 : w2.heap[W1.heap.size]? = some (.cells #[.string ⟨#[]⟩, .int .u64 0, .int .i64 0, .int .i64 0, .bool false, .string ⟨#[]⟩] 35 (0, 0)) := Only.old ho2 (heap_alloc_new W1 _) id)))
        | (go_at_call 66; (with_reducible refine (HKY.out _).mono ?_); rintro e w3 ⟨rfl, ho3⟩; have hz3 : W1.heap.size ≤ w3.heap.size := (by have h7 := Only.size ho3; first | exact Nat.le_trans hz2 h7 | (simp at h7; omega)); (try (have ha3 : w3.heap[w2.heap.size]? = some (.cells #[.string ⟨#[]⟩, .int .u64 0, .int .i64 0, .int .i64 0, .bool false, .string ⟨#[]⟩] 35 (0, 0)) := Only.old ho3 (heap_alloc_new w2 _) id; have q0 := cell_at ha3 0; have q1 := cell_at ha3 1; have q2 := cell_at ha3 2; have q3 := cell_at ha3 3; have q4 := cell_at ha3 4; have q5 := cell_at ha3 5; have qf := free_at ha3; have ql := lt_of_block ha3)); (try (have ha4 : w3.heap[W1.heap.size]? = some (.cells #[.string ⟨#[]⟩, .int .u64 0, .int .i64 0, .int .i64 0, .bool false, .string ⟨#[]⟩] 35 (0, 0)) := Only.old ho3 ha2 id; have r0 := cell_at ha4 0; have r1 := cell_at ha4 1; have r2 := cell_at ha4 2; have r3 := cell_at ha4 3; have r4 := cell_at ha4 4; have r5 := cell_at ha4 5; have rf := free_at ha4; have rl := lt_of_block ha4))))
    all_goals
      go_split_ands
      go_wp2_with fail
      go_meet
      refine ⟨_, rfl, ?_, ?_, ?_⟩
      · rw [← HVER.out, ← HAGE2.out]
        (apply Eq.trans; (case h₁ => repeat (first | (with_reducible assumption) | (with_reducible exact heap_alloc_new _ _) | (with_reducible apply blk_new; (repeat (first | (with_reducible rfl) | (with_reducible apply sz_set) | (with_reducible apply sz_alloc) | (with_reducible apply sz_drew))); done) | (with_reducible apply blk_same) | (with_reducible apply blk_ne; case hn => (first | assumption | omega)) | (with_reducible apply blk_old) | (with_reducible apply blk_drew))); (case h₂ => rfl))
      · (repeat (first | (with_reducible assumption) | (with_reducible exact Only.refl _ _) | (with_reducible refine Only.drew ?_) | (with_reducible refine Only.alloc ?_ _) | (with_reducible refine onlySet ?_ (by first | (with_reducible assumption) | omega) _) | (with_reducible refine Only.trans ?_ (by with_reducible assumption))))
      · first
          | with_reducible assumption
          | exact Nat.le_refl _
  case rest =>
  obtain ⟨B, rfl, hB, hoB, hBs⟩ := hcut
  have hR := hoB.old HBR.out id
  have hbx := hoB.old HBX.out id
  have hoC := HOA.out.trans hoB
  have x3' : wc.cell? ⟨X, 3, none⟩ = some (.int .u8 cnt) := cell_at hbx 3
  have hn : ¬ B = X + 1 := by have := HSZ.out; have := HXW.out; omega
  have hbw : w.heap.size ≤ B ∧ w.heap.size ≤ X + 1 := by have := HSZ.out; have := HXW.out; omega
  clear x0 x1 x2 x3 x4
  have hb3 := HB3.out
  have HBB := Lib.hid hB
  have HRR := Lib.hid hR
  have HOC := Lib.hid hoC
  have HBW := Lib.hid hbw
  clear hB hR hoC hbw
  clear hoB hbx
  by_cases h3 : cnt % 4 = 3
  · have e3 : ((cnt % 4 : Nat) : Int) = 3 := by omega
    have HGG := Lib.hid (show g = true by rw [← HG.out]; exact decide_eq_true h3)
    have HDD := Lib.hid (show dd = ⟨#[]⟩ by rw [← HDT.out, HGG.out]; rfl)
    rw [e3] at hb3
    clear e3 h3
    have bf : ∀ i, wc.frozen? ⟨B, i, none⟩ = false := free_at HBB.out
    have y0 : wc.cell? ⟨B, 0, none⟩ = some (.string K) := cell_at HBB.out 0
    have y1 : wc.cell? ⟨B, 1, none⟩ = some (.int .u64 VV) := cell_at HBB.out 1
    have y2 : wc.cell? ⟨B, 2, none⟩ = some (.int .i64 (1 + (q : Int))) := cell_at HBB.out 2
    have y3 : wc.cell? ⟨B, 3, none⟩ = some (.int .i64 ((age : Int) % 120)) := cell_at HBB.out 3
    have y4 : wc.cell? ⟨B, 4, none⟩ = some (.bool false) := cell_at HBB.out 4
    have y5 : wc.cell? ⟨B, 5, none⟩ = some (.string ⟨#[97, 98, 99, 100, 101, 102, 103, 104, 105, 106]⟩) := cell_at HBB.out 5
    obtain ⟨W5, hW5⟩ : ∃ W5, W5 = (wc.setCell ⟨B, 4, none⟩ (.bool true)).setCell ⟨B, 5, none⟩ (.string ⟨#[]⟩) := ⟨_, rfl⟩
    have ho5 : Only (fun i => i = B) wc W5 := by rw [hW5]; exact ((Only.refl _ _).setCell (S := fun i => i = B) (p := ⟨B, 4, none⟩) (.inr rfl) _).setCell (S := fun i => i = B) (p := ⟨B, 5, none⟩) (.inr rfl) _
    have hb5 : W5.heap[B]? = some (.cells #[.string K, .int .u64 VV, .int .i64 (1 + (q : Int)), .int .i64 ((age : Int) % 120), .bool true, .string ⟨#[]⟩] 35 (0, 0)) := by rw [hW5]; exact set_at (set_at HBB.out 4 _) 5 _
    have hr5 := ho5.old HRR.out (fun e => hn e.symm)
    have HB5 := Lib.hid hb5
    have HR5 := Lib.hid hr5
    have HO5 := Lib.hid ho5
    clear hb5 hr5 ho5
    go_upto_region 5 with (fail)
    rw [← hW5]
    clear hW5 y0 y1 y2 y3 y4 y5 bf
    have y0 : W5.cell? ⟨B, 0, none⟩ = some (.string K) := cell_at HB5.out 0
    have y1 : W5.cell? ⟨B, 1, none⟩ = some (.int .u64 VV) := cell_at HB5.out 1
    have y2 : W5.cell? ⟨B, 2, none⟩ = some (.int .i64 (1 + (q : Int))) := cell_at HB5.out 2
    have y3 : W5.cell? ⟨B, 3, none⟩ = some (.int .i64 ((age : Int) % 120)) := cell_at HB5.out 3
    have y4 : W5.cell? ⟨B, 4, none⟩ = some (.bool true) := cell_at HB5.out 4
    have y5 : W5.cell? ⟨B, 5, none⟩ = some (.string ⟨#[]⟩) := cell_at HB5.out 5
    have z0 : W5.cell? ⟨(X + 1), 0, none⟩ = some (.string ⟨#[]⟩) := cell_at HR5.out 0
    have z1 : W5.cell? ⟨(X + 1), 1, none⟩ = some (.int .u64 0) := cell_at HR5.out 1
    have z2 : W5.cell? ⟨(X + 1), 2, none⟩ = some (.int .i64 0) := cell_at HR5.out 2
    have z3 : W5.cell? ⟨(X + 1), 3, none⟩ = some (.int .i64 0) := cell_at HR5.out 3
    have z4 : W5.cell? ⟨(X + 1), 4, none⟩ = some (.bool false) := cell_at HR5.out 4
    have z5 : W5.cell? ⟨(X + 1), 5, none⟩ = some (.string ⟨#[]⟩) := cell_at HR5.out 5
    have zf : ∀ i, W5.frozen? ⟨X + 1, i, none⟩ = false := free_at HR5.out
    go_wp2_with fail
    obtain ⟨s1, s2⟩ := six_set HR5.out (.string K) (.int .u64 VV) (.int .i64 (1 + (q : Int))) (.int .i64 ((age : Int) % 120)) (.bool true) (.string ⟨#[]⟩)
    generalize ((((((W5.setCell ⟨(X + 1), 0, none⟩ (.string K)).setCell ⟨(X + 1), 1, none⟩ (.int .u64 VV)).setCell ⟨(X + 1), 2, none⟩ (.int .i64 (1 + (q : Int)))).setCell ⟨(X + 1), 3, none⟩ (.int .i64 ((age : Int) % 120))).setCell ⟨(X + 1), 4, none⟩ (.bool true)).setCell ⟨(X + 1), 5, none⟩ (.string ⟨#[]⟩)) = wz at *
    have p0 : wz.cell? ⟨(X + 1), 0, none⟩ = some (.string K) := cell_at s1 0
    have p1 : wz.cell? ⟨(X + 1), 1, none⟩ = some (.int .u64 VV) := cell_at s1 1
    have p2 : wz.cell? ⟨(X + 1), 2, none⟩ = some (.int .i64 (1 + (q : Int))) := cell_at s1 2
    have p3 : wz.cell? ⟨(X + 1), 3, none⟩ = some (.int .i64 ((age : Int) % 120)) := cell_at s1 3
    have p4 : wz.cell? ⟨(X + 1), 4, none⟩ = some (.bool true) := cell_at s1 4
    have p5 : wz.cell? ⟨(X + 1), 5, none⟩ = some (.string ⟨#[]⟩) := cell_at s1 5
    refine bodyPost_ret (v := .agg #[.string K, .int .u64 VV, .int .i64 (1 + (q : Int)), .int .i64 ((age : Int) % 120), .bool true, .string ⟨#[]⟩]) (by simp [results, Tryd.results59, go_sem, p0, p1, p2, p3, p4, p5]) rfl ?_
    exact ⟨by rw [HGG.out, HDD.out], (HOC.out.tr HO5.out (fun i hi e => by have := HBW.out; omega)).tr s2 (fun i hi e => by have := HBW.out; omega)⟩
  · have e3 : (((cnt % 4 : Nat) : Int) == 3) = false := by simp; omega
    have HGG := Lib.hid (show g = false by rw [← HG.out]; exact decide_eq_false h3)
    have HDD := Lib.hid (show dd = ⟨#[97, 98, 99, 100, 101, 102, 103, 104, 105, 106]⟩ by rw [← HDT.out, HGG.out]; rfl)
    generalize ((cnt % 4 : Nat) : Int) = c4 at *
    clear h3
    go_upto_region 5 with (fail)
    have y0 : wc.cell? ⟨B, 0, none⟩ = some (.string K) := cell_at HBB.out 0
    have y1 : wc.cell? ⟨B, 1, none⟩ = some (.int .u64 VV) := cell_at HBB.out 1
    have y2 : wc.cell? ⟨B, 2, none⟩ = some (.int .i64 (1 + (q : Int))) := cell_at HBB.out 2
    have y3 : wc.cell? ⟨B, 3, none⟩ = some (.int .i64 ((age : Int) % 120)) := cell_at HBB.out 3
    have y4 : wc.cell? ⟨B, 4, none⟩ = some (.bool false) := cell_at HBB.out 4
    have y5 : wc.cell? ⟨B, 5, none⟩ = some (.string ⟨#[97, 98, 99, 100, 101, 102, 103, 104, 105, 106]⟩) := cell_at HBB.out 5
    have z0 : wc.cell? ⟨(X + 1), 0, none⟩ = some (.string ⟨#[]⟩) := cell_at HRR.out 0
    have z1 : wc.cell? ⟨(X + 1), 1, none⟩ = some (.int .u64 0) := cell_at HRR.out 1
    have z2 : wc.cell? ⟨(X + 1), 2, none⟩ = some (.int .i64 0) := cell_at HRR.out 2
    have z3 : wc.cell? ⟨(X + 1), 3, none⟩ = some (.int .i64 0) := cell_at HRR.out 3
    have z4 : wc.cell? ⟨(X + 1), 4, none⟩ = some (.bool false) := cell_at HRR.out 4
    have z5 : wc.cell? ⟨(X + 1), 5, none⟩ = some (.string ⟨#[]⟩) := cell_at HRR.out 5
    have zf : ∀ i, wc.frozen? ⟨X + 1, i, none⟩ = false := free_at HRR.out
    clear x3'
    go_wp2_with fail
    obtain ⟨s1, s2⟩ := six_set HRR.out (.string K) (.int .u64 VV) (.int .i64 (1 + (q : Int))) (.int .i64 ((age : Int) % 120)) (.bool false) (.string ⟨#[97, 98, 99, 100, 101, 102, 103, 104, 105, 106]⟩)
    generalize ((((((wc.setCell ⟨(X + 1), 0, none⟩ (.string K)).setCell ⟨(X + 1), 1, none⟩ (.int .u64 VV)).setCell ⟨(X + 1), 2, none⟩ (.int .i64 (1 + (q : Int)))).setCell ⟨(X + 1), 3, none⟩ (.int .i64 ((age : Int) % 120))).setCell ⟨(X + 1), 4, none⟩ (.bool false)).setCell ⟨(X + 1), 5, none⟩ (.string ⟨#[97, 98, 99, 100, 101, 102, 103, 104, 105, 106]⟩)) = wz at *
    have p0 : wz.cell? ⟨(X + 1), 0, none⟩ = some (.string K) := cell_at s1 0
    have p1 : wz.cell? ⟨(X + 1), 1, none⟩ = some (.int .u64 VV) := cell_at s1 1
    have p2 : wz.cell? ⟨(X + 1), 2, none⟩ = some (.int .i64 (1 + (q : Int))) := cell_at s1 2
    have p3 : wz.cell? ⟨(X + 1), 3, none⟩ = some (.int .i64 ((age : Int) % 120)) := cell_at s1 3
    have p4 : wz.cell? ⟨(X + 1), 4, none⟩ = some (.bool false) := cell_at s1 4
    have p5 : wz.cell? ⟨(X + 1), 5, none⟩ = some (.string ⟨#[97, 98, 99, 100, 101, 102, 103, 104, 105, 106]⟩) := cell_at s1 5
    refine bodyPost_ret (v := .agg #[.string K, .int .u64 VV, .int .i64 (1 + (q : Int)), .int .i64 ((age : Int) % 120), .bool false, .string ⟨#[97, 98, 99, 100, 101, 102, 103, 104, 105, 106]⟩]) (by simp [results, Tryd.results59, go_sem, p0, p1, p2, p3, p4, p5]) rfl ?_
    exact ⟨by rw [HGG.out, HDD.out], HOC.out.tr s2 (fun i hi e => by have := HBW.out; omega)⟩
set_option maxRecDepth 100000 in
theorem told16_any (w : World) (x : RecT) : Calls Tryd.prog 60 #[recT x] w fun e w' => e = .returned (recT x) ∧ Only (fun _ => False) w w' := by
  obtain ⟨k1, v1, o1, a1, g1, d1⟩ := x
  unfold recT
  simp only
  obtain ⟨W, hW⟩ : ∃ W, W = w.alloc (.cells #[.string k1, .int .u64 v1, .int .i64 o1, .int .i64 a1, .bool g1, .string d1] 35) := ⟨_, rfl⟩
  have hbW : W.heap[w.heap.size]? = some (.cells #[.string k1, .int .u64 v1, .int .i64 o1, .int .i64 a1, .bool g1, .string d1] 35 (0, 0)) := by rw [hW]; exact heap_alloc_new w _
  have hoW : Only (fun _ => False) w W := by rw [hW]; exact (Only.refl _ _).alloc _
  have hsW : W.heap.size = w.heap.size + 1 := by rw [hW]; simp
  obtain ⟨W1, hW1⟩ : ∃ W1, W1 = W.alloc (.cells #[.string ⟨#[]⟩, .int .u64 0, .int .i64 0, .int .i64 0, .bool false, .string ⟨#[]⟩] 33) := ⟨_, rfl⟩
  have hbW1 : W1.heap[W.heap.size]? = some (.cells #[.string ⟨#[]⟩, .int .u64 0, .int .i64 0, .int .i64 0, .bool false, .string ⟨#[]⟩] 33 (0, 0)) := by rw [hW1]; exact heap_alloc_new W _
  have hoW1 : Only (fun _ => False) W W1 := by rw [hW1]; exact (Only.refl _ _).alloc _
  have hsW1 : W1.heap.size = W.heap.size + 1 := by rw [hW1]; simp
  have hbX := hoW1.old hbW id
  have hoA := hoW.trans hoW1
  rw [hsW] at hbW1
  have HBX := Lib.hid hbX
  have HBR := Lib.hid hbW1
  have HOA := Lib.hid hoA
  clear hbX hbW1 hoA
  go_enter Tryd.func60, Tryd.ntmps60
  go_upto_region 1 with (fail)
  rw [← hW, ← hW1]
  clear hW hW1 hoW hoW1 hsW hsW1 hbW
  have x0 : W1.cell? ⟨w.heap.size, 0, none⟩ = some (.string k1) := cell_at HBX.out 0
  have x1 : W1.cell? ⟨w.heap.size, 1, none⟩ = some (.int .u64 v1) := cell_at HBX.out 1
  have x2 : W1.cell? ⟨w.heap.size, 2, none⟩ = some (.int .i64 o1) := cell_at HBX.out 2
  have x3 : W1.cell? ⟨w.heap.size, 3, none⟩ = some (.int .i64 a1) := cell_at HBX.out 3
  have x4 : W1.cell? ⟨w.heap.size, 4, none⟩ = some (.bool g1) := cell_at HBX.out 4
  have x5 : W1.cell? ⟨w.heap.size, 5, none⟩ = some (.string d1) := cell_at HBX.out 5
  have z0 : W1.cell? ⟨(w.heap.size + 1), 0, none⟩ = some (.string ⟨#[]⟩) := cell_at HBR.out 0
  have z1 : W1.cell? ⟨(w.heap.size + 1), 1, none⟩ = some (.int .u64 0) := cell_at HBR.out 1
  have z2 : W1.cell? ⟨(w.heap.size + 1), 2, none⟩ = some (.int .i64 0) := cell_at HBR.out 2
  have z3 : W1.cell? ⟨(w.heap.size + 1), 3, none⟩ = some (.int .i64 0) := cell_at HBR.out 3
  have z4 : W1.cell? ⟨(w.heap.size + 1), 4, none⟩ = some (.bool false) := cell_at HBR.out 4
  have z5 : W1.cell? ⟨(w.heap.size + 1), 5, none⟩ = some (.string ⟨#[]⟩) := cell_at HBR.out 5
  have zf : ∀ i, W1.frozen? ⟨w.heap.size + 1, i, none⟩ = false := free_at HBR.out
  go_wp2_with fail
  obtain ⟨s1, s2⟩ := six_set HBR.out (.string k1) (.int .u64 v1) (.int .i64 o1) (.int .i64 a1) (.bool g1) (.string d1)
  generalize ((((((W1.setCell ⟨(w.heap.size + 1), 0, none⟩ (.string k1)).setCell ⟨(w.heap.size + 1), 1, none⟩ (.int .u64 v1)).setCell ⟨(w.heap.size + 1), 2, none⟩ (.int .i64 o1)).setCell ⟨(w.heap.size + 1), 3, none⟩ (.int .i64 a1)).setCell ⟨(w.heap.size + 1), 4, none⟩ (.bool g1)).setCell ⟨(w.heap.size + 1), 5, none⟩ (.string d1)) = wz at *
  have p0 : wz.cell? ⟨(w.heap.size + 1), 0, none⟩ = some (.string k1) := cell_at s1 0
  have p1 : wz.cell? ⟨(w.heap.size + 1), 1, none⟩ = some (.int .u64 v1) := cell_at s1 1
  have p2 : wz.cell? ⟨(w.heap.size + 1), 2, none⟩ = some (.int .i64 o1) := cell_at s1 2
  have p3 : wz.cell? ⟨(w.heap.size + 1), 3, none⟩ = some (.int .i64 a1) := cell_at s1 3
  have p4 : wz.cell? ⟨(w.heap.size + 1), 4, none⟩ = some (.bool g1) := cell_at s1 4
  have p5 : wz.cell? ⟨(w.heap.size + 1), 5, none⟩ = some (.string d1) := cell_at s1 5
  refine bodyPost_ret (v := .agg #[.string k1, .int .u64 v1, .int .i64 o1, .int .i64 a1, .bool g1, .string d1]) (by simp [results, Tryd.results60, go_sem, p0, p1, p2, p3, p4, p5]) rfl ?_
  exact ⟨rfl, HOA.out.tr s2 (fun i hi e => by omega)⟩
end Go.Proofs.YtianboachknfmaaDoor
/-! bellhopref16.Given; bellhoplaw16.ids. -/
namespace Go.Proofs.YtianboachknfmaaDoor
open Go.Conc Go.RowKit Go.Maps

theorem owns_gr {w w' : World} {base base' : Nat} {e e' : TypeId} {size n size' n' : Nat} {v v' : Value} {xs xs' : List Value} (h : w.ownsRow base e size v n xs) (hr : w.ownsRow base' e' size' v' n' xs') (he : e ≠ e') (gr : w.grownBy w' v'.ownBlock) : w'.ownsRow base e size v n xs := h.kept gr (own_type h hr he)
theorem blk_gr {w w' : World} {base' : Nat} {e e' : TypeId} {size' n' g : Nat} {v' : Value} {xs' : List Value} {cs : Array Value} {f : Nat × Nat} (h : w.heap[g]? = some (.cells cs e f)) (hr : w.ownsRow base' e' size' v' n' xs') (he : e ≠ e') (gr : w.grownBy w' v'.ownBlock) : w'.heap[g]? = some (.cells cs e f) := by
  rw [gr.block g (lt_of_block h) (fun hg => ?_)]
  · exact h
  · rcases hr.2 with ⟨rfl, _⟩ | ⟨g', cap', cur', rfl, _, hg', _⟩
    · cases hg
    · cases hg
      rw [h] at hg'
      injection hg' with hg'
      injection hg' with _ h2 _
      exact he h2
set_option maxRecDepth 100000 in
set_option maxHeartbeats 4000000 in
theorem rgiven_any (w : World) (most ttl r : Int) (v : Value) (L : List RecT) (h : RSl w v L) (u : Value) (I : List (ByteArray × Nat)) (hu : ISl w u I) (hI : I.length ≤ 1000000) :
    Calls Tryd.prog 58 #[rstV most ttl v r, u] w fun e w' => ∃ v', e = .returned v' ∧ Only (fun _ => False) w w' ∧ RRow w' w.heap.size v' (giveL L I) := by
  obtain ⟨i0, hi0, iz0, iz1, iz2⟩ := info_parts infoRRec
  obtain ⟨a, cap, rfl, h1, h2, h3⟩ := Sl.cells recC_length h
  obtain ⟨b, cap2, rfl, k1, k2, k3⟩ := Sl.cells idT_length hu
  unfold maxLen at h2 k2
  unfold rstV
  obtain ⟨W, hW⟩ : ∃ W, W = w.alloc (.cells #[.int .i64 most, .int .i64 ttl, .slice a L.length cap, .int .i64 r] 95) := ⟨_, rfl⟩
  have hbW : W.heap[w.heap.size]? = some (.cells #[.int .i64 most, .int .i64 ttl, .slice a L.length cap, .int .i64 r] 95 (0, 0)) := by rw [hW]; exact heap_alloc_new w _
  have hoW : Only (fun _ => False) w W := by rw [hW]; exact (Only.refl _ _).alloc _
  have hsW : W.heap.size = w.heap.size + 1 := by rw [hW]; simp
  have hh := h.new hoW
  have hC := h3.new hoW (fun _ _ _ => id)
  have hD := k3.new hoW (fun _ _ _ => id)
  have HC := Lib.hid hC
  have HD := Lib.hid hD
  have HH := Lib.hid hh
  have HOW := Lib.hid hoW
  have HBW := Lib.hid hbW
  clear hC hD hh hoW hbW
  clear h h3 k3 hu hsW
  go_enter Tryd.func58, Tryd.ntmps58
  go_upto_region 1 with (fail)
  rw [← hW]
  clear hW
  go_wp2_with fail
  go_loopg [5, 6] I.length (fun g v5 v6 wr => ∃ k : Nat, v6 = .int .i64 k ∧ k ≤ I.length ∧ Only (fun _ => False) W wr ∧ RRow wr W.heap.size v5 (giveL L (I.take k)) ∧ g = I.length - k)
  case atStart => exact ⟨0, rfl, Nat.zero_le _, Only.refl _ _, World.ownsRow_nil _ _ _ _, rfl⟩
  case round =>
    obtain ⟨k, rfl, hk, ho, hrow, hg⟩ := hrel
    have Hg := Lib.hid hg
    have HO := Lib.hid ho
    have HROW := Lib.hid hrow
    clear hg ho hrow
    by_cases hlt : k < I.length
    · have hlt' : (k : Int) < (I.length : Int) := by omega
      obtain ⟨lb, off, he, hd⟩ := HD.out.once (by omega)
      subst he
      have HDD := Lib.hid hd
      have HGS := Lib.hid (give_snoc L I k hlt)
      have hgl : (giveL L (I.take k)).length ≤ k := Nat.le_trans (give_mem L _ []).1 (List.length_take_le _ _)
      have hgk : ∀ i u, (idT I[k])[i]? = some u → _ := fun i u hu => HO.out.cell (hd k hlt i u hu) id
      have HMS0 := Lib.hid (fun j hj => metB_snoc I I[k].1 j hj)
      have hM0 : metB (I.take 0) I[k].1 = false := rfl
      generalize giveL L (I.take k) = D at *
      generalize hkx : I[k].1 = kx at *
      have z0 : wr.cell? ⟨lb, off + k * 2, none⟩ = some (.string kx) := by rw [← hkx]; exact hgk 0 _ rfl
      have HGL := Lib.hid hgl
      have HZ0 := Lib.hid z0
      have HM0 := Lib.hid hM0
      clear hgl z0 hM0
      clear hd hgk hkx
      go_upto_block 2 with fail
      generalize wr = w0 at *
      go_cut [7] (fun v7 wx => v7 = .bool (!metB (I.take k) kx) ∧ Only (fun _ => False) w0 wx)
      case first =>
        go_wp2_with fail
        go_loopg [7, 8] k (fun g v7 v8 wi => ∃ (j : Nat) (q : Bool), v8 = .int .i64 j ∧ v7 = .bool q ∧ j ≤ k ∧ Only (fun _ => False) w0 wi ∧ metB (I.take j) kx = !q ∧ g = k - j)
        case atStart => exact ⟨0, true, rfl, rfl, Nat.zero_le _, Only.refl _ _, HM0.out, rfl⟩
        case round =>
          obtain ⟨j, q, rfl, rfl, hj, hoi, hmq, hgi⟩ := hrel
          have hoj := HO.out.trans hoi
          have z0 := hoi.cell HZ0.out id
          have HGI := Lib.hid hgi
          have HOI := Lib.hid hoi
          have HMQ := Lib.hid hmq
          clear hgi hoi hmq
          by_cases hjk : j < k
          · have hjk' : (j : Int) < (k : Int) := by omega
            have hjI : (j : Int) < (I.length : Int) := by omega
            have hj0 : (0 : Int) ≤ (j : Int) := by omega
            have hk0 : (0 : Int) ≤ (k : Int) := by omega
            have hjl : j < I.length := by omega
            have HMS := Lib.hid (HMS0.out j hjl)
            have y0 := hoj.cell (HDD.out j hjl 0 _ rfl) id
            simp only [Nat.add_zero] at y0
            generalize I[j] = p at *
            obtain ⟨jx, jv⟩ := p
            simp only at y0 HMS
            clear hoj
            generalize wr = wi at *
            cases q
            · go_upto_region 9 with (fail)
              go_quiet (fail)
              obtain ⟨w6, hw6⟩ : ∃ w6, w6 = wi.drewN nq := ⟨_, rfl⟩
              have ho6 : Only (fun _ => False) wi w6 := by rw [hw6]; exact (Only.refl _ _).drewN _
              rw [← hw6]
              have hoA := HOI.out.trans ho6
              have HOA := Lib.hid hoA
              clear hoA
              clear ho6 hw6
              go_wp2_with fail
              go_roundg (k - (j + 1))
              case measure => rw [HGI.out]; omega
              case rel => exact ⟨j + 1, false, by go_num, rfl, by omega, HOA.out, by rw [HMS.out, HMQ.out]; rfl, rfl⟩
            · by_cases hx : jx = kx
              · have hxb := str_eq hx
                have HX := Lib.hid (show decide (jx = kx) = true from decide_eq_true hx)
                clear hx
                go_upto_region 9 with (fail)
                go_quiet (fail)
                obtain ⟨w6, hw6⟩ : ∃ w6, w6 = wi.drewN nq := ⟨_, rfl⟩
                have ho6 : Only (fun _ => False) wi w6 := by rw [hw6]; exact (Only.refl _ _).drewN _
                rw [← hw6]
                have hoA := HOI.out.trans ho6
                have HOA := Lib.hid hoA
                clear hoA
                clear ho6 hw6
                go_wp2_with fail
                go_roundg (k - (j + 1))
                case measure => rw [HGI.out]; omega
                case rel => exact ⟨j + 1, false, by go_num, rfl, by omega, HOA.out, by rw [HMS.out, HMQ.out]; rw [HX.out]; rfl, rfl⟩
              · have hxb := str_ne hx
                have HX := Lib.hid (show decide (jx = kx) = false from decide_eq_false hx)
                clear hx
                go_upto_region 9 with (fail)
                go_quiet (fail)
                obtain ⟨w6, hw6⟩ : ∃ w6, w6 = wi.drewN nq := ⟨_, rfl⟩
                have ho6 : Only (fun _ => False) wi w6 := by rw [hw6]; exact (Only.refl _ _).drewN _
                rw [← hw6]
                have hoA := HOI.out.trans ho6
                have HOA := Lib.hid hoA
                clear hoA
                clear ho6 hw6
                go_wp2_with fail
                go_roundg (k - (j + 1))
                case measure => rw [HGI.out]; omega
                case rel => exact ⟨j + 1, true, by go_num, rfl, by omega, HOA.out, by rw [HMS.out, HMQ.out]; rw [HX.out]; rfl, rfl⟩
          · have hje : j = k := by omega
            have hjk' : ¬ (j : Int) < (k : Int) := by omega
            subst hje
            go_wp2_with fail
            go_meet
            exact ⟨by rw [HMQ.out, Bool.not_not], HOI.out⟩
      case rest =>
      obtain ⟨rfl, hoc⟩ := hcut
      generalize wc = wp at *
      have hoA := HO.out.trans hoc
      have hrowA := owns_only HROW.out hoc (fun _ _ => id)
      have z0 := hoc.cell HZ0.out id
      have hbA := hoA.old HBW.out id
      have HFD := Lib.hid (fun w' (h : Only (fun _ => False) wp w') => rfind_any w' most ttl r (.slice a L.length cap) L kx ((HH.out.new hoA).new h))
      unfold rstV at HFD
      have x0 : wp.cell? ⟨w.heap.size, 0, none⟩ = some (.int .i64 most) := cell_at hbA 0
      have x1 : wp.cell? ⟨w.heap.size, 1, none⟩ = some (.int .i64 ttl) := cell_at hbA 1
      have x2 : wp.cell? ⟨w.heap.size, 2, none⟩ = some (.slice a L.length cap) := cell_at hbA 2
      have x3 : wp.cell? ⟨w.heap.size, 3, none⟩ = some (.int .i64 r) := cell_at hbA 3
      have HCC : ∀ w', Only (fun _ => False) wp w' → w'.cell? ⟨lb, off + k * 2, none⟩ = some (.string kx) ∧ w'.cell? ⟨w.heap.size, 0, none⟩ = some (.int .i64 most) ∧ w'.cell? ⟨w.heap.size, 1, none⟩ = some (.int .i64 ttl) ∧ w'.cell? ⟨w.heap.size, 2, none⟩ = some (.slice a L.length cap) ∧ w'.cell? ⟨w.heap.size, 3, none⟩ = some (.int .i64 r) := fun w' h => ⟨h.cell z0 id, h.cell x0 id, h.cell x1 id, h.cell x2 id, h.cell x3 id⟩
      have HFN := Lib.hid (fun h => findI_none (L := L) (k := kx) h)
      have HFS := Lib.hid (fun y h => findI_some (L := L) (k := kx) (y := y) h)
      have HC0 := Lib.hid HCC
      have HOA := Lib.hid hoA
      have HRA := Lib.hid hrowA
      have HBA := Lib.hid hbA
      clear HCC hoA hrowA hbA
      have hk0 : (0 : Int) ≤ (k : Int) := by omega
      generalize findI L kx = fi at *
      generalize findS L kx = fo at *
      generalize metB (I.take k) kx = mt at *
      clear hoc
      go_upto_region 10 with (fail)
      go_cut [9] (fun v9 wx => v9 = .int .i64 fi ∧ Only (fun _ => False) wp wx)
      case first =>
        go_region_held3 (fun w' => Only (fun _ => False) wp w' ∧ w'.cell? ⟨lb, off + k * 2, none⟩ = some (.string kx) ∧ w'.cell? ⟨w.heap.size, 0, none⟩ = some (.int .i64 most) ∧ w'.cell? ⟨w.heap.size, 1, none⟩ = some (.int .i64 ttl) ∧ w'.cell? ⟨w.heap.size, 2, none⟩ = some (.slice a L.length cap) ∧ w'.cell? ⟨w.heap.size, 3, none⟩ = some (.int .i64 r))
          ((go_split_ands; (refine heldO HC0.out ?_); (repeat (first | (with_reducible assumption) | (with_reducible exact Only.refl _ _) | (with_reducible refine Only.drew ?_) | (with_reducible refine Only.alloc ?_ _) | (with_reducible refine onlySet ?_ (by first | (with_reducible assumption) | omega) _) | (with_reducible refine Only.trans ?_ (by with_reducible assumption))))))
          (first
            | (go_at_call 40; (with_reducible refine (HFD.out _ (by (repeat (first | (with_reducible assumption) | (with_reducible exact Only.refl _ _) | (with_reducible refine Only.drew ?_) | (with_reducible refine Only.alloc ?_ _) | (with_reducible refine onlySet ?_ (by first | (with_reducible assumption) | omega) _) | (with_reducible refine Only.trans ?_ (by with_reducible assumption)))))).mono ?_); rintro e w6 ⟨rfl, ho6⟩))
        all_goals
          go_split_ands
          go_wp2_with fail
          go_meet
          exact ⟨rfl, by (repeat (first | (with_reducible assumption) | (with_reducible exact Only.refl _ _) | (with_reducible refine Only.drew ?_) | (with_reducible refine Only.alloc ?_ _) | (with_reducible refine onlySet ?_ (by first | (with_reducible assumption) | omega) _) | (with_reducible refine Only.trans ?_ (by with_reducible assumption))))⟩
      case rest =>
      obtain ⟨rfl, hod⟩ := hcut
      generalize wc = wd at *
      have hoB := HOA.out.trans hod
      have hrowB := owns_only HRA.out hod (fun _ _ => id)
      have x2 : wd.cell? ⟨w.heap.size, 2, none⟩ = some (.slice a L.length cap) := cell_at (hod.old HBA.out id) 2
      have HOB := Lib.hid hoB
      have HRB := Lib.hid hrowB
      clear hoB hrowB
      clear hod z0 x0 x1 x3 HFD
      cases fo with
      | none =>
        have hf1 : fi = -1 := HFN.out rfl
        subst hf1
        clear x2
        go_wp2_with fail
        go_roundg (I.length - (k + 1))
        case measure => rw [Hg.out]; omega
        case rel =>
          refine ⟨k + 1, by go_num, by omega, HOB.out, ?_, rfl⟩
          rw [HGS.out]
          cases mt <;> simpa using HRB.out
      | some y =>
        obtain ⟨i, hi, hfi, hly, hyk⟩ := HFS.out y rfl
        obtain ⟨rb, roff, he, hc⟩ := HC.out.at i hi
        subst he
        have hcr : ∀ i' u, (recC L[i])[i']? = some u → _ := fun i' u hu => HOB.out.cell (hc i' u hu) id
        rw [hly] at hcr
        subst hfi
        have hi' : (i : Int) < (L.length : Int) := by omega
        have hin0 : (0 : Int) ≤ (i : Int) := by omega
        obtain ⟨k1, v1, o1, a1, g1, d1⟩ := y
        have y0 := hcr 0 _ rfl
        have y1 := hcr 1 _ rfl
        have y2 := hcr 2 _ rfl
        have y3 := hcr 3 _ rfl
        have y4 := hcr 4 _ rfl
        have y5 := hcr 5 _ rfl
        simp only [Nat.add_zero] at y0
        simp only at y0 y1 y2 y3 y4 y5
        clear hc hcr hly hyk
        cases mt
        · go_wp2_with (at_builtin; refine Wait.mk ?_)
          refine Wait.go (wpList_append_src _ rfl (.tmp 47) (.tmp 53) 82 82 rfl W.heap.size 35 i0 _ 6 64 Tryd.underlying82 hi0 iz0 iz1 iz2 rfl _ D.length (D.flatMap recC) rfl (HRB.out.alloc _) _ 1 (recC ⟨k1, v1, o1, a1, g1, d1⟩) rfl ?src4 ?m4 ?b4 ?base4 ?_)
          case src4 => exact Src.ofSlice _ Tryd.underlying82 _ _ _ _ rfl (news_new _ _ _) (recC_one _)
          case m4 => have := HGL.out; unfold maxLen; omega
          case b4 => have := HGL.out; omega
          case base4 => have := HOB.out.size; simp; omega
          intro v4 w7 own4 gr4 _
          have ho7 : Only (fun _ => False) W w7 := (HOB.out.alloc _).own (HRB.out.alloc _) (Nat.le_refl _) gr4
          have HO7 := Lib.hid ho7
          have HW7 := Lib.hid own4
          clear ho7 own4
          clear gr4 y0 y1 y2 y3 y4 y5 x2
          go_wp2_with fail
          go_roundg (I.length - (k + 1))
          case measure => rw [Hg.out]; omega
          case rel =>
            refine ⟨k + 1, by go_num, by omega, HO7.out, ?_, rfl⟩
            unfold RRow
            rw [HGS.out, if_neg (by decide), List.length_append, List.flatMap_append]
            exact HW7.out
        · clear y0 y1 y2 y3 y4 y5 x2
          go_wp2_with fail
          go_roundg (I.length - (k + 1))
          case measure => rw [Hg.out]; omega
          case rel =>
            refine ⟨k + 1, by go_num, by omega, HOB.out, ?_, rfl⟩
            rw [HGS.out, if_pos trivial, List.append_nil]
            exact HRB.out
    · have hke : k = I.length := by omega
      have hlt' : ¬ (k : Int) < (I.length : Int) := by omega
      have hW := HROW.out
      rw [hke, List.take_length] at hW
      have HW2 := Lib.hid hW
      clear hW
      clear hke
      go_wp2_with fail
      go_ret
      exact ⟨_, rfl, HOW.out.trans HO.out, ownsRow_base_a HW2.out HOW.out.size⟩
end Go.Proofs.YtianboachknfmaaDoor
/-! bellhoplaw16.ids. -/
namespace Go.Proofs.YtianboachknfmaaDoor
open Go.Conc Go.RowKit Go.Maps

theorem owns_dr {w : World} {base : Nat} {e : TypeId} {size n : Nat} {v : Value} {xs : List Value} (h : w.ownsRow base e size v n xs) : w.drew.ownsRow base e size v n xs := owns_kept h ((Only.refl (fun _ => False) w).drew) (fun _ _ => id)
theorem owns_al {w : World} {base : Nat} {e : TypeId} {size n : Nat} {v : Value} {xs : List Value} (h : w.ownsRow base e size v n xs) (o : Obj) : (w.alloc o).ownsRow base e size v n xs := owns_kept h ((Only.refl (fun _ => False) w).alloc o) (fun _ _ => id)
/-- The ids of the first so many records. -/
def idsL (l : List RecA) (k : Nat) : List (ByteArray × Nat) := (l.take k).map (fun a => toId (rec16 a))
theorem idsL_snoc (l : List RecA) (k : Nat) (hk : k < l.length) : idsL l (k + 1) = idsL l k ++ [toId (rec16 l[k])] := by
  unfold idsL
  rw [List.take_add_one, List.getElem?_eq_getElem hk, List.map_append]
  rfl
theorem idsL_end {l : List RecA} {k : Nat} (hk : k ≤ l.length) (hk2 : k ≤ 40) (h : ¬ (k < l.length ∧ k < 40)) : idsL l k = idsL l 40 := by
  unfold idsL
  rcases (by omega : k = l.length ∨ k = 40) with e | e
  · rw [e, List.take_length, List.take_of_length_le (by omega)]
  · rw [e]
set_option maxRecDepth 100000 in
set_option maxHeartbeats 4000000 in
theorem ids16_any (w : World) (v : Value) (l : List RecA) (h : Sl w 5 v l.length (l.flatMap recAC)) (hl : ∀ a ∈ l, rowA a) :
    Calls Tryd.prog 50 #[v] w fun e w' => ∃ va vb, e = .returned (.tuple #[va, vb]) ∧ Only (fun _ => False) w w' ∧ DRow w' w.heap.size va (idsL l 40) ∧ RIRow w' w.heap.size vb (idsL l 40) := by
  obtain ⟨i0, hi0, iz0, iz1, iz2⟩ := info_parts infoId
  obtain ⟨j0, hj0, jz0, jz1, jz2⟩ := info_parts infoRId
  obtain ⟨a, cap, rfl, h1, h2, h3⟩ := Sl.cells recAC_length h
  unfold maxLen at h2
  have HC := Lib.hid h3
  have HL := Lib.hid hl
  clear h3 hl
  clear h
  go_enter Tryd.func50, Tryd.ntmps50
  go_wp2_with fail
  go_loopg [4, 5, 6] 40 (fun g v4 v5 v6 wr => ∃ k : Nat, v6 = .int .i64 k ∧ k ≤ l.length ∧ k ≤ 40 ∧ Only (fun _ => False) w wr ∧ DRow wr w.heap.size v4 (idsL l k) ∧ RIRow wr w.heap.size v5 (idsL l k) ∧ g = 40 - k)
  case atStart => exact ⟨0, rfl, Nat.zero_le _, Nat.zero_le _, Only.refl _ _, World.ownsRow_nil _ _ _ _, World.ownsRow_nil _ _ _ _, rfl⟩
  case round =>
    obtain ⟨k, rfl, hk, hk40, ho, hra, hrb, hg⟩ := hrel
    have Hg := Lib.hid hg
    have HO := Lib.hid ho
    have HRA := Lib.hid hra
    have HRB := Lib.hid hrb
    clear hg ho hra hrb
    by_cases hlt : k < l.length ∧ k < 40
    · obtain ⟨hlt, hlt40⟩ := hlt
      obtain ⟨lb, off, he, hc⟩ := HC.out.at k hlt
      subst he
      have hcr : ∀ i u, (recAC l[k])[i]? = some u → _ := fun i u hu => HO.out.cell (hc i u hu) id
      have HTS := Lib.hid (idsL_snoc l k hlt)
      have HREC := Lib.hid (fun w => rec16_any w l[k] (HL.out _ (List.getElem_mem hlt)))
      have hdl : (idsL l k).length ≤ k := by unfold idsL; simp; omega
      have hlt' : (k : Int) < (l.length : Int) := by omega
      have hlt40' : (k : Int) < 40 := by omega
      generalize rec16 l[k] = R at *
      generalize l[k] = x at *
      generalize idsL l k = D at *
      obtain ⟨o1, n1, l1, c1, a1⟩ := x
      obtain ⟨k1, v1, o2, a2, g2, d2⟩ := R
      unfold recT at HREC
      simp only at HREC
      have y0 := hcr 0 _ rfl
      have y1 := hcr 1 _ rfl
      have y2 := hcr 2 _ rfl
      have y3 := hcr 3 _ rfl
      have y4 := hcr 4 _ rfl
      simp only [Nat.add_zero] at y0
      simp only at y0 y1 y2 y3 y4
      have HDL := Lib.hid hdl
      clear hdl
      clear hc hcr
      go_wp2_with fail
      refine (HREC.out _).mono ?_
      rintro e w2 ⟨rfl, ho2⟩
      obtain ⟨V, hV⟩ : ∃ V, V = w2.alloc (.cells #[.string k1, .int .u64 v1, .int .i64 o2, .int .i64 a2, .bool g2, .string d2] 35) := ⟨_, rfl⟩
      have hbV : V.heap[w2.heap.size]? = some (.cells #[.string k1, .int .u64 v1, .int .i64 o2, .int .i64 a2, .bool g2, .string d2] 35 (0, 0)) := by rw [hV]; exact heap_alloc_new w2 _
      have hoV : Only (fun _ => False) w2 V := by rw [hV]; exact (Only.refl _ _).alloc _
      have hsV : V.heap.size = w2.heap.size + 1 := by rw [hV]; simp
      have hoV2 := HO.out.trans (ho2.trans hoV)
      have hra := owns_only HRA.out (ho2.trans hoV) (fun _ _ => id)
      have hrb := owns_only HRB.out (ho2.trans hoV) (fun _ _ => id)
      have hszV : w.heap.size ≤ V.heap.size := hoV2.size
      clear ho2 hoV y0 y1 y2 y3 y4 HREC hsV
      go_upto_region 7 with (fail)
      rw [← hV]
      clear hV
      have x0 : V.cell? ⟨w2.heap.size, 0, none⟩ = some (.string k1) := cell_at hbV 0
      have x1 : V.cell? ⟨w2.heap.size, 1, none⟩ = some (.int .u64 v1) := cell_at hbV 1
      have hBV : w2.heap.size < V.heap.size := lt_of_block hbV
      generalize w2.heap.size = B at *
      go_region_held3 (fun w' => w'.cell? ⟨B, 0, none⟩ = some (.string k1) ∧ w'.cell? ⟨B, 1, none⟩ = some (.int .u64 v1))
        ((go_split_ands; refine ⟨?_, ?_⟩ <;> (repeat (first | (with_reducible assumption) | (with_reducible apply keepD) | (with_reducible apply keepN)))))
        (first
          | (refine step_append_src rfl (.tmp 23) (.tmp 29) 57 57 rfl w.heap.size 31 i0 _ 2 24 Tryd.underlying57 hi0 iz0 iz1 iz2 rfl u4 D.length (D.flatMap idT) rfl ?_ _ 1 (idT (k1, v1)) rfl (Src.ofSlice _ Tryd.underlying57 _ _ _ _ rfl (news_at (e := 31) ?_) (idT_one _)) ?_ ?_ ?_ ?_
             · (repeat (first | (with_reducible assumption) | (with_reducible refine owns_dr ?_) | (with_reducible refine owns_al ?_ _)))
             · (apply Eq.trans; (case h₁ => repeat (first | (with_reducible assumption) | (with_reducible exact heap_alloc_new _ _) | (with_reducible apply blk_new; (repeat (first | (with_reducible rfl) | (with_reducible apply sz_set) | (with_reducible apply sz_alloc) | (with_reducible apply sz_drew))); done) | (with_reducible apply blk_same) | (with_reducible apply blk_ne; case hn => (first | assumption | omega)) | (with_reducible apply blk_old) | (with_reducible apply blk_drew))); (case h₂ => rfl))
             · have := HDL.out; unfold maxLen; omega
             · have := HDL.out; omega
             · first | assumption | (simp; omega)
             intro va wa owna gra hva
             have ooa : Only (fun _ => False) w wa := by (refine Only.grown ?_ gra (fun j e => .inl (hva j e)); (repeat (first | (with_reducible assumption) | (with_reducible exact Only.refl _ _) | (with_reducible refine Only.drew ?_) | (with_reducible refine Only.alloc ?_ _) | (with_reducible refine onlySet ?_ (by first | (with_reducible assumption) | omega) _) | (with_reducible refine Only.trans ?_ (by with_reducible assumption)))))
             have sza : w.heap.size ≤ wa.heap.size := ooa.size
             have lxa : wa.heap[B]? = some (.cells #[.string k1, .int .u64 v1, .int .i64 o2, .int .i64 a2, .bool g2, .string d2] 35 (0, 0)) := by (refine blk_gr (e' := 31) (size' := 2) (base' := w.heap.size) (n' := D.length) (xs' := D.flatMap idT) ?_ ?_ (by decide) gra; (· (apply Eq.trans; (case h₁ => repeat (first | (with_reducible assumption) | (with_reducible exact heap_alloc_new _ _) | (with_reducible apply blk_new; (repeat (first | (with_reducible rfl) | (with_reducible apply sz_set) | (with_reducible apply sz_alloc) | (with_reducible apply sz_drew))); done) | (with_reducible apply blk_same) | (with_reducible apply blk_ne; case hn => (first | assumption | omega)) | (with_reducible apply blk_old) | (with_reducible apply blk_drew))); (case h₂ => rfl))); (· (repeat (first | (with_reducible assumption) | (with_reducible refine owns_dr ?_) | (with_reducible refine owns_al ?_ _)))))
             have hBa : B < wa.heap.size := lt_of_block lxa
             have x0a : wa.cell? ⟨B, 0, none⟩ = some (.string k1) := cell_at lxa 0
             have x1a : wa.cell? ⟨B, 1, none⟩ = some (.int .u64 v1) := cell_at lxa 1
             (try (have rb1 : wa.ownsRow w.heap.size 116 2 u5 D.length (D.flatMap idT) := by (refine owns_gr (e' := 31) (size' := 2) (base' := w.heap.size) (n' := D.length) (xs' := D.flatMap idT) ?_ ?_ (by decide) gra; (· (repeat (first | (with_reducible assumption) | (with_reducible refine owns_dr ?_) | (with_reducible refine owns_al ?_ _)))); (· (repeat (first | (with_reducible assumption) | (with_reducible refine owns_dr ?_) | (with_reducible refine owns_al ?_ _)))))))
             (try (have rb2 : wa.ownsRow w.heap.size 116 2 vb (D.length + 1) (D.flatMap idT ++ idT (k1, v1)) := by (refine owns_gr (e' := 31) (size' := 2) (base' := w.heap.size) (n' := D.length) (xs' := D.flatMap idT) ?_ ?_ (by decide) gra; (· (repeat (first | (with_reducible assumption) | (with_reducible refine owns_dr ?_) | (with_reducible refine owns_al ?_ _)))); (· (repeat (first | (with_reducible assumption) | (with_reducible refine owns_dr ?_) | (with_reducible refine owns_al ?_ _)))))))
             (try (have lb1 : wa.heap[V.heap.size]? = some (.cells #[.string k1, .int .u64 v1] 116 (0, 0)) := by (refine blk_gr (e' := 31) (size' := 2) (base' := w.heap.size) (n' := D.length) (xs' := D.flatMap idT) ?_ ?_ (by decide) gra; (· (apply Eq.trans; (case h₁ => repeat (first | (with_reducible assumption) | (with_reducible exact heap_alloc_new _ _) | (with_reducible apply blk_new; (repeat (first | (with_reducible rfl) | (with_reducible apply sz_set) | (with_reducible apply sz_alloc) | (with_reducible apply sz_drew))); done) | (with_reducible apply blk_same) | (with_reducible apply blk_ne; case hn => (first | assumption | omega)) | (with_reducible apply blk_old) | (with_reducible apply blk_drew))); (case h₂ => rfl))); (· (repeat (first | (with_reducible assumption) | (with_reducible refine owns_dr ?_) | (with_reducible refine owns_al ?_ _)))))))
             (try (have lb2 : wa.heap[V.heap.size + 1]? = some (.cells #[.string k1, .int .u64 v1] 116 (0, 0)) := by (refine blk_gr (e' := 31) (size' := 2) (base' := w.heap.size) (n' := D.length) (xs' := D.flatMap idT) ?_ ?_ (by decide) gra; (· (apply Eq.trans; (case h₁ => repeat (first | (with_reducible assumption) | (with_reducible exact heap_alloc_new _ _) | (with_reducible apply blk_new; (repeat (first | (with_reducible rfl) | (with_reducible apply sz_set) | (with_reducible apply sz_alloc) | (with_reducible apply sz_drew))); done) | (with_reducible apply blk_same) | (with_reducible apply blk_ne; case hn => (first | assumption | omega)) | (with_reducible apply blk_old) | (with_reducible apply blk_drew))); (case h₂ => rfl))); (· (repeat (first | (with_reducible assumption) | (with_reducible refine owns_dr ?_) | (with_reducible refine owns_al ?_ _))))))))
          | (refine step_append_src rfl (.tmp 31) (.tmp 37) 111 111 rfl w.heap.size 116 j0 _ 2 24 Tryd.underlying111 hj0 jz0 jz1 jz2 rfl u5 D.length (D.flatMap idT) rfl ?_ _ 1 (idT (k1, v1)) rfl (Src.ofSlice _ Tryd.underlying111 _ _ _ _ rfl (news_at (e := 116) ?_) (idT_one _)) ?_ ?_ ?_ ?_
             · (repeat (first | (with_reducible assumption) | (with_reducible refine owns_dr ?_) | (with_reducible refine owns_al ?_ _)))
             · (apply Eq.trans; (case h₁ => repeat (first | (with_reducible assumption) | (with_reducible exact heap_alloc_new _ _) | (with_reducible apply blk_new; (repeat (first | (with_reducible rfl) | (with_reducible apply sz_set) | (with_reducible apply sz_alloc) | (with_reducible apply sz_drew))); done) | (with_reducible apply blk_same) | (with_reducible apply blk_ne; case hn => (first | assumption | omega)) | (with_reducible apply blk_old) | (with_reducible apply blk_drew))); (case h₂ => rfl))
             · have := HDL.out; unfold maxLen; omega
             · have := HDL.out; omega
             · first | assumption | (simp; omega)
             intro vb wb ownb grb hvb
             have oob : Only (fun _ => False) w wb := by (refine Only.grown ?_ grb (fun j e => .inl (hvb j e)); (repeat (first | (with_reducible assumption) | (with_reducible exact Only.refl _ _) | (with_reducible refine Only.drew ?_) | (with_reducible refine Only.alloc ?_ _) | (with_reducible refine onlySet ?_ (by first | (with_reducible assumption) | omega) _) | (with_reducible refine Only.trans ?_ (by with_reducible assumption)))))
             have szb : w.heap.size ≤ wb.heap.size := oob.size
             have lxb : wb.heap[B]? = some (.cells #[.string k1, .int .u64 v1, .int .i64 o2, .int .i64 a2, .bool g2, .string d2] 35 (0, 0)) := by (refine blk_gr (e' := 116) (size' := 2) (base' := w.heap.size) (n' := D.length) (xs' := D.flatMap idT) ?_ ?_ (by decide) grb; (· (apply Eq.trans; (case h₁ => repeat (first | (with_reducible assumption) | (with_reducible exact heap_alloc_new _ _) | (with_reducible apply blk_new; (repeat (first | (with_reducible rfl) | (with_reducible apply sz_set) | (with_reducible apply sz_alloc) | (with_reducible apply sz_drew))); done) | (with_reducible apply blk_same) | (with_reducible apply blk_ne; case hn => (first | assumption | omega)) | (with_reducible apply blk_old) | (with_reducible apply blk_drew))); (case h₂ => rfl))); (· (repeat (first | (with_reducible assumption) | (with_reducible refine owns_dr ?_) | (with_reducible refine owns_al ?_ _)))))
             have hBb : B < wb.heap.size := lt_of_block lxb
             have x0b : wb.cell? ⟨B, 0, none⟩ = some (.string k1) := cell_at lxb 0
             have x1b : wb.cell? ⟨B, 1, none⟩ = some (.int .u64 v1) := cell_at lxb 1
             (try (have ra1 : wb.ownsRow w.heap.size 31 2 u4 D.length (D.flatMap idT) := by (refine owns_gr (e' := 116) (size' := 2) (base' := w.heap.size) (n' := D.length) (xs' := D.flatMap idT) ?_ ?_ (by decide) grb; (· (repeat (first | (with_reducible assumption) | (with_reducible refine owns_dr ?_) | (with_reducible refine owns_al ?_ _)))); (· (repeat (first | (with_reducible assumption) | (with_reducible refine owns_dr ?_) | (with_reducible refine owns_al ?_ _)))))))
             (try (have ra2 : wb.ownsRow w.heap.size 31 2 va (D.length + 1) (D.flatMap idT ++ idT (k1, v1)) := by (refine owns_gr (e' := 116) (size' := 2) (base' := w.heap.size) (n' := D.length) (xs' := D.flatMap idT) ?_ ?_ (by decide) grb; (· (repeat (first | (with_reducible assumption) | (with_reducible refine owns_dr ?_) | (with_reducible refine owns_al ?_ _)))); (· (repeat (first | (with_reducible assumption) | (with_reducible refine owns_dr ?_) | (with_reducible refine owns_al ?_ _)))))))
             (try (have la1 : wb.heap[V.heap.size]? = some (.cells #[.string k1, .int .u64 v1] 31 (0, 0)) := by (refine blk_gr (e' := 116) (size' := 2) (base' := w.heap.size) (n' := D.length) (xs' := D.flatMap idT) ?_ ?_ (by decide) grb; (· (apply Eq.trans; (case h₁ => repeat (first | (with_reducible assumption) | (with_reducible exact heap_alloc_new _ _) | (with_reducible apply blk_new; (repeat (first | (with_reducible rfl) | (with_reducible apply sz_set) | (with_reducible apply sz_alloc) | (with_reducible apply sz_drew))); done) | (with_reducible apply blk_same) | (with_reducible apply blk_ne; case hn => (first | assumption | omega)) | (with_reducible apply blk_old) | (with_reducible apply blk_drew))); (case h₂ => rfl))); (· (repeat (first | (with_reducible assumption) | (with_reducible refine owns_dr ?_) | (with_reducible refine owns_al ?_ _)))))))
             (try (have la2 : wb.heap[V.heap.size + 1]? = some (.cells #[.string k1, .int .u64 v1] 31 (0, 0)) := by (refine blk_gr (e' := 116) (size' := 2) (base' := w.heap.size) (n' := D.length) (xs' := D.flatMap idT) ?_ ?_ (by decide) grb; (· (apply Eq.trans; (case h₁ => repeat (first | (with_reducible assumption) | (with_reducible exact heap_alloc_new _ _) | (with_reducible apply blk_new; (repeat (first | (with_reducible rfl) | (with_reducible apply sz_set) | (with_reducible apply sz_alloc) | (with_reducible apply sz_drew))); done) | (with_reducible apply blk_same) | (with_reducible apply blk_ne; case hn => (first | assumption | omega)) | (with_reducible apply blk_old) | (with_reducible apply blk_drew))); (case h₂ => rfl))); (· (repeat (first | (with_reducible assumption) | (with_reducible refine owns_dr ?_) | (with_reducible refine owns_al ?_ _)))))))))
      all_goals (
        go_wp2_with fail
        go_roundg (40 - (k + 1))
        case measure => rw [Hg.out]; omega
        case rel =>
          refine ⟨k + 1, by go_num, by omega, by omega, by with_reducible assumption, ?_, ?_, rfl⟩
          · unfold DRow
            rw [HTS.out, List.length_append, List.flatMap_append, List.flatMap_singleton]
            first
              | exact ra2
              | exact owna
          · unfold RIRow
            rw [HTS.out, List.length_append, List.flatMap_append, List.flatMap_singleton]
            first
              | exact rb2
              | exact ownb)
    · have HE := Lib.hid (idsL_end hk hk40 hlt)
      rcases (by omega : (¬ (k : Int) < (l.length : Int)) ∨ ((k : Int) < (l.length : Int) ∧ ¬ (k : Int) < 40)) with e1 | ⟨e1, e2⟩
      all_goals
        clear hlt
        go_wp2_with fail
        go_ret2
        exact ⟨_, _, rfl, HO.out, by rw [← HE.out]; exact HRA.out, by rw [← HE.out]; exact HRB.out⟩
end Go.Proofs.YtianboachknfmaaDoor
