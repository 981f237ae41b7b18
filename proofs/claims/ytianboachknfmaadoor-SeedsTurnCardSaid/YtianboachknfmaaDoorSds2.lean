/- seeds: node; bellhopref20: Others, Asked; digest.Ask. -/
import Derived.Test.YtianboachknfmaaDoorSds1
namespace Go.Proofs.YtianboachknfmaaDoor
open Go.Conc Go.RowKit Go.Maps

def nodeOk (n : Int) : Bool := decide (1 ≤ n ∧ n ≤ 65535)
theorem snode_any (w : World) (n : Int) : Calls Tryd.prog 68 #[.int .i64 n] w fun e w' => e = .returned (.bool (nodeOk n)) ∧ w = w' := by
  by_cases h1 : 1 ≤ n
  · by_cases h2 : n ≤ 65535
    · have h3 : nodeOk n = true := decide_eq_true ⟨h1, h2⟩
      rw [h3]
      clear h3
      go_enter Tryd.func68, Tryd.ntmps68
      go_wp2_with fail
      go_ret
      exact ⟨rfl, rfl⟩
    · have h3 : nodeOk n = false := decide_eq_false (fun h => h2 h.2)
      rw [h3]
      clear h3
      go_enter Tryd.func68, Tryd.ntmps68
      go_wp2_with fail
      go_ret
      exact ⟨rfl, rfl⟩
  · have h3 : nodeOk n = false := decide_eq_false (fun h => h1 h.1)
    rw [h3]
    clear h3
    go_enter Tryd.func68, Tryd.ntmps68
    go_wp2_with fail
    go_ret
    exact ⟨rfl, rfl⟩
theorem infoInt : (Tryd.prog.info? 3).map (fun i => (i.zero, i.size, i.bytes)) = some (some (.int .i64 0), 1, 8) := by kernel_rfl
theorem intC_one (n : Int) : ∀ u ∈ intC n, u.oneCell' = true := by
  intro u hu
  simp only [intC, List.mem_singleton] at hu
  subst hu
  rfl
/-- A slice of ints of the call's own. -/
abbrev IRow (w : World) (base : Nat) (v : Value) (l : List Int) : Prop := w.ownsRow base 3 1 v l.length (l.flatMap intC)
def othersL (self : Int) (l : List Int) : List Int := l.filter (fun n => !decide (n = self))
theorem others_snoc (self : Int) (l : List Int) (k : Nat) (hk : k < l.length) : othersL self (l.take (k + 1)) = othersL self (l.take k) ++ if l[k] = self then [] else [l[k]] := by
  unfold othersL
  rw [List.take_add_one, List.getElem?_eq_getElem hk, List.filter_append]
  congr 1
  by_cases h : l[k] = self <;> simp [h]
set_option maxRecDepth 100000 in
set_option maxHeartbeats 1000000 in
theorem rothers_any (w : World) (v : Value) (l : List Int) (self : Int) (h : Sl w 1 v l.length (l.flatMap intC)) (hl : l.length ≤ 1000000) :
    Calls Tryd.prog 23 #[v, .int .i64 self] w fun e w' => ∃ v', e = .returned v' ∧ Only (fun _ => False) w w' ∧ IRow w' w.heap.size v' (othersL self l) := by
  obtain ⟨i0, hi0, iz0, iz1, iz2⟩ := info_parts infoInt
  obtain ⟨a, cap, rfl, h1, h2, h3⟩ := Sl.cells intC_length h
  unfold maxLen at h2
  have HC := Lib.hid h3
  clear h3
  clear h
  go_enter Tryd.func23, Tryd.ntmps23
  go_wp2_with fail
  go_loopg [5, 6] l.length (fun g v5 v6 wr => ∃ k : Nat, v6 = .int .i64 k ∧ k ≤ l.length ∧ Only (fun _ => False) w wr ∧ IRow wr w.heap.size v5 (othersL self (l.take k)) ∧ g = l.length - k)
  case atStart => exact ⟨0, rfl, Nat.zero_le _, Only.refl _ _, World.ownsRow_nil w _ _ _, rfl⟩
  case round =>
    obtain ⟨k, rfl, hk, ho, hrow, hg⟩ := hrel
    have Hg := Lib.hid hg
    have HO := Lib.hid ho
    have HROW := Lib.hid hrow
    clear hg ho hrow
    by_cases hlt : k < l.length
    · obtain ⟨b, off, he, hc⟩ := HC.out.at k hlt
      subst he
      have p0 := HO.out.cell (hc 0 _ rfl) id
      simp only [Nat.add_zero, Nat.mul_one] at p0
      have hts := others_snoc self l k hlt
      have hol : (othersL self (l.take k)).length ≤ k := Nat.le_trans (List.length_filter_le _ _) (List.length_take_le _ _)
      have hlt' : (k : Int) < (l.length : Int) := by omega
      generalize l[k] = n at *
      have HTS := Lib.hid hts
      have HOL := Lib.hid hol
      clear hts hol
      clear hc
      by_cases hn : n = self
      · have hnb : (n != self) = false := by rw [hn]; simp
        have HN := Lib.hid hn
        clear hn
        go_wp2_with fail
        go_roundg (l.length - (k + 1))
        case measure => rw [Hg.out]; omega
        case rel =>
          refine ⟨k + 1, by go_num, by omega, HO.out, ?_, rfl⟩
          rw [HTS.out, if_pos HN.out, List.append_nil]
          exact HROW.out
      · have hnb : (n != self) = true := by simpa using hn
        have HN := Lib.hid hn
        clear hn
        go_wp2_with (at_builtin; refine Wait.mk ?_)
        refine Wait.go (wpList_append_src _ rfl (.tmp 19) (.tmp 24) 48 48 rfl w.heap.size 3 i0 _ 1 8 Tryd.underlying48 hi0 iz0 iz1 iz2 rfl _ (othersL self (l.take k)).length ((othersL self (l.take k)).flatMap intC) rfl (HROW.out.alloc _) _ 1 (intC n) rfl ?src4 ?m4 ?b4 ?base4 ?_)
        case src4 => exact Src.ofSlice _ Tryd.underlying48 _ _ _ _ rfl (news_new _ _ _) (intC_one _)
        case m4 => have := HOL.out; unfold maxLen; omega
        case b4 => have := HOL.out; omega
        case base4 => have := HO.out.size; simp; omega
        intro v4 w5 own4 gr4 _
        have ho5 : Only (fun _ => False) w w5 := (HO.out.alloc _).own (HROW.out.alloc _) (Nat.le_refl _) gr4
        have HO5 := Lib.hid ho5
        have HW5 := Lib.hid own4
        clear ho5 own4
        clear gr4
        go_wp2_with fail
        go_roundg (l.length - (k + 1))
        case measure => rw [Hg.out]; omega
        case rel =>
          refine ⟨k + 1, by go_num, by omega, HO5.out, ?_, rfl⟩
          unfold IRow
          rw [HTS.out, if_neg HN.out, List.length_append, List.flatMap_append]
          have e1 : [n].flatMap intC = intC n := by simp
          rw [e1]
          exact HW5.out
    · have hke : k = l.length := by omega
      have hlt' : ¬ (k : Int) < (l.length : Int) := by omega
      have hW := HROW.out
      rw [hke, List.take_length] at hW
      have HW2 := Lib.hid hW
      clear hW
      clear hke
      go_wp2_with fail
      go_ret
      exact ⟨_, rfl, HO.out, HW2.out⟩
/-- Which seed is asked at a tick. -/
def askedV (l : List Int) (every tick : Int) : Int := if every < 1 ∨ tick % every ≠ 0 ∨ l.length = 0 then 0 else l.getD (((tick / every - 1) % l.length).toNat) 0
set_option maxRecDepth 100000 in
theorem rasked_no (w : World) (v : Value) (l : List Int) (every tick : Int) (h : Sl w 1 v l.length (l.flatMap intC)) (hb : every < 1 ∨ tick % every ≠ 0 ∨ l.length = 0) (ht : 0 ≤ tick) (ht2 : tick ≤ 1000) (he : every ≤ 1000) :
    Calls Tryd.prog 25 #[v, .int .i64 every, .int .i64 tick] w fun e w' => e = .returned (.int .i64 0) ∧ w = w' := by
  obtain ⟨a, cap, rfl, h1, h2, h3⟩ := Sl.cells intC_length h
  clear h h3
  by_cases c1 : every < 1
  · go_enter Tryd.func25, Tryd.ntmps25
    go_wp2_with fail
    go_ret
    exact ⟨rfl, rfl⟩
  · have e0 : ¬ every = 0 := by omega
    have e1 : 1 ≤ every := by omega
    by_cases c2 : tick % every = 0
    · have c3 : l.length = 0 := (hb.resolve_left c1).resolve_left (fun h => h c2)
      have c5 : (tick % every != 0) = false := by rw [c2]; rfl
      rw [c3]
      clear hb c3 c2
      go_enter Tryd.func25, Tryd.ntmps25
      go_wp2_with fail
      go_ret
      exact ⟨rfl, rfl⟩
    · have c5 : (tick % every != 0) = true := by simpa using c2
      clear hb c2
      go_enter Tryd.func25, Tryd.ntmps25
      go_wp2_with fail
      go_ret
      exact ⟨rfl, rfl⟩
def askMsg (L : List RecT) : MsgT := ⟨13, 0, 0, false, [], L.map toId, []⟩
set_option maxRecDepth 100000 in
theorem dask_any (w : World) (s b : Nat) (most ttl r : Int) (L : List RecT) (h : StoreAt w s b most ttl r L) :
    Calls Tryd.prog 51 #[.pointer (some ⟨s, 0, none⟩)] w fun e w' => ∃ v, e = .returned v ∧ Only (fun _ => False) w w' ∧ MsgIs w' v (askMsg L) := by
  obtain ⟨W, hW⟩ : ∃ W, W = w.alloc (.cells #[.int .i64 0, .int .i64 0, .int .i64 0, .bool false, .slice none 0 0, .slice none 0 0, .slice none 0 0] 59) := ⟨_, rfl⟩
  have hbW : W.heap[w.heap.size]? = some (.cells #[.int .i64 0, .int .i64 0, .int .i64 0, .bool false, .slice none 0 0, .slice none 0 0, .slice none 0 0] 59 (0, 0)) := by rw [hW]; exact heap_alloc_new w _
  have hoW : Only (fun _ => False) w W := by rw [hW]; exact (Only.refl _ _).alloc _
  have hsW : W.heap.size = w.heap.size + 1 := by rw [hW]; simp
  have hhW := h.new hoW
  have HI := Lib.hid (sids_any W s b most ttl r L hhW)
  have HOW := Lib.hid hoW
  have HBW := Lib.hid hbW
  have HSZ := Lib.hid hsW
  clear hoW hbW hsW
  clear h hhW
  go_enter Tryd.func51, Tryd.ntmps51
  go_upto_region 1 with (fail)
  rw [← hW]
  clear hW
  go_wp2_with fail
  refine HI.out.mono ?_
  rintro e w2 ⟨v2, rfl, ho2, hrow⟩
  have hsl := Sl.of_owns hrow
  obtain ⟨_, ia, icap, rfl, i1, i2, i3⟩ := id hsl
  have hb2 := ho2.old HBW.out id
  have x0 : w2.cell? ⟨w.heap.size, 0, none⟩ = some (.int .i64 0) := cell_at hb2 0
  have x1 : w2.cell? ⟨w.heap.size, 1, none⟩ = some (.int .i64 0) := cell_at hb2 1
  have x2 : w2.cell? ⟨w.heap.size, 2, none⟩ = some (.int .i64 0) := cell_at hb2 2
  have x3 : w2.cell? ⟨w.heap.size, 3, none⟩ = some (.bool false) := cell_at hb2 3
  have x4 : w2.cell? ⟨w.heap.size, 4, none⟩ = some (.slice none 0 0) := cell_at hb2 4
  have x5 : w2.cell? ⟨w.heap.size, 5, none⟩ = some (.slice none 0 0) := cell_at hb2 5
  have x6 : w2.cell? ⟨w.heap.size, 6, none⟩ = some (.slice none 0 0) := cell_at hb2 6
  have xf : ∀ i, w2.frozen? ⟨w.heap.size, i, none⟩ = false := free_at hb2
  have hoA := HOW.out.trans ho2
  have HB2 := Lib.hid hb2
  have HOA := Lib.hid hoA
  have HROW := Lib.hid hrow
  clear hb2 hoA hrow
  clear i3 ho2 hsl
  go_wp2_with fail
  obtain ⟨s1, s2⟩ := lit_set HB2.out [.int .i64 13, .int .i64 0, .int .i64 0, .bool false, .slice none 0 0, .slice ia L.length icap, .slice none 0 0] rfl
  rw [show World.setCells w2 w.heap.size 0 [.int .i64 13, .int .i64 0, .int .i64 0, .bool false, .slice none 0 0, .slice ia L.length icap, .slice none 0 0] = (((((((w2.setCell ⟨w.heap.size, 0, none⟩ (.int .i64 13)).setCell ⟨w.heap.size, 1, none⟩ (.int .i64 0)).setCell ⟨w.heap.size, 2, none⟩ (.int .i64 0)).setCell ⟨w.heap.size, 3, none⟩ (.bool false)).setCell ⟨w.heap.size, 4, none⟩ (.slice none 0 0)).setCell ⟨w.heap.size, 5, none⟩ (.slice ia L.length icap)).setCell ⟨w.heap.size, 6, none⟩ (.slice none 0 0)) from rfl] at s1 s2
  generalize (((((((w2.setCell ⟨w.heap.size, 0, none⟩ (.int .i64 13)).setCell ⟨w.heap.size, 1, none⟩ (.int .i64 0)).setCell ⟨w.heap.size, 2, none⟩ (.int .i64 0)).setCell ⟨w.heap.size, 3, none⟩ (.bool false)).setCell ⟨w.heap.size, 4, none⟩ (.slice none 0 0)).setCell ⟨w.heap.size, 5, none⟩ (.slice ia L.length icap)).setCell ⟨w.heap.size, 6, none⟩ (.slice none 0 0)) = wz at *
  have p0 : wz.cell? ⟨w.heap.size, 0, none⟩ = some (.int .i64 13) := cell_at s1 0
  have p1 : wz.cell? ⟨w.heap.size, 1, none⟩ = some (.int .i64 0) := cell_at s1 1
  have p2 : wz.cell? ⟨w.heap.size, 2, none⟩ = some (.int .i64 0) := cell_at s1 2
  have p3 : wz.cell? ⟨w.heap.size, 3, none⟩ = some (.bool false) := cell_at s1 3
  have p4 : wz.cell? ⟨w.heap.size, 4, none⟩ = some (.slice none 0 0) := cell_at s1 4
  have p5 : wz.cell? ⟨w.heap.size, 5, none⟩ = some (.slice ia L.length icap) := cell_at s1 5
  have p6 : wz.cell? ⟨w.heap.size, 6, none⟩ = some (.slice none 0 0) := cell_at s1 6
  refine bodyPost_ret (v := .agg #[.int .i64 13, .int .i64 0, .int .i64 0, .bool false, .slice none 0 0, .slice ia L.length icap, .slice none 0 0]) (by simp [results, Tryd.results51, go_sem, p0, p1, p2, p3, p4, p5, p6]) rfl ?_
  have hwl : w.heap.size < w2.heap.size := lt_of_block HB2.out
  refine ⟨_, rfl, HOA.out.tr s2 (fun i hi e => by omega), ⟨⟨_, _, _, rfl, Sl.nil _ _, ?_, Sl.nil _ _⟩⟩⟩
  have h5 := HSZ.out
  have h6 := Sl.of_owns (owns_only HROW.out s2 (fun k hk e => by omega))
  show Sl wz 2 _ (L.map toId).length ((L.map toId).flatMap idT)
  rw [ids_fl, List.length_map]
  exact h6
end Go.Proofs.YtianboachknfmaaDoor
