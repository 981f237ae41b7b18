/- A store: Tick. -/
import Derived.Test.YtianboachknfmaaDoorSto4
import Derived.RegionTactic
namespace Go.Proofs.YtianboachknfmaaDoor
open Go.Conc Go.RowKit Go.Maps

theorem rising_mid {A0 A C : List RecT} (h : Rising (A0 ++ C)) (hA : Rising A) (hk : ∀ a ∈ A, ∃ a0 ∈ A0, a.key = a0.key) : Rising (A ++ C) := by
  obtain ⟨h1, h2, h3⟩ := List.pairwise_append.1 h
  refine List.pairwise_append.2 ⟨hA, h2, fun a ha c hc => ?_⟩
  obtain ⟨a0, h4, e⟩ := hk a ha
  rw [e]
  exact h3 a0 h4 c hc
theorem mem_tick {ttl : Int} {L : List RecT} {y : RecT} : y ∈ tickS ttl L ↔ ∃ x ∈ L, y = older x ∧ x.age + 1 < ttl := by
  unfold tickS
  rw [List.mem_filter, List.mem_map]
  constructor
  · rintro ⟨⟨x, hx, rfl⟩, h⟩
    exact ⟨x, hx, rfl, of_decide_eq_true h⟩
  · rintro ⟨x, hx, rfl, h⟩
    exact ⟨⟨x, hx, rfl⟩, decide_eq_true h⟩
theorem rising_tick {ttl : Int} {L : List RecT} (h : Rising L) : Rising (tickS ttl L) := rising_filter (rising_map h older (fun _ => rfl)) _
theorem tick_append (ttl : Int) (A B : List RecT) : tickS ttl (A ++ B) = tickS ttl A ++ tickS ttl B := by
  unfold tickS
  rw [List.map_append, List.filter_append]
theorem tick_one (ttl : Int) (x : RecT) : tickS ttl [x] = if x.age + 1 < ttl then [older x] else [] := by
  unfold tickS
  by_cases h : x.age + 1 < ttl
  · rw [if_pos h]; simp [older, h]
  · rw [if_neg h]; simp [older]; omega
theorem length_tick_le (ttl : Int) (L : List RecT) : (tickS ttl L).length ≤ L.length := by
  unfold tickS
  exact Nat.le_trans (List.length_filter_le _ _) (by simp)
theorem StoreOk.tick {most ttl : Int} {L : List RecT} (h : StoreOk most ttl L) : StoreOk most ttl (tickS ttl L) := by
  refine ⟨h.mostB, h.ttlB, rising_tick h.rises, fun y hy => ?_, ?_⟩
  · obtain ⟨x, hx, rfl, ha⟩ := mem_tick.1 hy
    exact ⟨good_older (h.goods x hx).1 (by have := h.ttlB; omega), by simpa [older] using ha⟩
  · have h1 := length_tick_le ttl L
    have h2 := h.room
    omega
theorem ins_mid {A B : List RecT} {x y : RecT} (h : Rising (A ++ x :: B)) (hk : y.key = x.key) : insS y (A ++ x :: B) = A ++ y :: B := by
  have hr : Rising (A ++ y :: B) := by
    obtain ⟨h1, h2, h3⟩ := List.pairwise_append.1 h
    obtain ⟨h4, h5⟩ := List.pairwise_cons.1 h2
    refine List.pairwise_append.2 ⟨h1, List.pairwise_cons.2 ⟨fun b hb => by rw [hk]; exact h4 b hb, h5⟩, fun a ha c hc => ?_⟩
    rcases List.mem_cons.1 hc with rfl | hc
    · rw [hk]; exact h3 a ha x (by simp)
    · exact h3 a ha c (by simp [hc])
  refine rising_ext (rising_ins h) hr (fun z => ?_)
  rw [mem_insS h]
  obtain ⟨h1, h2, h3⟩ := List.pairwise_append.1 h
  obtain ⟨h4, h5⟩ := List.pairwise_cons.1 h2
  simp only [List.mem_append, List.mem_cons]
  constructor
  · rintro (rfl | ⟨h6 | rfl | h6, hn⟩)
    · exact .inr (.inl rfl)
    · exact .inl h6
    · exact absurd hk.symm hn
    · exact .inr (.inr h6)
  · rintro (h6 | rfl | h6)
    · exact .inr ⟨.inl h6, by rw [hk]; exact ltK_ne (h3 z h6 x (by simp))⟩
    · exact .inl rfl
    · exact .inr ⟨.inr (.inr h6), by rw [hk]; exact (ltK_ne (h4 z h6)).symm⟩
theorem drop_mid {A B : List RecT} {x : RecT} (h : Rising (A ++ x :: B)) : dropL (prs (A ++ x :: B)) x.key = prs (A ++ B) := by
  obtain ⟨h1, h2, h3⟩ := List.pairwise_append.1 h
  obtain ⟨h4, h5⟩ := List.pairwise_cons.1 h2
  have hA : (prs A).filter (fun p => !decide (p.1 = x.key)) = prs A := List.filter_eq_self.2 (fun p hp => by
    obtain ⟨h6, h7⟩ := mem_prs.1 hp
    have := ltK_ne (h3 p.2 h6 x (by simp))
    simpa [h7] using this)
  have hB : (prs B).filter (fun p => !decide (p.1 = x.key)) = prs B := List.filter_eq_self.2 (fun p hp => by
    obtain ⟨h6, h7⟩ := mem_prs.1 hp
    have := (ltK_ne (h4 p.2 h6)).symm
    simpa [h7] using this)
  unfold dropL
  have e : prs (A ++ x :: B) = prs A ++ (x.key, x) :: prs B := by simp [prs]
  rw [e, List.filter_append, List.filter_cons_of_neg (by simp), hA, hB]
  simp [prs]
theorem find_mid {A B : List RecT} {x : RecT} (h : Rising (A ++ x :: B)) : findS (A ++ x :: B) x.key = some x := findS_mem h (by simp)
theorem stick_nil (w : World) : Calls Tryd.prog 18 #[.pointer none] w fun e w' => e = .returned (.int .i64 0) ∧ w = w' := by
  go_enter Tryd.func18, Tryd.ntmps18
  go_wp2_with fail
  refine (skeys_nil w).mono ?_
  rintro e w1 ⟨rfl, rfl⟩
  go_wp2_with fail
  refine wp_loop_rounds 1 ?_
  rw [rounds_succ]
  go_wp2_with fail
  go_ret
  exact ⟨rfl, rfl⟩
set_option maxRecDepth 100000 in
set_option maxHeartbeats 2000000 in
theorem stick_any (w : World) (s b : Nat) (most ttl r : Int) (L : List RecT) (h : StoreAt w s b most ttl r L) :
    Calls Tryd.prog 18 #[.pointer (some ⟨s, 0, none⟩)] w fun e w' => e = .returned (.int .i64 ((L.length : Int) - (tickS ttl L).length)) ∧ Only (fun i => i = b) w w' ∧ StoreAt w' s b most ttl r (tickS ttl L) := by
  have hkz := h.ok.keys
  have hLl := h.ok.len
  have hne := h.ne
  have hok := h.ok
  have hag : ∀ x ∈ L, 0 ≤ x.age ∧ x.age < 65535 := fun x hx => by
    have h1 := (h.ok.goods x hx).1
    have h2 := (h.ok.goods x hx).2
    have h3 := h.ok.ttlB
    unfold goodR goodP at h1
    simp only [Bool.and_eq_true, decide_eq_true_eq] at h1
    exact ⟨h1.1.1.2, by omega⟩
  have HKEY := Lib.hid (skeys_any w s b most ttl r L h hkz)
  have HH := Lib.hid h
  have HZ := Lib.hid hkz
  have HOK := Lib.hid hok
  have HAG := Lib.hid hag
  clear h hkz hok hag
  go_enter Tryd.func18, Tryd.ntmps18
  go_wp2_with fail
  refine HKEY.out.mono ?_
  rintro e w1 ⟨v, rfl, ho1, hrow⟩
  obtain ⟨_, ka, kcap, rfl, k1, k2, k3⟩ : Sl w1 1 v L.length (L.map (fun x => .string x.key)) := Sl.of_owns hrow
  have hh1 := HH.out.new ho1
  have hkb : ∀ p u, w1.cell? p = some u → ¬ p.block = b := fun p u hp e => by
    obtain ⟨es, c, hb, _⟩ := hh1.map.own
    simp [World.cell?, e, hb] at hp
  unfold maxLen at k2
  have H1 := Lib.hid hh1
  have HO1 := Lib.hid ho1
  have HK := Lib.hid k3
  have HKB := Lib.hid hkb
  clear hh1 ho1 k3 hkb
  clear hrow HKEY
  go_wp2_with fail
  go_loopg [3, 10] L.length (fun g v3 v10 wr => ∃ k : Nat, v10 = .int .i64 k ∧ k ≤ L.length ∧ v3 = .int .i64 ((k : Int) - (tickS ttl (L.take k)).length) ∧ Only (fun i => i = b) w1 wr ∧ RMap wr b (tickS ttl (L.take k) ++ L.drop k) ∧ g = L.length - k)
  case atStart => exact ⟨0, rfl, Nat.zero_le _, rfl, Only.refl _ _, H1.out.map, rfl⟩
  case round =>
    obtain ⟨k, rfl, hk, rfl, ho, hmap, hg⟩ := hrel
    have hblk := ho.old H1.out.blk hne
    have htl := length_tick_le ttl (L.take k)
    have htl2 : (L.take k).length = k := by simp; omega
    have Hg := Lib.hid hg
    have HO := Lib.hid ho
    have HM := Lib.hid hmap
    have HBLK := Lib.hid hblk
    clear hg ho hmap hblk
    by_cases hlt : k < L.length
    · obtain ⟨kb, koff, ha, hc⟩ := HK.out.resolve_left (by omega)
      subst ha
      have hz1 := hc k _ (by simp [hlt]; rfl)
      have z0 : wr.cell? ⟨kb, koff + k, none⟩ = some (.string L[k].key) := HO.out.cell hz1 (HKB.out _ _ hz1)
      have htk : L.take (k + 1) = L.take k ++ [L[k]] := by rw [List.take_add_one, List.getElem?_eq_getElem hlt]; rfl
      have hdk : L.drop k = L[k] :: L.drop (k + 1) := by rw [List.drop_eq_getElem_cons hlt]
      have hris : Rising (tickS ttl (L.take k) ++ L[k] :: L.drop (k + 1)) := by
        rw [← hdk]
        refine rising_mid (A0 := L.take k) (by rw [List.take_append_drop]; exact HOK.out.rises) (rising_tick (HOK.out.rises.sublist (List.take_sublist _ _))) (fun a ha => ?_)
        obtain ⟨x, hx, rfl, _⟩ := mem_tick.1 ha
        exact ⟨x, hx, rfl⟩
      have hm2 := HM.out
      rw [hdk] at hm2
      have hxk := HZ.out L[k] (List.getElem_mem hlt)
      have hxa := HAG.out L[k] (List.getElem_mem hlt)
      have hlen2 : (tickS ttl (L.take k) ++ L[k] :: L.drop (k + 1)).length < maxLen := by simp [List.length_append] at htl ⊢; unfold maxLen; omega
      have hts : tickS ttl (L.take (k + 1)) = tickS ttl (L.take k) ++ tickS ttl [L[k]] := by rw [htk, tick_append]
      generalize L[k] = x at *
      have HTS := Lib.hid hts
      have HRIS := Lib.hid hris
      have HM2 := Lib.hid hm2
      have HXK := Lib.hid hxk
      have HLEN2 := Lib.hid hlen2
      clear hts hris hm2 hxk hlen2
      clear hc htk hdk hz1 HM
      generalize tickS ttl (L.take k) = A at *
      generalize hB : L.drop (k + 1) = B at *
      have HB := Lib.hid hB
      clear hB
      have c0 : wr.cell? ⟨s, 0, none⟩ = some (.map (some b)) := cell_at HBLK.out 0
      have hlk := HM2.out.look strKeyed strInj Tryd.underlying138 (z := zeroR) (zeroRec wr) (strOk HXK.out) false
      rw [look_prs, find_mid HRIS.out] at hlk
      obtain ⟨k1, v1, o1, a1, g1, d1⟩ := x
      have hlk2 : (Instr.lookup 138 (.map (some b)) (.string k1) false).run Tryd.prog wr = .ok (.agg #[.string k1, .int .u64 v1, .int .i64 o1, .int .i64 a1, .bool g1, .string d1]) wr := hlk
      clear hlk
      simp only at hxa
      have hlt' : (k : Int) < (L.length : Int) := by omega
      obtain ⟨W, hW⟩ : ∃ W, W = wr.alloc (.cells #[.string k1, .int .u64 v1, .int .i64 o1, .int .i64 (a1 + 1), .bool g1, .string d1] 33) := ⟨_, rfl⟩
      have hbW : W.heap[wr.heap.size]? = some (.cells #[.string k1, .int .u64 v1, .int .i64 o1, .int .i64 (a1 + 1), .bool g1, .string d1] 33 (0, 0)) := by rw [hW]; exact heap_alloc_new wr _
      have hoW : Only (fun _ => False) wr W := by rw [hW]; exact (Only.refl _ _).alloc _
      have hsW : W.heap.size = wr.heap.size + 1 := by rw [hW]; simp
      have HBW := Lib.hid hbW
      have HOW := Lib.hid hoW
      have HSW := Lib.hid hsW
      clear hbW hoW hsW
      go_upto_region 7 with (fail)
      rw [← hW]
      clear hW hlk2 z0 c0
      have x3 : W.cell? ⟨wr.heap.size, 3, none⟩ = some (.int .i64 (a1 + 1)) := cell_at HBW.out 3
      have c2 : W.cell? ⟨s, 2, none⟩ = some (.int .i64 ttl) := cell_at (HOW.out.old HBLK.out id) 2
      by_cases hy : a1 + 1 < ttl
      · have ht1 : tickS ttl [RecT.mk k1 v1 o1 a1 g1 d1] = [RecT.mk k1 v1 o1 (a1 + 1) g1 d1] := by rw [tick_one]; exact if_pos hy
        rw [ht1] at HTS
        clear ht1
        go_quiet (fail)
        obtain ⟨w5, hw5⟩ : ∃ w5, w5 = W.drewN nq := ⟨_, rfl⟩
        have ho5 : Only (fun _ => False) wr w5 := by rw [hw5]; exact HOW.out.drewN _
        have hb5 : w5.heap[wr.heap.size]? = some (.cells #[.string k1, .int .u64 v1, .int .i64 o1, .int .i64 (a1 + 1), .bool g1, .string d1] 33 (0, 0)) := by rw [hw5]; exact HBW.out
        rw [← hw5]
        clear hw5 x3 c2
        have c0 : w5.cell? ⟨s, 0, none⟩ = some (.map (some b)) := cell_at (ho5.old HBLK.out id) 0
        have x0 : w5.cell? ⟨wr.heap.size, 0, none⟩ = some (.string k1) := cell_at hb5 0
        have x1 : w5.cell? ⟨wr.heap.size, 1, none⟩ = some (.int .u64 v1) := cell_at hb5 1
        have x2 : w5.cell? ⟨wr.heap.size, 2, none⟩ = some (.int .i64 o1) := cell_at hb5 2
        have x3 : w5.cell? ⟨wr.heap.size, 3, none⟩ = some (.int .i64 (a1 + 1)) := cell_at hb5 3
        have x4 : w5.cell? ⟨wr.heap.size, 4, none⟩ = some (.bool g1) := cell_at hb5 4
        have x5 : w5.cell? ⟨wr.heap.size, 5, none⟩ = some (.string d1) := cell_at hb5 5
        have hlp : (prs (A ++ RecT.mk k1 v1 o1 a1 g1 d1 :: B)).length < maxLen := by rw [prs_length]; exact HLEN2.out
        obtain ⟨w6, hst0, hm6, ho6⟩ := (HM2.out.kept (ho5.drew) id).store strKeyed strInj Tryd.underlying138 hlp (strOk HXK.out) ⟨k1, v1, o1, a1 + 1, g1, d1⟩
        have hst : (Instr.mapUpdate 138 (.map (some b)) (.string k1) (.agg #[.string k1, .int .u64 v1, .int .i64 o1, .int .i64 (a1 + 1), .bool g1, .string d1])).run Tryd.prog w5.drew = .ok () w6 := hst0
        have HM6 := Lib.hid hm6
        have HO6 := Lib.hid ho6
        have HO5 := Lib.hid ho5
        clear hm6 ho6 ho5
        clear hst0 hb5 hlp
        go_upto_region 8 with (fail)
        go_region
        all_goals
          go_wp2_with fail
          go_roundg (L.length - (k + 1))
          case measure => rw [Hg.out]; omega
          case rel =>
            have hp := HM6.out.perm strKeyed strInj (put_prs HRIS.out ⟨k1, v1, o1, a1 + 1, g1, d1⟩)
            rw [ins_mid HRIS.out (show (RecT.mk k1 v1 o1 (a1 + 1) g1 d1).key = (RecT.mk k1 v1 o1 a1 g1 d1).key from rfl)] at hp
            refine ⟨k + 1, by go_num, by omega, ?_, ?_, ?_, rfl⟩
            · rw [HTS.out]; exact congrArg (Value.int .i64) (by simp; omega)
            · exact HO.out.trans ((HO5.out.drew.weaken (fun _ _ => False.elim)).trans HO6.out)
            · rw [HTS.out, HB.out]
              simpa using hp
      · have ht1 : tickS ttl [RecT.mk k1 v1 o1 a1 g1 d1] = [] := by rw [tick_one]; exact if_neg hy
        rw [ht1] at HTS
        clear ht1
        go_quiet (fail)
        obtain ⟨w5, hw5⟩ : ∃ w5, w5 = W.drewN nq := ⟨_, rfl⟩
        have ho5 : Only (fun _ => False) wr w5 := by rw [hw5]; exact HOW.out.drewN _
        rw [← hw5]
        clear hw5 x3 c2
        have c0 : w5.cell? ⟨s, 0, none⟩ = some (.map (some b)) := cell_at (ho5.old HBLK.out id) 0
        have HM5 := Lib.hid (HM2.out.kept ho5 id)
        have HO5 := Lib.hid ho5
        clear ho5
        go_wp2_with (first | (at_delete; refine wpList_mapDrop rfl _ _ _ rfl HM5.out strKeyed strInj Tryd.underlying138 rfl rfl (strOk HXK.out) ?_; intro w6 hm6 ho6))
        have HM6 := Lib.hid hm6
        have HO6 := Lib.hid ho6
        clear hm6 ho6
        go_roundg (L.length - (k + 1))
        case measure => rw [Hg.out]; omega
        case rel =>
          have hp := HM6.out
          rw [drop_mid HRIS.out] at hp
          refine ⟨k + 1, by go_num, by omega, ?_, ?_, ?_, rfl⟩
          · rw [HTS.out]; exact congrArg (Value.int .i64) (by simp; omega)
          · exact HO.out.trans ((HO5.out.weaken (fun _ _ => False.elim)).trans HO6.out)
          · rw [HTS.out, HB.out]
            simpa using hp
    · obtain rfl : k = L.length := by omega
      have hlt' : ¬ ((L.length : Nat) : Int) < (L.length : Int) := by omega
      rw [List.take_length] at HM
      rw [List.take_length]
      have HM2 := HM
      rw [List.drop_length, List.append_nil] at HM2
      clear HM htl htl2
      go_wp2_with fail
      go_ret
      exact ⟨rfl, (HO1.out.weaken (fun _ _ => False.elim)).trans HO.out, HBLK.out, HM2.out, HOK.out.tick⟩
end Go.Proofs.YtianboachknfmaaDoor
