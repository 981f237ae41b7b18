/- The walk of bellhoplaw21.NameTables. -/
import Derived.Test.YtfgkljjiopohgaaDoorName17
import Derived.Test.YtfgkljjiopohgaaDoorName12
namespace Go.Proofs.YtfgkljjiopohgaaDoor
open Go.Conc Go.RowKit

theorem infoSpot : (Tryd.prog.info? 51).map (fun i => (i.zero, i.size, i.bytes)) = some (some (.agg #[.int .i64 0, .int .i64 0, .slice none 0 0]), 3, 40) := by kernel_rfl
theorem infoU8 : (Tryd.prog.info? 5).map (fun i => (i.zero, i.size, i.bytes)) = some (some (.int .u8 0), 1, 1) := by kernel_rfl

/-- What is owned stays where only blocks of other types change. -/
theorem owns_other {S : Nat → Prop} {w w' : World} {base : Nat} {e : TypeId} {size n : Nat} {v : Value} {xs : List Value} (h : w.ownsRow base e size v n xs) (ho : Only S w w')
    (hS : ∀ g cur, w.heap[g]? = some (.cells cur e (0, 0)) → ¬ S g) : w'.ownsRow base e size v n xs := by
  refine owns_kept h ho fun k hk => ?_
  rcases h.2 with ⟨h2, _⟩ | ⟨g, cap, cur, rfl, hb, hg, _⟩
  · subst h2; simp [Value.ownBlock] at hk
  · simp [Value.ownBlock] at hk
    subst hk
    exact hS _ _ hg
theorem TabV.other {w : World} {tv : Value} {S : Nat → Prop} {n : Nat} {f : Tab} {live : Bool} (h : TabV w tv S n f live) {e : TypeId} (he : e ≠ 41) : ∀ g cur, w.heap[g]? = some (.cells cur e (0, 0)) → ¬ S g := by
  intro g cur hg hs
  rcases h with ⟨_, _, _, h⟩ | ⟨t, bm, h1, h2, h3, m, h4, h5⟩
  · exact h _ hs
  · rcases (h3 _).1 hs with e' | e'
    · subst e'
      rw [h4] at hg
      simp only [Option.some.injEq, Obj.cells.injEq] at hg
      exact he hg.2.1.symm
    · rcases h5 with ⟨_, hb, _⟩ | ⟨b, D, _, hb, hown, _⟩
      · rw [hb] at e'; cases e'
      · rw [hb] at e'
        injection e' with e'
        obtain ⟨es, clock, hblk, _⟩ := hown
        rw [e', hg] at hblk
        simp at hblk
theorem own_blocks {w : World} {base : Nat} {e : TypeId} {size n : Nat} {v : Value} {xs : List Value} (h : w.ownsRow base e size v n xs) {e' : TypeId} (he : e' ≠ e) : ∀ g cur, w.heap[g]? = some (.cells cur e' (0, 0)) → ¬ v.ownBlock = some g := by
  intro g cur hg hk
  rcases h.2 with ⟨h2, _⟩ | ⟨g', cap, cur', rfl, hb, hg', _⟩
  · subst h2; simp [Value.ownBlock] at hk
  · simp [Value.ownBlock] at hk
    subst hk
    rw [hg] at hg'
    simp only [Option.some.injEq, Obj.cells.injEq] at hg'
    exact he hg'.2.1

abbrev SpotV : Type := Spot × Value
def spotC (l : List SpotV) : List Value := l.flatMap fun p => [.int .i64 p.1.pos, .int .i64 p.1.stop, p.2]
theorem spotC_append (l : List SpotV) (p : SpotV) : spotC (l ++ [p]) = spotC l ++ [.int .i64 p.1.pos, .int .i64 p.1.stop, p.2] := by simp [spotC]
theorem spotC_at : ∀ (l : List SpotV) (k : Nat) (h : k < l.length), (spotC l)[k * 3]? = some (.int .i64 l[k].1.pos) ∧ (spotC l)[k * 3 + 1]? = some (.int .i64 l[k].1.stop) ∧ (spotC l)[k * 3 + 2]? = some l[k].2 := by
  intro l
  induction l with
  | nil => intro k h; cases h
  | cons p l ih =>
    intro k h
    have e : spotC (p :: l) = ([.int .i64 p.1.pos, .int .i64 p.1.stop, p.2] : List Value) ++ spotC l := rfl
    cases k with
    | zero => exact ⟨rfl, rfl, rfl⟩
    | succ k =>
      have := ih k (by simpa using h)
      rw [e, List.getElem?_append_right (by simp; omega), List.getElem?_append_right (by simp; omega), List.getElem?_append_right (by simp; omega)]
      simp only [List.length_cons, List.length_nil, List.getElem_cons_succ]
      rw [show (k + 1) * 3 - (0 + 1 + 1 + 1) = k * 3 by omega, show (k + 1) * 3 + 1 - (0 + 1 + 1 + 1) = k * 3 + 1 by omega, show (k + 1) * 3 + 2 - (0 + 1 + 1 + 1) = k * 3 + 2 by omega]
      exact this

theorem own_type {w : World} {base : Nat} {e : TypeId} {size n : Nat} {v : Value} {xs : List Value} (h : w.ownsRow base e size v n xs) {g : Nat} (hk : v.ownBlock = some g) : ∃ cur, w.heap[g]? = some (.cells cur e (0, 0)) := by
  rcases h.2 with ⟨h2, _⟩ | ⟨g', cap, cur', rfl, hb, hg', _⟩
  · subst h2; simp [Value.ownBlock] at hk
  · simp [Value.ownBlock] at hk
    subst hk
    exact ⟨_, hg'⟩
theorem spotC_one (l : List SpotV) (h : ∀ p ∈ l, p.2.oneCell' = true) : ∀ u ∈ spotC l, u.oneCell' = true := by
  intro u hu
  obtain ⟨p, hp, hu⟩ := List.mem_flatMap.1 hu
  simp at hu
  rcases hu with rfl | rfl | rfl
  · rfl
  · rfl
  · exact h p hp
/-- What holds at the head of the first loop. -/
structure Rnd (w wx : World) (tv : Value) (t : RTab) (ms : ByteArray) (sp : List SpotV) (S : Nat → Prop) (k : Nat) (v6 v9 : Value) : Prop where
  only : Only (fun _ => False) w wx
  tab : TabV wx tv S (6 * k) (look t) true
  new : ∀ x, S x → w.heap.size ≤ x
  inv : TabInv t ms
  own6 : wx.ownsRow w.heap.size 71 2 v6 t.length (tabC t)
  tlen : t.length ≤ 6 * k
  msz : ms.size ≤ 17000 + 256 * k
  own9 : wx.ownsRow w.heap.size 51 3 v9 sp.length (spotC sp)
  slen : sp.length ≤ k
  each : ∀ p ∈ sp, SpotOk ms p.1 ∧ wx.ownsRow w.heap.size 9 1 p.2 p.1.ls.length (p.1.ls.map .string)
/-- [][]string that came in. -/
def Rows2 (w : World) (v : Value) (xs : List Value) : Prop := Sl w 1 v xs.length xs ∧ ∀ x ∈ xs, ∃ l : List ByteArray, Sl w 1 x l.length (l.map .string) ∧ ∀ s ∈ l, s.size ≤ maxLen

set_option maxRecDepth 100000 in
set_option maxHeartbeats 4000000 in
theorem nameTables_any (w : World) (m0 : Int) (hm : w.cell? ⟨0, 0, none⟩ = some (.int .i64 m0)) (v : Value) (all : List Value) (ah : Int) (hall : Rows2 w v all) (ha0 : 0 ≤ ah) (ha1 : ah ≤ 65535) :
    Calls Tryd.prog 5 #[v, .int .u16 ah] w fun e w' => e = .returned (.bool true) ∧ Only (fun _ => False) w w' := by
  obtain ⟨i0, hi0, iz0, iz1, iz2⟩ := info_parts infoSpot
  obtain ⟨j0, hj0, jz0, jz1, jz2⟩ := info_parts infoU8
  have HM := Lib.hid hm
  have HE := Lib.hid hall.2
  have HL := Lib.hid hall.1
  obtain ⟨h6, a, cap, rfl, h3, h4, h5⟩ := hall.1
  unfold maxLen at h4
  have H5 := Lib.hid h5
  clear hm hall h5 h6
  go_enter Tryd.func5, Tryd.ntmps5
  go_wp2_with fail
  refine (speaks_any w m0 HM.out).mono ?_
  rintro e w1 ⟨rfl, ho1⟩
  go_wp2_with (at_make; refine Wait.mk ?_)
  generalize hN : (ah % 17000).toNat = n0
  have hn0 : n0 < 17000 := by omega
  have hL : ah % 17000 = (n0 : Int) := by omega
  refine Wait.go (wpList_make_full _ rfl (.tmp 24) (.tmp 24) 43 rfl w.heap.size 5 j0 _ 1 Tryd.underlying43 hj0 jz0 jz1 _ _ _ _ n0 rfl rfl hL hL ?mb ?mm ?mbase ?_)
  case mb => rw [jz2]; omega
  case mm => unfold maxLen; omega
  case mbase => have := ho1.size; simp; omega
  intro w2 own2 gr2
  have hB0 := heap_alloc_new w1 (.cells #[.map none] 41)
  have hb2 : w2.heap[w1.heap.size]? = some (.cells #[.map none] 41 (0, 0)) := (gr2.block _ (by simp) (by simp)).trans hB0
  have ho2 : Only (fun _ => False) w w2 := (ho1.alloc _).grown gr2 (fun k e => by cases e)
  have sl2 := Sl.of_owns own2
  rw [Nat.mul_one, show (Value.int IntKind.u8 0).cells = #[.int .u8 0] from rfl, toList_madeCells_one, show List.replicate n0 (Value.int IntKind.u8 0) = (List.replicate n0 (0 : Int)).map (.int .u8) by simp] at sl2
  have hcv := run_bytes_str (P := Tryd.prog) (src := 43) (dst := 9) (e := 5) Tryd.underlying43 Tryd.underlying5 Tryd.underlying9 (sl2.cast (by simp))
  rw [World.size_alloc] at hcv
  have hmz : (bytesOf (List.replicate n0 0)).size = n0 := by
    show (bytesOf (List.replicate n0 0)).data.toList.length = n0
    simp [bytesOf]
  generalize bytesOf (List.replicate n0 0) = ms0 at *
  have HB0 := Lib.hid hb2
  have HMZ := Lib.hid hmz
  clear hB0 sl2 own2 gr2 hN hL ha0 ha1 hb2 hmz
  go_wp2_with fail
  have hTab0 : TabV w2 (.pointer (some ⟨w1.heap.size, 0, none⟩)) (fun x => x = w1.heap.size) (6 * 0) (look []) true :=
    .inr ⟨w1.heap.size, none, rfl, rfl, fun x => by simp, ⟨.map none, HB0.out, .inl ⟨rfl, rfl, rfl⟩⟩⟩
  have HR0 : Rnd w w2 (.pointer (some ⟨w1.heap.size, 0, none⟩)) [] ms0 [] (fun x => x = w1.heap.size) 0 (.slice none 0 0) (.slice none 0 0) :=
    ⟨ho2, hTab0, fun x e => by have := ho1.size; omega, TabInv.nil _, World.ownsRow_nil _ _ _ _, by simp, by have := HMZ.out; omega, World.ownsRow_nil _ _ _ _, by simp, fun p h => by simp at h⟩
  clear hTab0
  generalize htv : Value.pointer (some ⟨w1.heap.size, 0, none⟩) = tv at *
  clear htv
  go_loopg [6, 8, 9, 10, 11, 12, 13, 14, 15] 12 (fun g v6 v8 v9 v10 v11 v12 v13 v14 v15 wx => ∃ (k : Nat) (t : RTab) (ms : ByteArray) (sp : List SpotV) (S : Nat → Prop), v8 = .string ms ∧ v10 = .int .i64 k ∧ k ≤ all.length ∧ k ≤ 12 ∧ Rnd w wx tv t ms sp S k v6 v9 ∧ g = 12 - k)
  case atStart => exact ⟨0, [], ms0, [], _, rfl, rfl, Nat.zero_le _, Nat.zero_le _, HR0, rfl⟩
  case round =>
    clear ho1 ho2 HR0 hcv
    obtain ⟨k, t, ms, sp, S, rfl, rfl, hk, hk12, hR, hg⟩ := hrel
    have HR := Lib.hid hR
    have Hg := Lib.hid hg
    clear hg
    have hmsz := hR.msz
    by_cases hgo : k < all.length ∧ k < 12
    · obtain ⟨hlt, h12⟩ := hgo
      have q1 : decide ((k : Int) < (all.length : Int)) = true := by simp; omega
      have q2 : decide ((k : Int) < 12) = true := by simp; omega
      obtain ⟨b, off, ha, hc⟩ := H5.out.resolve_left (by omega)
      subst ha
      obtain ⟨l0, hx, hxs⟩ := HE.out _ (List.getElem_mem hlt)
      have hz := hR.only.cell (hc k _ (List.getElem?_eq_getElem hlt)) id
      have hxw := hx.new hR.only
      generalize all[k] = x at *
      have HX := Lib.hid hxw
      have HXS := Lib.hid hxs
      clear hx hxs hxw hc hR
      go_wp2_with fail
      refine (cut_own _ x l0 6 64 HX.out HXS.out (by omega) (by omega)).mono ?_
      rintro e w3 ⟨vl, rfl, ho3, hl3⟩
      obtain ⟨c1, c2⟩ := cutL_size l0 6 64
      generalize hcl : cutL l0 6 64 = l at *
      obtain ⟨va, vc, rfl⟩ : ∃ a c, vl = .slice a l.length c := by obtain ⟨_, a, c, h, _⟩ := Sl.of_owns hl3; exact ⟨a, c, h⟩
      have HL3 := Lib.hid hl3
      have HC2 := Lib.hid (show ∀ s ∈ l, s.size ≤ maxLen from fun s hs => by have := c2 s hs; unfold maxLen; omega)
      have HC3 := Lib.hid (show ∀ s ∈ l, s.size ≤ 70 from fun s hs => by have := c2 s hs; omega)
      have hT3 := HR.out.tab.kept ho3 (fun _ _ h => h)
      have hB3 := HR.out.only.trans ho3
      have hw3 := hB3.size
      clear hcl hl3 c2
      cases hmy : mayGo 0 l with
      | false =>
        have HMY := Lib.hid hmy
        clear hmy
        go_wp2_with fail
        refine (add_bad _ tv ms _ l (Sl.of_owns HL3.out) HC2.out HMY.out).mono ?_
        rintro e w4 ⟨rfl, rfl⟩
        go_wp2_with fail
        refine (rmay_any _ _ l (Sl.of_owns HL3.out) HC2.out).mono ?_
        rintro e w4 ⟨rfl, rfl⟩
        rw [HMY.out]
        go_wp2_with fail
        go_roundg (12 - (k + 1))
        case measure => rw [Hg.out]; omega
        case rel =>
          have h := HR.out
          refine ⟨k + 1, t, ms, sp, S, rfl, by go_num, by omega, by omega, ⟨hB3, hT3.more (by omega), h.new, h.inv, owns_only h.own6 ho3 (fun _ _ => id), by have := h.tlen; omega, by omega, owns_only h.own9 ho3 (fun _ _ => id), by have := h.slen; omega, fun p hp => ⟨(h.each p hp).1, owns_only (h.each p hp).2 ho3 (fun _ _ => id)⟩⟩, rfl⟩
      | true =>
        have HMY := Lib.hid hmy
        have hstep := tab_step HR.out.inv l hmy
        have hsz := addR_size l t ms
        have hbl := (mayGo_all l 0 hmy).2
        obtain ⟨e1, e2⟩ := addR_addP l t ms
        have E2 := Lib.hid e2
        have HST := Lib.hid hstep
        clear hmy hstep e2
        go_wp2_with fail
        refine (add_good _ tv S (6 * k) (look t) true ms _ l hT3 (ranged_look t HR.out.inv.1) (Sl.of_owns HL3.out) HMY.out (by omega) (by omega)).mono ?_
        rw [← e1]
        rintro e w4 ⟨rfl, S', ho4, ht4, hr4, hs4⟩
        rw [← E2.out] at ht4
        clear e1 hr4
        have HLv := Lib.hid (owns_other (own_base HL3.out (by have := HR.out.only.size; exact this)) ho4 (hT3.other (by decide)))
        have H6 := Lib.hid (owns_other (owns_only HR.out.own6 ho3 (fun _ _ => id)) ho4 (hT3.other (by decide)))
        have H9 := Lib.hid (owns_other (owns_only HR.out.own9 ho3 (fun _ _ => id)) ho4 (hT3.other (by decide)))
        have HEA := Lib.hid (fun p hp => owns_other (owns_only (HR.out.each p hp).2 ho3 (fun _ _ => id)) ho4 (hT3.other (by decide)))
        have hS4 : ∀ x, S' x → w.heap.size ≤ x := fun x hx => by
          rcases hs4 x hx with h | h
          · exact HR.out.new x h
          · omega
        have hB4 : Only (fun _ => False) w w4 := hB3.tr ho4 (fun i hi h => by have := HR.out.new i h; omega)
        have HS4 := Lib.hid hS4
        clear hs4 hS4
        go_wp2_with fail
        refine (rmay_any _ _ l (Sl.of_owns HLv.out) HC2.out).mono ?_
        rintro e w5 ⟨rfl, rfl⟩
        rw [HMY.out]
        go_wp2_with fail
        have htl := HR.out.tlen
        refine (radd_any w.heap.size _ _ _ t ms l hB4.size H6.out HR.out.inv.1 (Sl.of_owns HLv.out) HC3.out (by omega) (by omega) (by omega)).mono ?_
        rintro e w5 ⟨v6', rfl, ho5, h6'⟩
        have HL5 := Lib.hid (owns_only HLv.out ho5 (fun _ _ => id))
        have H95 := Lib.hid (owns_only H9.out ho5 (fun _ _ => id))
        have HEA5 := Lib.hid (fun p hp => owns_only (HEA.out p hp) ho5 (fun _ _ => id))
        have HT5 := Lib.hid (ht4.kept ho5 (fun _ _ h => h))
        have H65 := Lib.hid h6'
        have HB5 := Lib.hid (hB4.trans ho5)
        have hslen := HR.out.slen
        clear h6' HLv H9 HEA ht4
        generalize hS : (addR t ms l).1 = s at *
        generalize hT : (addR t ms l).2 = t' at *
        clear hS hT
        go_wp2_with (at_builtin; refine Wait.mk ?_)
        refine Wait.go (wpList_append_src _ rfl (.tmp 72) (.tmp 79) 44 44 rfl w.heap.size 51 i0 _ 3 40 Tryd.underlying44 hi0 iz0 iz1 iz2 rfl _ sp.length (spotC sp) rfl (H95.out.alloc _) _ 1 (spotC [(⟨ms.size, s.size, l⟩, .slice va l.length vc)]) rfl ?src5 ?m5 ?b5 ?base5 ?_)
        case src5 => exact Src.ofSlice _ Tryd.underlying44 _ _ _ _ rfl (news_new _ _ _) (spotC_one _ (by simp [Value.oneCell']))
        case m5 => unfold maxLen; omega
        case b5 => omega
        case base5 => have := HB5.out.size; simp; omega
        intro v9' w6 own9 gr9 hv9
        have o6 : Only (fun x => u9.ownBlock = some x) w5 w6 := ((Only.refl _ _).alloc _).grown gr9 (fun k e => .inr e)
        have hB6 : Only (fun _ => False) w w6 := (HB5.out.alloc _).own (H95.out.alloc _) (Nat.le_refl _) gr9
        have T6 := Lib.hid (HT5.out.kept o6 (fun x hx e => by obtain ⟨cur, hcu⟩ := own_type H95.out e; exact HT5.out.other (by decide) _ _ hcu hx))
        have H66 := Lib.hid (owns_other H65.out o6 (own_blocks H95.out (by decide)))
        have HL6 := Lib.hid (owns_other HL5.out o6 (own_blocks H95.out (by decide)))
        have HEA6 := Lib.hid (fun p hp => owns_other (HEA5.out p hp) o6 (own_blocks H95.out (by decide)))
        have O9 := Lib.hid own9
        clear own9 gr9 hv9 o6
        go_wp2_with fail
        go_roundg (12 - (k + 1))
        case measure => rw [Hg.out]; omega
        case rel =>
          have h := HR.out
          refine ⟨k + 1, t', s, sp ++ [(⟨ms.size, s.size, l⟩, .slice va l.length vc)], S', rfl, by go_num, by omega, by omega, ⟨hB6, T6.out.more (by omega), HS4.out, HST.out.2.1, H66.out, by omega, by omega, ?_, by rw [List.length_append]; simp; omega, ?_⟩, rfl⟩
          · rw [spotC_append, List.length_append]
            exact O9.out
          · intro p hp
            rcases List.mem_append.1 hp with hp | hp
            · refine ⟨?_, HEA6.out p hp⟩
              obtain ⟨x, hx⟩ := HST.out.1
              rw [hx]
              exact (h.each p hp).1.more x
            · rw [List.mem_singleton] at hp
              subst hp
              exact ⟨HST.out.2.2, HL6.out⟩
    · have hq : (¬ k < all.length ∧ decide ((k : Int) < (all.length : Int)) = false ∧ decide (k < all.length) = false) ∨ ((k < all.length ∧ decide ((k : Int) < (all.length : Int)) = true ∧ decide (k < all.length) = true) ∧ decide ((k : Int) < 12) = false ∧ 12 ≤ k) := by
        simp; omega
      obtain ⟨hh, a9, c9, rfl, g3, g4, g5⟩ := id (Sl.of_owns hR.own9)
      have hslen := hR.slen
      have ho := hR.only
      have G5 := Lib.hid g5
      unfold maxLen at g4
      clear hR hh g5 H5
      rcases hq with ⟨q1, q2, q3⟩ | ⟨⟨q1, q2, q3⟩, q4, q5⟩
      all_goals (
        go_wp2_with fail
        go_loopg [16, 17, 18, 19] sp.length (fun g v16 v17 v18 v19 wx => ∃ i : Nat, v16 = .int .i64 i ∧ i ≤ sp.length ∧ Only (fun _ => False) wr wx ∧ g = sp.length - i)
        case atStart => exact ⟨0, rfl, Nat.zero_le _, Only.refl _ _, rfl⟩
        case round =>
          obtain ⟨i, rfl, hi, hoi, hgi⟩ := hrel
          have Hgi := Lib.hid hgi
          clear hgi
          by_cases hil : i < sp.length
          · obtain ⟨b, off, ha, hc⟩ := G5.out.resolve_left (by omega)
            subst ha
            obtain ⟨z1, z2, z3⟩ := spotC_at sp i hil
            have y1 := hoi.cell (hc _ _ z1) id
            have y2 := hoi.cell (hc _ _ z2) id
            have y3 := hoi.cell (hc _ _ z3) id
            rw [← Nat.add_assoc] at y2 y3
            have hek := HR.out.each _ (List.getElem_mem hil)
            generalize sp[i] = p at *
            obtain ⟨⟨pos, stop, ls⟩, pv⟩ := p
            obtain ⟨hok, hpv⟩ := hek
            have HPV := Lib.hid hpv
            have HOK := Lib.hid hok
            have hpos : pos ≤ ms.size := hok.1
            dsimp only at y1 y2 y3
            clear z1 z2 z3 hc hpv hok
            go_wp2_with fail
            refine (read_any _ ms pos (by omega) hpos).mono ?_
            rw [HOK.out.read]
            rintro e w4 ⟨v4, rfl, ho4, hs4⟩
            have y22 := ho4.cell y2 id
            have y33 := ho4.cell y3 id
            have HPV4 := Lib.hid (owns_only HPV.out (hoi.trans ho4) (fun _ _ => id))
            have q6 : (((stop : Nat) : Int) != (stop : Int)) = false := by simp
            clear y1 y2 y3
            go_wp2_with fail
            refine (same_any _ _ _ ls ls hs4 (Sl.of_owns HPV4.out)).mono ?_
            rintro e w5 ⟨rfl, ho5⟩
            have q7 : decide (ls = ls) = true := by simp
            rw [q7]
            go_wp2_with fail
            go_roundg (sp.length - (i + 1))
            case measure => rw [Hgi.out]; omega
            case rel => exact ⟨i + 1, by go_num, by omega, (hoi.trans ho4).trans ho5, rfl⟩
          · go_wp2_with fail
            go_ret
            exact ⟨rfl, ho.trans hoi⟩)
end Go.Proofs.YtfgkljjiopohgaaDoor
