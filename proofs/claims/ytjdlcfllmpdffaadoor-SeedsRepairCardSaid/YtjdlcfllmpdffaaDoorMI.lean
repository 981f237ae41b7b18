/- bellhoplaw20: which seed is asked when; speaks. -/
import Derived.Test.YtjdlcfllmpdffaaDoorMG
import Derived.RegionTactic
import Derived.Test.YtjdlcfllmpdffaaDoorMH
import Derived.Test.YtjdlcfllmpdffaaDoorMA
import Derived.Deep.CutBlock
/-! bellhopref20: Asked; seeds.New. -/
namespace Go.Proofs.YtjdlcfllmpdffaaDoor
open Go.Conc Go.RowKit Go.Maps

set_option maxRecDepth 100000 in
theorem rasked_yes (w : World) (v : Value) (l : List Int) (every tick : Int) (h : Sl w 1 v l.length (l.flatMap intC)) (i : Nat) (hi : i < l.length) (he : 1 ≤ every) (ht : tick % every = 0) (hq : 1 ≤ tick / every) (hq2 : tick / every ≤ 1000) (hix : (tick / every - 1) % (l.length : Int) = (i : Nat)) (ht0 : 0 ≤ tick) (ht2 : tick ≤ 1000) (he2 : every ≤ 1000) :
    Calls Tryd.prog 22 #[v, .int .i64 every, .int .i64 tick] w fun e w' => e = .returned (.int .i64 l[i]) ∧ w = w' := by
  obtain ⟨a, cap, rfl, h1, h2, h3⟩ := Sl.cells intC_length h
  unfold maxLen at h2
  obtain ⟨b, off, ha, hc⟩ := h3.at i hi
  subst ha
  have p0 := hc 0 _ rfl
  simp only [Nat.add_zero, Nat.mul_one] at p0
  generalize l[i] = z at *
  have c5 : (tick % every != 0) = false := by rw [ht]; rfl
  have e0 : ¬ every = 0 := by omega
  have e1 : ¬ every < 1 := by omega
  have e2 : ¬ (l.length : Int) = 0 := by omega
  have e3 : ((l.length : Int) == 0) = false := by simpa using e2
  have i1 : (0 : Int) ≤ (i : Int) := by omega
  have i2 : (i : Int) < (l.length : Int) := by omega
  clear hc h3 h ht
  go_enter Tryd.func22, Tryd.ntmps22
  go_wp2_with fail
  go_ret
  exact ⟨rfl, rfl⟩
/-- A node's seeds: their block x. -/
structure SeedsAt (w : World) (x : Nat) (every tick next : Int) (l : List Int) (s : Nat) : Prop where
  out : ∃ v base, w.heap[x]? = some (.cells #[v, .int .i64 every, .int .i64 tick, .int .i64 next, .pointer (some ⟨s, 0, none⟩)] 146 (0, 0)) ∧ IRow w base v l
theorem owns_ty {w w' : World} {base : Nat} {e t : TypeId} {size n x : Nat} {v : Value} {xs : List Value} {cs : Array Value} {f : Nat × Nat} (h : w.ownsRow base e size v n xs) (hx : w.heap[x]? = some (.cells cs t f)) (ht : t ≠ e) (ho : Only (fun i => i = x) w w') : w'.ownsRow base e size v n xs := by
  refine ⟨h.1, ?_⟩
  rcases h.2 with h2 | ⟨g, cap, cur, hv, hb, hg, r⟩
  · exact .inl h2
  · refine .inr ⟨g, cap, cur, hv, hb, ?_, r⟩
    refine ho.old hg (fun e2 => ?_)
    subst e2
    rw [hx] at hg
    injection hg with hg
    injection hg with _ hg _
    exact ht hg
theorem SeedsAt.new {w w' : World} {x : Nat} {every tick next : Int} {l : List Int} {s : Nat} (h : SeedsAt w x every tick next l s) (ho : Only (fun _ => False) w w') : SeedsAt w' x every tick next l s := by
  obtain ⟨v, base, h1, h2⟩ := h.out
  exact ⟨v, base, ho.old h1 id, owns_only h2 ho (fun _ _ => id)⟩
theorem SeedsAt.lt {w : World} {x : Nat} {every tick next : Int} {l : List Int} {s : Nat} (h : SeedsAt w x every tick next l s) : x < w.heap.size := by
  obtain ⟨v, base, h1, h2⟩ := h.out
  exact lt_of_block h1
/-- Which seeds may be. -/
def headOk (self every : Int) (n : Nat) : Bool := nodeOk self && decide (n ≤ 64 ∧ 0 ≤ every ∧ every ≤ 1000)
def seedsOk (self : Int) (l : List Int) (every : Int) : Bool := headOk self every l.length && l.all nodeOk
def NewPost (w w' : World) (self : Int) (l : List Int) (every : Int) (s : Nat) (e : Ending) : Prop :=
  Only (fun _ => False) w w' ∧ ((seedsOk self l every = true ∧ ∃ x, x = w.heap.size ∧ e = .returned (.tuple #[.pointer (some ⟨x, 0, none⟩), .int .i64 0]) ∧ SeedsAt w' x every 0 0 (othersL self l) s) ∨ (seedsOk self l every = false ∧ e = .returned (.tuple #[.pointer none, .int .i64 1])))
theorem snew_nil (w : World) : Calls Tryd.prog 19 #[.int .i64 1, .slice none 0 0, .int .i64 1, .pointer none] w fun e w' => e = .returned (.tuple #[.pointer none, .int .i64 1]) ∧ w = w' := by
  go_enter Tryd.func19, Tryd.ntmps19
  go_wp2_with fail
  refine (snode_any w 1).mono ?_
  rintro e w1 ⟨rfl, rfl⟩
  have h : nodeOk 1 = true := by decide
  go_wp2_with fail
  go_ret2
  exact ⟨rfl, rfl⟩
set_option maxRecDepth 100000 in
theorem sdnew_head (w : World) (self : Int) (l : List Int) (every : Int) (s : Nat) (v : Value) (h : Sl w 1 v l.length (l.flatMap intC)) (hb : headOk self every l.length = false) :
    Calls Tryd.prog 19 #[.int .i64 self, v, .int .i64 every, .pointer (some ⟨s, 0, none⟩)] w fun e w' => e = .returned (.tuple #[.pointer none, .int .i64 1]) ∧ w = w' := by
  obtain ⟨a, cap, rfl, h1, h2, h3⟩ := Sl.cells intC_length h
  unfold headOk at hb
  have HN := Lib.hid (snode_any w self)
  clear h3 h
  generalize nodeOk self = nk at *
  cases nk
  · clear hb
    go_enter Tryd.func19, Tryd.ntmps19
    go_wp2_with fail
    refine HN.out.mono ?_
    rintro e w1 ⟨rfl, rfl⟩
    go_wp2_with fail
    go_ret2
    exact ⟨rfl, rfl⟩
  · have hb2 : ¬ (l.length ≤ 64 ∧ 0 ≤ every ∧ every ≤ 1000) := by simpa using hb
    clear hb
    by_cases c1 : (l.length : Int) > 64
    · clear hb2
      go_enter Tryd.func19, Tryd.ntmps19
      go_wp2_with fail
      refine HN.out.mono ?_
      rintro e w1 ⟨rfl, rfl⟩
      go_wp2_with fail
      go_ret2
      exact ⟨rfl, rfl⟩
    · by_cases c2 : every < 0
      · clear hb2
        go_enter Tryd.func19, Tryd.ntmps19
        go_wp2_with fail
        refine HN.out.mono ?_
        rintro e w1 ⟨rfl, rfl⟩
        go_wp2_with fail
        go_ret2
        exact ⟨rfl, rfl⟩
      · have c3 : every > 1000 := by omega
        clear hb2
        go_enter Tryd.func19, Tryd.ntmps19
        go_wp2_with fail
        refine HN.out.mono ?_
        rintro e w1 ⟨rfl, rfl⟩
        go_wp2_with fail
        go_ret2
        exact ⟨rfl, rfl⟩
theorem all_snoc (p : Int → Bool) (l : List Int) (k : Nat) (hk : k < l.length) : (l.take (k + 1)).all p = ((l.take k).all p && p l[k]) := by
  rw [List.take_add_one, List.getElem?_eq_getElem hk, List.all_append]
  simp
theorem all_bad (p : Int → Bool) (l : List Int) (k : Nat) (hk : k < l.length) (h : p l[k] = false) : l.all p = false := by
  rw [List.all_eq_false]
  exact ⟨l[k], List.getElem_mem hk, by rw [h]; simp⟩
set_option maxRecDepth 100000 in
set_option maxHeartbeats 2000000 in
theorem sdnew_any (w : World) (self : Int) (l : List Int) (every : Int) (s : Nat) (v : Value) (h : Sl w 1 v l.length (l.flatMap intC)) :
    Calls Tryd.prog 19 #[.int .i64 self, v, .int .i64 every, .pointer (some ⟨s, 0, none⟩)] w fun e w' => NewPost w w' self l every s e := by
  by_cases hh : headOk self every l.length = false
  · refine (sdnew_head w self l every s v h hh).mono ?_
    rintro e w' ⟨rfl, rfl⟩
    exact ⟨Only.refl _ _, .inr ⟨by unfold seedsOk; rw [hh]; rfl, rfl⟩⟩
  · have hok : seedsOk self l every = l.all nodeOk := by unfold seedsOk; rw [Bool.not_eq_false _ |>.mp hh]; rfl
    have hh2 : headOk self every l.length = true := by simpa using hh
    unfold headOk at hh2
    simp only [Bool.and_eq_true, decide_eq_true_eq] at hh2
    obtain ⟨hn, c1, c2, c3⟩ := hh2
    have HN := Lib.hid (show Calls Tryd.prog 64 #[.int .i64 self] w fun e w' => e = .returned (.bool true) ∧ w = w' by rw [← hn]; exact snode_any w self)
    obtain ⟨i0, hi0, iz0, iz1, iz2⟩ := info_parts infoInt
    obtain ⟨a, cap, rfl, h1, h2, h3⟩ := Sl.cells intC_length h
    unfold maxLen at h2
    obtain ⟨W, hW⟩ : ∃ W, W = w.alloc (.cells #[.slice none 0 0, .int .i64 every, .int .i64 0, .int .i64 0, .pointer (some ⟨s, 0, none⟩)] 146) := ⟨_, rfl⟩
    have hbW : W.heap[w.heap.size]? = some (.cells #[.slice none 0 0, .int .i64 every, .int .i64 0, .int .i64 0, .pointer (some ⟨s, 0, none⟩)] 146 (0, 0)) := by rw [hW]; exact heap_alloc_new w _
    have hoW : Only (fun _ => False) w W := by rw [hW]; exact (Only.refl _ _).alloc _
    have hsW : W.heap.size = w.heap.size + 1 := by rw [hW]; simp
    have HNP := Lib.hid (show ∀ w' e, (Only (fun _ => False) w w' ∧ ((seedsOk self l every = true ∧ ∃ x, x = w.heap.size ∧ e = .returned (.tuple #[.pointer (some ⟨x, 0, none⟩), .int .i64 0]) ∧ SeedsAt w' x every 0 0 (othersL self l) s) ∨ (seedsOk self l every = false ∧ e = .returned (.tuple #[.pointer none, .int .i64 1])))) → NewPost w w' self l every s e from fun _ _ h => h)
    have hC := h3.new hoW (fun _ _ _ => id)
    have HOK := Lib.hid hok
    have HC := Lib.hid hC
    have HBW := Lib.hid hbW
    have HOW := Lib.hid hoW
    have HSZ := Lib.hid hsW
    have HCW := Lib.hid h3
    clear hok hC hbW hoW hsW h3
    have c4 : ¬ (l.length : Int) > 64 := by omega
    have c5 : ¬ every < 0 := by omega
    have c6 : ¬ every > 1000 := by omega
    clear h hn hh
    go_enter Tryd.func19, Tryd.ntmps19
    go_wp2_with fail
    refine HN.out.mono ?_
    rintro e w1 ⟨rfl, rfl⟩
    go_upto_region 4 with (fail)
    rw [← hW]
    clear hW
    generalize hX : w.heap.size = X at *
    have HX := Lib.hid hX
    clear hX
    go_wp2_with fail
    go_loopg [39] l.length (fun g v39 wr => ∃ (k : Nat) (v : Value), v39 = .int .i64 k ∧ k ≤ l.length ∧ Only (fun i => i = X) W wr ∧ wr.heap[X]? = some (.cells #[v, .int .i64 every, .int .i64 0, .int .i64 0, .pointer (some ⟨s, 0, none⟩)] 146 (0, 0)) ∧ IRow wr W.heap.size v (othersL self (l.take k)) ∧ (l.take k).all nodeOk = true ∧ g = l.length - k)
    case atStart => exact ⟨0, .slice none 0 0, rfl, Nat.zero_le _, Only.refl _ _, HBW.out, World.ownsRow_nil W _ _ _, rfl, rfl⟩
    case round =>
      obtain ⟨k, v, rfl, hk, ho, hbx, hrow, hall, hg⟩ := hrel
      have Hg := Lib.hid hg
      have HO := Lib.hid ho
      have HROW := Lib.hid hrow
      have HBX := Lib.hid hbx
      have HALL := Lib.hid hall
      clear hg ho hrow hbx hall
      by_cases hlt : k < l.length
      · obtain ⟨b, off, he, hc⟩ := HCW.out.at k hlt
        subst he
        have p00 := hc 0 _ rfl
        have hbl : b < X := by have := World.block_lt_of_cell? _ _ p00; have h9 := HX.out; simp only at this; omega
        have p0 := HO.out.cell (HOW.out.cell p00 id) (fun e => by have e2 : b = X := e; omega)
        simp only [Nat.add_zero, Nat.mul_one] at p0
        have hts := others_snoc self l k hlt
        have hta := all_snoc nodeOk l k hlt
        have htb := all_bad nodeOk l k hlt
        have hol : (othersL self (l.take k)).length ≤ k := Nat.le_trans (List.length_filter_le _ _) (List.length_take_le _ _)
        have hlt' : (k : Int) < (l.length : Int) := by omega
        generalize l[k] = n at *
        have HNK := Lib.hid (snode_any wr n)
        generalize nodeOk n = nk at *
        obtain ⟨va, vcap, rfl, _, _, _⟩ := Sl.cells intC_length (Sl.of_owns HROW.out)
        have x0 : wr.cell? ⟨X, 0, none⟩ = some (.slice va (othersL self (l.take k)).length vcap) := cell_at HBX.out 0
        have xf : ∀ i, wr.frozen? ⟨X, i, none⟩ = false := free_at HBX.out
        have hXl : X < wr.heap.size := lt_of_block HBX.out
        have HTS := Lib.hid hts
        have HOL := Lib.hid hol
        have HTA := Lib.hid hta
        have HTB := Lib.hid htb
        clear hts hol hta htb
        clear hc p00
        cases nk
        · have hbad := HTB.out rfl
          have HBAD := Lib.hid hbad
          clear hbad
          go_wp2_with fail
          refine HNK.out.mono ?_
          rintro e w2 ⟨rfl, rfl⟩
          go_wp2_with fail
          go_ret2
          exact HNP.out _ _ ⟨HOW.out.tr HO.out (fun i hi e => by have := HX.out; omega), .inr ⟨by rw [HOK.out]; exact HBAD.out, rfl⟩⟩
        · by_cases hn : n = self
          · have hnb : (n != self) = false := by rw [hn]; simp
            have HN2 := Lib.hid hn
            clear hn
            go_wp2_with fail
            refine HNK.out.mono ?_
            rintro e w2 ⟨rfl, rfl⟩
            go_wp2_with fail
            go_roundg (l.length - (k + 1))
            case measure => rw [Hg.out]; omega
            case rel =>
              refine ⟨k + 1, _, by go_num, by omega, HO.out, HBX.out, ?_, by rw [HTA.out, HALL.out]; rfl, rfl⟩
              rw [HTS.out, if_pos HN2.out, List.append_nil]
              exact HROW.out
          · have hnb : (n != self) = true := by simpa using hn
            have HN2 := Lib.hid hn
            clear hn
            go_wp2_with fail
            refine HNK.out.mono ?_
            rintro e w2 ⟨rfl, rfl⟩
            go_wp2_with (at_builtin; refine Wait.mk ?_)
            refine Wait.go (wpList_append_src _ rfl (.tmp 53) (.tmp 55) 45 45 rfl W.heap.size 3 i0 _ 1 8 Tryd.underlying45 hi0 iz0 iz1 iz2 rfl _ (othersL self (l.take k)).length ((othersL self (l.take k)).flatMap intC) rfl (HROW.out.alloc _) _ 1 (intC n) rfl ?src4 ?m4 ?b4 ?base4 ?_)
            case src4 => exact Src.ofSlice _ Tryd.underlying45 _ _ _ _ rfl (news_new _ _ _) (intC_one _)
            case m4 => have := HOL.out; unfold maxLen; omega
            case b4 => have := HOL.out; omega
            case base4 => have := HO.out.size; simp; omega
            intro v4 w5 own4 gr4 _
            have ho5 : Only (fun i => i = X) W w5 := (HO.out.alloc _).own (HROW.out.alloc _) (Nat.le_refl _) gr4
            have hXW : X < W.heap.size := lt_of_block HBW.out
            have hbx5 : w5.heap[X]? = some (.cells #[.slice va (othersL self (l.take k)).length vcap, .int .i64 every, .int .i64 0, .int .i64 0, .pointer (some ⟨s, 0, none⟩)] 146 (0, 0)) :=
              by
                have gr5 : (wr.alloc (.cells #[.int .i64 n] 3)).grownBy w5 (Value.slice va (othersL self (l.take k)).length vcap).ownBlock := gr4
                exact (gr5.block X (by simp; omega) (fun e => by have := (HROW.out.lt X e.symm).1; omega)).trans (blk_old HBX.out)
            obtain ⟨ua, ucap, hve, _, _, _⟩ := Sl.cells (l := othersL self (l.take k) ++ [n]) intC_length (by
              have h7 := Sl.of_owns own4
              rw [List.length_append, List.flatMap_append]
              have e1 : [n].flatMap intC = intC n := by simp
              rw [e1]
              exact h7)
            subst hve
            have x05 : w5.cell? ⟨X, 0, none⟩ = some (.slice va (othersL self (l.take k)).length vcap) := cell_at hbx5 0
            have xf5 : ∀ i, w5.frozen? ⟨X, i, none⟩ = false := free_at hbx5
            have HO5 := Lib.hid ho5
            have HW5 := Lib.hid own4
            have HBX5 := Lib.hid hbx5
            clear ho5 own4 hbx5
            clear gr4 x0 xf p0
            go_wp2_with fail
            obtain ⟨w6, hw6⟩ : ∃ w6, w6 = w5.setCell ⟨X, 0, none⟩ (.slice ua ((othersL self (l.take k)).length + 1) ucap) := ⟨_, rfl⟩
            have t6 : Only (fun i => i = X) w5 w6 := by rw [hw6]; exact (Only.refl _ _).setCell (S := fun i => i = X) (p := ⟨X, 0, none⟩) (.inr rfl) _
            have hb6 : w6.heap[X]? = some (.cells #[.slice ua ((othersL self (l.take k)).length + 1) ucap, .int .i64 every, .int .i64 0, .int .i64 0, .pointer (some ⟨s, 0, none⟩)] 146 (0, 0)) := by rw [hw6]; exact set_at HBX5.out 0 _
            rw [← hw6]
            have hrow6 := owns_ty HW5.out HBX5.out (by decide) t6
            rw [List.length_append] at hrow6
            have T6 := Lib.hid t6
            have HB6 := Lib.hid hb6
            have HROW6 := Lib.hid hrow6
            clear t6 hb6 hrow6
            clear hw6
            go_roundg (l.length - (k + 1))
            case measure => rw [Hg.out]; omega
            case rel =>
              refine ⟨k + 1, _, by go_num, by omega, HO5.out.trans T6.out, HB6.out, ?_, by rw [HTA.out, HALL.out]; rfl, rfl⟩
              unfold IRow
              rw [HTS.out, if_neg HN2.out, List.length_append, List.flatMap_append]
              have e1 : [n].flatMap intC = intC n := by simp
              rw [e1]
              exact HROW6.out
      · have hke : k = l.length := by omega
        have hlt' : ¬ (k : Int) < (l.length : Int) := by omega
        have hW := HROW.out
        have hA := HALL.out
        rw [hke, List.take_length] at hW hA
        have HW2 := Lib.hid hW
        have HA2 := Lib.hid hA
        clear hW hA
        clear hke
        go_wp2_with fail
        go_ret2
        exact HNP.out _ _ ⟨HOW.out.tr HO.out (fun i hi e => by have := HX.out; omega), .inl ⟨by rw [HOK.out]; exact HA2.out, X, rfl, rfl, ⟨_, _, HBX.out, HW2.out⟩⟩⟩
end Go.Proofs.YtjdlcfllmpdffaaDoor
/-! seeds: Tick. -/
namespace Go.Proofs.YtjdlcfllmpdffaaDoor
open Go.Conc Go.RowKit Go.Maps

theorem sdtick_nil (w : World) : Calls Tryd.prog 21 #[.pointer none] w fun e w' => e = .returned (.slice none 0 0) ∧ w = w' := by
  go_enter Tryd.func21, Tryd.ntmps21
  go_wp2_with fail
  go_ret
  exact ⟨rfl, rfl⟩
theorem sdtick_zero (w : World) (x : Nat) (tick next : Int) (l : List Int) (s : Nat) (h : SeedsAt w x 0 tick next l s) : Calls Tryd.prog 21 #[.pointer (some ⟨x, 0, none⟩)] w fun e w' => e = .returned (.slice none 0 0) ∧ w = w' := by
  obtain ⟨v, base, h1, h2⟩ := h.out
  have x1 : w.cell? ⟨x, 1, none⟩ = some (.int .i64 0) := cell_at h1 1
  clear h h1 h2
  go_enter Tryd.func21, Tryd.ntmps21
  go_wp2_with fail
  go_ret
  exact ⟨rfl, rfl⟩
set_option maxRecDepth 100000 in
set_option maxHeartbeats 1000000 in
theorem sdtick_no (w : World) (x : Nat) (every tick next : Int) (l : List Int) (s : Nat) (h : SeedsAt w x every tick next l s) (he : 1 ≤ every) (he2 : every ≤ 1000) (ht : 0 ≤ tick) (ht2 : tick < every) (hn : (tick + 1) % every ≠ 0 ∨ l.length = 0) :
    Calls Tryd.prog 21 #[.pointer (some ⟨x, 0, none⟩)] w fun e w' => e = .returned (.slice none 0 0) ∧ Only (fun i => i = x) w w' ∧ SeedsAt w' x every ((tick + 1) % every) next l s := by
  obtain ⟨v, base, h1, h2⟩ := h.out
  obtain ⟨va, vcap, rfl, _, _, _⟩ := Sl.cells intC_length (Sl.of_owns h2)
  have x1 : w.cell? ⟨x, 1, none⟩ = some (.int .i64 every) := cell_at h1 1
  have x2 : w.cell? ⟨x, 2, none⟩ = some (.int .i64 tick) := cell_at h1 2
  have xf : ∀ i, w.frozen? ⟨x, i, none⟩ = false := free_at h1
  have e0 : ¬ every = 0 := by omega
  have e3 : (every == 0) = false := by simpa using e0
  have H1 := Lib.hid h1
  have H2 := Lib.hid h2
  have HN := Lib.hid hn
  clear h1 h2 hn
  clear h
  go_enter Tryd.func21, Tryd.ntmps21
  go_upto_region 3 with (fail)
  go_cut [3] (fun v3 wx => wx.heap[x]? = some (.cells #[.slice va l.length vcap, .int .i64 every, .int .i64 ((tick + 1) % every), .int .i64 next, .pointer (some ⟨s, 0, none⟩)] 146 (0, 0)) ∧ Only (fun i => i = x) w wx)
  case first =>
    go_region
    all_goals
      go_wp2_with fail
      go_meet
      exact ⟨set_at H1.out 2 _, ((Only.refl _ _).setCell (S := fun i => i = x) (p := ⟨x, 2, none⟩) (.inr rfl) _).drew⟩
  case rest =>
  obtain ⟨hb, ho⟩ := hcut
  have hrow := owns_ty H2.out H1.out (by decide) ho
  generalize htt : (tick + 1) % every = tt at *
  have x2' : wc.cell? ⟨x, 2, none⟩ = some (.int .i64 tt) := cell_at hb 2
  have x0' : wc.cell? ⟨x, 0, none⟩ = some (.slice va l.length vcap) := cell_at hb 0
  have HTT := Lib.hid htt
  have HB := Lib.hid hb
  have HO := Lib.hid ho
  have HROW := Lib.hid hrow
  clear htt hb ho hrow
  clear x1 x2 xf
  by_cases c : tt = 0
  · have hl : l.length = 0 := HN.out.resolve_left (fun h => h c)
    have c5 : (tt != 0) = false := by rw [c]; rfl
    have c6 : ((l.length : Nat) : Int) = 0 := by omega
    have c7 : (((l.length : Nat) : Int) == 0) = true := by rw [c6]; rfl
    have HFIN := Lib.hid (show SeedsAt wc x every tt next l s from ⟨_, _, HB.out, HROW.out⟩)
    clear c hl c6
    go_wp2_with fail
    go_ret
    exact ⟨rfl, HO.out, by rw [HTT.out]; exact HFIN.out⟩
  · have c5 : (tt != 0) = true := by simpa using c
    have HFIN := Lib.hid (show SeedsAt wc x every tt next l s from ⟨_, _, HB.out, HROW.out⟩)
    clear c
    go_wp2_with fail
    go_ret
    exact ⟨rfl, HO.out, by rw [HTT.out]; exact HFIN.out⟩
set_option maxRecDepth 100000 in
set_option maxHeartbeats 1000000 in
theorem sdtick_yes (w : World) (x : Nat) (every tick next : Int) (l : List Int) (s b : Nat) (most ttl r : Int) (L : List RecT) (h : SeedsAt w x every tick next l s) (hs : StoreAt w s b most ttl r L) (hxs : x ≠ s) (he : 1 ≤ every) (he2 : every ≤ 1000) (ht : 0 ≤ tick) (ht2 : tick < every) (hn : (tick + 1) % every = 0) (i : Nat) (hi : i < l.length) (hni : next = (i : Nat)) (hll : l.length ≤ 1000) :
    Calls Tryd.prog 21 #[.pointer (some ⟨x, 0, none⟩)] w fun e w' => ∃ g vn vi vr T, e = .returned (.slice (some ⟨g, 0, none⟩) 1 1) ∧ Only (fun i => i = x) w w' ∧ SeedsAt w' x every 0 ((next + 1) % l.length) l s ∧
      w'.heap[g]? = some (.cells #[.int .i64 l[i], .int .i64 13, .int .i64 0, .int .i64 0, .bool false, vn, vi, vr] T (0, 0)) ∧ MsgIs w' (.agg #[.int .i64 13, .int .i64 0, .int .i64 0, .bool false, vn, vi, vr]) (askMsg L) := by
  obtain ⟨v, base, h1, h2⟩ := h.out
  obtain ⟨va, vcap, rfl, _, v2, hcs⟩ := Sl.cells intC_length (Sl.of_owns h2)
  unfold maxLen at v2
  subst hni
  have x1 : w.cell? ⟨x, 1, none⟩ = some (.int .i64 every) := cell_at h1 1
  have x2 : w.cell? ⟨x, 2, none⟩ = some (.int .i64 tick) := cell_at h1 2
  have xf : ∀ i, w.frozen? ⟨x, i, none⟩ = false := free_at h1
  have e0 : ¬ every = 0 := by omega
  have e3 : (every == 0) = false := by simpa using e0
  have H1 := Lib.hid h1
  have H2 := Lib.hid h2
  have HN := Lib.hid hn
  have HS := Lib.hid hs
  clear h1 h2 hn hs
  clear h hcs
  go_enter Tryd.func21, Tryd.ntmps21
  go_upto_region 3 with (fail)
  go_cut [3] (fun v3 wx => wx.heap[x]? = some (.cells #[.slice va l.length vcap, .int .i64 every, .int .i64 ((tick + 1) % every), .int .i64 (i : Nat), .pointer (some ⟨s, 0, none⟩)] 146 (0, 0)) ∧ Only (fun i => i = x) w wx)
  case first =>
    go_region
    all_goals
      go_wp2_with fail
      go_meet
      exact ⟨set_at H1.out 2 _, ((Only.refl _ _).setCell (S := fun i => i = x) (p := ⟨x, 2, none⟩) (.inr rfl) _).drew⟩
  case rest =>
  obtain ⟨hb, ho⟩ := hcut
  rw [HN.out] at hb
  have hrow := owns_ty H2.out H1.out (by decide) ho
  obtain ⟨_, _, hve, _, _, hcs⟩ := Sl.cells intC_length (Sl.of_owns hrow)
  cases hve
  obtain ⟨lb, loff, hae, hc⟩ := hcs.at i hi
  subst hae
  have p0 := hc 0 _ rfl
  simp only [Nat.add_zero, Nat.mul_one] at p0
  have hsx : StoreAt wc s b most ttl r L := HS.out.kept ho hxs.symm (fun e => by
    subst e
    obtain ⟨es, c, hbb, _⟩ := HS.out.map.own
    have := H1.out
    rw [hbb] at this
    cases this)
  have x2' : wc.cell? ⟨x, 2, none⟩ = some (.int .i64 0) := cell_at hb 2
  have x0' : wc.cell? ⟨x, 0, none⟩ = some (.slice (some ⟨lb, loff, none⟩) l.length vcap) := cell_at hb 0
  have x3' : wc.cell? ⟨x, 3, none⟩ = some (.int .i64 (i : Nat)) := cell_at hb 3
  have i1 : (0 : Int) ≤ (i : Int) := by omega
  have i2 : (i : Int) < (l.length : Int) := by omega
  have i3 : ¬ (l.length : Int) = 0 := by omega
  have i4 : ((l.length : Int) == 0) = false := by simpa using i3
  generalize hz : l[i] = z at *
  have HZZ := Lib.hid hz
  clear hz
  have HB := Lib.hid hb
  have HO := Lib.hid ho
  have HROW := Lib.hid hrow
  have HSX := Lib.hid hsx
  clear hb ho hrow hsx
  clear x1 x2 xf hc hcs
  go_upto_region 6 with (fail)
  go_quiet (fail)
  obtain ⟨w6, hw6⟩ : ∃ w6, w6 = wc.drewN nq := ⟨_, rfl⟩
  have ho6 : Only (fun _ => False) wc w6 := by rw [hw6]; exact (Only.refl _ _).drewN _
  rw [← hw6]
  clear hw6 x2' x0' x3' p0
  have hb6 := ho6.old HB.out id
  have hrow6 := owns_only HROW.out ho6 (fun _ _ => id)
  have hs6 := HSX.out.new ho6
  have x0' : w6.cell? ⟨x, 0, none⟩ = some (.slice (some ⟨lb, loff, none⟩) l.length vcap) := cell_at hb6 0
  have x3' : w6.cell? ⟨x, 3, none⟩ = some (.int .i64 (i : Nat)) := cell_at hb6 3
  have xf : ∀ i, w6.frozen? ⟨x, i, none⟩ = false := free_at hb6
  have ho7 := HO.out.trans (ho6.weaken (T := fun i => i = x) (fun _ _ => False.elim))
  have i5 : (i : Int) + 1 ≤ 1000 := by omega
  have HB6 := Lib.hid hb6
  have HROW6 := Lib.hid hrow6
  have HS6 := Lib.hid hs6
  have HO7 := Lib.hid ho7
  clear hb6 hrow6 hs6 ho7
  clear ho6
  go_upto_region 7 with (fail)
  go_cut [3] (fun v3 wx => v3 = .int .i64 z ∧ wx.heap[x]? = some (.cells #[.slice (some ⟨lb, loff, none⟩) l.length vcap, .int .i64 every, .int .i64 0, .int .i64 (((i : Nat) + 1 : Int) % l.length), .pointer (some ⟨s, 0, none⟩)] 146 (0, 0)) ∧ Only (fun i => i = x) w6 wx)
  case first =>
    go_region
    all_goals
      go_wp2_with fail
      go_meet
      exact ⟨rfl, set_at HB6.out 3 _, ((Only.refl _ _).setCell (S := fun i => i = x) (p := ⟨x, 3, none⟩) (.inr rfl) _).drew⟩
  case rest =>
  obtain ⟨rfl, hb8, ho8⟩ := hcut
  have hrow8 := owns_ty HROW6.out HB6.out (by decide) ho8
  have hs8 : StoreAt wc s b most ttl r L := HS6.out.kept ho8 hxs.symm (fun e => by
    subst e
    obtain ⟨es, c, hbb, _⟩ := HS6.out.map.own
    have := HB6.out
    rw [hbb] at this
    cases this)
  have x4 : wc.cell? ⟨x, 4, none⟩ = some (.pointer (some ⟨s, 0, none⟩)) := cell_at hb8 4
  have HDA := Lib.hid (dask_any wc s b most ttl r L hs8)
  have ho9 := HO7.out.trans ho8
  generalize hnx : ((i : Nat) + 1 : Int) % l.length = nx at *
  have HB8 := Lib.hid hb8
  have HROW8 := Lib.hid hrow8
  have HO9 := Lib.hid ho9
  have HNX := Lib.hid hnx
  clear hb8 hrow8 ho9 hnx
  clear x0' x3' xf ho8 hs8
  go_wp2_with fail
  refine HDA.out.mono ?_
  rintro e w10 ⟨vm, rfl, ho10, hmsg⟩
  obtain ⟨vn, vi, vr, rfl, m1, m2, m3⟩ := hmsg.out
  obtain ⟨n1, n2, rfl, _⟩ := Sl.cells intC_length m1
  obtain ⟨j1, j2, rfl, _⟩ := Sl.cells idT_length m2
  obtain ⟨r1, r2, rfl, _⟩ := Sl.cells recC_length m3
  have hb11 := ho10.old HB8.out id
  have hrow11 := owns_only HROW8.out ho10 (fun _ _ => id)
  have ho11 := HO9.out.trans (ho10.weaken (T := fun i => i = x) (fun _ _ => False.elim))
  have hmsg2 : MsgIs w10 (.agg #[.int .i64 13, .int .i64 0, .int .i64 0, .bool false, .slice n1 0 n2, .slice j1 L.length j2, .slice r1 0 r2]) (askMsg L) := by
    have h5 : (askMsg L).ids.length = L.length := List.length_map ..
    rw [h5] at hmsg
    exact hmsg
  have HB11 := Lib.hid hb11
  have HROW11 := Lib.hid hrow11
  have HO11 := Lib.hid ho11
  have HMSG := Lib.hid hmsg2
  clear hb11 hrow11 ho11 hmsg2
  clear hmsg m1 m2 m3 ho10 x4
  simp only [askMsg]
  go_wp2_with fail
  go_ret
  rw [HZZ.out, HNX.out]
  have hoz := (Only.refl (fun _ => False) w10).alloc (.cells #[.int .i64 z, .int .i64 13, .int .i64 0, .int .i64 0, .bool false, .slice n1 0 n2, .slice j1 L.length j2, .slice r1 0 r2] 58)
  refine ⟨w10.heap.size, .slice n1 0 n2, .slice j1 L.length j2, .slice r1 0 r2, 58, rfl, HO11.out.alloc _, ⟨_, _, hoz.old HB11.out id, owns_only HROW11.out hoz (fun _ _ => id)⟩, heap_alloc_new w10 _, HMSG.out.new hoz⟩
end Go.Proofs.YtjdlcfllmpdffaaDoor
/-! seeds: to (messages to a node). -/
namespace Go.Proofs.YtjdlcfllmpdffaaDoor
open Go.Conc Go.RowKit Go.Maps

theorem infoOut : (Tryd.prog.info? 58).map (fun i => (i.zero, i.size, i.bytes)) = some (some (.agg #[.int .i64 0, .int .i64 0, .int .i64 0, .int .i64 0, .bool false, .slice none 0 0, .slice none 0 0, .slice none 0 0]), 8, 112) := by kernel_rfl
def cellsO (n : Int) (p : MsgP) : List Value := .int .i64 n :: cellsM p
theorem cellsO_length (n : Int) (p : MsgP) : (cellsO n p).length = 8 := rfl
/-- A slice of messages to a node. -/
structure OutRow (w : World) (base mb : Nat) (v : Value) (n : Int) (ms : List MsgT) : Prop where
  out : ∃ P : List MsgP, P.map (·.1) = ms ∧ w.ownsRow base 58 8 v P.length (P.flatMap (cellsO n)) ∧ ∀ p ∈ P, MsgOwn w mb p
theorem OutRow.only {S : Nat → Prop} {w w' : World} {base mb : Nat} {v : Value} {n : Int} {ms : List MsgT} (h : OutRow w base mb v n ms) (ho : Only S w w') (h1 : ∀ k, base ≤ k → ¬ S k) (h2 : ∀ k, mb ≤ k → ¬ S k) : OutRow w' base mb v n ms := by
  obtain ⟨P, e1, e2, e3⟩ := h.out
  exact ⟨P, e1, owns_only e2 ho h1, fun p hp => (e3 p hp).only ho h2⟩
theorem OutRow.new {w w' : World} {base mb : Nat} {v : Value} {n : Int} {ms : List MsgT} (h : OutRow w base mb v n ms) (ho : Only (fun _ => False) w w') : OutRow w' base mb v n ms := h.only ho (fun _ _ => id) (fun _ _ => id)
set_option maxRecDepth 100000 in
set_option maxHeartbeats 4000000 in
theorem to_any (w : World) (n : Int) (v : Value) (mb : Nat) (ms : List MsgT) (h : MsgRow w mb v ms) (hl : ms.length ≤ 1000000) :
    Calls Tryd.prog 79 #[.int .i64 n, v] w fun e w' => ∃ v', e = .returned v' ∧ Only (fun _ => False) w w' ∧ OutRow w' w.heap.size mb v' n ms := by
  obtain ⟨i0, hi0, iz0, iz1, iz2⟩ := info_parts infoOut
  obtain ⟨P, hP1, hP2, hP3⟩ := h.out
  have hPl : P.length ≤ 1000000 := by rw [← hP1, List.length_map] at hl; exact hl
  obtain ⟨a, cap, rfl, h1, h2, h3⟩ := Sl.cells cellsM_length (Sl.of_owns hP2)
  unfold maxLen at h2
  have HC := Lib.hid h3
  have HP1 := Lib.hid hP1
  have HP3 := Lib.hid hP3
  clear h3 hP1 hP3
  clear h hP2 hl
  go_enter Tryd.func79, Tryd.ntmps79
  go_wp2_with fail
  go_loopg [5, 10] P.length (fun g v5 v10 wr => ∃ k : Nat, v10 = .int .i64 k ∧ k ≤ P.length ∧ Only (fun _ => False) w wr ∧ wr.ownsRow w.heap.size 58 8 v5 k ((P.take k).flatMap (cellsO n)) ∧ g = P.length - k)
  case atStart => exact ⟨0, rfl, Nat.zero_le _, Only.refl _ _, World.ownsRow_nil w _ _ _, rfl⟩
  case round =>
    obtain ⟨k, rfl, hk, ho, hrow, hg⟩ := hrel
    have Hg := Lib.hid hg
    have HO := Lib.hid ho
    have HROW := Lib.hid hrow
    clear hg ho hrow
    by_cases hlt : k < P.length
    · obtain ⟨lb, off, he, hc⟩ := HC.out.at k hlt
      subst he
      have hcr : ∀ i u, (cellsM P[k])[i]? = some u → _ := fun i u hu => HO.out.cell (hc i u hu) id
      have hpo := HP3.out P[k] (List.getElem_mem hlt)
      have htk : P.take (k + 1) = P.take k ++ [P[k]] := by rw [List.take_add_one, List.getElem?_eq_getElem hlt]; rfl
      generalize P[k] = p at *
      obtain ⟨m, vn, vi, vr⟩ := p
      obtain ⟨_, na, nc, hne, _⟩ := Sl.of_owns hpo.n
      obtain ⟨_, ia, ic, hie, _⟩ := Sl.of_owns hpo.i
      obtain ⟨_, ra, rc, hre, _⟩ := Sl.of_owns hpo.r
      simp only at hne hie hre
      subst hne hie hre
      have y0 := hcr 0 _ rfl
      have y1 := hcr 1 _ rfl
      have y2 := hcr 2 _ rfl
      have y3 := hcr 3 _ rfl
      have y4 := hcr 4 _ rfl
      have y5 := hcr 5 _ rfl
      have y6 := hcr 6 _ rfl
      simp only [Nat.add_zero] at y0
      have hlt' : (k : Int) < (P.length : Int) := by omega
      have hk0 : (0 : Int) ≤ (k : Int) := by omega
      obtain ⟨W, hW⟩ : ∃ W, W = wr.alloc (.cells #[.int .i64 m.kind, .int .i64 m.node, .int .i64 m.walk, .bool m.high, .slice na m.nodes.length nc, .slice ia m.ids.length ic, .slice ra m.recs.length rc] 56) := ⟨_, rfl⟩
      have hbW : W.heap[wr.heap.size]? = some (.cells #[.int .i64 m.kind, .int .i64 m.node, .int .i64 m.walk, .bool m.high, .slice na m.nodes.length nc, .slice ia m.ids.length ic, .slice ra m.recs.length rc] 56 (0, 0)) := by rw [hW]; exact heap_alloc_new wr _
      have hoW : Only (fun _ => False) wr W := by rw [hW]; exact (Only.refl _ _).alloc _
      have hsW : W.heap.size = wr.heap.size + 1 := by rw [hW]; simp
      have hrowW := owns_only HROW.out hoW (fun _ _ => id)
      have hoA := HO.out.trans hoW
      have z0 : W.cell? ⟨wr.heap.size, 0, none⟩ = some (.int .i64 m.kind) := cell_at hbW 0
      have z1 : W.cell? ⟨wr.heap.size, 1, none⟩ = some (.int .i64 m.node) := cell_at hbW 1
      have z2 : W.cell? ⟨wr.heap.size, 2, none⟩ = some (.int .i64 m.walk) := cell_at hbW 2
      have z3 : W.cell? ⟨wr.heap.size, 3, none⟩ = some (.bool m.high) := cell_at hbW 3
      have z4 : W.cell? ⟨wr.heap.size, 4, none⟩ = some (.slice na m.nodes.length nc) := cell_at hbW 4
      have z5 : W.cell? ⟨wr.heap.size, 5, none⟩ = some (.slice ia m.ids.length ic) := cell_at hbW 5
      have z6 : W.cell? ⟨wr.heap.size, 6, none⟩ = some (.slice ra m.recs.length rc) := cell_at hbW 6
      have HTK := Lib.hid htk
      have HRW := Lib.hid hrowW
      have HOA := Lib.hid hoA
      clear htk hrowW hoA
      clear hc hcr hpo hsW hbW
      go_upto_region 5 with (fail)
      rw [← hW]
      clear hW hoW y0 y1 y2 y3 y4 y5 y6
      go_wp2_with (at_builtin; refine Wait.mk ?_)
      refine Wait.go (wpList_append_src _ rfl (.tmp 14) (.tmp 18) 51 51 rfl w.heap.size 58 i0 _ 8 112 Tryd.underlying51 hi0 iz0 iz1 iz2 rfl _ k ((P.take k).flatMap (cellsO n)) rfl (HRW.out.alloc _) _ 1 (cellsO n (m, .slice na m.nodes.length nc, .slice ia m.ids.length ic, .slice ra m.recs.length rc)) rfl ?src4 ?m4 ?b4 ?base4 ?_)
      case src4 => exact Src.ofSlice _ Tryd.underlying51 _ _ _ _ rfl (news_new _ _ _) (by
        intro u hu
        simp only [cellsO, cellsM, List.mem_cons, List.not_mem_nil, or_false] at hu
        rcases hu with rfl | rfl | rfl | rfl | rfl | rfl | rfl | rfl <;> rfl)
      case m4 => unfold maxLen; omega
      case b4 => omega
      case base4 => have := HOA.out.size; simp; omega
      intro v4 w5 own4 gr4 _
      have ho5 : Only (fun _ => False) w w5 := (HOA.out.alloc _).own (HRW.out.alloc _) (Nat.le_refl _) gr4
      have HO5 := Lib.hid ho5
      have HW5 := Lib.hid own4
      clear ho5 own4
      clear gr4 z0 z1 z2 z3 z4 z5 z6
      go_wp2_with fail
      go_roundg (P.length - (k + 1))
      case measure => rw [Hg.out]; omega
      case rel =>
        refine ⟨k + 1, by go_num, by omega, HO5.out, ?_, rfl⟩
        rw [HTK.out, List.flatMap_append, List.flatMap_singleton]
        exact HW5.out
    · have hlt' : ¬ (k : Int) < (P.length : Int) := by omega
      have hke : k = P.length := by omega
      have HKE := Lib.hid hke
      clear hke
      go_wp2_with fail
      go_ret
      refine ⟨_, rfl, HO.out, ⟨P, HP1.out, ?_, fun p hp => (HP3.out p hp).only HO.out (fun _ _ => id)⟩⟩
      have := HROW.out
      rw [HKE.out, List.take_length] at this
      exact this
end Go.Proofs.YtjdlcfllmpdffaaDoor
/-! seeds: Take. -/
namespace Go.Proofs.YtjdlcfllmpdffaaDoor
open Go.Conc Go.RowKit Go.Maps

theorem held2 {s b : Nat} {W w' : World} {C : World → Prop} (hC : ∀ w', Only (fun i => i = s ∨ i = b) W w' → C w') (h : Only (fun i => i = s ∨ i = b) W w') : Only (fun i => i = s ∨ i = b) W w' ∧ C w' := ⟨h, hC _ h⟩
theorem keepD20 {w : World} {p : Addr} {v : Value} (h : w.cell? p = some v) : w.drew.cell? p = some v := h
/-- Who is answered: messages to a node, new. -/
def OutsNew (w w' : World) (v : Value) (n : Int) (ms : List MsgT) : Prop := ∃ B mb, w.heap.size ≤ B ∧ w.heap.size ≤ mb ∧ OutRow w' B mb v n ms
theorem OutsNew.nil (w : World) (n : Int) : OutsNew w w (.slice none 0 0) n [] := ⟨_, _, Nat.le_refl _, Nat.le_refl _, ⟨[], rfl, World.ownsRow_nil w _ _ _, fun _ h => by cases h⟩⟩
theorem stake_nil (w : World) (n : Int) (vm : Value) (m : MsgT) (hv : MsgIs w vm m) : Calls Tryd.prog 51 #[.pointer none, .int .i64 n, vm] w fun e w' => e = .returned (.tuple #[.slice none 0 0, .slice none 0 0]) ∧ Only (fun _ => False) w w' := by
  obtain ⟨vn, vi, vr, rfl, m1, m2, m3⟩ := hv.out
  obtain ⟨_, na, nc, rfl, _⟩ := m1
  obtain ⟨_, ia, ic, rfl, _⟩ := m2
  obtain ⟨_, ra, rc, rfl, _⟩ := m3
  go_enter Tryd.func51, Tryd.ntmps51
  go_wp2_with fail
  go_ret2
  exact ⟨rfl, (Only.refl _ _).alloc _⟩
set_option maxRecDepth 100000 in
set_option maxHeartbeats 4000000 in
theorem stake_other (w : World) (x : Nat) (n : Int) (vm : Value) (m : MsgT) (hv : MsgIs w vm m) (h1 : m.kind ≠ 13) (h2 : m.kind ≠ 14) : Calls Tryd.prog 51 #[.pointer (some ⟨x, 0, none⟩), .int .i64 n, vm] w fun e w' => e = .returned (.tuple #[.slice none 0 0, .slice none 0 0]) ∧ Only (fun _ => False) w w' := by
  obtain ⟨vn, vi, vr, rfl, m1, m2, m3⟩ := hv.out
  obtain ⟨_, na, nc, rfl, _⟩ := m1
  obtain ⟨_, ia, ic, rfl, _⟩ := m2
  obtain ⟨_, ra, rc, rfl, _⟩ := m3
  have e1 : (m.kind == 13) = false := by simpa using h1
  have e2 : (m.kind == 14) = false := by simpa using h2
  go_enter Tryd.func51, Tryd.ntmps51
  go_wp2_with fail
  go_ret2
  exact ⟨rfl, (Only.refl _ _).alloc _⟩
set_option maxRecDepth 100000 in
set_option maxHeartbeats 4000000 in
theorem stake_digest (w : World) (x : Nat) (every tick next : Int) (l : List Int) (s b : Nat) (most ttl r : Int) (L : List RecT) (h : SeedsAt w x every tick next l s) (hs : StoreAt w s b most ttl r L) (n : Int) (vm : Value) (m : MsgT) (hv : MsgIs w vm m) (hk : m.kind = 13) (hI : m.ids.length ≤ 1000000) (hks : ∀ p ∈ m.ids, p.1.size ≤ maxLen) (hml : (answerM ttl L m.ids).length ≤ 1000000) :
    Calls Tryd.prog 51 #[.pointer (some ⟨x, 0, none⟩), .int .i64 n, vm] w fun e w' => ∃ v, e = .returned (.tuple #[v, .slice none 0 0]) ∧ Only (fun _ => False) w w' ∧ OutsNew w w' v n (answerM ttl L m.ids) := by
  have HV := Lib.hid hv
  obtain ⟨vn, vi, vr, rfl, m1, m2, m3⟩ := hv.out
  obtain ⟨_, na, nc, rfl, _⟩ := id m1
  obtain ⟨_, ia, ic, rfl, _⟩ := id m2
  obtain ⟨_, ra, rc, rfl, _⟩ := id m3
  have e1 : (m.kind == 13) = true := by simpa using hk
  obtain ⟨lv, lb, hb, hrow⟩ := h.out
  obtain ⟨W, hW⟩ : ∃ W, W = w.alloc (.cells #[.int .i64 m.kind, .int .i64 m.node, .int .i64 m.walk, .bool m.high, .slice na m.nodes.length nc, .slice ia m.ids.length ic, .slice ra m.recs.length rc] 56) := ⟨_, rfl⟩
  have hbW : W.heap[w.heap.size]? = some (.cells #[.int .i64 m.kind, .int .i64 m.node, .int .i64 m.walk, .bool m.high, .slice na m.nodes.length nc, .slice ia m.ids.length ic, .slice ra m.recs.length rc] 56 (0, 0)) := by rw [hW]; exact heap_alloc_new w _
  have hoW : Only (fun _ => False) w W := by rw [hW]; exact (Only.refl _ _).alloc _
  have hsW : W.heap.size = w.heap.size + 1 := by rw [hW]; simp
  have hbx := hoW.old hb id
  have hstW := hs.new hoW
  have x4 : W.cell? ⟨x, 4, none⟩ = some (.pointer (some ⟨s, 0, none⟩)) := cell_at hbx 4
  have z0 : W.cell? ⟨w.heap.size, 0, none⟩ = some (.int .i64 m.kind) := cell_at hbW 0
  have z1 : W.cell? ⟨w.heap.size, 1, none⟩ = some (.int .i64 m.node) := cell_at hbW 1
  have z2 : W.cell? ⟨w.heap.size, 2, none⟩ = some (.int .i64 m.walk) := cell_at hbW 2
  have z3 : W.cell? ⟨w.heap.size, 3, none⟩ = some (.bool m.high) := cell_at hbW 3
  have z4 : W.cell? ⟨w.heap.size, 4, none⟩ = some (.slice na m.nodes.length nc) := cell_at hbW 4
  have z5 : W.cell? ⟨w.heap.size, 5, none⟩ = some (.slice ia m.ids.length ic) := cell_at hbW 5
  have z6 : W.cell? ⟨w.heap.size, 6, none⟩ = some (.slice ra m.recs.length rc) := cell_at hbW 6
  have HA := Lib.hid (fun w' (ho : Only (fun _ => False) W w') => answer_any w' s b most ttl r L (hstW.new ho) _ m (HV.out.new (hoW.trans ho)) hI hks)
  have HTO := Lib.hid (fun w' v mb (h : MsgRow w' mb v (answerM ttl L m.ids)) => to_any w' n v mb _ h hml)
  have HOW := Lib.hid hoW
  have HSZ := Lib.hid (show w.heap.size ≤ W.heap.size from hoW.size)
  clear hs h hbx hb hrow m1 m2 m3 hk hI hks hml hv
  go_enter Tryd.func51, Tryd.ntmps51
  go_upto_region 5 with (fail)
  rw [← hW]
  clear hW hoW hbW
  have HCC := Lib.hid (show ∀ w', Only (fun _ => False) W w' → w'.cell? ⟨x, 4, none⟩ = some (.pointer (some ⟨s, 0, none⟩)) ∧ w'.cell? ⟨w.heap.size, 0, none⟩ = some (.int .i64 m.kind) ∧ w'.cell? ⟨w.heap.size, 1, none⟩ = some (.int .i64 m.node) ∧ w'.cell? ⟨w.heap.size, 2, none⟩ = some (.int .i64 m.walk) ∧ w'.cell? ⟨w.heap.size, 3, none⟩ = some (.bool m.high) ∧ w'.cell? ⟨w.heap.size, 4, none⟩ = some (.slice na m.nodes.length nc) ∧ w'.cell? ⟨w.heap.size, 5, none⟩ = some (.slice ia m.ids.length ic) ∧ w'.cell? ⟨w.heap.size, 6, none⟩ = some (.slice ra m.recs.length rc) from fun w' h => ⟨h.cell x4 id, h.cell z0 id, h.cell z1 id, h.cell z2 id, h.cell z3 id, h.cell z4 id, h.cell z5 id, h.cell z6 id⟩)
  go_cut [6, 7] (fun v6 v7 wx => v7 = .slice none 0 0 ∧ Only (fun _ => False) W wx ∧ OutsNew W wx v6 n (answerM ttl L m.ids))
  case first =>
    go_region_held3 (fun w' => Only (fun _ => False) W w' ∧ w'.cell? ⟨x, 4, none⟩ = some (.pointer (some ⟨s, 0, none⟩)) ∧ w'.cell? ⟨w.heap.size, 0, none⟩ = some (.int .i64 m.kind) ∧ w'.cell? ⟨w.heap.size, 1, none⟩ = some (.int .i64 m.node) ∧ w'.cell? ⟨w.heap.size, 2, none⟩ = some (.int .i64 m.walk) ∧ w'.cell? ⟨w.heap.size, 3, none⟩ = some (.bool m.high) ∧ w'.cell? ⟨w.heap.size, 4, none⟩ = some (.slice na m.nodes.length nc) ∧ w'.cell? ⟨w.heap.size, 5, none⟩ = some (.slice ia m.ids.length ic) ∧ w'.cell? ⟨w.heap.size, 6, none⟩ = some (.slice ra m.recs.length rc))
      (((refine heldO HCC.out ?_); (repeat (first | (with_reducible assumption) | (with_reducible exact Only.refl _ _) | (with_reducible refine Only.drew ?_) | (with_reducible refine Only.alloc ?_ _) | (with_reducible refine onlySet ?_ (by first | (with_reducible assumption) | omega) _) | (with_reducible refine Only.trans ?_ (by with_reducible assumption))))))
      (first
        | (go_at_call 41; (with_reducible refine (HA.out _ (by (repeat (first | (with_reducible assumption) | (with_reducible exact Only.refl _ _) | (with_reducible refine Only.drew ?_) | (with_reducible refine Only.alloc ?_ _) | (with_reducible refine onlySet ?_ (by first | (with_reducible assumption) | omega) _) | (with_reducible refine Only.trans ?_ (by with_reducible assumption)))))).mono ?_); rintro e w8 ⟨v8, rfl, ho8, hr8⟩; have o8 : Only (fun _ => False) W w8 := (by (refine Only.trans (b := _) ?_ ho8); (repeat (first | (with_reducible assumption) | (with_reducible exact Only.refl _ _) | (with_reducible refine Only.drew ?_) | (with_reducible refine Only.alloc ?_ _) | (with_reducible refine onlySet ?_ (by first | (with_reducible assumption) | omega) _) | (with_reducible refine Only.trans ?_ (by with_reducible assumption))))); have hz8 : W.heap.size ≤ w8.heap.size := Only.size o8)
        | (go_at_call 79; (with_reducible refine (HTO.out _ _ _ hr8).mono ?_); rintro e w9 ⟨v9, rfl, ho9, hr9⟩; have o9 : Only (fun _ => False) W w9 := (by (refine Only.trans (b := _) ?_ ho9); (repeat (first | (with_reducible assumption) | (with_reducible exact Only.refl _ _) | (with_reducible refine Only.drew ?_) | (with_reducible refine Only.alloc ?_ _) | (with_reducible refine onlySet ?_ (by first | (with_reducible assumption) | omega) _) | (with_reducible refine Only.trans ?_ (by with_reducible assumption)))))))
    all_goals
      go_wp2_with fail
      go_meet
      refine ⟨rfl, by (repeat (first | (with_reducible assumption) | (with_reducible exact Only.refl _ _) | (with_reducible refine Only.drew ?_) | (with_reducible refine Only.alloc ?_ _) | (with_reducible refine onlySet ?_ (by first | (with_reducible assumption) | omega) _) | (with_reducible refine Only.trans ?_ (by with_reducible assumption)))), _, _, hz8, ?_, hr9⟩
      first | exact Nat.le_refl _ | (simp; done)
  case rest =>
  obtain ⟨rfl, ho, hout⟩ := hcut
  have HOUT := Lib.hid hout
  have HO := Lib.hid ho
  clear hout ho
  clear x4 z0 z1 z2 z3 z4 z5 z6
  go_wp2_with fail
  go_ret2
  obtain ⟨B, mb, h1, h2, h3⟩ := HOUT.out
  exact ⟨_, rfl, HOW.out.trans HO.out, B, mb, Nat.le_trans HSZ.out h1, Nat.le_trans HSZ.out h2, h3⟩
set_option maxRecDepth 100000 in
set_option maxHeartbeats 4000000 in
theorem stake_delta (w : World) (x : Nat) (every tick next : Int) (l : List Int) (s b : Nat) (most ttl r : Int) (L : List RecT) (h : SeedsAt w x every tick next l s) (hs : StoreAt w s b most ttl r L) (hxs : x ≠ s ∧ x ≠ b) (m0 : Int) (hm : w.cell? ⟨0, 0, none⟩ = some (.int .i64 m0)) (hm0 : s ≠ 0 ∧ b ≠ 0) (n : Int) (vm : Value) (m : MsgT) (hv : MsgIs w vm m) (hk : m.kind = 14)
    (hblk : ∀ vn vi vr, vm = .agg #[.int .i64 m.kind, .int .i64 m.node, .int .i64 m.walk, .bool m.high, vn, vi, vr] → RecBlk w vr ∧ ∀ w', Only (fun i => i = s ∨ i = b) w w' → Sl w' 2 vi m.ids.length (m.ids.flatMap idT))
    (hI : m.ids.length ≤ 1000000) (hks : ∀ p ∈ m.ids, p.1.size ≤ maxLen) (hR : m.recs.length ≤ 1000) (hx : ∀ y ∈ m.recs, y.ver < 2 ^ 64 ∧ y.key.size ≤ 1000000) (hr0 : 0 ≤ r) (hr : r < 900000) (hA : AgeOk (takeS most ttl L m.recs)) (hml : (packM 14 (sentL ttl (giveL (takeS most ttl L m.recs) m.ids))).length ≤ 1000000) :
    Calls Tryd.prog 51 #[.pointer (some ⟨x, 0, none⟩), .int .i64 n, vm] w fun e w' => ∃ v v2, e = .returned (.tuple #[v, v2]) ∧ Only (fun i => i = s ∨ i = b) w w' ∧ OutsNew w w' v n (packM 14 (sentL ttl (giveL (takeS most ttl L m.recs) m.ids))) ∧ RecRow w' w.heap.size v2 (takeO most ttl L m.recs) ∧ ∃ r', r ≤ r' ∧ r' ≤ r + m.recs.length ∧ StoreAt w' s b most ttl r' (takeS most ttl L m.recs) := by
  have HV := Lib.hid hv
  obtain ⟨vn, vi, vr, rfl, m1, m2, m3⟩ := hv.out
  obtain ⟨_, na, nc, rfl, _⟩ := id m1
  obtain ⟨_, ia, ic, rfl, _⟩ := id m2
  obtain ⟨_, ra, rc, rfl, _⟩ := id m3
  obtain ⟨hrb, hids⟩ := hblk _ _ _ rfl
  have e1 : (m.kind == 13) = false := by simp [hk]
  have e2 : (m.kind == 14) = true := by simpa using hk
  obtain ⟨lv, lb, hb, hrow⟩ := h.out
  have hsl := hs.lt
  obtain ⟨W, hW⟩ : ∃ W, W = w.alloc (.cells #[.int .i64 m.kind, .int .i64 m.node, .int .i64 m.walk, .bool m.high, .slice na m.nodes.length nc, .slice ia m.ids.length ic, .slice ra m.recs.length rc] 56) := ⟨_, rfl⟩
  have hbW : W.heap[w.heap.size]? = some (.cells #[.int .i64 m.kind, .int .i64 m.node, .int .i64 m.walk, .bool m.high, .slice na m.nodes.length nc, .slice ia m.ids.length ic, .slice ra m.recs.length rc] 56 (0, 0)) := by rw [hW]; exact heap_alloc_new w _
  have hoW : Only (fun _ => False) w W := by rw [hW]; exact (Only.refl _ _).alloc _
  have hsW : W.heap.size = w.heap.size + 1 := by rw [hW]; simp
  have hbx := hoW.old hb id
  have hstW := hs.new hoW
  have hmW := hoW.cell hm id
  have hxl := lt_of_block hb
  have hwx : ¬ (x = s ∨ x = b) := by omega
  have hww : ¬ (w.heap.size = s ∨ w.heap.size = b) := by omega
  have x4 : W.cell? ⟨x, 4, none⟩ = some (.pointer (some ⟨s, 0, none⟩)) := cell_at hbx 4
  have z0 : W.cell? ⟨w.heap.size, 0, none⟩ = some (.int .i64 m.kind) := cell_at hbW 0
  have z1 : W.cell? ⟨w.heap.size, 1, none⟩ = some (.int .i64 m.node) := cell_at hbW 1
  have z2 : W.cell? ⟨w.heap.size, 2, none⟩ = some (.int .i64 m.walk) := cell_at hbW 2
  have z3 : W.cell? ⟨w.heap.size, 3, none⟩ = some (.bool m.high) := cell_at hbW 3
  have z4 : W.cell? ⟨w.heap.size, 4, none⟩ = some (.slice na m.nodes.length nc) := cell_at hbW 4
  have z5 : W.cell? ⟨w.heap.size, 5, none⟩ = some (.slice ia m.ids.length ic) := cell_at hbW 5
  have z6 : W.cell? ⟨w.heap.size, 6, none⟩ = some (.slice ra m.recs.length rc) := cell_at hbW 6
  have HT := Lib.hid (fun w' (ho : Only (fun _ => False) W w') => take_any w' s b most ttl r L (hstW.new ho) m0 (ho.cell hmW id) hm0 _ m.recs (m3.new (hoW.trans ho)) ⟨fun g e => by obtain ⟨cs, hc⟩ := hrb.out g e; exact ⟨cs, (hoW.trans ho).old hc id⟩⟩ hR hx hr0 hr)
  have HID := Lib.hid (fun w' (ho : Only (fun i => i = s ∨ i = b) W w') => hids w' ((hoW.weaken (fun _ _ => False.elim)).trans ho))
  have HOW := Lib.hid hoW
  have HSZ := Lib.hid (show w.heap.size ≤ W.heap.size from hoW.size)
  have HG := Lib.hid (fun w' r' v (hst : StoreAt w' s b most ttl r' (takeS most ttl L m.recs)) (hi : Sl w' 2 v m.ids.length (m.ids.flatMap idT)) => give_any w' (.pointer (some ⟨s, 0, none⟩)) ttl 14 (takeS most ttl L m.recs) hst.ttl hst.gets hA v m.ids hi hI hks)
  have HTO := Lib.hid (fun w' v mb (h : MsgRow w' mb v (packM 14 (sentL ttl (giveL (takeS most ttl L m.recs) m.ids)))) => to_any w' n v mb _ h hml)
  generalize packM 14 (sentL ttl (giveL (takeS most ttl L m.recs) m.ids)) = PK at *
  generalize takeS most ttl L m.recs = L2 at *
  generalize takeO most ttl L m.recs = O2 at *
  have HCC := Lib.hid (show ∀ w', Only (fun i => i = s ∨ i = b) W w' → w'.cell? ⟨x, 4, none⟩ = some (.pointer (some ⟨s, 0, none⟩)) ∧ w'.cell? ⟨w.heap.size, 0, none⟩ = some (.int .i64 m.kind) ∧ w'.cell? ⟨w.heap.size, 1, none⟩ = some (.int .i64 m.node) ∧ w'.cell? ⟨w.heap.size, 2, none⟩ = some (.int .i64 m.walk) ∧ w'.cell? ⟨w.heap.size, 3, none⟩ = some (.bool m.high) ∧ w'.cell? ⟨w.heap.size, 4, none⟩ = some (.slice na m.nodes.length nc) ∧ w'.cell? ⟨w.heap.size, 5, none⟩ = some (.slice ia m.ids.length ic) ∧ w'.cell? ⟨w.heap.size, 6, none⟩ = some (.slice ra m.recs.length rc) from fun w' h => ⟨h.cell x4 hwx, h.cell z0 hww, h.cell z1 hww, h.cell z2 hww, h.cell z3 hww, h.cell z4 hww, h.cell z5 hww, h.cell z6 hww⟩)
  clear hk hblk hs h hbx hb hrow m1 m2 m3 hI hks hml hv hrb hids hstW hmW hm hR hx hA hsl hxl hsW hxs HV
  go_enter Tryd.func51, Tryd.ntmps51
  go_upto_region 7 with (fail)
  rw [← hW]
  clear hW hoW hbW
  go_cut [8] (fun v8 wx => Only (fun i => i = s ∨ i = b) W wx ∧ RecRow wx W.heap.size v8 O2 ∧ ∃ r', r ≤ r' ∧ r' ≤ r + m.recs.length ∧ StoreAt wx s b most ttl r' L2)
  case first =>
    go_region_held3 (fun w' => Only (fun i => i = s ∨ i = b) W w' ∧ w'.cell? ⟨x, 4, none⟩ = some (.pointer (some ⟨s, 0, none⟩)) ∧ w'.cell? ⟨w.heap.size, 0, none⟩ = some (.int .i64 m.kind) ∧ w'.cell? ⟨w.heap.size, 1, none⟩ = some (.int .i64 m.node) ∧ w'.cell? ⟨w.heap.size, 2, none⟩ = some (.int .i64 m.walk) ∧ w'.cell? ⟨w.heap.size, 3, none⟩ = some (.bool m.high) ∧ w'.cell? ⟨w.heap.size, 4, none⟩ = some (.slice na m.nodes.length nc) ∧ w'.cell? ⟨w.heap.size, 5, none⟩ = some (.slice ia m.ids.length ic) ∧ w'.cell? ⟨w.heap.size, 6, none⟩ = some (.slice ra m.recs.length rc))
      (((refine held2 HCC.out ?_); (repeat (first | (with_reducible assumption) | (with_reducible exact Only.refl _ _) | (with_reducible refine Only.drew ?_)))))
      (first
        | (go_at_call 49; (with_reducible refine (HT.out _ (by (repeat (first | (with_reducible assumption) | (with_reducible exact Only.refl _ _) | (with_reducible refine Only.drew ?_) | (with_reducible refine Only.alloc ?_ _) | (with_reducible refine onlySet ?_ (by first | (with_reducible assumption) | omega) _) | (with_reducible refine Only.trans ?_ (by with_reducible assumption)))))).mono ?_); rintro e w8 ⟨v8, rfl, ho8, hr8, r8, h81, h82, hs8⟩; have o8 : Only (fun i => i = s ∨ i = b) W w8 := (by (refine Only.trans (b := _) ?_ ho8); (repeat (first | (with_reducible exact Only.refl _ _) | (with_reducible refine Only.drew ?_)))); have hz8 : W.heap.size ≤ w8.heap.size := Only.size o8))
    all_goals
      go_wp2_with fail
      go_meet
      exact ⟨o8, hr8, r8, h81, h82, hs8⟩
  case rest =>
  obtain ⟨ho, hrow, r', h1, h2, hst⟩ := hcut
  obtain ⟨_, fa, fc, rfl, _⟩ := Sl.of_owns hrow
  obtain ⟨q0, q1, q2, q3, q4, q5, q6, q7⟩ := HCC.out wc ho
  have HCD := Lib.hid (show ∀ w', Only (fun _ => False) wc w' → w'.cell? ⟨x, 4, none⟩ = some (.pointer (some ⟨s, 0, none⟩)) ∧ w'.cell? ⟨w.heap.size, 0, none⟩ = some (.int .i64 m.kind) ∧ w'.cell? ⟨w.heap.size, 1, none⟩ = some (.int .i64 m.node) ∧ w'.cell? ⟨w.heap.size, 2, none⟩ = some (.int .i64 m.walk) ∧ w'.cell? ⟨w.heap.size, 3, none⟩ = some (.bool m.high) ∧ w'.cell? ⟨w.heap.size, 4, none⟩ = some (.slice na m.nodes.length nc) ∧ w'.cell? ⟨w.heap.size, 5, none⟩ = some (.slice ia m.ids.length ic) ∧ w'.cell? ⟨w.heap.size, 6, none⟩ = some (.slice ra m.recs.length rc) from fun w' h => ⟨h.cell q0 id, h.cell q1 id, h.cell q2 id, h.cell q3 id, h.cell q4 id, h.cell q5 id, h.cell q6 id, h.cell q7 id⟩)
  have HG2 := Lib.hid (fun w' (ho2 : Only (fun _ => False) wc w') => HG.out w' r' _ (hst.new ho2) ((HID.out wc ho).new ho2))
  have HO := Lib.hid ho
  have HROW := Lib.hid hrow
  have HST := Lib.hid hst
  clear ho hrow hst
  clear x4 z0 z1 z2 z3 z4 z5 z6
  go_upto_region 8 with (fail)
  go_cut [6, 7] (fun v6 v7 wx => v7 = .slice fa O2.length fc ∧ Only (fun _ => False) wc wx ∧ OutsNew wc wx v6 n PK)
  case first =>
    go_region_held3 (fun w' => Only (fun _ => False) wc w' ∧ w'.cell? ⟨x, 4, none⟩ = some (.pointer (some ⟨s, 0, none⟩)) ∧ w'.cell? ⟨w.heap.size, 0, none⟩ = some (.int .i64 m.kind) ∧ w'.cell? ⟨w.heap.size, 1, none⟩ = some (.int .i64 m.node) ∧ w'.cell? ⟨w.heap.size, 2, none⟩ = some (.int .i64 m.walk) ∧ w'.cell? ⟨w.heap.size, 3, none⟩ = some (.bool m.high) ∧ w'.cell? ⟨w.heap.size, 4, none⟩ = some (.slice na m.nodes.length nc) ∧ w'.cell? ⟨w.heap.size, 5, none⟩ = some (.slice ia m.ids.length ic) ∧ w'.cell? ⟨w.heap.size, 6, none⟩ = some (.slice ra m.recs.length rc))
      (((refine heldO HCD.out ?_); (repeat (first | (with_reducible assumption) | (with_reducible exact Only.refl _ _) | (with_reducible refine Only.drew ?_) | (with_reducible refine Only.alloc ?_ _) | (with_reducible refine onlySet ?_ (by first | (with_reducible assumption) | omega) _) | (with_reducible refine Only.trans ?_ (by with_reducible assumption))))))
      (first
        | (go_at_call 45; (with_reducible refine (HG2.out _ (by (repeat (first | (with_reducible assumption) | (with_reducible exact Only.refl _ _) | (with_reducible refine Only.drew ?_) | (with_reducible refine Only.alloc ?_ _) | (with_reducible refine onlySet ?_ (by first | (with_reducible assumption) | omega) _) | (with_reducible refine Only.trans ?_ (by with_reducible assumption)))))).mono ?_); rintro e w8 ⟨v8, rfl, ho8, hr8⟩; have o8 : Only (fun _ => False) wc w8 := (by (refine Only.trans (b := _) ?_ ho8); (repeat (first | (with_reducible assumption) | (with_reducible exact Only.refl _ _) | (with_reducible refine Only.drew ?_) | (with_reducible refine Only.alloc ?_ _) | (with_reducible refine onlySet ?_ (by first | (with_reducible assumption) | omega) _) | (with_reducible refine Only.trans ?_ (by with_reducible assumption))))); have hz8 : wc.heap.size ≤ w8.heap.size := Only.size o8)
        | (go_at_call 79; (with_reducible refine (HTO.out _ _ _ hr8).mono ?_); rintro e w9 ⟨v9, rfl, ho9, hr9⟩; have o9 : Only (fun _ => False) wc w9 := (by (refine Only.trans (b := _) ?_ ho9); (repeat (first | (with_reducible assumption) | (with_reducible exact Only.refl _ _) | (with_reducible refine Only.drew ?_) | (with_reducible refine Only.alloc ?_ _) | (with_reducible refine onlySet ?_ (by first | (with_reducible assumption) | omega) _) | (with_reducible refine Only.trans ?_ (by with_reducible assumption)))))))
    all_goals
      go_wp2_with fail
      go_meet
      refine ⟨rfl, by (repeat (first | (with_reducible assumption) | (with_reducible exact Only.refl _ _) | (with_reducible refine Only.drew ?_) | (with_reducible refine Only.alloc ?_ _) | (with_reducible refine onlySet ?_ (by first | (with_reducible assumption) | omega) _) | (with_reducible refine Only.trans ?_ (by with_reducible assumption)))), _, _, hz8, ?_, hr9⟩
      first | exact Nat.le_refl _ | (simp; done)
  case rest =>
  obtain ⟨rfl, ho2, hout⟩ := hcut
  have HOUT := Lib.hid hout
  have HO2 := Lib.hid ho2
  clear hout ho2
  clear q0 q1 q2 q3 q4 q5 q6 q7
  go_wp2_with fail
  go_ret2
  obtain ⟨B, mb, g1, g2, g3⟩ := HOUT.out
  have hsz := HO.out.size
  have hsz2 := HSZ.out
  refine ⟨_, _, rfl, (HOW.out.weaken (fun _ _ => False.elim)).trans (HO.out.trans (HO2.out.weaken (fun _ _ => False.elim))), ⟨B, mb, by omega, by omega, g3⟩, ?_, r', h1, h2, HST.out.new HO2.out⟩
  exact owns_only (ownsRow_base_a HROW.out hsz2) HO2.out (fun _ _ => id)
end Go.Proofs.YtjdlcfllmpdffaaDoor
/-! bellhoplaw20: rec. -/
namespace Go.Proofs.YtjdlcfllmpdffaaDoor
open Go.Conc Go.RowKit Go.Maps

def rec20 (o : Int) (nm cnt : Nat) : RecT := ⟨keyB o (bytesOf [97 + ((nm % 4 : Nat) : Int)]), 4294967296 + cnt, o, 0, false, ⟨#[97, 98, 99, 100, 101, 102, 103, 104, 105, 106]⟩⟩
theorem cv20 (W : World) (z : Int) : (convert 116 9 (.slice (some ⟨W.heap.size, 0, none⟩) 1 1)).run Tryd.prog (W.alloc (.cells #[.int .u8 z] 5)) = .ok (.string (bytesOf [z])) (W.alloc (.cells #[.int .u8 z] 5)) := by
  have h := Sl.fresh W ([z].map (.int .u8)) 5 1 1 rfl (by unfold maxLen; decide)
  exact run_bytes_str (P := Tryd.prog) (src := 116) (dst := 9) (e := 5) (ns := [z]) Tryd.underlying116 Tryd.underlying5 Tryd.underlying9 h
set_option maxRecDepth 100000 in
set_option maxHeartbeats 1000000 in
theorem rec20_any (w : World) (o : Int) (nm cnt : Nat) (ho0 : 0 ≤ o) (ho1 : o ≤ 65535) (hn : nm < 256) (hc : cnt < 256) :
    Calls Tryd.prog 18 #[.int .i64 o, .int .u8 nm, .int .u8 cnt] w fun e w' => e = .returned (recT (rec20 o nm cnt)) ∧ Only (fun _ => False) w w' := by
  have hb1 : bits BinOp.and IntKind.u8 (nm : Int) 3 = (nm : Int) % 4 := by rw [and3_u8 nm hn]; omega
  have hb2 : IntKind.u8.wrap (97 + (nm : Int) % 4) = 97 + (nm : Int) % 4 := by
    rcases (by omega : (nm : Int) % 4 = 0 ∨ (nm : Int) % 4 = 1 ∨ (nm : Int) % 4 = 2 ∨ (nm : Int) % 4 = 3) with e | e | e | e <;> rw [e] <;> rfl
  have HK := Lib.hid (fun w => rkey_any w o (bytesOf [97 + (nm : Int) % 4]) ho0 ho1 (show 1 ≤ 1000 by omega))
  unfold rec20 recT
  simp only
  rw [show ((nm % 4 : Nat) : Int) = (nm : Int) % 4 by omega]
  obtain ⟨W, hW⟩ : ∃ W, W = w.alloc (.cells #[.string ⟨#[]⟩, .int .u64 0, .int .i64 0, .int .i64 0, .bool false, .string ⟨#[]⟩] 33) := ⟨_, rfl⟩
  have hbW : W.heap[w.heap.size]? = some (.cells #[.string ⟨#[]⟩, .int .u64 0, .int .i64 0, .int .i64 0, .bool false, .string ⟨#[]⟩] 33 (0, 0)) := by rw [hW]; exact heap_alloc_new w _
  have hoW : Only (fun _ => False) w W := by rw [hW]; exact (Only.refl _ _).alloc _
  have hsW : W.heap.size = w.heap.size + 1 := by rw [hW]; simp
  have hcv := cv20 W (97 + (nm : Int) % 4)
  generalize (nm : Int) % 4 = q at *
  have HBW := Lib.hid hbW
  have HOW := Lib.hid hoW
  clear hbW hoW
  clear hsW
  go_enter Tryd.func18, Tryd.ntmps18
  go_upto_region 1 with (fail)
  rw [← hW]
  clear hW
  go_wp2_with fail
  refine (HK.out _).mono ?_
  rintro e w2 ⟨rfl, ho2⟩
  have ho3 : Only (fun _ => False) W w2 := ((Only.refl _ _).alloc _).trans ho2
  have hb3 := ho3.old HBW.out id
  generalize hKK : keyB o (bytesOf [97 + q]) = K at *
  have z0 : w2.cell? ⟨w.heap.size, 0, none⟩ = some (.string ⟨#[]⟩) := cell_at hb3 0
  have z1 : w2.cell? ⟨w.heap.size, 1, none⟩ = some (.int .u64 0) := cell_at hb3 1
  have z2 : w2.cell? ⟨w.heap.size, 2, none⟩ = some (.int .i64 0) := cell_at hb3 2
  have z3 : w2.cell? ⟨w.heap.size, 3, none⟩ = some (.int .i64 0) := cell_at hb3 3
  have z4 : w2.cell? ⟨w.heap.size, 4, none⟩ = some (.bool false) := cell_at hb3 4
  have z5 : w2.cell? ⟨w.heap.size, 5, none⟩ = some (.string ⟨#[]⟩) := cell_at hb3 5
  have zf : ∀ i, w2.frozen? ⟨w.heap.size, i, none⟩ = false := free_at hb3
  have hoA := HOW.out.trans ho3
  have hwl : w.heap.size < w2.heap.size := lt_of_block hb3
  have hcc : (cnt : Int) < 256 := by omega
  have HB3 := Lib.hid hb3
  have HOA := Lib.hid hoA
  have HKK := Lib.hid hKK
  clear hb3 hoA hKK
  clear ho2 ho3 hcv hb1 hb2
  go_wp2_with fail
  obtain ⟨s1, s2⟩ := six_set HB3.out (.string K) (.int .u64 (4294967296 + (cnt : Int))) (.int .i64 o) (.int .i64 0) (.bool false) (.string ⟨#[97, 98, 99, 100, 101, 102, 103, 104, 105, 106]⟩)
  generalize ((((((w2.setCell ⟨w.heap.size, 0, none⟩ (.string K)).setCell ⟨w.heap.size, 1, none⟩ (.int .u64 (4294967296 + (cnt : Int)))).setCell ⟨w.heap.size, 2, none⟩ (.int .i64 o)).setCell ⟨w.heap.size, 3, none⟩ (.int .i64 0)).setCell ⟨w.heap.size, 4, none⟩ (.bool false)).setCell ⟨w.heap.size, 5, none⟩ (.string ⟨#[97, 98, 99, 100, 101, 102, 103, 104, 105, 106]⟩)) = wz at *
  have p0 : wz.cell? ⟨w.heap.size, 0, none⟩ = some (.string K) := cell_at s1 0
  have p1 : wz.cell? ⟨w.heap.size, 1, none⟩ = some (.int .u64 (4294967296 + (cnt : Int))) := cell_at s1 1
  have p2 : wz.cell? ⟨w.heap.size, 2, none⟩ = some (.int .i64 o) := cell_at s1 2
  have p3 : wz.cell? ⟨w.heap.size, 3, none⟩ = some (.int .i64 0) := cell_at s1 3
  have p4 : wz.cell? ⟨w.heap.size, 4, none⟩ = some (.bool false) := cell_at s1 4
  have p5 : wz.cell? ⟨w.heap.size, 5, none⟩ = some (.string ⟨#[97, 98, 99, 100, 101, 102, 103, 104, 105, 106]⟩) := cell_at s1 5
  refine bodyPost_ret (v := .agg #[.string K, .int .u64 (4294967296 + (cnt : Int)), .int .i64 o, .int .i64 0, .bool false, .string ⟨#[97, 98, 99, 100, 101, 102, 103, 104, 105, 106]⟩]) (by simp [results, Tryd.results18, go_sem, p0, p1, p2, p3, p4, p5]) rfl ?_
  exact ⟨by rw [HKK.out]; simp, HOA.out.tr s2 (fun i hi e => by omega)⟩
end Go.Proofs.YtjdlcfllmpdffaaDoor
/-! bellhoplaw20: which seed is asked when; speaks. -/
namespace Go.Proofs.YtjdlcfllmpdffaaDoor
open Go.Conc Go.RowKit Go.Maps

def sdT (every : Int) (k : Nat) : Int := if every = 0 then 0 else (k : Int) % every
def sdN (every : Int) (n k : Nat) : Int := if every = 0 ∨ n = 0 then 0 else ((k : Int) / every) % (n : Int)
theorem mod_succ {every : Int} (k : Int) : (k % every + 1) % every = (k + 1) % every := by
  rw [Int.emod_add_emod]
theorem div_succ_yes {every k : Int} (h : 1 ≤ every) (h2 : (k + 1) % every = 0) : (k + 1) / every = k / every + 1 := by
  obtain ⟨q, hq⟩ := Int.dvd_of_emod_eq_zero h2
  have e1 : (k + 1) / every = q := by rw [hq]; exact Int.mul_ediv_cancel_left _ (by omega)
  have e2 : k / every = q - 1 := by
    have : k = (every - 1) + every * (q - 1) := by rw [Int.mul_sub]; omega
    rw [this, Int.add_mul_ediv_left _ _ (by omega), Int.ediv_eq_zero_of_lt (by omega) (by omega)]
    omega
  omega
theorem div_succ_no {every k : Int} (h : 1 ≤ every) (h2 : (k + 1) % every ≠ 0) : (k + 1) / every = k / every := by
  have e := Int.emod_add_mul_ediv k every
  have h3 := Int.emod_nonneg k (show every ≠ 0 by omega)
  have h4 := Int.emod_lt_of_pos k (show 0 < every by omega)
  generalize k % every = r at *
  generalize k / every = q at *
  have e5 : k + 1 = (r + 1) + every * q := by omega
  rw [e5, Int.add_mul_emod_self_left] at h2
  rw [e5, Int.add_mul_ediv_left _ _ (by omega)]
  have h6 : r + 1 < every := by
    rcases (by omega : r + 1 < every ∨ r + 1 = every) with h7 | h7
    · exact h7
    · rw [h7, Int.emod_self] at h2
      exact absurd rfl h2
  rw [Int.ediv_eq_zero_of_lt (by omega) h6]
  omega
theorem sdT_zero (k : Nat) : sdT 0 k = 0 := rfl
theorem sdN_zero (n k : Nat) : sdN 0 n k = 0 := if_pos (.inl rfl)
theorem sdT_start (every : Int) : sdT every 0 = 0 := by unfold sdT; split <;> simp
theorem sdN_start (every : Int) (n : Nat) : sdN every n 0 = 0 := by unfold sdN; split <;> simp
theorem sdT_range {every : Int} (h : 1 ≤ every) (k : Nat) : 0 ≤ sdT every k ∧ sdT every k < every := by
  unfold sdT
  rw [if_neg (by omega)]
  exact ⟨Int.emod_nonneg _ (by omega), Int.emod_lt_of_pos _ (by omega)⟩
theorem sdT_succ {every : Int} (h : 1 ≤ every) (k : Nat) : (sdT every k + 1) % every = sdT every (k + 1) := by
  unfold sdT
  rw [if_neg (by omega), if_neg (by omega), mod_succ]
  rfl
theorem sdT_is {every : Int} (h : 1 ≤ every) (k : Nat) : sdT every (k + 1) = ((k : Int) + 1) % every := by
  unfold sdT
  rw [if_neg (by omega)]
  rfl
theorem sdN_no {every : Int} (h : 1 ≤ every) (n k : Nat) (h2 : ((k : Int) + 1) % every ≠ 0 ∨ n = 0) : sdN every n (k + 1) = sdN every n k := by
  unfold sdN
  by_cases c : every = 0 ∨ n = 0
  · rw [if_pos c, if_pos c]
  · rw [if_neg c, if_neg c]
    have h3 := h2.resolve_right (fun e => c (.inr e))
    rw [show (((k + 1 : Nat)) : Int) = (k : Int) + 1 from rfl, div_succ_no h h3]
theorem sdN_yes {every : Int} (h : 1 ≤ every) (n k : Nat) (h2 : ((k : Int) + 1) % every = 0) (hn : 0 < n) : sdN every n (k + 1) = (sdN every n k + 1) % n := by
  unfold sdN
  have c : ¬ (every = 0 ∨ n = 0) := by omega
  rw [if_neg c, if_neg c]
  rw [show (((k + 1 : Nat)) : Int) = (k : Int) + 1 from rfl, div_succ_yes h h2, Int.emod_add_emod]
theorem sdN_ask {every : Int} (h : 1 ≤ every) (n k : Nat) (h2 : ((k : Int) + 1) % every = 0) (hn : 0 < n) : (((k : Int) + 1) / every - 1) % (n : Int) = sdN every n k ∧ 1 ≤ ((k : Int) + 1) / every := by
  unfold sdN
  have c : ¬ (every = 0 ∨ n = 0) := by omega
  rw [if_neg c, div_succ_yes h h2]
  have := Int.ediv_nonneg (show (0 : Int) ≤ (k : Int) by omega) (show (0 : Int) ≤ every by omega)
  exact ⟨by congr 1; omega, by omega⟩
theorem sdN_nat {every : Int} (n k : Nat) (hn : 0 < n) : ∃ i : Nat, i < n ∧ sdN every n k = (i : Nat) := by
  unfold sdN
  by_cases c : every = 0 ∨ n = 0
  · rw [if_pos c]
    exact ⟨0, hn, rfl⟩
  · rw [if_neg c]
    have h1 := Int.emod_nonneg ((k : Int) / every) (show (n : Int) ≠ 0 by omega)
    have h2 := Int.emod_lt_of_pos ((k : Int) / every) (show (0 : Int) < n by omega)
    exact ⟨(((k : Int) / every) % n).toNat, by omega, by omega⟩
theorem SeedsAt.ne {w : World} {x s b : Nat} {every tick next most ttl r : Int} {l : List Int} {L : List RecT} (h : SeedsAt w x every tick next l s) (hs : StoreAt w s b most ttl r L) : x ≠ s := by
  rintro rfl
  obtain ⟨v, base, h1, _⟩ := h.out
  have h2 := hs.blk
  rw [h1] at h2
  injection h2 with h2
  injection h2 with h2 _ _
  have := congrArg Array.size h2
  simp at this
theorem SeedsAt.nem {w : World} {x s b : Nat} {every tick next most ttl r : Int} {l : List Int} {L : List RecT} (h : SeedsAt w x every tick next l s) (hs : StoreAt w s b most ttl r L) : b ≠ x := by
  rintro rfl
  obtain ⟨v, base, h1, _⟩ := h.out
  obtain ⟨es, c, hb, _⟩ := hs.map.own
  rw [hb] at h1
  cases h1
/-- A Tick that asks: its one letter. -/
structure OutIs (w : World) (g x : Nat) (n : Int) (m : MsgT) : Prop where
  out : ∃ vn vi vr T, w.heap[g]? = some (.cells #[.int .i64 n, .int .i64 13, .int .i64 0, .int .i64 0, .bool false, vn, vi, vr] T (0, 0)) ∧ MsgIs w (.agg #[.int .i64 13, .int .i64 0, .int .i64 0, .bool false, vn, vi, vr]) m
  ne : g ≠ x
theorem tick_yes (w : World) (x : Nat) (every tick next : Int) (l : List Int) (s b : Nat) (most ttl r : Int) (L : List RecT) (h : SeedsAt w x every tick next l s) (hs : StoreAt w s b most ttl r L) (he : 1 ≤ every) (he2 : every ≤ 1000) (ht : 0 ≤ tick) (ht2 : tick < every) (hn : (tick + 1) % every = 0) (i : Nat) (hi : i < l.length) (hni : next = (i : Nat)) (hll : l.length ≤ 1000) :
    Calls Tryd.prog 21 #[.pointer (some ⟨x, 0, none⟩)] w fun e w' => ∃ g, e = .returned (.slice (some ⟨g, 0, none⟩) 1 1) ∧ Only (fun i => i = x) w w' ∧ SeedsAt w' x every 0 ((next + 1) % l.length) l s ∧ StoreAt w' s b most ttl r L ∧ OutIs w' g x l[i] (askMsg L) := by
  refine (sdtick_yes w x every tick next l s b most ttl r L h hs (h.ne hs) he he2 ht ht2 hn i hi hni hll).mono ?_
  rintro e w' ⟨g, vn, vi, vr, T, rfl, ho, h2, h3, h4⟩
  refine ⟨g, rfl, ho, h2, hs.kept ho (h.ne hs).symm (h.nem hs), ⟨vn, vi, vr, T, h3, h4⟩, ?_⟩
  rintro rfl
  obtain ⟨v, base, h5, _⟩ := h2.out
  rw [h5] at h3
  injection h3 with h3
  injection h3 with h3 _ _
  have := congrArg Array.size h3
  simp at this
theorem sp20_new : seedsOk 1 [1, 2, 3] 1 = true ∧ othersL 1 [1, 2, 3] = [2, 3] := by decide
theorem sdnew_123 (W : World) (s : Nat) (v : Value) (h : Sl W 1 v 3 ([1, 2, 3].flatMap intC)) : Calls Tryd.prog 19 #[.int .i64 1, v, .int .i64 1, .pointer (some ⟨s, 0, none⟩)] W fun e w' => e = .returned (.tuple #[.pointer (some ⟨W.heap.size, 0, none⟩), .int .i64 0]) ∧ Only (fun _ => False) W w' ∧ SeedsAt w' W.heap.size 1 0 0 [2, 3] s := by
  refine (sdnew_any W 1 [1, 2, 3] 1 s v h).mono ?_
  rintro e w' ⟨ho, ⟨_, x, rfl, rfl, h2⟩ | ⟨h2, _⟩⟩
  · rw [sp20_new.2] at h2
    exact ⟨rfl, ho, h2⟩
  · rw [sp20_new.1] at h2
    cases h2
theorem tick2 (w : World) (x s b : Nat) (r : Int) (L : List RecT) (i j : Nat) (n : Int) (hi : (i = 0 ∧ j = 1 ∧ n = 2) ∨ (i = 1 ∧ j = 0 ∧ n = 3)) (h : SeedsAt w x 1 0 (i : Nat) [2, 3] s) (hs : StoreAt w s b 4 100 r L) :
    Calls Tryd.prog 21 #[.pointer (some ⟨x, 0, none⟩)] w fun e w' => ∃ g, e = .returned (.slice (some ⟨g, 0, none⟩) 1 1) ∧ Only (fun i => i = x) w w' ∧ SeedsAt w' x 1 0 (j : Nat) [2, 3] s ∧ StoreAt w' s b 4 100 r L ∧ w'.cell? ⟨g, 0, none⟩ = some (.int .i64 n) ∧ w'.cell? ⟨g, 1, none⟩ = some (.int .i64 13) ∧ g ≠ x := by
  have hi2 : i < [(2 : Int), 3].length := by rcases hi with ⟨rfl, _⟩ | ⟨rfl, _⟩ <;> decide
  refine (tick_yes w x 1 0 (i : Nat) [2, 3] s b 4 100 r L h hs (by omega) (by omega) (by omega) (by omega) (by decide) i hi2 rfl (by decide)).mono ?_
  rintro e w' ⟨g, rfl, ho, h2, h3, h4⟩
  obtain ⟨vn, vi, vr, T, h5, _⟩ := h4.out
  refine ⟨g, rfl, ho, ?_, h3, ?_, cell_at h5 1, h4.ne⟩
  · rcases hi with ⟨rfl, rfl, rfl⟩ | ⟨rfl, rfl, rfl⟩ <;> exact h2
  · have h6 := cell_at h5 0
    rcases hi with ⟨rfl, rfl, rfl⟩ | ⟨rfl, rfl, rfl⟩ <;> exact h6
set_option maxRecDepth 100000 in
set_option maxHeartbeats 1000000 in
theorem speaks20_any (w : World) : Calls Tryd.prog 17 #[] w fun e w' => e = .returned (.bool true) ∧ Only (fun _ => False) w w' := by
  go_enter Tryd.func17, Tryd.ntmps17
  go_wp2_with fail
  refine (snew_ok w 4 100 (by omega) (by omega) (by omega) (by omega)).mono ?_
  rintro e w1 ⟨rfl, ho1, hs1⟩
  generalize w.heap.size = b at *
  have HWS := Lib.hid ho1.size
  have HO1 := Lib.hid ho1
  have HS1 := Lib.hid hs1
  clear ho1 hs1
  go_wp2_with fail
  obtain ⟨W, hW⟩ : ∃ W, W = w1.alloc (.cells #[.int .i64 1, .int .i64 2, .int .i64 3] 3) := ⟨_, rfl⟩
  rw [← hW]
  have hsl : Sl W 1 (.slice (some ⟨w1.heap.size, 0, none⟩) 3 3) 3 ([1, 2, 3].flatMap intC) := by rw [hW]; exact Sl.fresh w1 _ _ 3 1 rfl (by unfold maxLen; decide)
  have hoW : Only (fun _ => False) w1 W := by rw [hW]; exact (Only.refl _ _).alloc _
  have hsW := HS1.out.new hoW
  have hoW2 := HO1.out.trans hoW
  have HSW := Lib.hid hsW
  have HOW := Lib.hid hoW2
  clear hsW hoW2
  clear hW hoW
  refine (sdnew_123 W _ _ hsl).mono ?_
  rintro e w2 ⟨rfl, ho2, hx2⟩
  have hs2 := HSW.out.new ho2
  have hoA := HOW.out.trans ho2
  have hXw : w.heap.size ≤ W.heap.size := HOW.out.size
  generalize W.heap.size = X at *
  have HS2 := Lib.hid hs2
  have HX2 := Lib.hid hx2
  have HOA := Lib.hid hoA
  have HXW := Lib.hid hXw
  clear hs2 hx2 hoA hXw
  clear ho2 hsl
  go_wp2_with fail
  refine (tick2 w2 X _ b 0 [] 0 1 2 (.inl ⟨rfl, rfl, rfl⟩) HX2.out HS2.out).mono ?_
  rintro e w3 ⟨g1, rfl, ho3, hx3, hs3, p0, p1, hg1⟩
  have hoB := HOA.out.tr ho3 (fun i hi e => by have := HXW.out; omega)
  have HS3 := Lib.hid hs3
  have HX3 := Lib.hid hx3
  have HOB := Lib.hid hoB
  have HG1 := Lib.hid hg1
  clear hs3 hx3 hoB hg1
  clear ho3
  go_wp2_with fail
  refine (tick2 w3 X _ b 0 [] 1 0 3 (.inr ⟨rfl, rfl, rfl⟩) HX3.out HS3.out).mono ?_
  rintro e w4 ⟨g2, rfl, ho4, hx4, hs4, q0, q1, hg2⟩
  have hoC := HOB.out.tr ho4 (fun i hi e => by have := HXW.out; omega)
  have p04 := ho4.cell p0 HG1.out
  have p14 := ho4.cell p1 HG1.out
  have HS4 := Lib.hid hs4
  have HX4 := Lib.hid hx4
  have HOC := Lib.hid hoC
  have HG2 := Lib.hid hg2
  clear hs4 hx4 hoC hg2
  clear ho4 p0 p1
  go_wp2_with fail
  refine (tick2 w4 X _ b 0 [] 0 1 2 (.inl ⟨rfl, rfl, rfl⟩) HX4.out HS4.out).mono ?_
  rintro e w5 ⟨g3, rfl, ho5, hx5, hs5, r0, r1, hg3⟩
  have hoD := HOC.out.tr ho5 (fun i hi e => by have := HXW.out; omega)
  have p05 := ho5.cell p04 HG1.out
  have p15 := ho5.cell p14 HG1.out
  have q05 := ho5.cell q0 HG2.out
  have HOD := Lib.hid hoD
  clear hoD
  clear ho5 p04 p14 q0 q1 r1 hx5 hs5 hg3
  go_wp2_with fail
  go_ret
  exact ⟨rfl, HOD.out⟩
end Go.Proofs.YtjdlcfllmpdffaaDoor
