/- bellhopref20: Asked; seeds.New. -/
import Derived.Test.YtianboachknfmaaDoorSds2
namespace Go.Proofs.YtianboachknfmaaDoor
open Go.Conc Go.RowKit Go.Maps

set_option maxRecDepth 100000 in
theorem rasked_yes (w : World) (v : Value) (l : List Int) (every tick : Int) (h : Sl w 1 v l.length (l.flatMap intC)) (i : Nat) (hi : i < l.length) (he : 1 ≤ every) (ht : tick % every = 0) (hq : 1 ≤ tick / every) (hq2 : tick / every ≤ 1000) (hix : (tick / every - 1) % (l.length : Int) = (i : Nat)) (ht0 : 0 ≤ tick) (ht2 : tick ≤ 1000) (he2 : every ≤ 1000) :
    Calls Tryd.prog 25 #[v, .int .i64 every, .int .i64 tick] w fun e w' => e = .returned (.int .i64 l[i]) ∧ w = w' := by
  obtain ⟨a, cap, rfl, h1, h2, h3⟩ := Sl.cells intC_length h
  unfold maxLen at h2
  obtain ⟨b, off, ha, hc⟩ := h3.at i hi
  subst ha
  have p0 := hc 0 _ rfl
  simp only [Nat.add_zero, Nat.mul_one] at p0
  generalize l[i] = z at *
  have c5 : (tick % every != 0) = false := by rw [ht]; rfl
  have e0 : ¬ every = 0 := by omega
  have e1 : ¬ every < 1 := by omega
  have e2 : ¬ (l.length : Int) = 0 := by omega
  have e3 : ((l.length : Int) == 0) = false := by simpa using e2
  have i1 : (0 : Int) ≤ (i : Int) := by omega
  have i2 : (i : Int) < (l.length : Int) := by omega
  clear hc h3 h ht
  go_enter Tryd.func25, Tryd.ntmps25
  go_wp2_with fail
  go_ret
  exact ⟨rfl, rfl⟩
/-- A node's seeds: their block x. -/
structure SeedsAt (w : World) (x : Nat) (every tick next : Int) (l : List Int) (s : Nat) : Prop where
  out : ∃ v base, w.heap[x]? = some (.cells #[v, .int .i64 every, .int .i64 tick, .int .i64 next, .pointer (some ⟨s, 0, none⟩)] 146 (0, 0)) ∧ IRow w base v l
theorem owns_ty {w w' : World} {base : Nat} {e t : TypeId} {size n x : Nat} {v : Value} {xs : List Value} {cs : Array Value} {f : Nat × Nat} (h : w.ownsRow base e size v n xs) (hx : w.heap[x]? = some (.cells cs t f)) (ht : t ≠ e) (ho : Only (fun i => i = x) w w') : w'.ownsRow base e size v n xs := by
  refine ⟨h.1, ?_⟩
  rcases h.2 with h2 | ⟨g, cap, cur, hv, hb, hg, r⟩
  · exact .inl h2
  · refine .inr ⟨g, cap, cur, hv, hb, ?_, r⟩
    refine ho.old hg (fun e2 => ?_)
    subst e2
    rw [hx] at hg
    injection hg with hg
    injection hg with _ hg _
    exact ht hg
theorem SeedsAt.new {w w' : World} {x : Nat} {every tick next : Int} {l : List Int} {s : Nat} (h : SeedsAt w x every tick next l s) (ho : Only (fun _ => False) w w') : SeedsAt w' x every tick next l s := by
  obtain ⟨v, base, h1, h2⟩ := h.out
  exact ⟨v, base, ho.old h1 id, owns_only h2 ho (fun _ _ => id)⟩
theorem SeedsAt.lt {w : World} {x : Nat} {every tick next : Int} {l : List Int} {s : Nat} (h : SeedsAt w x every tick next l s) : x < w.heap.size := by
  obtain ⟨v, base, h1, h2⟩ := h.out
  exact lt_of_block h1
/-- Which seeds may be. -/
def headOk (self every : Int) (n : Nat) : Bool := nodeOk self && decide (n ≤ 64 ∧ 0 ≤ every ∧ every ≤ 1000)
def seedsOk (self : Int) (l : List Int) (every : Int) : Bool := headOk self every l.length && l.all nodeOk
def NewPost (w w' : World) (self : Int) (l : List Int) (every : Int) (s : Nat) (e : Ending) : Prop :=
  Only (fun _ => False) w w' ∧ ((seedsOk self l every = true ∧ ∃ x, x = w.heap.size ∧ e = .returned (.tuple #[.pointer (some ⟨x, 0, none⟩), .int .i64 0]) ∧ SeedsAt w' x every 0 0 (othersL self l) s) ∨ (seedsOk self l every = false ∧ e = .returned (.tuple #[.pointer none, .int .i64 1])))
theorem snew_nil (w : World) : Calls Tryd.prog 22 #[.int .i64 1, .slice none 0 0, .int .i64 1, .pointer none] w fun e w' => e = .returned (.tuple #[.pointer none, .int .i64 1]) ∧ w = w' := by
  go_enter Tryd.func22, Tryd.ntmps22
  go_wp2_with fail
  refine (snode_any w 1).mono ?_
  rintro e w1 ⟨rfl, rfl⟩
  have h : nodeOk 1 = true := by decide
  go_wp2_with fail
  go_ret2
  exact ⟨rfl, rfl⟩
set_option maxRecDepth 100000 in
theorem sdnew_head (w : World) (self : Int) (l : List Int) (every : Int) (s : Nat) (v : Value) (h : Sl w 1 v l.length (l.flatMap intC)) (hb : headOk self every l.length = false) :
    Calls Tryd.prog 22 #[.int .i64 self, v, .int .i64 every, .pointer (some ⟨s, 0, none⟩)] w fun e w' => e = .returned (.tuple #[.pointer none, .int .i64 1]) ∧ w = w' := by
  obtain ⟨a, cap, rfl, h1, h2, h3⟩ := Sl.cells intC_length h
  unfold headOk at hb
  have HN := Lib.hid (snode_any w self)
  clear h3 h
  generalize nodeOk self = nk at *
  cases nk
  · clear hb
    go_enter Tryd.func22, Tryd.ntmps22
    go_wp2_with fail
    refine HN.out.mono ?_
    rintro e w1 ⟨rfl, rfl⟩
    go_wp2_with fail
    go_ret2
    exact ⟨rfl, rfl⟩
  · have hb2 : ¬ (l.length ≤ 64 ∧ 0 ≤ every ∧ every ≤ 1000) := by simpa using hb
    clear hb
    by_cases c1 : (l.length : Int) > 64
    · clear hb2
      go_enter Tryd.func22, Tryd.ntmps22
      go_wp2_with fail
      refine HN.out.mono ?_
      rintro e w1 ⟨rfl, rfl⟩
      go_wp2_with fail
      go_ret2
      exact ⟨rfl, rfl⟩
    · by_cases c2 : every < 0
      · clear hb2
        go_enter Tryd.func22, Tryd.ntmps22
        go_wp2_with fail
        refine HN.out.mono ?_
        rintro e w1 ⟨rfl, rfl⟩
        go_wp2_with fail
        go_ret2
        exact ⟨rfl, rfl⟩
      · have c3 : every > 1000 := by omega
        clear hb2
        go_enter Tryd.func22, Tryd.ntmps22
        go_wp2_with fail
        refine HN.out.mono ?_
        rintro e w1 ⟨rfl, rfl⟩
        go_wp2_with fail
        go_ret2
        exact ⟨rfl, rfl⟩
theorem all_snoc (p : Int → Bool) (l : List Int) (k : Nat) (hk : k < l.length) : (l.take (k + 1)).all p = ((l.take k).all p && p l[k]) := by
  rw [List.take_add_one, List.getElem?_eq_getElem hk, List.all_append]
  simp
theorem all_bad (p : Int → Bool) (l : List Int) (k : Nat) (hk : k < l.length) (h : p l[k] = false) : l.all p = false := by
  rw [List.all_eq_false]
  exact ⟨l[k], List.getElem_mem hk, by rw [h]; simp⟩
set_option maxRecDepth 100000 in
set_option maxHeartbeats 2000000 in
theorem sdnew_any (w : World) (self : Int) (l : List Int) (every : Int) (s : Nat) (v : Value) (h : Sl w 1 v l.length (l.flatMap intC)) :
    Calls Tryd.prog 22 #[.int .i64 self, v, .int .i64 every, .pointer (some ⟨s, 0, none⟩)] w fun e w' => NewPost w w' self l every s e := by
  by_cases hh : headOk self every l.length = false
  · refine (sdnew_head w self l every s v h hh).mono ?_
    rintro e w' ⟨rfl, rfl⟩
    exact ⟨Only.refl _ _, .inr ⟨by unfold seedsOk; rw [hh]; rfl, rfl⟩⟩
  · have hok : seedsOk self l every = l.all nodeOk := by unfold seedsOk; rw [Bool.not_eq_false _ |>.mp hh]; rfl
    have hh2 : headOk self every l.length = true := by simpa using hh
    unfold headOk at hh2
    simp only [Bool.and_eq_true, decide_eq_true_eq] at hh2
    obtain ⟨hn, c1, c2, c3⟩ := hh2
    have HN := Lib.hid (show Calls Tryd.prog 68 #[.int .i64 self] w fun e w' => e = .returned (.bool true) ∧ w = w' by rw [← hn]; exact snode_any w self)
    obtain ⟨i0, hi0, iz0, iz1, iz2⟩ := info_parts infoInt
    obtain ⟨a, cap, rfl, h1, h2, h3⟩ := Sl.cells intC_length h
    unfold maxLen at h2
    obtain ⟨W, hW⟩ : ∃ W, W = w.alloc (.cells #[.slice none 0 0, .int .i64 every, .int .i64 0, .int .i64 0, .pointer (some ⟨s, 0, none⟩)] 146) := ⟨_, rfl⟩
    have hbW : W.heap[w.heap.size]? = some (.cells #[.slice none 0 0, .int .i64 every, .int .i64 0, .int .i64 0, .pointer (some ⟨s, 0, none⟩)] 146 (0, 0)) := by rw [hW]; exact heap_alloc_new w _
    have hoW : Only (fun _ => False) w W := by rw [hW]; exact (Only.refl _ _).alloc _
    have hsW : W.heap.size = w.heap.size + 1 := by rw [hW]; simp
    have HNP := Lib.hid (show ∀ w' e, (Only (fun _ => False) w w' ∧ ((seedsOk self l every = true ∧ ∃ x, x = w.heap.size ∧ e = .returned (.tuple #[.pointer (some ⟨x, 0, none⟩), .int .i64 0]) ∧ SeedsAt w' x every 0 0 (othersL self l) s) ∨ (seedsOk self l every = false ∧ e = .returned (.tuple #[.pointer none, .int .i64 1])))) → NewPost w w' self l every s e from fun _ _ h => h)
    have hC := h3.new hoW (fun _ _ _ => id)
    have HOK := Lib.hid hok
    have HC := Lib.hid hC
    have HBW := Lib.hid hbW
    have HOW := Lib.hid hoW
    have HSZ := Lib.hid hsW
    have HCW := Lib.hid h3
    clear hok hC hbW hoW hsW h3
    have c4 : ¬ (l.length : Int) > 64 := by omega
    have c5 : ¬ every < 0 := by omega
    have c6 : ¬ every > 1000 := by omega
    clear h hn hh
    go_enter Tryd.func22, Tryd.ntmps22
    go_wp2_with fail
    refine HN.out.mono ?_
    rintro e w1 ⟨rfl, rfl⟩
    go_upto_region 4 with (fail)
    rw [← hW]
    clear hW
    generalize hX : w.heap.size = X at *
    have HX := Lib.hid hX
    clear hX
    go_wp2_with fail
    go_loopg [39] l.length (fun g v39 wr => ∃ (k : Nat) (v : Value), v39 = .int .i64 k ∧ k ≤ l.length ∧ Only (fun i => i = X) W wr ∧ wr.heap[X]? = some (.cells #[v, .int .i64 every, .int .i64 0, .int .i64 0, .pointer (some ⟨s, 0, none⟩)] 146 (0, 0)) ∧ IRow wr W.heap.size v (othersL self (l.take k)) ∧ (l.take k).all nodeOk = true ∧ g = l.length - k)
    case atStart => exact ⟨0, .slice none 0 0, rfl, Nat.zero_le _, Only.refl _ _, HBW.out, World.ownsRow_nil W _ _ _, rfl, rfl⟩
    case round =>
      obtain ⟨k, v, rfl, hk, ho, hbx, hrow, hall, hg⟩ := hrel
      have Hg := Lib.hid hg
      have HO := Lib.hid ho
      have HROW := Lib.hid hrow
      have HBX := Lib.hid hbx
      have HALL := Lib.hid hall
      clear hg ho hrow hbx hall
      by_cases hlt : k < l.length
      · obtain ⟨b, off, he, hc⟩ := HCW.out.at k hlt
        subst he
        have p00 := hc 0 _ rfl
        have hbl : b < X := by have := World.block_lt_of_cell? _ _ p00; have h9 := HX.out; simp only at this; omega
        have p0 := HO.out.cell (HOW.out.cell p00 id) (fun e => by have e2 : b = X := e; omega)
        simp only [Nat.add_zero, Nat.mul_one] at p0
        have hts := others_snoc self l k hlt
        have hta := all_snoc nodeOk l k hlt
        have htb := all_bad nodeOk l k hlt
        have hol : (othersL self (l.take k)).length ≤ k := Nat.le_trans (List.length_filter_le _ _) (List.length_take_le _ _)
        have hlt' : (k : Int) < (l.length : Int) := by omega
        generalize l[k] = n at *
        have HNK := Lib.hid (snode_any wr n)
        generalize nodeOk n = nk at *
        obtain ⟨va, vcap, rfl, _, _, _⟩ := Sl.cells intC_length (Sl.of_owns HROW.out)
        have x0 : wr.cell? ⟨X, 0, none⟩ = some (.slice va (othersL self (l.take k)).length vcap) := cell_at HBX.out 0
        have xf : ∀ i, wr.frozen? ⟨X, i, none⟩ = false := free_at HBX.out
        have hXl : X < wr.heap.size := lt_of_block HBX.out
        have HTS := Lib.hid hts
        have HOL := Lib.hid hol
        have HTA := Lib.hid hta
        have HTB := Lib.hid htb
        clear hts hol hta htb
        clear hc p00
        cases nk
        · have hbad := HTB.out rfl
          have HBAD := Lib.hid hbad
          clear hbad
          go_wp2_with fail
          refine HNK.out.mono ?_
          rintro e w2 ⟨rfl, rfl⟩
          go_wp2_with fail
          go_ret2
          exact HNP.out _ _ ⟨HOW.out.tr HO.out (fun i hi e => by have := HX.out; omega), .inr ⟨by rw [HOK.out]; exact HBAD.out, rfl⟩⟩
        · by_cases hn : n = self
          · have hnb : (n != self) = false := by rw [hn]; simp
            have HN2 := Lib.hid hn
            clear hn
            go_wp2_with fail
            refine HNK.out.mono ?_
            rintro e w2 ⟨rfl, rfl⟩
            go_wp2_with fail
            go_roundg (l.length - (k + 1))
            case measure => rw [Hg.out]; omega
            case rel =>
              refine ⟨k + 1, _, by go_num, by omega, HO.out, HBX.out, ?_, by rw [HTA.out, HALL.out]; rfl, rfl⟩
              rw [HTS.out, if_pos HN2.out, List.append_nil]
              exact HROW.out
          · have hnb : (n != self) = true := by simpa using hn
            have HN2 := Lib.hid hn
            clear hn
            go_wp2_with fail
            refine HNK.out.mono ?_
            rintro e w2 ⟨rfl, rfl⟩
            go_wp2_with (at_builtin; refine Wait.mk ?_)
            refine Wait.go (wpList_append_src _ rfl (.tmp 53) (.tmp 55) 48 48 rfl W.heap.size 3 i0 _ 1 8 Tryd.underlying48 hi0 iz0 iz1 iz2 rfl _ (othersL self (l.take k)).length ((othersL self (l.take k)).flatMap intC) rfl (HROW.out.alloc _) _ 1 (intC n) rfl ?src4 ?m4 ?b4 ?base4 ?_)
            case src4 => exact Src.ofSlice _ Tryd.underlying48 _ _ _ _ rfl (news_new _ _ _) (intC_one _)
            case m4 => have := HOL.out; unfold maxLen; omega
            case b4 => have := HOL.out; omega
            case base4 => have := HO.out.size; simp; omega
            intro v4 w5 own4 gr4 _
            have ho5 : Only (fun i => i = X) W w5 := (HO.out.alloc _).own (HROW.out.alloc _) (Nat.le_refl _) gr4
            have hXW : X < W.heap.size := lt_of_block HBW.out
            have hbx5 : w5.heap[X]? = some (.cells #[.slice va (othersL self (l.take k)).length vcap, .int .i64 every, .int .i64 0, .int .i64 0, .pointer (some ⟨s, 0, none⟩)] 146 (0, 0)) :=
              by
                have gr5 : (wr.alloc (.cells #[.int .i64 n] 3)).grownBy w5 (Value.slice va (othersL self (l.take k)).length vcap).ownBlock := gr4
                exact (gr5.block X (by simp; omega) (fun e => by have := (HROW.out.lt X e.symm).1; omega)).trans (blk_old HBX.out)
            obtain ⟨ua, ucap, hve, _, _, _⟩ := Sl.cells (l := othersL self (l.take k) ++ [n]) intC_length (by
              have h7 := Sl.of_owns own4
              rw [List.length_append, List.flatMap_append]
              have e1 : [n].flatMap intC = intC n := by simp
              rw [e1]
              exact h7)
            subst hve
            have x05 : w5.cell? ⟨X, 0, none⟩ = some (.slice va (othersL self (l.take k)).length vcap) := cell_at hbx5 0
            have xf5 : ∀ i, w5.frozen? ⟨X, i, none⟩ = false := free_at hbx5
            have HO5 := Lib.hid ho5
            have HW5 := Lib.hid own4
            have HBX5 := Lib.hid hbx5
            clear ho5 own4 hbx5
            clear gr4 x0 xf p0
            go_wp2_with fail
            obtain ⟨w6, hw6⟩ : ∃ w6, w6 = w5.setCell ⟨X, 0, none⟩ (.slice ua ((othersL self (l.take k)).length + 1) ucap) := ⟨_, rfl⟩
            have t6 : Only (fun i => i = X) w5 w6 := by rw [hw6]; exact (Only.refl _ _).setCell (S := fun i => i = X) (p := ⟨X, 0, none⟩) (.inr rfl) _
            have hb6 : w6.heap[X]? = some (.cells #[.slice ua ((othersL self (l.take k)).length + 1) ucap, .int .i64 every, .int .i64 0, .int .i64 0, .pointer (some ⟨s, 0, none⟩)] 146 (0, 0)) := by rw [hw6]; exact set_at HBX5.out 0 _
            rw [← hw6]
            have hrow6 := owns_ty HW5.out HBX5.out (by decide) t6
            rw [List.length_append] at hrow6
            have T6 := Lib.hid t6
            have HB6 := Lib.hid hb6
            have HROW6 := Lib.hid hrow6
            clear t6 hb6 hrow6
            clear hw6
            go_roundg (l.length - (k + 1))
            case measure => rw [Hg.out]; omega
            case rel =>
              refine ⟨k + 1, _, by go_num, by omega, HO5.out.trans T6.out, HB6.out, ?_, by rw [HTA.out, HALL.out]; rfl, rfl⟩
              unfold IRow
              rw [HTS.out, if_neg HN2.out, List.length_append, List.flatMap_append]
              have e1 : [n].flatMap intC = intC n := by simp
              rw [e1]
              exact HROW6.out
      · have hke : k = l.length := by omega
        have hlt' : ¬ (k : Int) < (l.length : Int) := by omega
        have hW := HROW.out
        have hA := HALL.out
        rw [hke, List.take_length] at hW hA
        have HW2 := Lib.hid hW
        have HA2 := Lib.hid hA
        clear hW hA
        clear hke
        go_wp2_with fail
        go_ret2
        exact HNP.out _ _ ⟨HOW.out.tr HO.out (fun i hi e => by have := HX.out; omega), .inl ⟨by rw [HOK.out]; exact HA2.out, X, rfl, rfl, ⟨_, _, HBX.out, HW2.out⟩⟩⟩
end Go.Proofs.YtianboachknfmaaDoor
