/- The walk of bellhoplaw07.PipeFirst. -/
import Derived.Test.YtfgkljjiopohgaaPipeFirst
namespace Go.Proofs.Ytfgkljjiopohgaa
open Go.Conc Go.RowKit

theorem infoPPipe : (Try.prog.info? 25).map (fun i => (i.zero, i.size, i.bytes)) = some (some (.pointer none), 1, 8) := by kernel_rfl
theorem ptrs_one (ps : List (Nat × Nat)) : ∀ u ∈ ptrs ps, u.oneCell' = true := by
  intro u hu
  obtain ⟨x, _, rfl⟩ := List.mem_map.1 hu
  rfl
theorem getD_of (hs : List Bool) (k : Nat) (h : k < hs.length) : hs.getD k false = hs[k] := by simp [List.getD, h]
theorem any_take (hs : List Bool) (k : Nat) (h : k < hs.length) : (hs.take (k + 1)).any id = ((hs.take k).any id || hs[k]) := by
  rw [List.take_succ_eq_append_getElem h]
  simp only [List.any_append, List.any_cons, List.any_nil, Bool.or_false, id]
theorem found_some (hs : List Bool) (s i : Nat) (ok : Bool) (hs0 : s < hs.length ∨ hs.length = 0) (h : Found hs s i ok) : ok = hs.any id := by
  rcases h with ⟨rfl, _, hb⟩ | ⟨rfl, k, hk, rfl, ht, _⟩
  · symm
    rw [List.any_eq_false]
    intro x hx
    obtain ⟨j, hj, rfl⟩ := List.getElem_of_mem hx
    have hlt : s < hs.length := by omega
    -- the place j is s + d, round
    have := hb ((j + hs.length - s) % hs.length) (Nat.mod_lt _ (by omega))
    rw [Nat.add_mod_mod, show s + (j + hs.length - s) = j + hs.length by omega, Nat.add_mod_right, Nat.mod_eq_of_lt hj, getD_of hs j hj] at this
    simp [this]
  · symm
    rw [List.any_eq_true]
    have hlt : (s + k) % hs.length < hs.length := Nat.mod_lt _ (by omega)
    rw [getD_of hs _ hlt] at ht
    exact ⟨_, List.getElem_mem hlt, ht⟩

set_option maxRecDepth 100000 in
set_option maxHeartbeats 2000000 in
theorem firstLaw_walk (w : World) (v : Value) (bs : List Bool) (from_ : Int) (hv : Sl w 1 v bs.length (bs.map .bool)) :
    Calls Try.prog 5 #[v, .int .i64 from_] w fun e w' => e = .returned (.bool true) ∧ Only (fun _ => False) w w' := by
  obtain ⟨i0, hi, iz0, iz1, iz2⟩ := info_parts infoPPipe
  have HV := hv
  obtain ⟨_, a, cap, rfl, h3, h4, h5⟩ := hv
  unfold maxLen at h4
  go_enter Try.func5, Try.ntmps5
  go_wp2_with fail
  refine (speaks_any _).mono ?_
  rintro e w1 ⟨rfl, h1⟩
  clear h5
  go_upto_region 3 with (fail)
  go_cut [0] (fun v0 wx => ∃ hs : List Bool, Sl wx 1 v0 hs.length (hs.map .bool) ∧ hs.length ≤ 10 ∧ Only (fun _ => False) w wx)
  case first =>
    have HV1 := HV.new h1
    by_cases h10 : bs.length ≤ 10
    · have h10' : (bs.length : Int) ≤ 10 := by omega
      go_wp2_with fail
      all_goals
        go_meet
        refine ⟨bs, ?_, h10, h1⟩
        exact HV1
    · have h10' : (10 : Int) < bs.length := by omega
      go_wp2_with fail
      all_goals
        go_meet
        refine ⟨bs.take 10, ?_, by simp; omega, h1⟩
        have e1 : (bs.take 10).length = 10 := by simp; omega
        rw [e1, List.map_take]
        exact HV1.take (by omega)
  case rest =>
  obtain ⟨hs, hS, hn, hwx⟩ := hcut
  have HS := hS
  obtain ⟨_, a0, cap0, rfl, k3, k4, k5⟩ := hS
  unfold maxLen at k4
  clear h1 HV
  go_wp2_with fail
  go_loopg [5, 6, 7] hs.length (fun g v5 v6 v7 wr => ∃ (k : Nat) (ps : List (Nat × Nat)) (B : Bool), v7 = .int .i64 k ∧ k ≤ hs.length ∧ ps.length = k ∧ wr.ownsRow wc.heap.size 25 1 v5 ps.length (ptrs ps) ∧ PipesAt wr ps hs ∧ v6 = .bool B ∧ B = (hs.take k).any id ∧ Only (fun _ => False) wc wr ∧ g = hs.length - k)
  case atStart => exact ⟨0, [], false, rfl, Nat.zero_le _, rfl, World.ownsRow_nil _ _ _ _, (fun i p c h => by simp at h), rfl, rfl, Only.refl _ _, rfl⟩
  case round =>
    obtain ⟨k, ps, B, rfl, hk, hl, o5, hpa, rfl, hB, hwr0, hg⟩ := hrel
    have HB := Lib.hid hB
    have Hg := Lib.hid hg
    have Hl := Lib.hid hl
    have Hpa := Lib.hid hpa
    have hwr := hwx.trans hwr0
    clear hB hg hl hpa
    by_cases hlt : k < hs.length
    · obtain ⟨b0, off0, ha0, hc0⟩ := k5.resolve_left (by omega)
      subst ha0
      have hz := hwr0.cell (hc0 k (.bool hs[k]) (by simp [hlt])) id
      have hbk := getD_of hs k hlt
      have hat := any_take hs k hlt
      generalize hs[k] = b at *
      have Hbk := Lib.hid hbk
      have Hat := Lib.hid hat
      clear hc0 k5 hbk hat
      have hsz : wc.heap.size ≤ wr.heap.size := hwr0.size
      have hpsl : ps.length ≤ 10 := by have := Hl.out; omega
      go_wp2_with fail
      refine (new_any _).mono ?_
      rintro e x1 ⟨rfl, y1, p1, z1⟩
      have hz1 := y1.cell hz id
      have o51 := owns_only o5 y1 (fun _ _ => id)
      have Hpa1 := Lib.hid (Hpa.out.kept y1 (fun _ _ _ => ⟨id, id⟩))
      have hfar : ∀ p c, (p, c) ∈ ps → ¬ p = wr.heap.size ∧ ¬ c = wr.heap.size := fun p c hm => by
        have := Hpa.out.lt hm
        omega
      have Hfar := Lib.hid hfar
      clear hfar
      cases b with
      | true =>
        go_wp2_with fail
        refine (send_room _ _ _ [] _ p1 (by decide)).mono ?_
        rintro e x2 ⟨rfl, y2, p2⟩
        have o52 := owns_kept o51 y2 (fun j hj e => by have := (o5.lt j hj).2; omega)
        have Hpa2 := Lib.hid (Hpa1.out.kept y2 Hfar.out)
        have hw2 : Only (fun _ => False) wc x2 := (hwr0.trans y1).tr y2 (fun i hi e => absurd hi (by omega))
        have hsz2 : wc.heap.size ≤ x2.heap.size := hw2.size
        go_wp2_with (at_builtin; refine Wait.mk ?_)
        refine Wait.go (wpList_append_src _ rfl (.tmp 36) (.tmp 38) 40 40 rfl wc.heap.size 25 i0 _ 1 8 Try.underlying40 hi iz0 iz1 iz2 rfl u5 ps.length (ptrs ps) rfl (o52.alloc _) _ 1 (ptrs [(wr.heap.size + 1, wr.heap.size)]) rfl ?src ?m ?b ?base ?_)
        case src => exact Src.ofSlice _ Try.underlying40 _ _ _ _ rfl (news_new' _ _ rfl _ _) (ptrs_one _)
        case m => unfold maxLen; omega
        case b => omega
        case base => simp; omega
        intro v1 x3 own1 gr1 hv1
        have p3 := p2.app_kept (o52.alloc _) (by decide) gr1
        have hpa3 : PipesAt x3 (ps ++ [(wr.heap.size + 1, wr.heap.size)]) hs := ((Hpa2.out.kept (S := fun _ => False) ((Only.refl _ _).alloc _) (fun _ _ _ => ⟨id, id⟩)).own_kept (o52.alloc _) (by decide) gr1).snoc (by rw [Hl.out, Hbk.out]; exact p3)
        have Hpa3 := Lib.hid hpa3
        have hw3 : Only (fun _ => False) wc x3 := (hw2.alloc _).own (o52.alloc _) (Nat.le_refl _) gr1
        clear hpa3
        go_wp2_with fail
        go_roundg (hs.length - (k + 1))
        case measure => rw [Hg.out]; omega
        case rel => exact ⟨k + 1, ps ++ [(wr.heap.size + 1, wr.heap.size)], _, by go_num, by omega, by simp [Hl.out], by simpa [ptrs] using own1, Hpa3.out, rfl, by rw [Hat.out, ← HB.out]; simp, hw3, rfl⟩
      | false =>
        have Hpa2 := Hpa1
        have p2 := p1
        have o52 := o51
        have hw2 : Only (fun _ => False) wc x1 := hwr0.trans y1
        have hsz2 : wc.heap.size ≤ x1.heap.size := hw2.size
        go_wp2_with (at_builtin; refine Wait.mk ?_)
        refine Wait.go (wpList_append_src _ rfl (.tmp 36) (.tmp 38) 40 40 rfl wc.heap.size 25 i0 _ 1 8 Try.underlying40 hi iz0 iz1 iz2 rfl u5 ps.length (ptrs ps) rfl (o52.alloc _) _ 1 (ptrs [(wr.heap.size + 1, wr.heap.size)]) rfl ?src ?m ?b ?base ?_)
        case src => exact Src.ofSlice _ Try.underlying40 _ _ _ _ rfl (news_new' _ _ rfl _ _) (ptrs_one _)
        case m => unfold maxLen; omega
        case b => omega
        case base => simp; omega
        intro v1 x3 own1 gr1 hv1
        have p3 := p2.app_kept (o52.alloc _) (by decide) gr1
        have hpa3 : PipesAt x3 (ps ++ [(wr.heap.size + 1, wr.heap.size)]) hs := ((Hpa2.out.kept (S := fun _ => False) ((Only.refl _ _).alloc _) (fun _ _ _ => ⟨id, id⟩)).own_kept (o52.alloc _) (by decide) gr1).snoc (by rw [Hl.out, Hbk.out]; exact p3)
        have Hpa3 := Lib.hid hpa3
        have hw3 : Only (fun _ => False) wc x3 := (hw2.alloc _).own (o52.alloc _) (Nat.le_refl _) gr1
        clear hpa3
        go_wp2_with fail
        go_roundg (hs.length - (k + 1))
        case measure => rw [Hg.out]; omega
        case rel => exact ⟨k + 1, ps ++ [(wr.heap.size + 1, wr.heap.size)], _, by go_num, by omega, by simp [Hl.out], by simpa [ptrs] using own1, Hpa3.out, rfl, by rw [Hat.out, ← HB.out]; simp, hw3, rfl⟩
    · have hs0 : ∃ s : Nat, (0 < ps.length → startAt from_ ps.length = (s : Int) ∧ s < ps.length) ∧ (s < hs.length ∨ hs.length = 0) := by
        by_cases h0 : 0 < ps.length
        · obtain ⟨s, e1, e2⟩ := startAt_nat from_ ps.length h0 (by have := Hl.out; omega)
          exact ⟨s, fun _ => ⟨e1, e2⟩, .inl (by have := Hl.out; omega)⟩
        · exact ⟨0, fun x => absurd x h0, .inr (by have := Hl.out; omega)⟩
      obtain ⟨s, hs1, hs2⟩ := hs0
      have hkl : k = hs.length := by omega
      have hpl : hs.length = ps.length := by have := Hl.out; omega
      have hBa : B = hs.any id := by
        have := HB.out
        rw [hkl, List.take_length] at this
        exact this
      have Hk := Lib.hid hkl
      have Hpl := Lib.hid hpl
      have HBa := Lib.hid hBa
      have hn10 : ps.length ≤ 10 := by omega
      have Hs1 := Lib.hid hs1
      clear hkl hpl hBa hs1
      go_wp2_with fail
      refine (first_any _ from_ _ ps hs s (Sl.of_owns o5) Hpa.out Hpl.out hn10 Hs1.out).mono ?_
      rintro e x1 ⟨i, ok, rfl, rfl, hf⟩
      have hok := found_some hs s i ok hs2 hf
      rw [← HBa.out] at hok
      subst hok
      rcases hf with ⟨rfl, rfl, _⟩ | ⟨rfl, kk, hkk, hik, hti, hbk⟩
      · go_wp2_with fail
        refine (break_nil _).mono ?_
        rintro e x2 ⟨rfl, y1⟩
        go_wp2_with fail
        refine (clear_nil _).mono ?_
        rintro e x3 ⟨rfl, y2⟩
        go_wp2_with fail
        refine (take_nil _).mono ?_
        rintro e x4 ⟨rfl, y3⟩
        go_wp2_with (first | (go_at_call 12; refine (send_nil _ _).mono ?_; rintro e x5 ⟨rfl, rfl⟩) | (go_at_call 13; refine (len_nil _).mono ?_; rintro e x5 ⟨rfl, rfl⟩))
        go_ret
        exact ⟨rfl, (((hwr.trans y1).trans y2).trans y3).alloc _⟩
      · obtain ⟨b0, off0, ha0, hc0⟩ := k5.resolve_left (by omega)
        subst ha0
        have hs3 := Hs1.out (by have := Hpl.out; omega)
        rw [← Hpl.out] at hs3
        have hs4 : (wrap64 (from_.tmod (hs.length : Int) + (hs.length : Int))).tmod (hs.length : Int) = (s : Int) := hs3.1
        have Hik := Lib.hid hik
        have Hti := Lib.hid hti
        have Hbk := Lib.hid hbk
        have hslt : s < hs.length := hs3.2
        clear hs3 hik hti hbk Hs1 k5
        have hcell : ∀ q, q < hs.length → wr.cell? ⟨b0, off0 + q, none⟩ = some (.bool (hs.getD q false)) := fun q hq => hwr0.cell (hc0 q _ (by simp [hq])) id
        have Hcell := Lib.hid hcell
        clear hcell hc0
        go_wp2_with fail
        go_loopg [12] kk (fun g v12 wx => ∃ (j q : Nat), v12 = .int .i64 q ∧ q = (s + j) % hs.length ∧ j ≤ kk ∧ wr = wx ∧ g = kk - j)
        case atStart => exact ⟨0, s, rfl, by rw [Nat.add_zero, Nat.mod_eq_of_lt hslt], Nat.zero_le _, rfl, rfl⟩
        case round =>
          obtain ⟨j, q, rfl, hq, hj, rfl, hg⟩ := hrel
          have hqlt : q < hs.length := by rw [hq]; exact Nat.mod_lt _ (by omega)
          have hz := Hcell.out q hqlt
          have Hq := Lib.hid hq
          have Hgg := Lib.hid hg
          clear hq hg hs4
          by_cases hjk : j < kk
          · have hf := Hbk.out j hjk
            rw [← Hq.out] at hf
            rw [hf] at hz
            have hA : ((q : Int) + 1).tmod (hs.length : Int) = (((q + 1) % hs.length : Nat) : Int) := by
              rw [Int.tmod_eq_emod_of_nonneg (by omega)]
              simp
            have hA2 : ((q : Int) + 1) % (hs.length : Int) = (((q + 1) % hs.length : Nat) : Int) := by simp
            have hnext : (q + 1) % hs.length = (s + (j + 1)) % hs.length := by
              rw [Hq.out, Nat.mod_add_mod, Nat.add_assoc]
            have hlt2 : (q + 1) % hs.length < hs.length := Nat.mod_lt _ (by omega)
            generalize (q + 1) % hs.length = q2 at *
            have Hnext := Lib.hid hnext
            clear hnext hf
            go_wp2_with fail
            go_roundg (kk - (j + 1))
            case measure => rw [Hgg.out]; omega
            case rel => exact ⟨j + 1, q2, rfl, Hnext.out, by omega, rfl, rfl⟩
          · have hjk2 : j = kk := by omega
            have hqi : q = i := by rw [Hq.out, Hik.out, hjk2]
            clear Hq
            subst hqi
            have ht := Hti.out
            rw [ht] at hz
            clear ht hjk2 Hgg
            go_wp2_with fail
            refine (break_nil _).mono ?_
            rintro e x2 ⟨rfl, y1⟩
            go_wp2_with fail
            refine (clear_nil _).mono ?_
            rintro e x3 ⟨rfl, y2⟩
            go_wp2_with fail
            refine (take_nil _).mono ?_
            rintro e x4 ⟨rfl, y3⟩
            go_wp2_with (first | (go_at_call 12; refine (send_nil _ _).mono ?_; rintro e x5 ⟨rfl, rfl⟩) | (go_at_call 13; refine (len_nil _).mono ?_; rintro e x5 ⟨rfl, rfl⟩))
            go_ret
            exact ⟨rfl, (((hwr.trans y1).trans y2).trans y3).alloc _⟩

theorem first_all (w : World) (v : Value) (bs : List Bool) (from_ : Int) (hv : Sl w 1 v bs.length (bs.map .bool)) (_ : (Lit.int .i64 from_).wf = true) :
    Calls Try.prog 5 #[v, .int .i64 from_] w fun e w' => e = .returned (.bool true) ∧ Only (fun _ => False) w w' := firstLaw_walk w v bs from_ hv
end Go.Proofs.Ytfgkljjiopohgaa
