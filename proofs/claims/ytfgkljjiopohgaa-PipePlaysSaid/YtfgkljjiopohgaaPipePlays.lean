/- The walk of bellhoplaw07.PipePlays. -/
import Derived.Test.YtfgkljjiopohgaaPipeLaw1
import Derived.Test.YtfgkljjiopohgaaPipeRef
import Derived.Deep.QuietTactic
import Derived.BigQuiet
namespace Go.Proofs.Ytfgkljjiopohgaa
open Go.Conc Go.RowKit

set_option maxRecDepth 100000 in
set_option maxHeartbeats 2000000 in
theorem plays_walk (w : World) (vl vt : Value) (bs : List Int) (ss : List ByteArray) (hl : Sl w 1 vl bs.length (bs.map (.int .u8))) (hbs : ∀ z ∈ bs, 0 ≤ z ∧ z < 256)
    (ht : Sl w 1 vt ss.length (ss.map .string)) :
    Calls Try.prog 3 #[vl, vt] w fun e w' => e = .returned (.bool true) ∧ Only (fun _ => False) w w' := by
  have HL := hl
  have HT := ht
  obtain ⟨_, al, capl, rfl, l3, l4, l5⟩ := hl
  obtain ⟨_, at', capt, rfl, t3, t4, t5⟩ := ht
  unfold maxLen at l4 t4
  go_enter Try.func3, Try.ntmps3
  go_wp2_with fail
  refine (speaks_any _).mono ?_
  rintro e w1 ⟨rfl, h1⟩
  go_wp2_with fail
  refine (new_any _).mono ?_
  rintro e w2 ⟨rfl, h2, p2, s2⟩
  go_wp2_with fail
  have hW2 : Only (fun _ => False) w w2 := h1.trans h2
  have hcw : w.heap.size ≤ w1.heap.size := h1.size
  generalize w1.heap.size + 1 = p at *
  generalize w1.heap.size = c at *
  go_loopg [6, 7] 150 (fun g v6 v7 wr => ∃ (k : Nat) (l : List (Bool × ByteArray)), v7 = .int .i64 k ∧ k ≤ bs.length ∧ Sl wr 2 v6 l.length (flat l) ∧ PipeAt wr p c (items l) ∧ Only (fun _ => False) w wr ∧ l.length ≤ 64 ∧ g = 150 - k)
  case atStart => exact ⟨0, [], rfl, Nat.zero_le _, Sl.nil _ _, p2, hW2, by simp, rfl⟩
  case round =>
    obtain ⟨k, l, rfl, hk, hm, hp, hw, hl64, hg⟩ := hrel
    have Hg := Lib.hid hg
    clear hg p2 s2
    by_cases hlt : k < bs.length ∧ k < 150
    · obtain ⟨hlt1, hlt2⟩ := hlt
      obtain ⟨b, off, hal, lc⟩ := l5.resolve_left (by omega)
      subst hal
      have hz := hw.cell (lc k (.int .u8 bs[k]) (by simp [hlt1])) id
      obtain ⟨z0, z1⟩ := hbs bs[k] (List.getElem_mem hlt1)
      generalize bs[k] = z at *
      clear lc
      by_cases c4 : z % 7 = 4
      · have d4 : (z % 7 == 4) = true := by simpa using c4
        clear c4
        rcases l with _ | ⟨⟨xa, xb⟩, l⟩
        · have hm0 := hm
          obtain ⟨_, am, capm, rfl, m3, m4, m5⟩ := hm
          go_wp2_with fail
          refine (take_none _ _ _ hp).mono ?_
          rintro e w3 ⟨rfl, h3⟩
          go_wp2_with fail
          go_quiet (fail)
          go_wp2_with fail
          have ho : Only (fun _ => False) wr ((w3.alloc (.cells #[.bool false, .string ⟨#[]⟩] 29)).drewN nq) := (h3.alloc _).drewN _
          refine (len_any _ _ _ [] (PipeAt.kept (S := fun _ => False) hp ho id id)).mono ?_
          rintro e w4 ⟨rfl, rfl⟩
          go_wp2_with fail
          go_roundg (150 - (k + 1))
          case measure => rw [Hg.out]; omega
          case rel =>
            exact ⟨k + 1, [], by go_num, by omega, hm0.new ho, PipeAt.kept (S := fun _ => False) hp ho id id, hw.trans ho, by simp, rfl⟩
        · have hm0 := hm
          obtain ⟨_, am, capm, rfl, m3, m4, m5⟩ := hm
          obtain ⟨bm, offm, ham, mc⟩ := m5.resolve_left (by simp)
          subst ham
          have q0 : wr.cell? ⟨bm, offm, none⟩ = some (.bool xa) := mc 0 _ rfl
          have q1 : wr.cell? ⟨bm, offm + 1, none⟩ = some (.string xb) := mc 1 _ rfl
          clear mc
          go_wp2_with fail
          refine (take_some _ _ _ _ _ _ hp).mono ?_
          rintro e w3 ⟨rfl, h3, p3⟩
          have q2 := h3.cell q0 (hp.ne q0)
          have q3 := h3.cell q1 (hp.ne q1)
          have q4 : bm < w3.heap.size := World.block_lt_of_cell? _ _ q2
          have q5 : decide ((0 : Int) < (l.length : Int) + 1) = true := by simp
          obtain ⟨i0, hi, hz0, hz1, hz2⟩ := info_parts infoRItem
          have hl65 : l.length + 1 ≤ 64 := hl64
          have m3' : l.length + 1 ≤ capm := m3
          by_cases hcap : capm = 1
          · subst hcap
            obtain rfl : l = [] := List.eq_nil_of_length_eq_zero (by omega)
            go_wp2_with fail
            go_quiet (fail)
            go_wp2_with (at_builtin; refine Wait.mk ?_)
            have ho : Only (· = c) wr (((w3.alloc (.cells #[.bool xa, .string xb] 29)).drewN nq)) := (h3.alloc _).drewN _
            have hp4 : PipeAt ((w3.alloc (.cells #[.bool xa, .string xb] 29)).drewN nq) p c (items []) := PipeAt.kept (S := fun _ => False) p3 (((Only.refl _ w3).alloc _).drewN _) id id
            have hs4 : wr.heap.size ≤ w3.heap.size := h3.size
            refine Wait.go (wpList_append_src _ rfl (.tmp 90) (.tmp 92) 27 27 rfl (w3.heap.size + 1) 32 i0 _ 2 24 Try.underlying27 hi hz0 hz1 hz2 rfl _ 0 [] rfl (owns_empty' _ _ (by simp [World.drewN]) 32 2) _ 0 (flat []) rfl ?src ?m ?b ?base ?_)
            case src =>
              exact (Sl.zero _ 2 _ 0 (Nat.zero_le _)).src Try.underlying27 (flat_one [])
            case m => unfold maxLen; omega
            case b => omega
            case base => simp
            intro v1 w5 own1 gr1 _
            simp only [Nat.zero_add, List.nil_append] at own1
            have ho5 : Only (· = c) wr w5 := (ho.alloc _).own (owns_empty' _ _ (by simp [World.drewN]) 32 2) (by omega) gr1
            have hp5 : PipeAt w5 p c (items []) := PipeAt.kept (S := fun _ => False) hp4 (((Only.refl _ _).alloc _).own (owns_empty' _ _ (by simp [World.drewN]) 32 2) (by simp [World.drewN]) gr1) id id
            have M5 := Sl.of_owns own1
            obtain ⟨_, a3, cap3, rfl, _, _, _⟩ := id M5
            go_wp2_with fail
            refine (len_n _ _ _ _ 0 hp5 (by simp [items])).mono ?_
            rintro e w6 ⟨rfl, rfl⟩
            go_wp2_with fail
            go_roundg (150 - (k + 1))
            case measure => rw [Hg.out]; omega
            case rel =>
              exact ⟨k + 1, [], by go_num, by omega, M5, hp5, hw.tr ho5 (fun i hi e => absurd hi (by omega)), by omega, rfl⟩
          · go_wp2_with fail
            go_quiet (fail)
            go_wp2_with (at_builtin; refine Wait.mk ?_)
            have ho : Only (· = c) wr (((w3.alloc (.cells #[.bool xa, .string xb] 29)).drewN nq)) := (h3.alloc _).drewN _
            have hp4 : PipeAt ((w3.alloc (.cells #[.bool xa, .string xb] 29)).drewN nq) p c (items l) := PipeAt.kept (S := fun _ => False) p3 (((Only.refl _ w3).alloc _).drewN _) id id
            have hs4 : wr.heap.size ≤ w3.heap.size := h3.size
            refine Wait.go (wpList_append_src _ rfl (.tmp 90) (.tmp 92) 27 27 rfl (w3.heap.size + 1) 32 i0 _ 2 24 Try.underlying27 hi hz0 hz1 hz2 rfl _ 0 [] rfl (owns_empty' _ _ (by simp [World.drewN]) 32 2) _ l.length (flat l) rfl ?src ?m ?b ?base ?_)
            case src =>
              exact ((hm0.drop (lo := 1) (by simp)).kept (ho.alloc _) (fun a u hc => hp.ne hc)).src Try.underlying27 (flat_one l)
            case m => unfold maxLen; omega
            case b => omega
            case base => simp
            intro v1 w5 own1 gr1 _
            simp only [Nat.zero_add, List.nil_append] at own1
            have ho5 : Only (· = c) wr w5 := (ho.alloc _).own (owns_empty' _ _ (by simp [World.drewN]) 32 2) (by omega) gr1
            have hp5 : PipeAt w5 p c (items l) := PipeAt.kept (S := fun _ => False) hp4 (((Only.refl _ _).alloc _).own (owns_empty' _ _ (by simp [World.drewN]) 32 2) (by simp [World.drewN]) gr1) id id
            have M5 := Sl.of_owns own1
            obtain ⟨_, a3, cap3, rfl, _, _, _⟩ := id M5
            go_wp2_with fail
            refine (len_n _ _ _ _ (l.length : Int) hp5 (by simp [items])).mono ?_
            rintro e w6 ⟨rfl, rfl⟩
            go_wp2_with fail
            go_roundg (150 - (k + 1))
            case measure => rw [Hg.out]; omega
            case rel =>
              exact ⟨k + 1, l, by go_num, by omega, M5, hp5, hw.tr ho5 (fun i hi e => absurd hi (by omega)), by omega, rfl⟩
      have d4 : (z % 7 == 4) = false := by simpa using c4
      clear c4
      by_cases c5 : z % 7 = 5
      · have d5 : (z % 7 == 5) = true := by simpa using c5
        clear c5
        go_wp2_with fail
        refine (break_any _ _ _ _ hp).mono ?_
        rintro e w3 ⟨rfl, h3, p3⟩
        go_wp2_with fail
        refine (len_any _ _ _ _ (p3.kept (S := fun _ => False) ((Only.refl _ _).alloc _) id id)).mono ?_
        rintro e w4 ⟨rfl, rfl⟩
        go_wp2_with fail
        go_roundg (150 - (k + 1))
        case measure => rw [Hg.out]; omega
        case rel =>
          exact ⟨k + 1, [(true, ⟨#[]⟩)], by go_num, by omega, Sl.fresh _ _ _ 1 2 rfl (by unfold maxLen; omega), p3.kept (S := fun _ => False) ((Only.refl _ _).alloc _) id id,
            (hw.tr h3 (fun i hi e => absurd hi (by omega))).alloc _, by simp, rfl⟩
      have d5 : (z % 7 == 5) = false := by simpa using c5
      clear c5
      by_cases c6 : z % 7 = 6
      · have d6 : (z % 7 == 6) = true := by simpa using c6
        clear c6
        go_wp2_with fail
        refine (clear_any _ _ _ _ hp).mono ?_
        rintro e w3 ⟨rfl, h3, p3⟩
        go_wp2_with fail
        refine (len_any _ _ _ _ p3).mono ?_
        rintro e w4 ⟨rfl, rfl⟩
        go_wp2_with fail
        go_roundg (150 - (k + 1))
        case measure => rw [Hg.out]; omega
        case rel =>
          exact ⟨k + 1, [], by go_num, by omega, Sl.nil _ _, p3, hw.tr h3 (fun i hi e => absurd hi (by omega)), by simp, rfl⟩
      have d6 : (z % 7 == 6) = false := by simpa using c6
      clear c6
      by_cases hk2 : k < ss.length
      · obtain ⟨bt, offt, hat, tc⟩ := t5.resolve_left (by omega)
        subst hat
        have hs := hw.cell (tc k (.string ss[k]) (by simp [hk2])) id
        generalize ss[k] = s at *
        clear tc
        by_cases hfull : l.length < 64
        · go_wp2_with fail
          go_quiet (fail)
          go_wp2_with fail
          all_goals
            refine (rsend_room _ _ l _ (hm.new (by first | exact Only.refl _ _ | exact (Only.refl _ _).drewN _)) hfull).mono ?_
            rintro e w3 ⟨v3, rfl, h3, m3⟩
            replace h3 : Only (fun _ => False) wr w3 := (by first | exact h3 | exact ((Only.refl _ wr).drewN _).trans h3)
            go_wp2_with fail
            refine (send_room _ _ _ (items l) _ (PipeAt.kept (S := fun _ => False) hp h3 id id) (by simpa [items] using hfull)).mono ?_
            rintro e w4 ⟨rfl, h4, p4⟩
            go_wp2_with fail
            refine (len_n _ _ _ _ ((l.length : Int) + 1) p4 (by simp [items])).mono ?_
            rintro e w5 ⟨rfl, rfl⟩
            have M3 := m3
            obtain ⟨_, a3, cap3, rfl, _, _, _⟩ := m3
            go_wp2_with fail
            go_roundg (150 - (k + 1))
            case measure => rw [Hg.out]; omega
            case rel =>
              exact ⟨k + 1, l ++ [(false, _)], by go_num, by omega, (M3.kept h4 (fun a u hc => PipeAt.ne (PipeAt.kept (S := fun _ => False) hp h3 id id) hc)).cast (by simp), by simpa [items] using p4, (hw.trans h3).tr h4 (fun i hi e => absurd hi (by omega)), by simp; omega, rfl⟩
        · go_wp2_with fail
          go_quiet (fail)
          go_wp2_with fail
          all_goals
            refine (rsend_full _ _ l _ (hm.new (by first | exact Only.refl _ _ | exact (Only.refl _ _).drewN _)) (by omega)).mono ?_
            rintro e w3 ⟨rfl, rfl⟩
            go_wp2_with fail
            refine (send_full _ _ _ (items l) _ (PipeAt.kept (S := fun _ => False) hp (by first | exact Only.refl _ _ | exact (Only.refl _ _).drewN _) id id) (by simp [items]; omega)).mono ?_
            rintro e w4 ⟨rfl, h4, p4⟩
            replace h4 : Only (· = c) wr w4 := (by first | exact h4 | exact ((Only.refl _ wr).drewN _).trans h4)
            go_wp2_with fail
            refine (len_n _ _ _ _ (l.length : Int) p4 (by simp [items])).mono ?_
            rintro e w5 ⟨rfl, rfl⟩
            have M3 := hm
            obtain ⟨_, a3, cap3, rfl, _, _, _⟩ := hm
            go_wp2_with fail
            go_roundg (150 - (k + 1))
            case measure => rw [Hg.out]; omega
            case rel =>
              exact ⟨k + 1, l, by go_num, by omega, M3.kept h4 (fun a u hc => hp.ne hc), p4, hw.tr h4 (fun i hi e => absurd hi (by omega)), by omega, rfl⟩
      · clear t5
        by_cases hfull : l.length < 64
        · go_wp2_with fail
          refine (rsend_room _ _ l _ (hm.new (by first | exact Only.refl _ _ | exact (Only.refl _ _).drewN _)) hfull).mono ?_
          rintro e w3 ⟨v3, rfl, h3, m3⟩
          replace h3 : Only (fun _ => False) wr w3 := (by first | exact h3 | exact ((Only.refl _ wr).drewN _).trans h3)
          go_wp2_with fail
          refine (send_room _ _ _ (items l) _ (PipeAt.kept (S := fun _ => False) hp h3 id id) (by simpa [items] using hfull)).mono ?_
          rintro e w4 ⟨rfl, h4, p4⟩
          go_wp2_with fail
          refine (len_n _ _ _ _ ((l.length : Int) + 1) p4 (by simp [items])).mono ?_
          rintro e w5 ⟨rfl, rfl⟩
          have M3 := m3
          obtain ⟨_, a3, cap3, rfl, _, _, _⟩ := m3
          go_wp2_with fail
          go_roundg (150 - (k + 1))
          case measure => rw [Hg.out]; omega
          case rel =>
            exact ⟨k + 1, l ++ [(false, _)], by go_num, by omega, (M3.kept h4 (fun a u hc => PipeAt.ne (PipeAt.kept (S := fun _ => False) hp h3 id id) hc)).cast (by simp), by simpa [items] using p4, (hw.trans h3).tr h4 (fun i hi e => absurd hi (by omega)), by simp; omega, rfl⟩
        · go_wp2_with fail
          refine (rsend_full _ _ l _ (hm.new (by first | exact Only.refl _ _ | exact (Only.refl _ _).drewN _)) (by omega)).mono ?_
          rintro e w3 ⟨rfl, rfl⟩
          go_wp2_with fail
          refine (send_full _ _ _ (items l) _ (PipeAt.kept (S := fun _ => False) hp (by first | exact Only.refl _ _ | exact (Only.refl _ _).drewN _) id id) (by simp [items]; omega)).mono ?_
          rintro e w4 ⟨rfl, h4, p4⟩
          replace h4 : Only (· = c) wr w4 := (by first | exact h4 | exact ((Only.refl _ wr).drewN _).trans h4)
          go_wp2_with fail
          refine (len_n _ _ _ _ (l.length : Int) p4 (by simp [items])).mono ?_
          rintro e w5 ⟨rfl, rfl⟩
          have M3 := hm
          obtain ⟨_, a3, cap3, rfl, _, _, _⟩ := hm
          go_wp2_with fail
          go_roundg (150 - (k + 1))
          case measure => rw [Hg.out]; omega
          case rel =>
            exact ⟨k + 1, l, by go_num, by omega, M3.kept h4 (fun a u hc => hp.ne hc), p4, hw.tr h4 (fun i hi e => absurd hi (by omega)), by omega, rfl⟩
    · have hm0 := hm
      obtain ⟨_, am, capm, rfl, m3, m4, m5⟩ := hm
      by_cases hlt1 : k < bs.length
      · have hlt2 : ¬ k < 150 := fun x => hlt ⟨hlt1, x⟩
        clear hlt
        go_wp2
        go_ret
        exact ⟨rfl, hw⟩
      · clear hlt
        go_wp2
        go_ret
        exact ⟨rfl, hw⟩
end Go.Proofs.Ytfgkljjiopohgaa
