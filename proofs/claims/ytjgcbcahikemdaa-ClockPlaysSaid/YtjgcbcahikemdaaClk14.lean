/- bellhopref04.Due. -/
import Derived.Test.YtjgcbcahikemdaaClk13
namespace Go.Proofs.Ytjgcbcahikemdaa
open Go.Conc Go.RowKit Go.Maps Go.Sort Go.Shelf

theorem infoStrC : (Try.prog.info? 9).map (fun i => (i.zero, i.size, i.bytes)) = some (some (.string ⟨#[]⟩), 1, 16) := by kernel_rfl
abbrev NmRow (w : World) (base : Nat) (v : Value) (OL : List (ByteArray × (Int × Int))) : Prop := w.ownsRow base 9 1 v OL.length (OL.map (fun p => .string p.1))
abbrev ThRow (w : World) (base : Nat) (v : Value) (RL : List (ByteArray × (Int × Int))) : Prop := w.ownsRow base 35 2 v RL.length (thsC (thL RL))
theorem ThRow.sl {w : World} {base : Nat} {v : Value} {RL : List (ByteArray × (Int × Int))} (h : ThRow w base v RL) : Sl w 2 v RL.length (thsC (thL RL)) := Sl.of_owns h
/-- The cells of a slice of things. -/
structure ThCells (w : World) (a : Option Addr) (n : Nat) (RL : List (ByteArray × (Int × Int))) : Prop where
  out : n = 0 ∨ ∃ b off, a = some ⟨b, off, none⟩ ∧ ∀ k (hk : k < RL.length), w.cell? ⟨b, off + k * 2, none⟩ = some (.string RL[k].1) ∧ w.cell? ⟨b, off + k * 2 + 1, none⟩ = some (.int .i64 RL[k].2.1)
theorem Sl.things {w : World} {v : Value} {RL : List (ByteArray × (Int × Int))} (h : Sl w 2 v RL.length (thsC (thL RL))) : ∃ a cap, v = .slice a RL.length cap ∧ RL.length ≤ cap ∧ cap ≤ maxLen ∧ ThCells w a RL.length RL := by
  obtain ⟨_, a, cap, rfl, h3, h4, h5⟩ := h
  refine ⟨a, cap, rfl, h3, h4, ⟨?_⟩⟩
  rcases h5 with h5 | ⟨b, off, rfl, hc⟩
  · exact .inl h5
  · refine .inr ⟨b, off, rfl, fun k hk => ⟨hc (k * 2 + 0) _ (thL_get0 RL k hk), ?_⟩⟩
    have := hc (k * 2 + 1) _ (thL_get1 RL k hk)
    rwa [← Nat.add_assoc] at this
/-- What the reference's Due leaves. -/
def RDuePost (w w' : World) (L : List (ByteArray × (Int × Int))) (now : Int) (v1 v2 : Value) : Prop :=
  Only (fun _ => False) w w' ∧ ∃ OL RL, NmRow w' w.heap.size v1 OL ∧ ThRow w' w.heap.size v2 RL ∧ Picked L now OL RL ∧ ∀ p ∈ RL, now < p.2.1
set_option maxRecDepth 100000 in
set_option maxHeartbeats 4000000 in
theorem rdue_any (w : World) (v : Value) (L : List (ByteArray × (Int × Int))) (now : Int) (h : Sl w 2 v L.length (thsC (thL L))) (hl : L.length ≤ 1000) (hord : Orders L) :
    Calls Try.prog 16 #[v, .int .i64 now] w fun e w' => ∃ v1 v2, e = .returned (.tuple #[v1, v2]) ∧ RDuePost w w' L now v1 v2 := by
  obtain ⟨i0, hi0, iz0, iz1, iz2⟩ := info_parts infoThing
  obtain ⟨j0, hj0, jz0, jz1, jz2⟩ := info_parts infoStrC
  have H0 := Lib.hid h
  have HORD := Lib.hid hord
  clear h hord
  go_enter Try.func16, Try.ntmps16
  go_wp2_with (at_builtin; refine Wait.mk ?_)
  refine Wait.go (wpList_append_src _ rfl (.tmp 10) (.tmp 11) 33 33 rfl w.heap.size 35 i0 _ 2 24 Try.underlying33 hi0 iz0 iz1 iz2 rfl _ 0 [] rfl (owns_empty _ _ _) v L.length (thsC (thL L)) rfl ?src4 ?m4 ?b4 ?base4 ?_)
  case src4 => exact Sl.src Try.underlying33 (H0.out.new ((Only.refl _ _).alloc _)) (thsC_one _)
  case m4 => unfold maxLen; omega
  case b4 => omega
  case base4 => simp
  intro v7 w1 own7 gr7 hv7
  have ho1 : Only (fun _ => False) w w1 := ((Only.refl _ _).alloc _).own (owns_empty _ 35 2) (Nat.le_refl _) gr7
  simp only [Nat.zero_add, List.nil_append] at own7
  go_wp2_with fail
  go_loopg [6, 7] L.length (fun g v6 v7 wr => ∃ OL RL, Only (fun _ => False) w wr ∧ NmRow wr w.heap.size v6 OL ∧ ThRow wr w.heap.size v7 RL ∧ Apart v6 v7 ∧ Picked L now OL RL ∧ g = RL.length)
  case atStart => exact ⟨[], L, ho1, World.ownsRow_nil _ _ _ _, own7, Apart.nil _, Picked.start L now, rfl⟩
  case round =>
    obtain ⟨OL, RL, ho, r6, r7, hap, hP, hg⟩ := hrel
    obtain ⟨a, cap, rfl, hnc, hcm, hcells⟩ := r7.sl.things
    have hRL : RL.length ≤ 1000 := Nat.le_trans hP.sub.length_le hl
    have Hg := Lib.hid hg
    have HO := Lib.hid ho
    have HR6 := Lib.hid r6
    have HR7 := Lib.hid r7
    have HAP := Lib.hid hap
    have HP := Lib.hid hP
    have HC := Lib.hid hcells
    unfold maxLen at hcm
    clear hg ho r6 r7 hap hP hcells
    obtain ⟨W0, hW0⟩ : ∃ W0, W0 = wr := ⟨_, rfl⟩
    subst hW0
    go_wp2_with fail
    go_loopg [8, 9] RL.length (fun g v8 v9 wx => ∃ (m : Nat) (kv : Int), v8 = .int .i64 kv ∧ v9 = .int .i64 m ∧ m ≤ RL.length ∧ Best RL now m kv ∧ Only (fun _ => False) W0 wx ∧ g = RL.length - m)
    case atStart => exact ⟨0, -1, rfl, rfl, Nat.zero_le _, best_zero RL now, Only.refl _ _, rfl⟩
    case round =>
      obtain ⟨m, kv, rfl, rfl, hm, hb, hox, hg2⟩ := hrel
      have Hg2 := Lib.hid hg2
      have HB := Lib.hid hb
      have HOX := Lib.hid hox
      clear hg2 hb hox
      by_cases hlt : m < RL.length
      · obtain ⟨b, off, ha, hcc⟩ := HC.out.out.resolve_left (by omega)
        subst ha
        have z1 : wr.cell? ⟨b, off + m * 2 + 1, none⟩ = some (.int .i64 RL[m].2.1) := HOX.out.cell (hcc m hlt).2 id
        have hlt' : (m : Int) < (RL.length : Int) := by omega
        by_cases hn : now < RL[m].2.1
        · have HB2 := Lib.hid (best_skip HB.out hlt hn)
          clear hcc
          generalize RL[m].2.1 = x at *
          have d1 : decide (x ≤ now) = false := decide_eq_false (by omega)
          clear hn
          go_upto_region 7 with (fail)
          go_quiet (fail)
          go_wp2_with fail
          go_roundg (RL.length - (m + 1))
          case measure => rw [Hg2.out]; omega
          case rel => exact ⟨m + 1, kv, rfl, by go_num, by omega, HB2.out, HOX.out.drewN _, rfl⟩
        · rcases best_cases HB.out with ⟨rfl, hb⟩ | ⟨k, rfl, hk, hkm, hb⟩
          · have HB2 := Lib.hid (best_first hb (by decide) hlt hn)
            clear hcc hb
            generalize RL[m].2.1 = x at *
            have d1 : decide (x ≤ now) = true := decide_eq_true (by omega)
            clear hn
            go_upto_region 7 with (fail)
            go_quiet (fail)
            go_wp2_with fail
            go_roundg (RL.length - (m + 1))
            case measure => rw [Hg2.out]; omega
            case rel => exact ⟨m + 1, _, rfl, by go_num, by omega, HB2.out, HOX.out.drewN _, rfl⟩
          · have z2 : wr.cell? ⟨b, off + k * 2 + 1, none⟩ = some (.int .i64 RL[k].2.1) := HOX.out.cell (hcc k hk).2 id
            have hk' : (k : Int) < (RL.length : Int) := by omega
            have d2 : decide ((k : Int) < 0) = false := decide_eq_false (by omega)
            clear hcc
            by_cases hl2 : RL[m].2.1 < RL[k].2.1
            · have HB2 := Lib.hid (best_less hb hk hlt hn hl2)
              clear hb
              generalize RL[m].2.1 = x at *
              generalize RL[k].2.1 = y at *
              have d1 : decide (x ≤ now) = true := decide_eq_true (by omega)
              have d3 : decide (x < y) = true := decide_eq_true (by omega)
              clear hn hl2
              go_upto_region 7 with (fail)
              go_quiet (fail)
              go_wp2_with fail
              go_roundg (RL.length - (m + 1))
              case measure => rw [Hg2.out]; omega
              case rel => exact ⟨m + 1, _, rfl, by go_num, by omega, HB2.out, HOX.out.drewN _, rfl⟩
            · have HB2 := Lib.hid (best_keep hb hk hlt hl2)
              clear hb
              generalize RL[m].2.1 = x at *
              generalize RL[k].2.1 = y at *
              have d1 : decide (x ≤ now) = true := decide_eq_true (by omega)
              have d3 : decide (x < y) = false := decide_eq_false (by omega)
              clear hn hl2
              go_upto_region 7 with (fail)
              go_quiet (fail)
              go_wp2_with fail
              go_roundg (RL.length - (m + 1))
              case measure => rw [Hg2.out]; omega
              case rel => exact ⟨m + 1, _, rfl, by go_num, by omega, HB2.out, HOX.out.drewN _, rfl⟩
      · obtain rfl : m = RL.length := by omega
        have hlt' : ¬ ((RL.length : Nat) : Int) < (RL.length : Int) := by omega
        rcases best_cases HB.out with ⟨rfl, hb⟩ | ⟨k, rfl, hk, _, hb⟩
        · have hnone := best_none hb
          have HN := Lib.hid hnone
          clear hb hnone
          go_wp2_with fail
          go_ret2
          exact ⟨_, _, rfl, HO.out.trans HOX.out, OL, RL, owns_only HR6.out HOX.out (fun _ _ => id), owns_only HR7.out HOX.out (fun _ _ => id), HP.out, HN.out⟩
        · obtain ⟨b, off, ha, hcc⟩ := HC.out.out.resolve_left (by omega)
          subst ha
          have z0 : wr.cell? ⟨b, off + k * 2, none⟩ = some (.string RL[k].1) := HOX.out.cell (hcc k hk).1 id
          have hP2 := HP.out.best HORD.out hb hk
          have hOL : OL.length + RL.length = L.length := by have := HP.out.perm.length_eq; rw [List.length_append] at this; exact this
          have r6 := owns_only HR6.out HOX.out (fun _ _ => id)
          have r7 := owns_only HR7.out HOX.out (fun _ _ => id)
          have HP2 := Lib.hid hP2
          have hnm : (OL ++ [RL[k]]).map (fun p => Value.string p.1) = OL.map (fun p => Value.string p.1) ++ [.string RL[k].1] := by simp
          have HNM := Lib.hid hnm
          clear hnm hP2 hcc hb
          generalize RL[k].1 = x at *
          have hk' : (k : Int) < (RL.length : Int) := by omega
          have d2 : ¬ (k : Int) < 0 := by omega
          go_wp2_with (at_builtin; refine Wait.mk ?_)
          refine Wait.go (wpList_append_src _ rfl (.tmp 48) (.tmp 54) 30 30 rfl w.heap.size 9 j0 _ 1 16 Try.underlying30 hj0 jz0 jz1 jz2 rfl _ OL.length (OL.map (fun p => Value.string p.1)) rfl (r6.alloc _) _ 1 [.string x] rfl ?src5 ?m5 ?b5 ?base5 ?_)
          case src5 => exact Src.ofSlice _ Try.underlying30 _ _ _ _ rfl (news_new _ _ _) (by simp [Value.oneCell'])
          case m5 => unfold maxLen; omega
          case b5 => omega
          case base5 => have := (HO.out.trans HOX.out).size; simp; omega
          intro v6' w5 own5 gr5 hv5
          have ho5 : Only (fun _ => False) w w5 := ((HO.out.trans HOX.out).alloc _).own (r6.alloc _) (Nat.le_refl _) gr5
          have ap5 := HAP.out.next (r7.alloc _) hv5
          have r75 := HAP.out.kept (r7.alloc _) gr5
          rw [← HNM.out] at own5
          have HR65 := Lib.hid own5
          have HO5 := Lib.hid ho5
          have HR75 := Lib.hid r75
          clear own5 ho5 ap5 r75 gr5 hv5 r6 r7
          have hcc : Sl w5 2 (.slice (some ⟨b, off, none⟩) RL.length cap) RL.length (thsC (thL RL)) := Sl.of_owns HR75.out
          have hT1 : Sl w5 2 (.slice (some ⟨b, off, none⟩) k cap) k (thsC (thL (RL.take k))) := by
            have := hcc.take (m := k) (by omega)
            rwa [thsC_take, thL_take] at this
          have hT2 : Sl w5 2 (.slice (if cap = k + 1 then some ⟨b, off, none⟩ else some ⟨b, off + (k + 1) * 2, none⟩) (RL.length - (k + 1)) (cap - (k + 1))) (RL.length - (k + 1)) (thsC (thL (RL.drop (k + 1)))) := by
            have := hcc.sliced (lo := k + 1) (by omega)
            rw [thsC_drop, thL_drop] at this
            simpa [Addr.add_lit] using this
          have HT1 := Lib.hid hT1
          have HT2 := Lib.hid hT2
          clear hcc hT1 hT2
          go_upto_region 12 with (fail)
          clear gr7 hv7
          have e2 : (k : Int) + 1 ≤ (RL.length : Int) := by omega
          have e3 : IntKind.i64.wrap ((k : Int) + 1) = (k : Int) + 1 := by rw [IntKind.wrap_i64]; omega
          have e4 : ((k : Int) + 1).toNat = k + 1 := by omega
          have e5 : (0 : Int) ≤ (k : Int) + 1 := by omega
          by_cases hcl : cap = k + 1
          · rw [if_pos hcl] at HT2
            subst hcl
            rw [Nat.sub_self] at HT2
            have e8 : RL.length - (k + 1) = 0 := by omega
            have e1 : (k : Int) ≤ (k : Int) + 1 := by omega
            go_region_law (first
              | (refine step_append_src rfl (.tmp 56) (.tmp 59) 33 33 rfl w5.heap.size 35 i0 _ 2 24 Try.underlying33 hi0 iz0 iz1 iz2 rfl (.slice (some ⟨w5.heap.size, 0, none⟩) 0 0) 0 [] rfl (own_at (by first | exact heapA _ _ _ rfl | exact heapB _ _ _ _ rfl | exact heapC _ _ _ _ rfl) _ _ (by omega)) _ k (thsC (thL (RL.take k))) rfl ?src6 ?m6 ?b6 ?base6 ?_
                 case src6 => exact Sl.src Try.underlying33 (HT1.out.new (((Only.refl _ _).alloc _).drew)) (thsC_one _)
                 case m6 => unfold maxLen; omega
                 case b6 => omega
                 case base6 => simp
                 intro v8 w8 own8 gr8 hv8
                 have ho8 : Only (fun _ => False) w5 w8 := (((Only.refl _ _).alloc _).drew).grown gr8 (fun k e => .inl (hv8 k e)))
              | (refine step_append_src rfl (.tmp 60) (.tmp 64) 33 33 rfl w5.heap.size 35 i0 _ 2 24 Try.underlying33 hi0 iz0 iz1 iz2 rfl v8 (0 + k) _ rfl own8 _ (RL.length - (k + 1)) (thsC (thL (RL.drop (k + 1)))) rfl ?src7 ?m7 ?b7 ?base7 ?_
                 case src7 => exact Sl.src Try.underlying33 (by have h := HT2.out.new ho8; rw [e8] at h ⊢; exact h) (thsC_one _)
                 case m7 => unfold maxLen; omega
                 case b7 => omega
                 case base7 => exact ho8.size
                 intro v9 w9 own9 gr9 hv9
                 have ho9 : Only (fun _ => False) w5 w9 := ho8.grown gr9 (fun k e => .inl (hv9 k e))))
            all_goals (
              go_wp2_with fail
              go_roundg (RL.length - 1)
              case measure => rw [Hg.out]; omega
              case rel =>
                have hln : (OL ++ [RL[k]]).length = OL.length + 1 := by simp
                have hlr : (RL.take k ++ RL.drop (k + 1)).length = 0 + k + (RL.length - (k + 1)) := by simp; omega
                have hlc : thsC (thL (RL.take k ++ RL.drop (k + 1))) = [] ++ thsC (thL (RL.take k)) ++ thsC (thL (RL.drop (k + 1))) := by rw [thL_append, thsC_append]; rfl
                refine ⟨OL ++ [RL[k]], RL.take k ++ RL.drop (k + 1), HO5.out.trans ho9, ?_, ?_, ?_, HP2.out, ?_⟩
                · unfold NmRow
                  rw [hln]
                  exact owns_only HR65.out ho9 (fun _ _ => id)
                · unfold ThRow
                  rw [hlr, hlc]
                  exact ownsRow_base_a own9 HO5.out.size
                · intro j q1 q2
                  have g1 := (HR65.out.lt j q1).2
                  have g2 := (own9.lt j q2).1
                  omega
                · simp; omega)
          · rw [if_neg hcl] at HT2
            have e1 : (k : Int) ≤ (cap : Int) := by omega
            have e6 : (RL.length : Int) ≤ (cap : Int) := by omega
            go_region_law (first
              | (refine step_append_src rfl (.tmp 56) (.tmp 59) 33 33 rfl w5.heap.size 35 i0 _ 2 24 Try.underlying33 hi0 iz0 iz1 iz2 rfl (.slice (some ⟨w5.heap.size, 0, none⟩) 0 0) 0 [] rfl (own_at (by first | exact heapA _ _ _ rfl | exact heapB _ _ _ _ rfl | exact heapC _ _ _ _ rfl) _ _ (by omega)) _ k (thsC (thL (RL.take k))) rfl ?src6 ?m6 ?b6 ?base6 ?_
                 case src6 => exact Sl.src Try.underlying33 (HT1.out.new (((Only.refl _ _).alloc _).drew)) (thsC_one _)
                 case m6 => unfold maxLen; omega
                 case b6 => omega
                 case base6 => simp
                 intro v8 w8 own8 gr8 hv8
                 have ho8 : Only (fun _ => False) w5 w8 := (((Only.refl _ _).alloc _).drew).grown gr8 (fun k e => .inl (hv8 k e)))
              | (refine step_append_src rfl (.tmp 60) (.tmp 64) 33 33 rfl w5.heap.size 35 i0 _ 2 24 Try.underlying33 hi0 iz0 iz1 iz2 rfl v8 (0 + k) _ rfl own8 _ (RL.length - (k + 1)) (thsC (thL (RL.drop (k + 1)))) rfl ?src7 ?m7 ?b7 ?base7 ?_
                 case src7 => exact Sl.src Try.underlying33 (HT2.out.new ho8) (thsC_one _)
                 case m7 => unfold maxLen; omega
                 case b7 => omega
                 case base7 => exact ho8.size
                 intro v9 w9 own9 gr9 hv9
                 have ho9 : Only (fun _ => False) w5 w9 := ho8.grown gr9 (fun k e => .inl (hv9 k e))))
            all_goals (
              go_wp2_with fail
              go_roundg (RL.length - 1)
              case measure => rw [Hg.out]; omega
              case rel =>
                have hln : (OL ++ [RL[k]]).length = OL.length + 1 := by simp
                have hlr : (RL.take k ++ RL.drop (k + 1)).length = 0 + k + (RL.length - (k + 1)) := by simp; omega
                have hlc : thsC (thL (RL.take k ++ RL.drop (k + 1))) = [] ++ thsC (thL (RL.take k)) ++ thsC (thL (RL.drop (k + 1))) := by rw [thL_append, thsC_append]; rfl
                refine ⟨OL ++ [RL[k]], RL.take k ++ RL.drop (k + 1), HO5.out.trans ho9, ?_, ?_, ?_, HP2.out, ?_⟩
                · unfold NmRow
                  rw [hln]
                  exact owns_only HR65.out ho9 (fun _ _ => id)
                · unfold ThRow
                  rw [hlr, hlc]
                  exact ownsRow_base_a own9 HO5.out.size
                · intro j q1 q2
                  have g1 := (HR65.out.lt j q1).2
                  have g2 := (own9.lt j q2).1
                  omega
                · simp; omega)
end Go.Proofs.Ytjgcbcahikemdaa
