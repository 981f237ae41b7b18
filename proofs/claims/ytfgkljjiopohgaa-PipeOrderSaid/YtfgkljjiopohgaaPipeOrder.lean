/- The walk of bellhoplaw07.PipeOrder. -/
import Derived.Test.YtfgkljjiopohgaaPipeLaw1
import Derived.Test.YtfgkljjiopohgaaSlices
import Derived.OpenShut
namespace Go.Proofs.Ytfgkljjiopohgaa
open Go.Conc Go.RowKit

/-- Texts as items. -/
def texts (l : List ByteArray) : List Value := l.map fun s => .agg #[.bool false, .string s]
theorem infoStr : (Try.prog.info? 9).map (fun i => (i.zero, i.size, i.bytes)) = some (some (.string ⟨#[]⟩), 1, 16) := by kernel_rfl
theorem str_one (l : List ByteArray) : ∀ u ∈ l.map Value.string, u.oneCell' = true := by
  intro u hu
  obtain ⟨s, _, rfl⟩ := List.mem_map.1 hu
  rfl

theorem u8_wf {z : Int} (h : (Lit.int .u8 z).wf = true) : 0 ≤ z ∧ z < 256 := by
  simp [Lit.wf, IntKind.min, IntKind.max, IntKind.signed, IntKind.bits] at h
  omega
theorem and_small (z : Int) : wrap64 (bits BinOp.and IntKind.u8 z 3) < 256 := by
  have h1 := u8_wf (wf_bits .and .u8 z 3)
  generalize bits BinOp.and IntKind.u8 z 3 = q at *
  rw [IntWalk.wrap64_in _ (by omega)]
  exact h1.2
/-- What Send does to what lies in the pipe. -/
def push (R : List ByteArray) (s : ByteArray) : List ByteArray := if R.length < 64 then R ++ [s] else R
theorem send_any (w : World) (p c : Nat) (R : List ByteArray) (s : ByteArray) (h : PipeAt w p c (texts R)) :
    Calls Try.prog 12 #[.pointer (some ⟨p, 0, none⟩), .string s] w fun e w' => e = .returned (.bool (decide ((R.length : Int) < 64))) ∧ Only (· = c) w w' ∧ PipeAt w' p c (texts (push R s)) := by
  by_cases hr : R.length < 64
  · refine (send_room w p c _ s h (by simpa [texts] using hr)).mono ?_
    rintro e w' ⟨rfl, h1, h2⟩
    refine ⟨by simp; omega, h1, ?_⟩
    simpa [push, hr, texts] using h2
  · refine (send_full w p c _ s h (by simpa [texts] using hr)).mono ?_
    rintro e w' ⟨rfl, h1, h2⟩
    refine ⟨by simp; omega, h1, ?_⟩
    simpa [push, hr, texts] using h2
/-- What Take finds: a text, or nothing. -/
theorem take_texts (w : World) (p c : Nat) (R : List ByteArray) (h : PipeAt w p c (texts R)) :
    Calls Try.prog 8 #[.pointer (some ⟨p, 0, none⟩)] w fun e w' => ∃ b, e = .returned (.tuple #[.agg #[.bool false, .string b], .bool !R.isEmpty]) ∧ Only (· = c) w w' ∧ PipeAt w' p c (texts R.tail) ∧ (R ≠ [] → R = b :: R.tail) := by
  rcases R with _ | ⟨s, R⟩
  · refine (take_none w p c h).mono ?_
    rintro e w' ⟨rfl, h1⟩
    exact ⟨_, rfl, h1.weaken (fun _ _ x => x.elim), h.kept h1 id id, fun x => (x rfl).elim⟩
  · refine (take_some w p c false s (texts R) h).mono ?_
    rintro e w' ⟨rfl, h1, h2⟩
    exact ⟨s, rfl, h1, h2, fun _ => rfl⟩

set_option maxRecDepth 100000 in
set_option maxHeartbeats 2000000 in
theorem order_walk (w : World) (vt vl : Value) (ss : List ByteArray) (bs : List Int) (ht : Sl w 1 vt ss.length (ss.map .string)) (hl : Sl w 1 vl bs.length (bs.map (.int .u8))) (hbs : ∀ z ∈ bs, 0 ≤ z ∧ z < 256) :
    Calls Try.prog 4 #[vt, vl] w fun e w' => e = .returned (.bool true) ∧ Only (fun _ => False) w w' := by
  have HT := ht
  have HL := hl
  obtain ⟨i0, hi, hz0, hz1, hz2⟩ := info_parts infoStr
  obtain ⟨_, at', capt, rfl, t3, t4, t5⟩ := ht
  obtain ⟨_, al, capl, rfl, l3, l4, l5⟩ := hl
  unfold maxLen at l4 t4
  go_enter Try.func4, Try.ntmps4
  go_wp2_with fail
  refine (speaks_any _).mono ?_
  rintro e w1 ⟨rfl, h1⟩
  go_wp2_with fail
  refine (new_any _).mono ?_
  rintro e w2 ⟨rfl, h2, p2, s2⟩
  go_wp2_with fail
  have hW2 : Only (fun _ => False) w w2 := h1.trans h2
  have hcw : w.heap.size ≤ w1.heap.size := h1.size
  generalize hp : w1.heap.size + 1 = p at *
  have hcp : w1.heap.size < p := by omega
  clear hp
  generalize w1.heap.size = c at *
  have hcB : c < w2.heap.size := by omega
  go_loopg [6, 7, 8] 200 (fun g v6 v7 v8 wr => ∃ (k : Nat) (S G R : List ByteArray), v8 = .int .i64 k ∧ k ≤ ss.length ∧ k ≤ 200 ∧ wr.ownsRow w2.heap.size 9 1 v6 S.length (S.map .string) ∧ wr.ownsRow w2.heap.size 9 1 v7 G.length (G.map .string) ∧ Apart v6 v7 ∧ PipeAt wr p c (texts R) ∧ Only (fun _ => False) w wr ∧ w2.heap.size ≤ wr.heap.size ∧ S = G ++ R ∧ S.length ≤ k ∧ g = 200 - k)
  case atStart => exact ⟨0, [], [], [], rfl, Nat.zero_le _, by omega, World.ownsRow_nil _ _ _ _, World.ownsRow_nil _ _ _ _, Apart.nil _, p2, hW2, Nat.le_refl _, rfl, Nat.le_refl _, rfl⟩
  case round =>
    obtain ⟨k, S, G, R, rfl, hk, hk2, o6, o7, hap, hp, hw, hwr, hS, hSl, hg⟩ := hrel
    have Hg := Lib.hid hg
    have HS := Lib.hid hS
    clear hg hS p2
    by_cases hlt : k < ss.length ∧ k < 200
    · obtain ⟨hlt1, hlt2⟩ := hlt
      obtain ⟨b, off, hat, tc⟩ := t5.resolve_left (by omega)
      subst hat
      have hs := hw.cell (tc k (.string ss[k]) (by simp [hlt1])) id
      generalize ss[k] = s at *
      clear tc
      have hlt1' : (k : Int) < (ss.length : Int) := by omega
      have hlt2' : (k : Int) < 200 := by omega
      go_upto_region 8 with (fail)
      go_cut [9] (fun v9 wx => ∃ s' : ByteArray, v9 = .string s' ∧ Only (fun _ => False) wr wx)
      case first =>
        go_quiet (fail)
        go_wp2_with fail
        all_goals
          go_meet
          exact ⟨_, rfl, (Only.refl _ _).drewN _⟩
      case rest =>
      obtain ⟨s', rfl, hcx⟩ := hcut
      replace hp := PipeAt.kept hp hcx id id
      replace o6 := owns_only o6 hcx (fun _ _ => id)
      replace o7 := owns_only o7 hcx (fun _ _ => id)
      have hwx := hw.trans hcx
      have hwr := Nat.le_trans hwr hcx.size
      clear hs hcx hw
      go_wp2_with fail
      refine (len_n _ _ _ _ (R.length : Int) hp (by simp [texts])).mono ?_
      rintro e w3 ⟨rfl, rfl⟩
      go_wp2_with fail
      refine (send_any _ _ _ R s' hp).mono ?_
      rintro e w4 ⟨rfl, h4, p4⟩
      have hc6 : ∀ k, w2.heap.size ≤ k → ¬ k = c := fun k hk e => by omega
      replace o6 := owns_only o6 h4 hc6
      replace o7 := owns_only o7 h4 hc6
      have hw4 : Only (fun _ => False) w w4 := hwx.tr h4 (fun i hi e => absurd hi (by omega))
      have hwr4 := Nat.le_trans hwr h4.size
      clear h4 hwx hwr hp
      go_upto_if 49 with (fail)
      go_cut [6, 10] (fun v6 v10 wx => wx.ownsRow w2.heap.size 9 1 v6 (G ++ push R s').length ((G ++ push R s').map .string) ∧ wx.ownsRow w2.heap.size 9 1 u7 G.length (G.map .string) ∧ Apart v6 u7 ∧ PipeAt wx p c (texts (push R s')) ∧ Only (fun _ => False) w wx ∧ w2.heap.size ≤ wx.heap.size)
      case first =>
        have hSk : S.length ≤ k := hSl
        by_cases hroom : R.length < 64
        · have e1 : push R s' = R ++ [s'] := by simp [push, hroom]
          rw [e1] at p4
          have E1 := Lib.hid e1
          clear e1
          go_wp2_with (at_builtin; refine Wait.mk ?_)
          refine Wait.go (wpList_append_src _ rfl (.tmp 50) (.tmp 52) 23 23 rfl w2.heap.size 9 i0 _ 1 16 Try.underlying23 hi hz0 hz1 hz2 rfl u6 S.length (S.map .string) rfl (o6.alloc _) _ 1 [.string s'] rfl ?src ?m ?b ?base ?_)
          case src => exact Src.ofSlice _ Try.underlying23 _ _ _ _ rfl (news_new _ _ _) (str_one [s'])
          case m => unfold maxLen; omega
          case b => omega
          case base => simp; omega
          intro v1 w5 own1 gr1 hv1
          have hap' := hap.next (o7.alloc _) hv1
          have o7' := hap.kept (o7.alloc _) gr1
          have hap0 : ∀ k, some k = u6.ownBlock → w2.heap.size ≤ k := fun k e => (o6.lt k e.symm).1
          have hgr : Only (fun k => u6.ownBlock = some k) w4 w5 := (((Only.refl _ _).alloc _)).grown gr1 (fun k e => .inr e)
          have p5 := PipeAt.kept p4 hgr (fun e => by have := hap0 _ e.symm; omega) (fun e => by have := hap0 _ e.symm; omega)
          go_wp2_with fail
          go_meet
          rw [E1.out]
          refine ⟨?_, o7', hap', p5, hw4.tr hgr (fun i hi e => by have := hap0 _ e.symm; have := hW2.size; omega), Nat.le_trans hwr4 hgr.size⟩
          · have e2 : G ++ (R ++ [s']) = S ++ [s'] := by rw [HS.out]; simp
            rw [e2]
            simpa using own1
        · have e1 : push R s' = R := by simp [push, hroom]
          rw [e1] at p4
          have E1 := Lib.hid e1
          clear e1
          go_wp2_with fail
          go_meet
          rw [E1.out]
          refine ⟨?_, o7, hap, p4, hw4, hwr4⟩
          rw [← HS.out]
          exact o6
      case rest =>
      obtain ⟨o6', o7', hap', hp', hw', hwr'⟩ := hcut
      have hlen : (G ++ push R s').length ≤ k + 1 := by
        have : (push R s').length ≤ R.length + 1 := by unfold push; split <;> simp
        have hs2 := congrArg List.length HS.out
        simp only [List.length_append] at hs2 ⊢
        omega
      generalize push R s' = R' at *
      clear o6 o7 hap p4 hw4 hwr4
      go_wp2_with fail
      obtain ⟨S', hS'⟩ : ∃ S', S' = G ++ R' := ⟨_, rfl⟩
      rw [← hS'] at o6' hlen
      have HS2 := Lib.hid hS'
      clear hS' HS
      go_loopg [7, 11] 300 (fun g v7 v11 wx => ∃ (j : Nat) (G2 R2 : List ByteArray), v11 = .int .i64 j ∧ j < 300 ∧ wx.ownsRow w2.heap.size 9 1 u6 S'.length (S'.map .string) ∧ wx.ownsRow w2.heap.size 9 1 v7 G2.length (G2.map .string) ∧ Apart u6 v7 ∧ PipeAt wx p c (texts R2) ∧ Only (fun _ => False) w wx ∧ w2.heap.size ≤ wx.heap.size ∧ S' = G2 ++ R2 ∧ g = 300 - j)
      case atStart => exact ⟨0, G, R', rfl, by omega, o6', o7', hap', hp', hw', hwr', HS2.out, rfl⟩
      case round =>
        obtain ⟨j, G2, R2, rfl, hj, q6, q7, qap, qp, qw, qwr, qS, qg⟩ := hrel
        have Qg := Lib.hid qg
        have QS := Lib.hid qS
        clear qg qS o6' o7' hap' hp' hw' hwr' HS2
        by_cases hkb : k < bs.length
        · obtain ⟨bl, offl, hal, lc⟩ := l5.resolve_left (by omega)
          subst hal
          have hz := qw.cell (lc k (.int .u8 bs[k]) (by simp [hkb])) id
          obtain ⟨z0, z1⟩ := hbs bs[k] (List.getElem_mem hkb)
          generalize bs[k] = z at *
          clear lc l5
          have hq := and_small z
          go_wp2_with fail
          · have hj2 : (j : Int) < wrap64 (bits BinOp.and IntKind.u8 z 3) := by assumption
            have hj4 : (j : Int) < 256 := Int.lt_trans hj2 hq
            clear hj2 hq
            have hj3 : j < 256 := by omega
            clear hj4
            have hc6 : ∀ k, w2.heap.size ≤ k → ¬ k = c := fun k hk e => by omega
            have hGl : G2.length ≤ k + 1 := by
              have := congrArg List.length QS.out
              simp only [List.length_append] at this
              omega
            rcases R2 with _ | ⟨s2, R2⟩
            · refine (take_none _ _ _ qp).mono ?_
              rintro e w5 ⟨rfl, h5⟩
              have r6 := owns_only q6 (h5.alloc (.cells #[.bool false, .string ⟨#[]⟩] 29)) (fun _ _ => id)
              have r7 := owns_only q7 (h5.alloc (.cells #[.bool false, .string ⟨#[]⟩] 29)) (fun _ _ => id)
              have rp := PipeAt.kept qp (h5.alloc (.cells #[.bool false, .string ⟨#[]⟩] 29)) id id
              have rw5 := qw.trans (h5.alloc (.cells #[.bool false, .string ⟨#[]⟩] 29))
              have rwr := Nat.le_trans qwr (h5.alloc (.cells #[.bool false, .string ⟨#[]⟩] 29)).size
              go_wp2_with fail
              go_roundg (300 - (j + 1))
              case measure => rw [Qg.out]; omega
              case rel => exact ⟨j + 1, G2, [], by go_num, by omega, r6, r7, qap, rp, rw5, rwr, QS.out, rfl⟩
            · refine (take_some _ _ _ _ _ _ qp).mono ?_
              rintro e w5 ⟨rfl, h5, p5⟩
              have h5' : Only (· = c) wr (w5.alloc (.cells #[.bool false, .string s2] 29)) := h5.alloc _
              have r6 := owns_only q6 h5' hc6
              have r7 := owns_only q7 h5' hc6
              have rp := PipeAt.kept p5 ((Only.refl (fun _ => False) w5).alloc (.cells #[.bool false, .string s2] 29)) id id
              have rw5 := qw.tr h5' (fun i hi e => absurd hi (by omega))
              have rwr := Nat.le_trans qwr h5'.size
              go_wp2_with (at_builtin; refine Wait.mk ?_)
              refine Wait.go (wpList_append_src _ rfl (.tmp 76) (.tmp 79) 23 23 rfl w2.heap.size 9 i0 _ 1 16 Try.underlying23 hi hz0 hz1 hz2 rfl u7 G2.length (G2.map .string) rfl (r7.alloc _) _ 1 [.string s2] rfl ?src ?m ?b ?base ?_)
              case src => exact Src.ofSlice _ Try.underlying23 _ _ _ _ rfl (news_new' _ _ (by simp) _ _) (str_one [s2])
              case m => unfold maxLen; omega
              case b => omega
              case base => simp at rwr ⊢; omega
              intro v1 w6 own1 gr1 hv1
              have hap' := (qap.symm.next (r6.alloc _) hv1).symm
              have r6' := qap.symm.kept (r6.alloc _) gr1
              have hap0 : ∀ k, some k = u7.ownBlock → w2.heap.size ≤ k := fun k e => (r7.lt k e.symm).1
              have hgr : Only (fun k => u7.ownBlock = some k) (w5.alloc (.cells #[.bool false, .string s2] 29)) w6 := (((Only.refl _ _).alloc _)).grown gr1 (fun k e => .inr e)
              have p6 := PipeAt.kept rp hgr (fun e => by have := hap0 _ e.symm; omega) (fun e => by have := hap0 _ e.symm; omega)
              have rw6 := rw5.tr hgr (fun i hi e => by have := hap0 _ e.symm; have := hW2.size; omega)
              have rwr6 := Nat.le_trans rwr hgr.size
              clear r7 rp rwr r6
              go_wp2_with fail
              go_roundg (300 - (j + 1))
              case measure => rw [Qg.out]; omega
              case rel => exact ⟨j + 1, G2 ++ [s2], R2, by go_num, by omega, r6', by simpa using own1, hap', p6, rw6, rwr6, by rw [QS.out]; simp, rfl⟩
          · clear hq
            go_roundg (200 - (k + 1))
            case measure => rw [Hg.out]; omega
            case rel => exact ⟨k + 1, S', G2, R2, by go_num, by omega, by omega, q6, q7, qap, qp, qw, qwr, QS.out, hlen, rfl⟩
        · clear l5
          go_wp2_with fail
          go_roundg (200 - (k + 1))
          case measure => rw [Hg.out]; omega
          case rel => exact ⟨k + 1, S', G2, R2, by go_num, by omega, by omega, q6, q7, qap, qp, qw, qwr, QS.out, hlen, rfl⟩
    · have key : (¬ k < ss.length) ∨ (k < ss.length ∧ ¬ k < 200) := by
        by_cases h : k < ss.length
        · exact .inr ⟨h, fun x => hlt ⟨h, x⟩⟩
        · exact .inl h
      clear hlt l5 t5
      rcases key with h | ⟨ha, hb⟩
      all_goals
        go_wp2_with fail
        go_loopg [7] R.length (fun g v7 wx => ∃ (G2 R2 : List ByteArray), wx.ownsRow w2.heap.size 9 1 u6 S.length (S.map .string) ∧ wx.ownsRow w2.heap.size 9 1 v7 G2.length (G2.map .string) ∧ Apart u6 v7 ∧ PipeAt wx p c (texts R2) ∧ Only (fun _ => False) w wx ∧ w2.heap.size ≤ wx.heap.size ∧ S = G2 ++ R2 ∧ g = R2.length)
        case atStart => exact ⟨G, R, o6, o7, hap, hp, hw, hwr, HS.out, rfl⟩
        case round =>
          obtain ⟨G2, R2, q6, q7, qap, qp, qw, qwr, qS, qg⟩ := hrel
          have Qg := Lib.hid qg
          have hGl : G2.length ≤ k := by
            have := congrArg List.length qS
            simp only [List.length_append] at this
            omega
          have QS := Lib.hid qS
          clear qg qS o6 o7 hap hp hw hwr HS
          rcases R2 with _ | ⟨s2, R2⟩
          · have hSG : S = G2 := by rw [QS.out]; simp
            clear QS
            subst hSG
            have M6 := Sl.of_owns q6
            have M7 := Sl.of_owns q7
            obtain ⟨_, a6, cap6, rfl, m63, m64, m65⟩ := id M6
            obtain ⟨_, a7, cap7, rfl, m73, m74, m75⟩ := id M7
            unfold maxLen at m64 m74
            go_wp2_with fail
            refine (len_n _ _ _ _ 0 qp (by simp [texts])).mono ?_
            rintro e w5 ⟨rfl, rfl⟩
            go_wp2_with fail
            go_loopg [16] S.length (fun g v16 wx => ∃ i : Nat, v16 = .int .i64 i ∧ i ≤ S.length ∧ Only (fun _ => False) wr wx ∧ g = S.length - i)
            case atStart => exact ⟨0, rfl, Nat.zero_le _, Only.refl _ _, rfl⟩
            case round =>
              obtain ⟨i, rfl, hi5, ho, fg⟩ := hrel
              have Fg := Lib.hid fg
              clear fg
              by_cases hi6 : i < S.length
              · obtain ⟨b6, f6, ha6, c6⟩ := m65.resolve_left (by omega)
                obtain ⟨b7, f7, ha7, c7⟩ := m75.resolve_left (by omega)
                subst ha6 ha7
                have x6 := ho.cell (c6 i (.string S[i]) (by simp [hi6])) id
                have x7 := ho.cell (c7 i (.string S[i]) (by simp [hi6])) id
                clear c6 c7 m65 m75
                generalize S[i] = s at *
                go_wp2_with fail
                go_quiet (fail)
                go_wp2_with fail
                go_roundg (S.length - (i + 1))
                case measure => rw [Fg.out]; omega
                case rel => exact ⟨i + 1, by go_num, by omega, ho.drewN _, rfl⟩
              · go_wp2_with fail
                go_ret
                exact ⟨rfl, qw.trans ho⟩
          · have hc6 : ∀ k, w2.heap.size ≤ k → ¬ k = c := fun k hk e => by omega
            go_wp2_with fail
            refine (len_n _ _ _ _ ((R2.length : Int) + 1) qp (by simp [texts])).mono ?_
            rintro e w5 ⟨rfl, rfl⟩
            go_wp2_with fail
            refine (take_some _ _ _ _ _ _ qp).mono ?_
            rintro e w5 ⟨rfl, h5, p5⟩
            have h5' : Only (· = c) wr (w5.alloc (.cells #[.bool false, .string s2] 29)) := h5.alloc _
            have r6 := owns_only q6 h5' hc6
            have r7 := owns_only q7 h5' hc6
            have rp := PipeAt.kept p5 ((Only.refl (fun _ => False) w5).alloc (.cells #[.bool false, .string s2] 29)) id id
            have rw5 := qw.tr h5' (fun i hi e => absurd hi (by omega))
            have rwr := Nat.le_trans qwr h5'.size
            go_wp2_with (at_builtin; refine Wait.mk ?_)
            refine Wait.go (wpList_append_src _ rfl (.tmp 95) (.tmp 98) 23 23 rfl w2.heap.size 9 i0 _ 1 16 Try.underlying23 hi hz0 hz1 hz2 rfl u7 G2.length (G2.map .string) rfl (r7.alloc _) _ 1 [.string s2] rfl ?src ?m ?b ?base ?_)
            case src => exact Src.ofSlice _ Try.underlying23 _ _ _ _ rfl (news_new' _ _ (by simp) _ _) (str_one [s2])
            case m => unfold maxLen; omega
            case b => omega
            case base => simp at rwr ⊢; omega
            intro v1 w6 own1 gr1 hv1
            have hap' := (qap.symm.next (r6.alloc _) hv1).symm
            have r6' := qap.symm.kept (r6.alloc _) gr1
            have hap0 : ∀ k, some k = u7.ownBlock → w2.heap.size ≤ k := fun k e => (r7.lt k e.symm).1
            have hgr : Only (fun k => u7.ownBlock = some k) (w5.alloc (.cells #[.bool false, .string s2] 29)) w6 := (((Only.refl _ _).alloc _)).grown gr1 (fun k e => .inr e)
            have p6 := PipeAt.kept rp hgr (fun e => by have := hap0 _ e.symm; omega) (fun e => by have := hap0 _ e.symm; omega)
            have rw6 := rw5.tr hgr (fun i hi e => by have := hap0 _ e.symm; have := hW2.size; omega)
            have rwr6 := Nat.le_trans rwr hgr.size
            clear r7 rp rwr r6
            go_wp2_with fail
            go_roundg R2.length
            case measure => rw [Qg.out]; simp
            case rel => exact ⟨G2 ++ [s2], R2, r6', by simpa using own1, hap', p6, rw6, rwr6, by rw [QS.out]; simp, rfl⟩

theorem order_all (w : World) (vt : Value) (ss : List ByteArray) (vl : Value) (bs : List Int) (ht : Sl w 1 vt ss.length (ss.map .string)) (_ : ∀ s ∈ ss, s.size ≤ maxLen) (hl : Sl w 1 vl bs.length (bs.map (.int .u8))) (hb : ∀ z ∈ bs, (Lit.int .u8 z).wf = true) :
    Calls Try.prog 4 #[vt, vl] w fun e w' => e = .returned (.bool true) ∧ Only (fun _ => False) w w' :=
  order_walk w vt vl ss bs ht hl (fun z hz => u8_wf (hb z hz))
end Go.Proofs.Ytfgkljjiopohgaa
