/- The walk of bellhoplaw15.StoreMerges . -/
import Derived.Test.YtianboachknfmaaDoorStoRow
import Derived.Test.YtianboachknfmaaDoorSto10
import Derived.Test.YtianboachknfmaaDoorSto12
import Derived.Test.YtianboachknfmaaDoorHeld
import Derived.Deep.CutBlock
namespace Go.Proofs.YtianboachknfmaaDoor
open Go.Conc Go.RowKit Go.Maps

theorem mfacts {R : List RecT} (h : ∀ x ∈ R, ∃ a : ActT, x = mRec a ∧ a.cnt < 256) : ∀ x ∈ R, goodR x = true ∧ x.age = 0 ∧ x.ver < 2 ^ 64 ∧ x.key.size ≤ 64 ∧ x.key ∈ keys16 := by
  intro x hx
  obtain ⟨a, rfl, ha⟩ := h x hx
  have hg := mRec_good a ha
  have h4 : (1 + a.life % 2) % 4 < 4 := Nat.mod_lt _ (by omega)
  refine ⟨hg, rfl, ?_, good_keys hg, mRec_key16 a⟩
  show (1 + a.life % 2) % 4 * 2 ^ 32 + a.cnt < 2 ^ 64
  omega
/-- What was put in so many turns. -/
def Done (R : List RecT) (f : Nat → Nat) (i : Nat) (x : RecT) : Prop := ∃ j, j < i ∧ R[f j]? = some x
theorem done_put {R : List RecT} {f : Nat → Nat} {i : Nat} {L : List RecT} {x : RecT} (h : Mrg (Done R f i) L) (hx : R[f i]? = some x)
    (hf : ∀ x ∈ R, goodR x = true ∧ x.age = 0 ∧ x.ver < 2 ^ 64 ∧ x.key.size ≤ 64 ∧ x.key ∈ keys16) : Mrg (Done R f (i + 1)) (putS 48 9 L x) := by
  have hm := List.mem_of_getElem? hx
  have hroom : L.length < 48 := by
    have := keys_room h.ok.rises (K := keys16) (fun y hy => by
      obtain ⟨j, _, e⟩ := h.sub y hy
      exact (hf y (List.mem_of_getElem? e)).2.2.2.2)
    have e : keys16.length = 16 := by decide +kernel
    omega
  refine (h.put (hf x hm).1 (by rw [(hf x hm).2.1]; decide) hroom).congr fun y => ⟨?_, ?_⟩
  · rintro (⟨j, hj, e⟩ | rfl)
    · exact ⟨j, by omega, e⟩
    · exact ⟨i, by omega, hx⟩
  · rintro ⟨j, hj, e⟩
    rcases (by omega : j < i ∨ j = i) with hj | rfl
    · exact .inl ⟨j, hj, e⟩
    · rw [hx] at e
      exact .inr (Option.some.inj e).symm
theorem done_zero {R : List RecT} {f : Nat → Nat} : Mrg (Done R f 0) [] := Mrg.empty.congr fun _ => ⟨False.elim, fun ⟨_, h, _⟩ => absurd h (Nat.not_lt_zero _)⟩
theorem done_all {R : List RecT} {f : Nat → Nat} (hf : ∀ j, j < R.length → ∃ i, i < R.length ∧ f i = j) (x : RecT) : (∃ j, j < R.length ∧ R[f j]? = some x) ↔ x ∈ R := by
  constructor
  · rintro ⟨j, _, e⟩
    exact List.mem_of_getElem? e
  · intro h
    obtain ⟨j, hj, rfl⟩ := List.getElem_of_mem h
    obtain ⟨i, hi, e⟩ := hf j hj
    exact ⟨i, hi, by rw [e]; exact List.getElem?_eq_getElem hj⟩
/-- By how many they are turned. -/
def turnT (turn : Int) (n : Nat) : Nat := ((turn.tmod n + n) % n).toNat
theorem turnT_lt (turn : Int) {n : Nat} (h : 0 < n) : turnT turn n < n := by
  have h1 := Int.emod_nonneg (turn.tmod n + n) (show (n : Int) ≠ 0 by omega)
  have h2 := Int.emod_lt_of_pos (turn.tmod n + n) (show (0 : Int) < n by omega)
  unfold turnT
  omega
theorem turn_val (turn : Int) {i n : Nat} (h : 0 < n) (hn : n ≤ 40) (hi : i < n) : (wrap64 ((i : Int) + (wrap64 (turn.tmod n + n)).tmod n)).tmod n = (((i + turnT turn n) % n : Nat) : Int) := by
  have h1 := Int.tmod_lt_of_pos turn (show (0 : Int) < n by omega)
  have h2 := Int.lt_tmod_of_pos turn (show (0 : Int) < n by omega)
  have e : turnT turn n = ((turn.tmod n + n) % n).toNat := rfl
  generalize turn.tmod n = q at *
  have e1 : wrap64 (q + n) = q + n := IntWalk.wrap64_in _ (by omega)
  have h3 := Int.emod_nonneg (q + n) (show (n : Int) ≠ 0 by omega)
  have h4 := Int.emod_lt_of_pos (q + n) (show (0 : Int) < n by omega)
  rw [e1, Int.tmod_eq_emod_of_nonneg (show 0 ≤ q + (n : Int) by omega)]
  have e2 : wrap64 ((i : Int) + (q + n) % n) = (i : Int) + (q + n) % n := IntWalk.wrap64_in _ (by omega)
  rw [e2, Int.tmod_eq_emod_of_nonneg (show 0 ≤ (i : Int) + (q + n) % n by omega), e]
  rw [Int.natCast_emod, Int.natCast_add, Int.toNat_of_nonneg h3]
theorem mrec_any (w : World) (a : ActT) (h : rowP_sl_acts15 a) : Calls Tryd.prog 14 #[.agg #[.int .i64 0, .int .i64 a.org, .int .u8 a.nm, .int .u8 (1 + (a.life : Int) % 2), .int .u8 a.cnt, .int .i64 0, .bool ((a.cnt : Int) % 2 == 1), .bool false]] w fun e w' => e = .returned (.tuple #[recT (mRec a), recT (mRec a)]) ∧ Only (fun _ => False) w w' := by
  have h1 := rec_any w (mAct a) h.2.2.1 (show 1 + a.life % 2 < 256 by omega) h.2.2.2.2.1
  have e1 : ((mAct a).life : Int) = 1 + (a.life : Int) % 2 := by show ((1 + a.life % 2 : Nat) : Int) = _; omega
  have e2 : (mAct a).gone = ((a.cnt : Int) % 2 == 1) := by show decide (a.cnt % 2 = 1) = _; rw [Bool.eq_iff_iff]; simp; omega
  unfold actV at h1
  rw [e1, e2] at h1
  exact h1
set_option maxRecDepth 100000 in
set_option maxHeartbeats 8000000 in
theorem merges15_any (w : World) (m : Int) (hm : w.cell? ⟨0, 0, none⟩ = some (.int .i64 m)) (v : Value) (l : List ActT) (turn : Int) (back : Bool) (h : Sl w 8 v l.length (l.flatMap actC)) (hl : ∀ a ∈ l, rowP_sl_acts15 a) (ht : (Lit.int .i64 turn).wf = true) :
    Calls Tryd.prog 3 #[v, .int .i64 turn, .bool back] w fun e w' => e = .returned (.bool true) ∧ Only (fun _ => False) w w' := by
  obtain ⟨a, cap, rfl, c1, c2, c3⟩ := Sl.cells actC_length h
  unfold maxLen at c2
  have HC := Lib.hid c3
  have HL := Lib.hid hl
  have HT := Lib.hid ht
  clear c3 hl ht
  clear h
  go_enter Tryd.func3, Tryd.ntmps3
  go_wp2_with fail
  refine (speaks15_any w m hm).mono ?_
  rintro e w1 ⟨rfl, ho1⟩
  have hm1 := ho1.cell hm id
  have HM1 := Lib.hid hm1
  have HO1 := Lib.hid ho1
  clear hm1 ho1
  clear hm
  go_wp2_with fail
  refine (snew_ok w1 48 9 (by omega) (by omega) (by omega) (by omega)).mono ?_
  rintro e w2 ⟨rfl, ho2, hs2⟩
  have HO2 := Lib.hid ho2
  have HS2 := Lib.hid hs2
  clear ho2 hs2
  go_wp2_with fail
  refine (snew_ok w2 48 9 (by omega) (by omega) (by omega) (by omega)).mono ?_
  rintro e w3 ⟨rfl, ho3, hs3⟩
  have h0b : 0 < w1.heap.size := World.block_lt_of_cell? _ _ HM1.out
  have hA : w1.heap.size + 1 < w2.heap.size := HS2.out.lt.1
  have hB : w2.heap.size + 1 < w3.heap.size := hs3.lt.1
  have hsa3 := HS2.out.new ho3
  have hoA := HO1.out.trans (HO2.out.trans ho3)
  have hm3 := ho3.cell (HO2.out.cell HM1.out id) id
  have hC3 := HC.out.new hoA (fun _ _ _ => id)
  have HSW := Lib.hid (show w.heap.size ≤ w1.heap.size ∧ w.heap.size ≤ w2.heap.size from ⟨HO1.out.size, Nat.le_trans HO1.out.size HO2.out.size⟩)
  generalize w1.heap.size = ab at *
  generalize w2.heap.size = bb at *
  have HSA := Lib.hid hsa3
  have HSB := Lib.hid hs3
  have HOA := Lib.hid hoA
  have HM3 := Lib.hid hm3
  have HC3 := Lib.hid hC3
  clear hsa3 hs3 hoA hm3 hC3
  clear ho3 HO2 HO1 HM1 HS2
  obtain ⟨i0, hi0, iz0, iz1, iz2⟩ := info_parts infoRec
  go_upto_block 0 with fail
  go_cut [11] (fun v11 wx => ∃ R : List RecT, R.length ≤ 40 ∧ (∀ x ∈ R, ∃ a : ActT, x = mRec a ∧ a.cnt < 256) ∧ Only (fun _ => False) w3 wx ∧ RecRow wx w3.heap.size v11 R)
  case first =>
    go_wp2_with fail
    go_loopg [11, 12] 40 (fun g v11 v12 wr => ∃ k : Nat, v12 = .int .i64 k ∧ k ≤ l.length ∧ k ≤ 40 ∧ Only (fun _ => False) w3 wr ∧ RecRow wr w3.heap.size v11 ((l.take k).map mRec) ∧ g = 40 - k)
    case atStart => exact ⟨0, rfl, Nat.zero_le _, Nat.zero_le _, Only.refl _ _, World.ownsRow_nil w3 _ _ _, rfl⟩
    case round =>
      obtain ⟨k, rfl, hk, hk40, ho, hrow, hg⟩ := hrel
      have Hg := Lib.hid hg
      have HO := Lib.hid ho
      have HROW := Lib.hid hrow
      clear hg ho hrow
      by_cases hlt : k < l.length ∧ k < 40
      · obtain ⟨hlt, hlt40⟩ := hlt
        obtain ⟨lb, off, ha, hcc⟩ := HC3.out.at k hlt
        subst ha
        have hcr : ∀ i u, (actC l[k])[i]? = some u → _ := fun i u hu => HO.out.cell (hcc i u hu) id
        have HREC := Lib.hid (fun w => mrec_any w l[k] (HL.out _ (List.getElem_mem hlt)))
        have hP := HL.out l[k] (List.getElem_mem hlt)
        have htk : (l.take (k + 1)).map mRec = (l.take k).map mRec ++ [mRec l[k]] := by rw [List.take_add_one, List.getElem?_eq_getElem hlt, List.map_append]; rfl
        generalize l[k] = x at *
        obtain ⟨what, org, nm, life, cnt, age, gone, bad⟩ := x
        have y1 := hcr 1 _ rfl
        have y2 := hcr 2 _ rfl
        have y3 := hcr 3 _ rfl
        have y4 := hcr 4 _ rfl
        simp only at y1 y2 y3 y4
        have hlt' : (k : Int) < (l.length : Int) := by omega
        have hlt40' : (k : Int) < 40 := by omega
        have HTK := Lib.hid htk
        have HP := Lib.hid hP
        clear htk hP
        clear hcc hcr
        have HCC : ∀ w', Only (fun _ => False) wr w' → w'.cell? ⟨lb, off + k * 8 + 1, none⟩ = some (.int .i64 org) ∧ w'.cell? ⟨lb, off + k * 8 + 2, none⟩ = some (.int .u8 nm) ∧ w'.cell? ⟨lb, off + k * 8 + 3, none⟩ = some (.int .u8 life) ∧ w'.cell? ⟨lb, off + k * 8 + 4, none⟩ = some (.int .u8 cnt) := fun w' h => ⟨h.cell y1 id, h.cell y2 id, h.cell y3 id, h.cell y4 id⟩
        have HC0 := Lib.hid HCC
        clear HCC
        generalize hR : mRec ⟨what, org, nm, life, cnt, age, gone, bad⟩ = R at *
        obtain ⟨k1, v1, o1, a1, g1, d1⟩ := R
        unfold recT at HREC
        simp only at HREC
        have HRR := Lib.hid hR
        clear hR
        have hb1 : bits BinOp.and IntKind.u8 (life : Int) 1 = (life : Int) % 2 := by rw [and1_u8 life HP.out.2.2.2.1]; omega
        have hb2 : bits BinOp.and IntKind.u8 (cnt : Int) 1 = (cnt : Int) % 2 := by rw [and1_u8 cnt HP.out.2.2.2.2.1]; omega
        have hb3 : IntKind.u8.wrap (1 + (life : Int) % 2) = 1 + (life : Int) % 2 := by
          rcases (by omega : (life : Int) % 2 = 0 ∨ (life : Int) % 2 = 1) with e | e <;> rw [e] <;> rfl
        go_upto_region 11 with (fail)
        go_cut [13] (fun v13 wx => ∃ A, v13 = .pointer (some ⟨A, 0, none⟩) ∧ wx.heap[A]? = some (.cells #[.string k1, .int .u64 v1, .int .i64 o1, .int .i64 a1, .bool g1, .string d1] 33 (0, 0)) ∧ Only (fun _ => False) wr wx)
        case first =>
          go_region_held3 (fun w' => Only (fun _ => False) wr w' ∧ w'.cell? ⟨lb, off + k * 8 + 1, none⟩ = some (.int .i64 org) ∧ w'.cell? ⟨lb, off + k * 8 + 2, none⟩ = some (.int .u8 nm) ∧ w'.cell? ⟨lb, off + k * 8 + 3, none⟩ = some (.int .u8 life) ∧ w'.cell? ⟨lb, off + k * 8 + 4, none⟩ = some (.int .u8 cnt))
            ((go_split_ands; (refine heldO HC0.out ?_); (repeat (first | (with_reducible assumption) | (with_reducible exact Only.refl _ _) | (with_reducible refine Only.drew ?_) | (with_reducible refine Only.alloc ?_ _) | (with_reducible refine onlySet ?_ (by first | (with_reducible assumption) | omega) _) | (with_reducible refine Only.trans ?_ (by with_reducible assumption))))))
            (first
              | (go_at_call 14; (with_reducible refine (HREC.out _).mono ?_); rintro e w6 ⟨rfl, ho6⟩; have hz6 : wr.heap.size ≤ w6.heap.size := (by have h7 := Only.size ho6; simp at h7; omega); (try (have ha1 : w6.heap[wr.heap.size]? = some (.cells #[.string ⟨#[]⟩, .int .u64 0, .int .i64 0, .int .i64 0, .bool false, .string ⟨#[]⟩] 33 (0, 0)) := Only.old ho6 (by first | exact heap_alloc_new wr _ | exact (two_new wr _ _).1 | exact (two_new wr _ _).2) id; have q10 := cell_at ha1 0; have q11 := cell_at ha1 1; have q12 := cell_at ha1 2; have q13 := cell_at ha1 3; have q14 := cell_at ha1 4; have q15 := cell_at ha1 5; have qf1 := free_at ha1; have hl1 := lt_of_block ha1)); (try (have ha2 : w6.heap[wr.heap.size]? = some (.cells #[.string ⟨#[]⟩, .int .u64 0, .int .i64 0, .int .i64 0, .bool false, .string ⟨#[]⟩] 35 (0, 0)) := Only.old ho6 (by first | exact heap_alloc_new wr _ | exact (two_new wr _ _).1 | exact (two_new wr _ _).2) id; have q20 := cell_at ha2 0; have q21 := cell_at ha2 1; have q22 := cell_at ha2 2; have q23 := cell_at ha2 3; have q24 := cell_at ha2 4; have q25 := cell_at ha2 5; have qf2 := free_at ha2; have hl2 := lt_of_block ha2)); (try (have ha3 : w6.heap[wr.heap.size + 1]? = some (.cells #[.string ⟨#[]⟩, .int .u64 0, .int .i64 0, .int .i64 0, .bool false, .string ⟨#[]⟩] 33 (0, 0)) := Only.old ho6 (by first | exact heap_alloc_new wr _ | exact (two_new wr _ _).1 | exact (two_new wr _ _).2) id; have q30 := cell_at ha3 0; have q31 := cell_at ha3 1; have q32 := cell_at ha3 2; have q33 := cell_at ha3 3; have q34 := cell_at ha3 4; have q35 := cell_at ha3 5; have qf3 := free_at ha3; have hl3 := lt_of_block ha3)); (try (have ha4 : w6.heap[wr.heap.size + 1]? = some (.cells #[.string ⟨#[]⟩, .int .u64 0, .int .i64 0, .int .i64 0, .bool false, .string ⟨#[]⟩] 35 (0, 0)) := Only.old ho6 (by first | exact heap_alloc_new wr _ | exact (two_new wr _ _).1 | exact (two_new wr _ _).2) id; have q40 := cell_at ha4 0; have q41 := cell_at ha4 1; have q42 := cell_at ha4 2; have q43 := cell_at ha4 3; have q44 := cell_at ha4 4; have q45 := cell_at ha4 5; have qf4 := free_at ha4; have hl4 := lt_of_block ha4))))
          all_goals
            go_split_ands
            go_wp2_with fail
            go_meet
            refine ⟨_, rfl, ?_, ?_⟩
            · (apply Eq.trans; (case h₁ => repeat (first | (with_reducible assumption) | (with_reducible exact heap_alloc_new _ _) | (with_reducible apply blk_new; (repeat (first | (with_reducible rfl) | (with_reducible apply sz_set) | (with_reducible apply sz_alloc) | (with_reducible apply sz_drew))); done) | (with_reducible apply blk_same) | (with_reducible apply blk_ne; case hn => (first | assumption | omega)) | (with_reducible apply blk_old) | (with_reducible apply blk_drew))); (case h₂ => rfl))
            · (repeat (first | (with_reducible assumption) | (with_reducible exact Only.refl _ _) | (with_reducible refine Only.drew ?_) | (with_reducible refine Only.alloc ?_ _) | (with_reducible refine onlySet ?_ (by first | (with_reducible assumption) | omega) _) | (with_reducible refine Only.trans ?_ (by with_reducible assumption))))
        case rest =>
        obtain ⟨A, rfl, hA, ho6⟩ := hcut
        have x0 : wc.cell? ⟨A, 0, none⟩ = some (.string k1) := cell_at hA 0
        have x1 : wc.cell? ⟨A, 1, none⟩ = some (.int .u64 v1) := cell_at hA 1
        have x2 : wc.cell? ⟨A, 2, none⟩ = some (.int .i64 o1) := cell_at hA 2
        have x3 : wc.cell? ⟨A, 3, none⟩ = some (.int .i64 a1) := cell_at hA 3
        have x4 : wc.cell? ⟨A, 4, none⟩ = some (.bool g1) := cell_at hA 4
        have x5 : wc.cell? ⟨A, 5, none⟩ = some (.string d1) := cell_at hA 5
        have hoc := HO.out.trans ho6
        have hrow6 := owns_only HROW.out ho6 (fun _ _ => id)
        have hln : ((l.take k).map mRec).length = k := by simp; omega
        have HO6 := Lib.hid hoc
        have HROW6 := Lib.hid hrow6
        have HLN := Lib.hid hln
        clear hoc hrow6 hln
        clear ho6 hA y1 y2 y3 y4 hb1 hb2 hb3
        go_wp2_with (at_builtin; refine Wait.mk ?_)
        refine Wait.go (wpList_append_src _ rfl (.tmp 84) (.tmp 86) 28 28 rfl w3.heap.size 33 i0 _ 6 64 Tryd.underlying28 hi0 iz0 iz1 iz2 rfl _ ((l.take k).map mRec).length (((l.take k).map mRec).flatMap recC) rfl (HROW6.out.alloc _) _ 1 (recC ⟨k1, v1, o1, a1, g1, d1⟩) rfl ?src4 ?m4 ?b4 ?base4 ?_)
        case src4 => exact Src.ofSlice _ Tryd.underlying28 _ _ _ _ rfl (news_new _ _ _) (recC_one _)
        case m4 => have := HLN.out; unfold maxLen; omega
        case b4 => have := HLN.out; omega
        case base4 => have := HO6.out.size; simp; omega
        intro v4 w5 own4 gr4 hv4
        have ho5 : Only (fun _ => False) w3 w5 := (HO6.out.alloc _).own (HROW6.out.alloc _) (Nat.le_refl _) gr4
        have HO5 := Lib.hid ho5
        have HW5 := Lib.hid own4
        clear ho5 own4
        clear x0 x1 x2 x3 x4 x5 gr4 hv4
        go_wp2_with fail
        go_roundg (40 - (k + 1))
        case measure => rw [Hg.out]; omega
        case rel =>
          refine ⟨k + 1, by go_num, by omega, by omega, HO5.out, ?_, rfl⟩
          unfold RecRow
          rw [HTK.out, List.length_append, List.flatMap_append]
          have h7 := HW5.out
          simpa using h7
      · have HE : ∃ R : List RecT, R.length ≤ 40 ∧ (∀ x ∈ R, ∃ a : ActT, x = mRec a ∧ a.cnt < 256) ∧ Only (fun _ => False) w3 wr ∧ RecRow wr w3.heap.size u11 R := by
          refine ⟨(l.take k).map mRec, by simp; omega, fun x hx => ?_, HO.out, HROW.out⟩
          obtain ⟨a, ha, rfl⟩ := List.mem_map.1 hx
          exact ⟨a, rfl, (HL.out a (List.mem_of_mem_take ha)).2.2.2.2.1⟩
        have HEE := Lib.hid HE
        clear HE
        rcases (by omega : (¬ (k : Int) < (l.length : Int)) ∨ ((k : Int) < (l.length : Int) ∧ ¬ (k : Int) < 40)) with e1 | ⟨e1, e2⟩
        all_goals
          clear hlt
          go_wp2_with fail
          go_meet
          exact HEE.out
  case rest =>
  obtain ⟨R, hR40, hRa, ho4, hrow4⟩ := hcut
  obtain ⟨ra, rcap, rfl, f1, f2, f3⟩ := Sl.cells recC_length (Sl.of_owns hrow4)
  unfold maxLen at f2
  have hf := mfacts hRa
  have hsa := HSA.out.new ho4
  have hsb := HSB.out.new ho4
  have hm4 := ho4.cell HM3.out id
  have h32 := Nat.lt_of_lt_of_le hB ho4.size
  have HRA := Lib.hid hRa
  have HF := Lib.hid hf
  have HO4 := Lib.hid ho4
  have HROW := Lib.hid hrow4
  have HSA4 := Lib.hid hsa
  have HSB4 := Lib.hid hsb
  have HM4 := Lib.hid hm4
  have HF3 := Lib.hid f3
  clear hRa hf ho4 hrow4 hsa hsb hm4 f3
  clear HSA HSB HM3 HL HC3
  go_wp2_with fail
  go_loopg [16] R.length (fun g v16 wr => ∃ (i : Nat) (La Lb : List RecT) (pa pb : Int), v16 = .int .i64 i ∧ i ≤ R.length ∧ Only (fun z => z = ab + 1 ∨ z = ab ∨ z = bb + 1 ∨ z = bb) wc wr ∧ StoreAt wr (ab + 1) ab 48 9 pa La ∧ 0 ≤ pa ∧ pa ≤ i ∧ StoreAt wr (bb + 1) bb 48 9 pb Lb ∧ 0 ≤ pb ∧ pb ≤ i ∧ Mrg (Done R (fun j => j) i) La ∧ Mrg (Done R (fun j => turnK (turnT turn R.length) R.length j back) i) Lb ∧ g = R.length - i)
  case atStart => exact ⟨0, [], [], 0, 0, rfl, Nat.zero_le _, Only.refl _ _, HSA4.out, Int.le_refl _, Int.le_refl _, HSB4.out, Int.le_refl _, Int.le_refl _, done_zero, done_zero, rfl⟩
  case round =>
    obtain ⟨i, La, Lb, pa, pb, rfl, hi, hor, hra, hpa0, hpa, hrb, hpb0, hpb, hma, hmb, hg⟩ := hrel
    have hrow5 := owns_only HROW.out hor (fun k hk e => by omega)
    have hm5 := hor.cell HM4.out (fun e => by have h0 : (0 : Nat) = ab + 1 ∨ 0 = ab ∨ 0 = bb + 1 ∨ 0 = bb := e; omega)
    obtain ⟨_, _, hv, _, _, f4⟩ := Sl.cells recC_length (Sl.of_owns hrow5)
    cases hv
    have Hg := Lib.hid hg
    have HOR := Lib.hid hor
    have HRA5 := Lib.hid hra
    have HRB5 := Lib.hid hrb
    have HMA := Lib.hid hma
    have HMB := Lib.hid hmb
    have HROW5 := Lib.hid hrow5
    have HM5 := Lib.hid hm5
    have HF4 := Lib.hid f4
    clear hg hor hra hrb hma hmb hrow5 hm5 f4
    by_cases hlt : i < R.length
    · --< put
      have htl := turnT_lt turn (show 0 < R.length by omega)
      have hkl := turnK_lt (t := turnT turn R.length) (n := R.length) (i := i) (by omega) back
      obtain ⟨rb, roff, he, hc⟩ := HF4.out.at i hlt
      subst he
      have hxe : R[i]? = some R[i] := List.getElem?_eq_getElem hlt
      have hxf := HF.out _ (List.getElem_mem hlt)
      generalize R[i] = x at *
      have HPT := Lib.hid (sput_any wr (ab + 1) ab 48 9 pa La HRA5.out x m HM5.out hxf.2.2.1 (by omega) hpa0 (by omega))
      have HDA := Lib.hid (done_put HMA.out hxe HF.out)
      clear hxe hxf
      unfold recT at HPT
      have hlt' : (i : Int) < (R.length : Int) := by omega
      have y0 : wr.cell? ⟨rb, roff + i * 6, none⟩ = some (.string x.key) := hc 0 _ rfl
      have y1 := hc 1 _ rfl
      have y2 := hc 2 _ rfl
      have y3 := hc 3 _ rfl
      have y4 := hc 4 _ rfl
      have y5 := hc 5 _ rfl
      clear hc
      go_wp2_with fail
      refine HPT.out.mono ?_
      rintro e w5 ⟨rfl, ho5, hs5⟩
      have hb5 := HRB5.out.kept ho5 (by intro e; omega) (by intro e; omega)
      have hrow6 := owns_only HROW5.out ho5 (fun k hk e => by have := HOR.out.size; omega)
      have hm6 := ho5.cell HM5.out (fun e => by have h0 : (0 : Nat) = ab + 1 ∨ 0 = ab := e; omega)
      have hor6 := HOR.out.trans (ho5.weaken (T := fun z => z = ab + 1 ∨ z = ab ∨ z = bb + 1 ∨ z = bb) (fun _ _ e => e.elim .inl (fun e => .inr (.inl e))))
      have hpa6 : 0 ≤ putR 48 9 La x pa ∧ putR 48 9 La x pa ≤ pa + 1 := by unfold putR; split <;> omega
      generalize putR 48 9 La x pa = pa2 at *
      generalize putS 48 9 La x = La2 at *
      obtain ⟨_, _, hv, _, _, f6⟩ := Sl.cells recC_length (Sl.of_owns hrow6)
      cases hv
      have HF6 := Lib.hid f6
      clear f6
      have HRA6 := Lib.hid hs5
      have HRB6 := Lib.hid hb5
      have HROW6 := Lib.hid hrow6
      have HM6 := Lib.hid hm6
      have HOR6 := Lib.hid hor6
      clear hs5 hb5 hrow6 hm6 hor6
      clear ho5 y0 y1 y2 y3 y4 y5 HPT HROW5 HOR HM5 HRA5 HRB5
      have hn0 : ¬ (R.length : Int) = 0 := by omega
      go_upto_region 18 with (fail)
      go_cut [17] (fun v17 wx => w5 = wx ∧ v17 = .int .i64 (((i + turnT turn R.length) % R.length : Nat) : Int))
      case first =>
        go_wp2_with fail
        go_meet
        exact ⟨rfl, by rw [turn_val turn (by omega) hR40 hlt]⟩
      case rest =>
      obtain ⟨rfl, rfl⟩ := hcut
      have hkb : (i + turnT turn R.length) % R.length < R.length := Nat.mod_lt _ (by omega)
      generalize htt : turnT turn R.length = tt at *
      generalize hqq : (i + tt) % R.length = qq at *
      have HQQ := Lib.hid hqq
      clear hqq htt
      go_upto_if 112 with (fail)
      go_cut [17] (fun v17 wx => w5 = wx ∧ v17 = .int .i64 ((turnK tt R.length i back : Nat) : Int))
      case first =>
        cases back
        all_goals
          go_wp2_with fail
          go_meet
          refine ⟨rfl, ?_⟩
          unfold turnK
          rw [HQQ.out]
        · rfl
        · rw [if_pos rfl, show (((R.length - 1 - qq : Nat)) : Int) = (R.length : Int) - 1 - qq by omega]
      case rest =>
      obtain ⟨rfl, rfl⟩ := hcut
      have hxe : R[turnK tt R.length i back]? = some R[turnK tt R.length i back] := List.getElem?_eq_getElem hkl
      have hxf := HF.out _ (List.getElem_mem hkl)
      have HDB := Lib.hid (done_put HMB.out hxe HF.out)
      generalize hkk : turnK tt R.length i back = kk at *
      obtain ⟨rb, roff, he, hc⟩ := HF6.out.at kk hkl
      cases he
      generalize R[kk] = x at *
      have HPT := Lib.hid (sput_any w5 (bb + 1) bb 48 9 pb Lb HRB6.out x m HM6.out hxf.2.2.1 (by omega) hpb0 (by omega))
      clear hxe hxf
      unfold recT at HPT
      have y0 : w5.cell? ⟨rb, roff + kk * 6, none⟩ = some (.string x.key) := hc 0 _ rfl
      have y1 := hc 1 _ rfl
      have y2 := hc 2 _ rfl
      have y3 := hc 3 _ rfl
      have y4 := hc 4 _ rfl
      have y5 := hc 5 _ rfl
      have hkk1 : (0 : Int) ≤ (kk : Int) ∧ (kk : Int) < (R.length : Int) := by omega
      obtain ⟨hkk2, hkk3⟩ := hkk1
      have HKK := Lib.hid hkk
      clear hkk
      clear hc
      go_wp2_with fail
      refine HPT.out.mono ?_
      rintro e w7 ⟨rfl, ho7, hs7⟩
      have ha7 := HRA6.out.kept ho7 (by intro e; omega) (by intro e; omega)
      have hor7 := HOR6.out.trans (ho7.weaken (T := fun z => z = ab + 1 ∨ z = ab ∨ z = bb + 1 ∨ z = bb) (fun _ _ e => .inr (.inr e)))
      have hpb7 : 0 ≤ putR 48 9 Lb x pb ∧ putR 48 9 Lb x pb ≤ pb + 1 := by unfold putR; split <;> omega
      generalize putR 48 9 Lb x pb = pb2 at *
      generalize putS 48 9 Lb x = Lb2 at *
      have HRA7 := Lib.hid ha7
      have HRB7 := Lib.hid hs7
      have HOR7 := Lib.hid hor7
      clear ha7 hs7 hor7
      clear ho7 y0 y1 y2 y3 y4 y5 HPT
      go_wp2_with fail
      go_roundg (R.length - (i + 1))
      case measure => rw [Hg.out]; omega
      case rel => exact ⟨i + 1, La2, Lb2, pa2, pb2, by go_num, by omega, HOR7.out, HRA7.out, hpa6.1, by omega, HRB7.out, hpb7.1, by omega, HDA.out, HDB.out, rfl⟩
    · --< post
      obtain rfl : i = R.length := by omega
      have hA1 := HMA.out.congr (done_all (fun j hj => ⟨j, hj, rfl⟩))
      have hB1 := HMB.out.congr (done_all (fun j hj => turnK_all (turnT_lt turn (by omega)) back j hj))
      have hLL := hA1.unique hB1 (fun x y hx hy hk hv => by
        obtain ⟨a1, rfl, h1⟩ := HRA.out x hx
        obtain ⟨a2, rfl, h2⟩ := HRA.out y hy
        exact mRec_unique a1 a2 h1 h2 hk hv)
      subst hLL
      have hLr := HRA5.out.ok.room
      have HTOP := Lib.hid hA1.top
      clear hA1 hB1 HMA HMB
      have hlt' : ¬ (R.length : Int) < (R.length : Int) := by omega
      go_wp2_with fail
      refine (sall_any wr (ab + 1) ab 48 9 pa La HRA5.out).mono ?_
      rintro e w6 ⟨v6, rfl, ho6, hrow6⟩
      have hb6 := HRB5.out.new ho6
      have ha6 := HRA5.out.new ho6
      have HA6 := Lib.hid ha6
      have HB6 := Lib.hid hb6
      have HO6 := Lib.hid ho6
      have HR6 := Lib.hid hrow6
      clear ha6 hb6 ho6 hrow6
      go_wp2_with fail
      refine (sall_any w6 (bb + 1) bb 48 9 pb La HB6.out).mono ?_
      rintro e w7 ⟨v7, rfl, ho7, hrow7⟩
      have ha7 := HA6.out.new ho7
      have hor7 := HOR.out.trans ((HO6.out.trans ho7).weaken (T := fun z => z = ab + 1 ∨ z = ab ∨ z = bb + 1 ∨ z = bb) (fun _ _ => False.elim))
      have hrow8 := owns_only HR6.out ho7 (fun _ _ => id)
      obtain ⟨xa, xcap, rfl, x1, x2, x3⟩ := Sl.cells recC_length (Sl.of_owns hrow8)
      obtain ⟨ya, ycap, rfl, y1, y2, y3⟩ := Sl.cells recC_length (Sl.of_owns hrow7)
      have hrr := owns_only (owns_only HROW5.out HO6.out (fun _ _ => id)) ho7 (fun _ _ => id)
      obtain ⟨_, _, hv, _, _, f6⟩ := Sl.cells recC_length (Sl.of_owns hrr)
      cases hv
      unfold maxLen at x2 y2
      have HA7 := Lib.hid ha7
      have HOR7 := Lib.hid hor7
      have HX := Lib.hid x3
      have HY := Lib.hid y3
      have HF7 := Lib.hid f6
      clear ha7 hor7 x3 y3 f6
      clear hrow7 hrow8 hrr ho7 HB6 HA6 HO6 HR6
      go_wp2_with fail
      go_loopg [20] La.length (fun g v20 wx => ∃ j : Nat, v20 = .int .i64 j ∧ j ≤ La.length ∧ Only (fun _ => False) w7 wx ∧ g = La.length - j)
      case atStart => exact ⟨0, rfl, Nat.zero_le _, Only.refl _ _, rfl⟩
      case round =>
        obtain ⟨j, rfl, hj, hox, hg⟩ := hrel
        have Hg2 := Lib.hid hg
        have HOX := Lib.hid hox
        clear hg hox
        by_cases hlt2 : j < La.length
        · --< cmp
          obtain ⟨xb, xoff, he, hc⟩ := HX.out.at j hlt2
          subst he
          obtain ⟨yb, yoff, he, hd⟩ := HY.out.at j hlt2
          subst he
          have hcx : ∀ i u, (recC La[j])[i]? = some u → _ := fun i u hu => HOX.out.cell (hc i u hu) id
          have hcy : ∀ i u, (recC La[j])[i]? = some u → _ := fun i u hu => HOX.out.cell (hd i u hu) id
          generalize La[j] = z at *
          have p0 := hcx 0 _ rfl
          have p1 := hcx 1 _ rfl
          have p2 := hcx 2 _ rfl
          have p3 := hcx 3 _ rfl
          have p4 := hcx 4 _ rfl
          have p5 := hcx 5 _ rfl
          have q0 := hcy 0 _ rfl
          have q1 := hcy 1 _ rfl
          have q2 := hcy 2 _ rfl
          have q3 := hcy 3 _ rfl
          have q4 := hcy 4 _ rfl
          have q5 := hcy 5 _ rfl
          simp only [Nat.add_zero] at p0 q0
          have hne : ∀ w, (binOp BinOp.neq 33 (.agg #[.string z.key, .int .u64 z.ver, .int .i64 z.o, .int .i64 z.age, .bool z.gone, .string z.data]) (.agg #[.string z.key, .int .u64 z.ver, .int .i64 z.o, .int .i64 z.age, .bool z.gone, .string z.data])).run Tryd.prog w = .ok (.bool false) w := fun w => by
            rw [neR]
            simp
          have hlt' : (j : Int) < (La.length : Int) := by omega
          clear hcx hcy hc hd
          go_wp2_with fail
          go_quiet (fail)
          go_wp2_with fail
          go_roundg (La.length - (j + 1))
          case measure => rw [Hg2.out]; omega
          case rel => exact ⟨j + 1, by go_num, by omega, HOX.out.drewN _, rfl⟩
        · --< gets
          have hlt2' : ¬ (j : Int) < (La.length : Int) := by omega
          have ha8 := HA7.out.new HOX.out
          have hf8 := HF7.out.new HOX.out (fun _ _ _ => id)
          have hor8 := HOR7.out.trans (HOX.out.weaken (T := fun z => z = ab + 1 ∨ z = ab ∨ z = bb + 1 ∨ z = bb) (fun _ _ => False.elim))
          have HA8 := Lib.hid ha8
          have HF8 := Lib.hid hf8
          have HOR8 := Lib.hid hor8
          clear ha8 hf8 hor8
          go_wp2_with fail
          go_loopg [21] R.length (fun g v21 wy => ∃ j : Nat, v21 = .int .i64 j ∧ j ≤ R.length ∧ Only (fun _ => False) wr wy ∧ g = R.length - j)
          case atStart => exact ⟨0, rfl, Nat.zero_le _, Only.refl _ _, rfl⟩
          case round =>
            obtain ⟨i, rfl, hi, hoy, hg⟩ := hrel
            have Hg3 := Lib.hid hg
            have HOY := Lib.hid hoy
            clear hg hoy
            by_cases hlt3 : i < R.length
            · have ha9 := HA8.out.new HOY.out
              obtain ⟨rb, roff, he, hc⟩ := HF8.out.at i hlt3
              subst he
              obtain ⟨y, hy1, hy2, hy3⟩ := HTOP.out _ (List.getElem_mem hlt3)
              have hfy := findS_mem ha9.ok.rises hy1
              have hxf := HF.out _ (List.getElem_mem hlt3)
              rw [hy2] at hfy
              generalize R[i] = x at *
              have hgt := sget_any wr (ab + 1) ab 48 9 pa La ha9 x.key (by unfold maxLen; omega)
              unfold findV at hgt
              rw [hfy] at hgt
              simp only [Option.getD_some, Option.isSome_some] at hgt
              unfold recT at hgt
              have x0 : wr.cell? ⟨rb, roff + i * 6, none⟩ = some (.string x.key) := HOY.out.cell (hc 0 _ rfl) id
              have x1 : wr.cell? ⟨rb, roff + i * 6 + 1, none⟩ = some (.int .u64 x.ver) := HOY.out.cell (hc 1 _ rfl) id
              have hlt3' : (i : Int) < (R.length : Int) := by omega
              have HGT := Lib.hid hgt
              clear hgt
              clear hc hfy hxf hy1 hy2 ha9
              go_wp2_with fail
              refine HGT.out.mono ?_
              rintro e w9 ⟨rfl, ho9⟩
              have x1' := ho9.cell x1 id
              obtain ⟨WB, hWB⟩ : ∃ WB, WB = w9.alloc (.cells #[.string y.key, .int .u64 y.ver, .int .i64 y.o, .int .i64 y.age, .bool y.gone, .string y.data] 33) := ⟨_, rfl⟩
              have hbWB : WB.heap[w9.heap.size]? = some (.cells #[.string y.key, .int .u64 y.ver, .int .i64 y.o, .int .i64 y.age, .bool y.gone, .string y.data] 33 (0, 0)) := by rw [hWB]; exact heap_alloc_new w9 _
              have hoWB : Only (fun _ => False) w9 WB := by rw [hWB]; exact (Only.refl _ _).alloc _
              have hsWB : WB.heap.size = w9.heap.size + 1 := by rw [hWB]; simp
              have x1'' := hoWB.cell x1' id
              have z1 : WB.cell? ⟨w9.heap.size, 1, none⟩ = some (.int .u64 y.ver) := cell_at hbWB 1
              have hoz := HOY.out.trans (ho9.trans hoWB)
              have hdd : decide ((y.ver : Int) < (x.ver : Int)) = false := decide_eq_false (by omega)
              have HOZ := Lib.hid hoz
              clear hoz
              clear hbWB hoWB hsWB ho9 x0 x1 x1' HGT
              go_upto_region 34 with (fail)
              rw [← hWB]
              clear hWB
              go_quiet (fail)
              go_wp2_with fail
              go_roundg (R.length - (i + 1))
              case measure => rw [Hg3.out]; omega
              case rel => exact ⟨i + 1, by go_num, by omega, HOZ.out.drewN _, rfl⟩
            · have hlt3' : ¬ (i : Int) < (R.length : Int) := by omega
              have h2 := HOR8.out.trans (HOY.out.weaken (T := fun z => z = ab + 1 ∨ z = ab ∨ z = bb + 1 ∨ z = bb) (fun _ _ => False.elim))
              have HFIN := Lib.hid (((HOA.out.trans HO4.out).tr h2 (S := fun _ => False) (fun i hi e => by have := HSW.out; omega)))
              clear h2
              go_wp2_with fail
              go_ret
              exact ⟨rfl, HFIN.out⟩
end Go.Proofs.YtianboachknfmaaDoor
