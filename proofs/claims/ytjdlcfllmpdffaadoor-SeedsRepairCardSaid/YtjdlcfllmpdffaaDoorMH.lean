/- digest.Take. -/
import Derived.Test.YtjdlcfllmpdffaaDoorMG
/-! digest: has, Answer's closure, what was told. -/
namespace Go.Proofs.YtjdlcfllmpdffaaDoor
open Go.Conc Go.RowKit Go.Maps

/-- Does a store hold a key at a version, or a greater one? -/
def hasB (L : List RecT) (k : ByteArray) (v : Nat) : Bool := (findS L k).isSome && decide (v ≤ (findV L k).ver)
set_option maxRecDepth 100000 in
theorem has_any (w : World) (s b : Nat) (most ttl r : Int) (L : List RecT) (h : StoreAt w s b most ttl r L) (k : ByteArray) (v : Nat) (hk : k.size ≤ maxLen) :
    Calls Tryd.prog 72 #[.pointer (some ⟨s, 0, none⟩), .agg #[.string k, .int .u64 v]] w fun e w' => e = .returned (.bool (hasB L k v)) ∧ Only (fun _ => False) w w' := by
  obtain ⟨W, hW⟩ : ∃ W, W = w.alloc (.cells #[.string k, .int .u64 v] 31) := ⟨_, rfl⟩
  have hbW : W.heap[w.heap.size]? = some (.cells #[.string k, .int .u64 v] 31 (0, 0)) := by rw [hW]; exact heap_alloc_new w _
  have hoW : Only (fun _ => False) w W := by rw [hW]; exact (Only.refl _ _).alloc _
  have hsW : W.heap.size = w.heap.size + 1 := by rw [hW]; simp
  have HG := Lib.hid (sget_any W s b most ttl r L (h.new hoW) k hk)
  have HB := Lib.hid (show hasB L k v = ((findS L k).isSome && decide (v ≤ (findV L k).ver)) from rfl)
  generalize findV L k = y at *
  generalize (findS L k).isSome = ok at *
  obtain ⟨yk, yv, yo, ya, yg, yd⟩ := y
  unfold recT at HG
  simp only at HG HB
  have HBW := Lib.hid hbW
  have HOW := Lib.hid hoW
  clear hbW hoW
  clear h hsW
  go_enter Tryd.func72, Tryd.ntmps72
  go_upto_region 1 with (fail)
  rw [← hW]
  clear hW
  have x0 : W.cell? ⟨w.heap.size, 0, none⟩ = some (.string k) := cell_at HBW.out 0
  have x1 : W.cell? ⟨w.heap.size, 1, none⟩ = some (.int .u64 v) := cell_at HBW.out 1
  go_wp2_with fail
  refine HG.out.mono ?_
  rintro e w2 ⟨rfl, ho2⟩
  obtain ⟨W3, hW3⟩ : ∃ W3, W3 = w2.alloc (.cells #[.string yk, .int .u64 yv, .int .i64 yo, .int .i64 ya, .bool yg, .string yd] 33) := ⟨_, rfl⟩
  have hbW3 : W3.heap[w2.heap.size]? = some (.cells #[.string yk, .int .u64 yv, .int .i64 yo, .int .i64 ya, .bool yg, .string yd] 33 (0, 0)) := by rw [hW3]; exact heap_alloc_new w2 _
  have hoW3 : Only (fun _ => False) w2 W3 := by rw [hW3]; exact (Only.refl _ _).alloc _
  have hsW3 : W3.heap.size = w2.heap.size + 1 := by rw [hW3]; simp
  have hb3 := hoW3.old (ho2.old HBW.out id) id
  have hoA := HOW.out.trans (ho2.trans hoW3)
  have HB3 := Lib.hid hb3
  have HBY := Lib.hid hbW3
  have HOA := Lib.hid hoA
  clear hb3 hbW3 hoA
  clear x0 x1 ho2 hoW3 hsW3
  go_upto_region 2 with (fail)
  rw [← hW3]
  clear hW3
  have x1 : W3.cell? ⟨w.heap.size, 1, none⟩ = some (.int .u64 v) := cell_at HB3.out 1
  have y1 : W3.cell? ⟨w2.heap.size, 1, none⟩ = some (.int .u64 yv) := cell_at HBY.out 1
  cases ok
  · go_wp2_with fail
    go_ret
    exact ⟨by rw [HB.out]; rfl, HOA.out⟩
  · go_wp2_with fail
    go_ret
    refine ⟨?_, HOA.out⟩
    rw [HB.out]
    simp
def u64V (n : Nat) : Value := .int .u64 n
theorem zeroU64 (w : World) : (zeroValue 29).run Tryd.prog w = .ok (u64V 0) w := by kernel_rfl
abbrev TMap (w : World) (b : Nat) (M : List (ByteArray × Nat)) : Prop := MapIs Tryd.prog 9 Value.string u64V w b M
def tellM (M : List (ByteArray × Nat)) (p : ByteArray × Nat) : List (ByteArray × Nat) := putL M p.1 (max ((lookL M p.1).getD 0) p.2)
/-- What some ids tell: of each key the greatest version. -/
def toldM (I : List (ByteArray × Nat)) : List (ByteArray × Nat) := I.foldl tellM []
theorem told_snoc (I : List (ByteArray × Nat)) (k : Nat) (hk : k < I.length) : toldM (I.take (k + 1)) = tellM (toldM (I.take k)) I[k] := by
  unfold toldM
  rw [List.take_add_one, List.getElem?_eq_getElem hk, List.foldl_append]
  rfl
theorem put_len (M : List (ByteArray × Nat)) (x : ByteArray) (v : Nat) : (putL M x v).length ≤ M.length + 1 := by
  unfold putL dropL
  rw [List.length_append]
  have := List.length_filter_le (fun p : ByteArray × Nat => !decide (p.1 = x)) M
  simp only [List.length_cons, List.length_nil]
  omega
theorem told_len (I : List (ByteArray × Nat)) : (toldM I).length ≤ I.length := by
  have h : ∀ (J M : List (ByteArray × Nat)), (J.foldl tellM M).length ≤ M.length + J.length := by
    intro J
    induction J with
    | nil => intro M; exact Nat.le_refl _
    | cons p J ih =>
      intro M
      have h1 := ih (tellM M p)
      have h2 := put_len M p.1 (max ((lookL M p.1).getD 0) p.2)
      rw [List.foldl_cons, List.length_cons]
      unfold tellM at h1 ⊢
      omega
  have h2 := h I []
  unfold toldM
  simpa using h2
/-- Is a version told, or a greater one? -/
def geB (o : Option Nat) (ver : Nat) : Bool := match o with
  | some v => decide (ver ≤ v)
  | none => false
def toldB (I : List (ByteArray × Nat)) (key : ByteArray) (ver : Nat) : Bool := I.any (fun p => decide (p.1 = key) && decide (ver ≤ p.2))
theorem told_ge (I : List (ByteArray × Nat)) (key : ByteArray) (ver : Nat) : geB (lookL (toldM I) key) ver = toldB I key ver := by
  have h : ∀ (J M : List (ByteArray × Nat)), geB (lookL (J.foldl tellM M) key) ver = (geB (lookL M key) ver || toldB J key ver) := by
    intro J
    induction J with
    | nil => intro M; simp [toldB]
    | cons p J ih =>
      intro M
      rw [List.foldl_cons, ih]
      have h1 : geB (lookL (tellM M p) key) ver = (geB (lookL M key) ver || (decide (p.1 = key) && decide (ver ≤ p.2))) := by
        unfold tellM
        by_cases hp : p.1 = key
        · subst hp
          rw [lookL_put_same]
          cases hl : lookL M p.1 with
          | none => simp [geB]
          | some v =>
            simp only [geB, Option.getD_some, decide_true, Bool.true_and]
            rw [Bool.eq_iff_iff]
            simp only [Bool.or_eq_true, decide_eq_true_eq]
            omega
        · rw [lookL_put_other M (Ne.symm hp)]
          simp [hp]
      rw [h1, Bool.or_assoc]
      rfl
  have := h I []
  rw [show geB (lookL ([] : List (ByteArray × Nat)) key) ver = false from rfl, Bool.false_or] at this
  exact this
def newerL (L : List RecT) (I : List (ByteArray × Nat)) : List RecT := L.filter (fun x => !toldB I x.key x.ver)
def wantedL (L : List RecT) (I : List (ByteArray × Nat)) : List (ByteArray × Nat) := I.filter (fun p => !hasB L p.1 p.2)
theorem wanted_snoc (L : List RecT) (I : List (ByteArray × Nat)) (k : Nat) (hk : k < I.length) : wantedL L (I.take (k + 1)) = wantedL L (I.take k) ++ if hasB L I[k].1 I[k].2 then [] else [I[k]] := by
  unfold wantedL
  rw [List.take_add_one, List.getElem?_eq_getElem hk, List.filter_append]
  congr 1
  cases h : hasB L I[k].1 I[k].2 <;> simp [h]
set_option maxRecDepth 100000 in
theorem ans1_any (w : World) (t mb : Nat) (I : List (ByteArray × Nat)) (hb : w.heap[t]? = some (.cells #[.map (some mb)] 154 (0, 0))) (hm : TMap w mb (toldM I)) (x : RecT) (hk : x.key.size ≤ maxLen) :
    Calls Tryd.prog 73 #[recT x, .pointer (some ⟨t, 0, none⟩)] w fun e w' => e = .returned (.bool (toldB I x.key x.ver)) ∧ Only (fun _ => False) w w' := by
  have hte := told_ge I x.key x.ver
  obtain ⟨k1, v1, o1, a1, g1, d1⟩ := x
  unfold recT
  simp only at hte ⊢
  obtain ⟨W, hW⟩ : ∃ W, W = w.alloc (.cells #[.string k1, .int .u64 v1, .int .i64 o1, .int .i64 a1, .bool g1, .string d1] 33) := ⟨_, rfl⟩
  have hbW : W.heap[w.heap.size]? = some (.cells #[.string k1, .int .u64 v1, .int .i64 o1, .int .i64 a1, .bool g1, .string d1] 33 (0, 0)) := by rw [hW]; exact heap_alloc_new w _
  have hoW : Only (fun _ => False) w W := by rw [hW]; exact (Only.refl _ _).alloc _
  have hsW : W.heap.size = w.heap.size + 1 := by rw [hW]; simp
  have hlk := (hm.kept hoW id).look strKeyed strInj Tryd.underlying154 (z := 0) (zeroU64 W) (strOk hk) true
  have hb2 := hoW.old hb id
  generalize lookL (toldM I) k1 = o at *
  have HTE := Lib.hid hte
  have t0 : W.cell? ⟨t, 0, none⟩ = some (.map (some mb)) := cell_at hb2 0
  have x0 : W.cell? ⟨w.heap.size, 0, none⟩ = some (.string k1) := cell_at hbW 0
  have x1 : W.cell? ⟨w.heap.size, 1, none⟩ = some (.int .u64 v1) := cell_at hbW 1
  have x2 : W.cell? ⟨w.heap.size, 2, none⟩ = some (.int .i64 o1) := cell_at hbW 2
  have x3 : W.cell? ⟨w.heap.size, 3, none⟩ = some (.int .i64 a1) := cell_at hbW 3
  have x4 : W.cell? ⟨w.heap.size, 4, none⟩ = some (.bool g1) := cell_at hbW 4
  have x5 : W.cell? ⟨w.heap.size, 5, none⟩ = some (.string d1) := cell_at hbW 5
  have HOW := Lib.hid hoW
  clear hoW
  clear hb hm hb2 hbW hsW hte
  cases o with
  | none =>
    have hlk2 : (Instr.lookup 154 (.map (some mb)) (.string k1) true).run Tryd.prog W = .ok (.tuple #[.int .u64 0, .bool false]) W := hlk
    clear hlk
    go_enter Tryd.func73, Tryd.ntmps73
    go_upto_region 1 with (fail)
    rw [← hW]
    clear hW
    go_wp2_with fail
    go_ret
    exact ⟨by rw [← HTE.out]; rfl, HOW.out⟩
  | some v =>
    have hlk2 : (Instr.lookup 154 (.map (some mb)) (.string k1) true).run Tryd.prog W = .ok (.tuple #[.int .u64 v, .bool true]) W := hlk
    clear hlk
    go_enter Tryd.func73, Tryd.ntmps73
    go_upto_region 1 with (fail)
    rw [← hW]
    clear hW
    go_wp2_with fail
    go_ret
    refine ⟨?_, HOW.out⟩
    rw [← HTE.out]
    simp [geB]
end Go.Proofs.YtjdlcfllmpdffaaDoor
/-! digest.Answer. -/
namespace Go.Proofs.YtjdlcfllmpdffaaDoor
open Go.Conc Go.RowKit Go.Maps

theorem answer_nil (w : World) (vm : Value) (m : MsgT) (hv : MsgIs w vm m) : Calls Tryd.prog 41 #[.pointer none, vm] w fun e w' => e = .returned (.slice none 0 0) ∧ Only (fun _ => False) w w' := by
  obtain ⟨vn, vi, vr, rfl, m1, m2, m3⟩ := hv.out
  obtain ⟨n1, n2, rfl, _⟩ := Sl.cells intC_length m1
  obtain ⟨i1, i2, rfl, _⟩ := Sl.cells idT_length m2
  obtain ⟨r1, r2, rfl, _⟩ := Sl.cells recC_length m3
  clear hv m1 m2 m3
  go_enter Tryd.func41, Tryd.ntmps41
  go_wp2_with fail
  go_ret
  exact ⟨rfl, (Only.refl _ _).alloc _⟩
theorem StoreOk.ages {most ttl : Int} {L : List RecT} (h : StoreOk most ttl L) : ∀ x ∈ L, 0 ≤ x.age ∧ x.age < 1000000 := fun x hx => by
  obtain ⟨h1, h2⟩ := h.goods x hx
  have h3 := h.ttlB
  unfold goodR goodP at h1
  simp only [Bool.and_eq_true, decide_eq_true_eq] at h1
  have h4 := h1.1.1.2
  omega
/-- A slice of ids of the call's own. -/
abbrev DRow (w : World) (base : Nat) (v : Value) (I : List (ByteArray × Nat)) : Prop := w.ownsRow base 31 2 v I.length (I.flatMap idT)
theorem idT_one (p : ByteArray × Nat) : ∀ u ∈ idT p, u.oneCell' = true := by
  intro u hu
  simp only [idT, List.mem_cons, List.not_mem_nil, or_false] at hu
  rcases hu with rfl | rfl <;> rfl
def wantM (W : List (ByteArray × Nat)) : List MsgT := if W.length = 0 then [] else [⟨14, 0, 0, false, [], W, []⟩]
/-- A store's answer to a Digest. -/
def answerM (ttl : Int) (L : List RecT) (I : List (ByteArray × Nat)) : List MsgT := wantM (wantedL L I) ++ packM 14 (sentL ttl (newerL L I))
theorem msgRow_append {w w' : World} {base n : Nat} {v v' : Value} {ms ms' : List MsgT} {P Q : List MsgP} (hP : P.map (·.1) = ms) (hQ : Q.map (·.1) = ms') (hown : w.ownsRow base 56 7 v P.length (P.flatMap cellsM)) (he : ∀ p ∈ P, MsgOwn w base p) (he' : ∀ p ∈ Q, MsgOwn w base p)
    (own : w'.ownsRow base 56 7 v' n (P.flatMap cellsM ++ Q.flatMap cellsM)) (gr : w.grownBy w' v.ownBlock) : MsgRow w' base v' (ms ++ ms') := by
  have hn : n = (P ++ Q).length := by
    have h1 := own.1
    rw [List.length_append, fl_length cellsM_length, fl_length cellsM_length] at h1
    rw [List.length_append]
    omega
  refine ⟨P ++ Q, by rw [List.map_append, hP, hQ], ?_, fun p hp => ?_⟩
  · rw [List.flatMap_append, ← hn]
    exact own
  · rcases List.mem_append.1 hp with h | h
    · exact (he p h).grown hown gr
    · exact (he' p h).grown hown gr
theorem max_cast (a b : Nat) : max (a : Int) (b : Int) = ((max a b : Nat) : Int) := by omega
set_option maxRecDepth 100000 in
set_option maxHeartbeats 4000000 in
theorem answer_any (w : World) (s b : Nat) (most ttl r : Int) (L : List RecT) (h : StoreAt w s b most ttl r L) (vm : Value) (m : MsgT) (hv : MsgIs w vm m) (hI : m.ids.length ≤ 1000000) (hk : ∀ p ∈ m.ids, p.1.size ≤ maxLen) :
    Calls Tryd.prog 41 #[.pointer (some ⟨s, 0, none⟩), vm] w fun e w' => ∃ v, e = .returned v ∧ Only (fun _ => False) w w' ∧ MsgRow w' w.heap.size v (answerM ttl L m.ids) := by
  obtain ⟨i0, hi0, iz0, iz1, iz2⟩ := info_parts infoId
  obtain ⟨j0, hj0, jz0, jz1, jz2⟩ := info_parts infoMsg
  obtain ⟨vn, vi, vr, rfl, m1, m2, m3⟩ := hv.out
  obtain ⟨n1, n2, rfl, _⟩ := Sl.cells intC_length m1
  obtain ⟨ia, icap, rfl, k1, k2, hc⟩ := Sl.cells idT_length m2
  obtain ⟨r1, r2, rfl, _⟩ := Sl.cells recC_length m3
  obtain ⟨kind, node, walk, high, nodes, ids, recs⟩ := m
  simp only at *
  unfold maxLen at k2
  obtain ⟨W, hW⟩ : ∃ W, W = w.alloc (.cells #[.int .i64 kind, .int .i64 node, .int .i64 walk, .bool high, .slice n1 nodes.length n2, .slice ia ids.length icap, .slice r1 recs.length r2] 56) := ⟨_, rfl⟩
  have hbW : W.heap[w.heap.size]? = some (.cells #[.int .i64 kind, .int .i64 node, .int .i64 walk, .bool high, .slice n1 nodes.length n2, .slice ia ids.length icap, .slice r1 recs.length r2] 56 (0, 0)) := by rw [hW]; exact heap_alloc_new w _
  have hoW : Only (fun _ => False) w W := by rw [hW]; exact (Only.refl _ _).alloc _
  have hsW : W.heap.size = w.heap.size + 1 := by rw [hW]; simp
  obtain ⟨W2, hW2⟩ : ∃ W2, W2 = (W.alloc (.map #[] 0)).alloc (.cells #[.map (some W.heap.size)] 154) := ⟨_, rfl⟩
  have hoW2 : Only (fun _ => False) W W2 := by rw [hW2]; exact ((Only.refl _ _).alloc _).alloc _
  have hm2 : TMap W2 W.heap.size [] := by rw [hW2]; exact (MapIs.made W).kept ((Only.refl (fun _ => False) _).alloc _) id
  have ht2 : W2.heap[W.heap.size + 1]? = some (.cells #[.map (some W.heap.size)] 154 (0, 0)) := by
    rw [hW2]
    have := heap_alloc_new (W.alloc (.map #[] 0)) (.cells #[.map (some W.heap.size)] 154)
    simpa using this
  have hs2 : W2.heap.size = W.heap.size + 2 := by rw [hW2]; simp
  have hoA := hoW.trans hoW2
  have hst2 := (h.new hoW).new hoW2
  have hsb := h.lt
  have hbW2 := hoW2.old hbW id
  have hkz := h.ok.keys
  have hag := h.ok.ages
  have hmm := @run_makeMap Tryd.prog
  have HST := Lib.hid hst2
  have HT := Lib.hid ht2
  have HM := Lib.hid hm2
  have HOA := Lib.hid hoA
  have HBW := Lib.hid hbW2
  have HC := Lib.hid hc
  have HK := Lib.hid hk
  have HSW := Lib.hid hsW
  have HSZ := Lib.hid hs2
  have HSB := Lib.hid hsb
  have HKZ := Lib.hid hkz
  have HAG := Lib.hid hag
  clear hst2 ht2 hm2 hoA hbW2 hc hk hsW hs2 hsb hkz hag
  clear h hv m1 m2 m3 hbW hoW hoW2
  go_enter Tryd.func41, Tryd.ntmps41
  go_upto_region 1 with (fail)
  rw [← hW]
  clear hW
  go_upto_region 4 with (fail)
  rw [← hW2]
  clear hW2
  generalize hmb : W.heap.size = mb at *
  have x5 : W2.cell? ⟨w.heap.size, 5, none⟩ = some (.slice ia ids.length icap) := cell_at HBW.out 5
  have HMB := Lib.hid hmb
  clear hmb
  clear hmm
  go_upto_block 0 with fail
  go_cut [6] (fun v6 wx => Only (fun i => i = mb) W2 wx ∧ TMap wx mb (toldM ids) ∧ DRow wx W2.heap.size v6 (wantedL L ids))
  case first =>
    clear x5
    go_wp2_with fail
    go_loopg [6, 17] ids.length (fun g v6 v17 wr => ∃ k : Nat, v17 = .int .i64 k ∧ k ≤ ids.length ∧ Only (fun i => i = mb) W2 wr ∧ TMap wr mb (toldM (ids.take k)) ∧ DRow wr W2.heap.size v6 (wantedL L (ids.take k)) ∧ g = ids.length - k)
    case atStart => exact ⟨0, rfl, Nat.zero_le _, Only.refl _ _, HM.out, World.ownsRow_nil _ _ _ _, rfl⟩
    case round =>
      obtain ⟨k, rfl, hk, ho, hmp, hrow, hg⟩ := hrel
      have Hg := Lib.hid hg
      have HO := Lib.hid ho
      have HMP := Lib.hid hmp
      have HROW := Lib.hid hrow
      clear hg ho hmp hrow
      by_cases hlt : k < ids.length
      · obtain ⟨lb, off, he, hcc⟩ := HC.out.at k hlt
        subst he
        have hcr : ∀ i u, (idT ids[k])[i]? = some u → wr.cell? ⟨lb, off + k * 2 + i, none⟩ = some u := fun i u hu => by
          have h1 := hcc i u hu
          have h2 : lb < w.heap.size := World.block_lt_of_cell? _ _ h1
          exact HO.out.cell (HOA.out.cell h1 id) (fun e => by have e2 : lb = mb := e; have := HSW.out; omega)
        have HTS := Lib.hid (told_snoc ids k hlt)
        have HWS := Lib.hid (wanted_snoc L ids k hlt)
        have hwl : (wantedL L (ids.take k)).length ≤ k := Nat.le_trans (List.length_filter_le _ _) (List.length_take_le _ _)
        have htl : (toldM (ids.take k)).length ≤ k := Nat.le_trans (told_len _) (List.length_take_le _ _)
        have hkk := HK.out ids[k] (List.getElem_mem hlt)
        have hlt' : (k : Int) < (ids.length : Int) := by omega
        generalize ids[k] = p at *
        obtain ⟨kx, vx⟩ := p
        simp only at hkk
        have y0 := hcr 0 _ rfl
        have y1 := hcr 1 _ rfl
        simp only [Nat.add_zero] at y0
        clear hcc hcr
        unfold tellM at HTS
        simp only at HTS HWS
        obtain ⟨W3, hW3⟩ : ∃ W3, W3 = wr.alloc (.cells #[.string kx, .int .u64 vx] 31) := ⟨_, rfl⟩
        have hbW3 : W3.heap[wr.heap.size]? = some (.cells #[.string kx, .int .u64 vx] 31 (0, 0)) := by rw [hW3]; exact heap_alloc_new wr _
        have hoW3 : Only (fun _ => False) wr W3 := by rw [hW3]; exact (Only.refl _ _).alloc _
        have hsW3 : W3.heap.size = wr.heap.size + 1 := by rw [hW3]; simp
        have hm3 := HMP.out.kept (hoW3.weaken (T := fun _ => False) (fun _ _ => id)) id
        have hlk := hm3.look strKeyed strInj Tryd.underlying154 (z := 0) (zeroU64 W3) (strOk hkk) false
        generalize (lookL (toldM (ids.take k)) kx).getD 0 = c at *
        have hlk2 : (Instr.lookup 154 (.map (some mb)) (.string kx) false).run Tryd.prog W3 = .ok (.int .u64 c) W3 := hlk
        have hmax := max_cast c vx
        have hrow3 := owns_only HROW.out hoW3 (fun _ _ => id)
        have hoB := HO.out.trans (hoW3.weaken (T := fun i => i = mb) (fun _ _ => False.elim))
        have ht3 : W3.heap[mb + 1]? = some (.cells #[.map (some mb)] 154 (0, 0)) := hoB.old HT.out (by omega)
        have hmr : mb < wr.heap.size := HMP.out.lt
        have HM3 := Lib.hid hm3
        have HROW3 := Lib.hid hrow3
        have HOB := Lib.hid hoB
        have HB3 := Lib.hid hbW3
        have HKK := Lib.hid hkk
        have HWL := Lib.hid hwl
        have HTL := Lib.hid htl
        have HMR := Lib.hid hmr
        clear hm3 hrow3 hoB hbW3 hkk hwl htl hmr
        clear hlk hoW3 hsW3
        go_upto_region 8 with (fail)
        rw [← hW3]
        clear hW3 y0 y1
        have t0 : W3.cell? ⟨mb + 1, 0, none⟩ = some (.map (some mb)) := cell_at ht3 0
        have x0 : W3.cell? ⟨wr.heap.size, 0, none⟩ = some (.string kx) := cell_at HB3.out 0
        have x1 : W3.cell? ⟨wr.heap.size, 1, none⟩ = some (.int .u64 vx) := cell_at HB3.out 1
        clear ht3
        go_wp2_with (first | (at_mapUpdate; refine wpList_mapStore rfl _ _ _ _ rfl HM3.out strKeyed strInj Tryd.underlying154 (by have := HTL.out; unfold maxLen; omega) rfl rfl (strOk HKK.out) (u := max c vx) rfl ?_; intro w4 hm4 ho4; have hb4 := ho4.old HB3.out (by have := HMR.out; omega); have z0 := cell_at hb4 0; have z1 := cell_at hb4 1; simp at z0 z1; have HB4 := Lib.hid hb4; clear hb4))
        have hoC := HOB.out.trans ho4
        have hst4 : StoreAt w4 s b most ttl r L := HST.out.kept hoC (by have := HSB.out; have := HSW.out; omega) (by have := HSB.out; have := HSW.out; omega)
        have HHAS := Lib.hid (has_any w4 s b most ttl r L hst4 kx vx HKK.out)
        have hrow4 := owns_only HROW3.out ho4 (fun i hi e => by have := HSZ.out; omega)
        have HOC := Lib.hid hoC
        have HM4 := Lib.hid hm4
        have HROW4 := Lib.hid hrow4
        clear hoC hm4 hrow4
        clear ho4 x0 x1 t0 hlk2 hmax hst4 z0 z1
        refine HHAS.out.mono ?_
        rintro e w5 ⟨rfl, ho5⟩
        have hoD := HOC.out.trans (ho5.weaken (T := fun i => i = mb) (fun _ _ => False.elim))
        have hb5 := ho5.old HB4.out id
        have hm5 := HM4.out.kept ho5 id
        have hrow5 := owns_only HROW4.out ho5 (fun _ _ => id)
        have HOD := Lib.hid hoD
        have HB5 := Lib.hid hb5
        have HM5 := Lib.hid hm5
        have HROW5 := Lib.hid hrow5
        clear hoD hb5 hm5 hrow5
        clear ho5 HHAS
        have x0 : w5.cell? ⟨wr.heap.size, 0, none⟩ = some (.string kx) := cell_at HB5.out 0
        have x1 : w5.cell? ⟨wr.heap.size, 1, none⟩ = some (.int .u64 vx) := cell_at HB5.out 1
        generalize hasB L kx vx = q at *
        cases q
        · go_wp2_with (at_builtin; refine Wait.mk ?_)
          refine Wait.go (wpList_append_src _ rfl (.tmp 35) (.tmp 37) 54 54 rfl W2.heap.size 31 i0 _ 2 24 Tryd.underlying54 hi0 iz0 iz1 iz2 rfl _ (wantedL L (ids.take k)).length ((wantedL L (ids.take k)).flatMap idT) rfl (HROW5.out.alloc _) _ 1 (idT (kx, vx)) rfl ?src4 ?m4 ?b4 ?base4 ?_)
          case src4 => exact Src.ofSlice _ Tryd.underlying54 _ _ _ _ rfl (news_new _ _ _) (idT_one _)
          case m4 => have := HWL.out; unfold maxLen; omega
          case b4 => have := HWL.out; omega
          case base4 => have := HOD.out.size; simp; omega
          intro v4 w6 own4 gr4 _
          have hmB : ∀ i, some i = u6.ownBlock → i ≠ mb := fun i hi e => by have h1 := HROW5.out.lt i hi.symm; have := HSZ.out; omega
          have ho6 : Only (fun i => i = mb) W2 w6 := (HOD.out.alloc _).own (HROW5.out.alloc _) (Nat.le_refl _) gr4
          have hm6 : TMap w6 mb (toldM (ids.take (k + 1))) := by
            rw [HTS.out]
            refine HM5.out.at ?_
            have hlt5 := HM5.out.lt
            have gr5 : (w5.alloc (.cells #[.string kx, .int .u64 vx] 31)).grownBy w6 u6.ownBlock := gr4
            exact (gr5.block mb (by simp; omega) (fun e => hmB mb e rfl)).trans (Below.heap_alloc _ _ _ hlt5)
          have HO6 := Lib.hid ho6
          have HW6 := Lib.hid own4
          have HM6 := Lib.hid hm6
          clear ho6 own4 hm6
          clear gr4 x0 x1 hmB
          go_wp2_with fail
          go_roundg (ids.length - (k + 1))
          case measure => rw [Hg.out]; omega
          case rel =>
            refine ⟨k + 1, by go_num, by omega, HO6.out, HM6.out, ?_, rfl⟩
            unfold DRow
            rw [HWS.out, if_neg (by decide), List.length_append, List.flatMap_append, List.flatMap_singleton]
            exact HW6.out
        · clear x0 x1
          go_wp2_with fail
          go_roundg (ids.length - (k + 1))
          case measure => rw [Hg.out]; omega
          case rel =>
            refine ⟨k + 1, by go_num, by omega, HOD.out, ?_, ?_, rfl⟩
            · rw [HTS.out]; exact HM5.out
            · rw [HWS.out, if_pos trivial, List.append_nil]; exact HROW5.out
      · have hke : k = ids.length := by omega
        have hlt' : ¬ (k : Int) < (ids.length : Int) := by omega
        have hW := HROW.out
        have hM := HMP.out
        rw [hke, List.take_length] at hW hM
        have HW2 := Lib.hid hW
        have HM2 := Lib.hid hM
        clear hW hM
        clear hke
        go_wp2_with fail
        go_meet
        exact ⟨HO.out, HM2.out, HW2.out⟩
  case rest =>
  obtain ⟨ho, hmp, hrow⟩ := hcut
  have hst := HST.out.kept ho (by have := HSB.out; have := HSW.out; omega) (by have := HSB.out; have := HSW.out; omega)
  have htb : wc.heap[mb + 1]? = some (.cells #[.map (some mb)] 154 (0, 0)) := ho.old HT.out (by omega)
  have HALL := Lib.hid (sall_any wc s b most ttl r L hst)
  have hLl := hst.ok.len
  have hz2 : w.heap.size ≤ W2.heap.size := HOA.out.size
  have hoB : Only (fun _ => False) w wc := HOA.out.tr ho (fun i hi e => by have := HSW.out; omega)
  have hmlt := hmp.lt
  have htlt := lt_of_block htb
  have HOB := Lib.hid hoB
  have HMP := Lib.hid hmp
  have HROW := Lib.hid hrow
  have HST1 := Lib.hid hst
  have HTB := Lib.hid htb
  have HZ2 := Lib.hid hz2
  clear hoB hmp hrow hst htb hz2
  clear HM HT ho x5
  go_wp2_with fail
  refine HALL.out.mono ?_
  rintro e w5 ⟨v5, rfl, ho5, hrow5⟩
  obtain ⟨ra, rcap, rfl, _⟩ := Sl.cells recC_length (Sl.of_owns hrow5)
  have hpred : RecPred 73 #[.pointer (some ⟨mb + 1, 0, none⟩)] (fun x => toldB ids x.key x.ver) L (Value.slice ra L.length rcap).ownBlock w5 := fun x hx W' hW' => by
    have hnb : ∀ i, i < wc.heap.size → ¬ (Value.slice ra L.length rcap).ownBlock = some i := fun i hi e => by have := (hrow5.lt i e).1; omega
    exact ans1_any W' (mb + 1) mb ids (hW'.old (ho5.old HTB.out id) (hnb _ htlt)) ((HMP.out.kept ho5 id).kept hW' (hnb _ hmlt)) x (HKZ.out x hx)
  have HDEL := Lib.hid (rdel_any w5 wc.heap.size _ L 73 #[.pointer (some ⟨mb + 1, 0, none⟩)] _ hrow5 (by omega) (fun _ _ => by go_simp) hpred)
  have hnS : ∀ i, i < wc.heap.size → ¬ (Value.slice ra L.length rcap).ownBlock = some i := fun i hi e => by have := (hrow5.lt i e).1; omega
  have HO5 := Lib.hid ho5
  have HNS := Lib.hid hnS
  clear ho5 hnS
  clear hrow5 hpred HALL
  go_wp2_with fail
  refine HDEL.out.mono ?_
  rintro e w6 ⟨v6, rfl, ho6, hrow6⟩
  have hnr : (newerL L ids).length ≤ 48 := Nat.le_trans (List.length_filter_le _ _) hLl
  have hao : AgeOk (newerL L ids) := fun x hx => by have := HAG.out x (List.mem_filter.1 hx).1; omega
  have hrow6' : RecRow w6 wc.heap.size v6 (newerL L ids) := hrow6
  have hoC : Only (fun _ => False) w w6 := (HOB.out.trans HO5.out).tr ho6 (fun i hi e => HNS.out i (Nat.lt_of_lt_of_le hi HOB.out.size) e)
  have hsb6 := HSB.out
  have hst6 : StoreAt w6 s b most ttl r L := (HST1.out.new HO5.out).kept ho6 (fun e => HNS.out s HST1.out.lt.1 e) (fun e => HNS.out b HST1.out.lt.2 e)
  have hwr6 : DRow w6 w.heap.size u6 (wantedL L ids) := ownsRow_base_a (owns_kept (owns_only HROW.out HO5.out (fun _ _ => id)) ho6 (fun k hk e => HNS.out k (HROW.out.lt k hk).2 e)) HZ2.out
  have hans : answerM ttl L ids = wantM (wantedL L ids) ++ packM 14 (sentL ttl (newerL L ids)) := rfl
  have hwl : (wantedL L ids).length ≤ 1000000 := Nat.le_trans (List.length_filter_le _ _) hI
  generalize wantedL L ids = WL at *
  generalize newerL L ids = NL at *
  obtain ⟨wa, wcap, rfl, _⟩ := Sl.cells idT_length (Sl.of_owns hwr6)
  obtain ⟨na, ncap, rfl, _⟩ := Sl.cells recC_length (Sl.of_owns hrow6')
  have HAO := Lib.hid hao
  have HOC := Lib.hid hoC
  have HST6 := Lib.hid hst6
  have HWR6 := Lib.hid hwr6
  have HROW6 := Lib.hid hrow6'
  have HANS := Lib.hid hans
  clear hao hoC hst6 hwr6 hrow6' hans
  clear ho6 hrow6 HDEL HNS HO5 hsb6 HROW HTB HMP HST1
  go_upto_if 46 with (fail)
  go_cut [10] (fun v10 wx => Only (fun _ => False) w6 wx ∧ MsgRow wx w.heap.size v10 (wantM WL))
  case first =>
    by_cases hw0 : WL.length = 0
    · have HWM := Lib.hid (show wantM WL = [] from if_pos hw0)
      have hw1 : (WL.length : Int) = 0 := by omega
      go_wp2_with fail
      go_meet
      refine ⟨Only.refl _ _, ?_⟩
      rw [HWM.out]
      exact MsgRow.nil _ _
    · have HWM := Lib.hid (show wantM WL = [] ++ [⟨14, 0, 0, false, [], WL, []⟩] from if_neg hw0)
      have hw1 : (WL.length : Int) > 0 := by omega
      have hp0 : MsgOwn w6 w.heap.size (⟨14, 0, 0, false, [], WL, []⟩, .slice none 0 0, .slice wa WL.length wcap, .slice none 0 0) := ⟨World.ownsRow_nil _ _ _ _, HWR6.out, World.ownsRow_nil _ _ _ _⟩
      have HP1 := Lib.hid hp0.one
      have HP0 := Lib.hid hp0
      clear hp0
      go_wp2_with (at_builtin; refine Wait.mk ?_)
      refine Wait.go (wpList_append_src _ rfl (.tmp 47) (.tmp 50) 85 85 rfl w6.heap.size 56 j0 _ 7 104 Tryd.underlying85 hj0 jz0 jz1 jz2 rfl _ 0 [] rfl ?own4 _ 1 (cellsM (⟨14, 0, 0, false, [], WL, []⟩, .slice none 0 0, .slice wa WL.length wcap, .slice none 0 0)) rfl ?src4 ?m4 ?b4 ?base4 ?_)
      case own4 => exact World.ownsRow_nil _ _ _ _
      case src4 => exact Src.ofSlice _ Tryd.underlying85 _ _ _ _ rfl (news_new _ _ _) HP1.out
      case m4 => unfold maxLen; omega
      case b4 => omega
      case base4 => simp
      intro v7 w7 own7 gr7 _
      have ho7 : Only (fun _ => False) w6 w7 := ((Only.refl _ w6).alloc _).own (World.ownsRow_nil _ w6.heap.size 56 7) (Nat.le_refl _) gr7
      have hrow7 := msgRow_snoc (P := []) (ms := []) rfl (World.ownsRow_nil w6 w.heap.size 56 7) (fun _ h => by cases h) HP0.out (ownsRow_base_a own7 HOC.out.size) gr7
      have HO7 := Lib.hid ho7
      have HROW7 := Lib.hid hrow7
      clear ho7 hrow7
      clear gr7
      go_wp2_with fail
      go_meet
      refine ⟨HO7.out, ?_⟩
      rw [HWM.out]
      exact HROW7.out
  case rest =>
  obtain ⟨ho7, hrow7⟩ := hcut
  have hPA := pack_any wc _ ttl 14 _ NL ((HST6.out.new ho7).ttl) (Sl.new (Sl.of_owns HROW6.out) ho7) (by omega) HAO.out
  have hoD := HOC.out.trans ho7
  have hpl : (packM 14 (sentL ttl NL)).length ≤ 48 := by
    have h1 := sentL_length ttl NL
    unfold packM
    rw [List.length_map, List.length_range]
    omega
  have hwl2 : (wantM WL).length ≤ 1 := by
    unfold wantM
    split <;> simp
  obtain ⟨P, hP, hown, heach⟩ := hrow7.out
  have hPl : P.length ≤ 1 := by rw [← hP, List.length_map] at hwl2; exact hwl2
  obtain ⟨pa, pcap, rfl, _⟩ := Sl.cells cellsM_length (Sl.of_owns hown)
  have HPA := Lib.hid hPA
  have HOD := Lib.hid hoD
  have HP := Lib.hid hP
  have HOWN := Lib.hid hown
  have HEACH := Lib.hid heach
  have HPL := Lib.hid hPl
  have HPL2 := Lib.hid hpl
  clear hPA hoD hP hown heach hPl hpl
  clear ho7 hrow7 HOC HST6 HWR6 HROW6 HAO hwl2
  go_wp2_with fail
  refine HPA.out.mono ?_
  rintro e w8 ⟨v8, rfl, ho8, hrow8⟩
  obtain ⟨Q, hQ, hownQ, heachQ⟩ := hrow8.out
  have hQl : Q.length ≤ 48 := by have h1 := HPL2.out; rw [← hQ, List.length_map] at h1; exact h1
  have hsrc := Sl.src (P := Tryd.prog) (tx := 85) Tryd.underlying85 (Sl.of_owns hownQ) (fun u hu => by
    obtain ⟨p, hp, hu2⟩ := List.mem_flatMap.1 hu
    exact (heachQ p hp).one u hu2)
  obtain ⟨qa, qcap, rfl, _⟩ := Sl.cells cellsM_length (Sl.of_owns hownQ)
  have hoE := HOD.out.trans ho8
  have hown8 := owns_only HOWN.out ho8 (fun _ _ => id)
  have HE8 := Lib.hid (fun p hp => (HEACH.out p hp).only ho8 (fun _ _ => id))
  have HEQ := Lib.hid (fun p hp => (heachQ p hp).base HOD.out.size)
  have HSRC := Lib.hid hsrc
  have HOE := Lib.hid hoE
  have HOWN8 := Lib.hid hown8
  have HQ := Lib.hid hQ
  have HQL := Lib.hid hQl
  clear hsrc hoE hown8 hQ hQl
  clear ho8 hrow8 hownQ heachQ HPA
  go_wp2_with (at_builtin; refine Wait.mk ?_)
  refine Wait.go (wpList_append_src _ rfl (.tmp 52) (.tmp 55) 85 85 rfl w.heap.size 56 j0 _ 7 104 Tryd.underlying85 hj0 jz0 jz1 jz2 rfl _ P.length (P.flatMap cellsM) rfl ?own5 _ Q.length (Q.flatMap cellsM) rfl ?src5 ?m5 ?b5 ?base5 ?_)
  case own5 => exact HOWN8.out
  case src5 => exact HSRC.out
  case m5 => have := HPL.out; have := HQL.out; unfold maxLen; omega
  case b5 => have := HPL.out; have := HQL.out; omega
  case base5 => exact HOE.out.size
  intro v9 w9 own9 gr9 _
  have ho9 : Only (fun _ => False) w w9 := HOE.out.own HOWN8.out (Nat.le_refl _) gr9
  have hrow9 := msgRow_append HP.out HQ.out HOWN8.out HE8.out HEQ.out own9 gr9
  rw [← HANS.out] at hrow9
  have HO9 := Lib.hid ho9
  have HROW9 := Lib.hid hrow9
  clear ho9 hrow9
  clear gr9
  go_wp2_with fail
  go_ret
  exact ⟨_, rfl, HO9.out, HROW9.out⟩
end Go.Proofs.YtjdlcfllmpdffaaDoor
/-! digest.Give, digest.Take. -/
namespace Go.Proofs.YtjdlcfllmpdffaaDoor
open Go.Conc Go.RowKit Go.Maps

/-- What a store's Get answers. -/
def GetIs (w : World) (ps : Value) (L : List RecT) : Prop := ∀ w', Only (fun _ => False) w w' → ∀ k : ByteArray, k.size ≤ maxLen → Calls Tryd.prog 16 #[ps, .string k] w' fun e w2 => e = .returned (.tuple #[recT (findV L k), .bool (findS L k).isSome]) ∧ Only (fun _ => False) w' w2
theorem StoreAt.gets {w : World} {s b : Nat} {most ttl r : Int} {L : List RecT} (h : StoreAt w s b most ttl r L) : GetIs w (.pointer (some ⟨s, 0, none⟩)) L := fun w' ho k hk => sget_any w' s b most ttl r L (h.new ho) k hk
theorem gets_nil (w : World) : GetIs w (.pointer none) [] := fun w' _ k _ => sget_nil w' k
def i64V (n : Nat) : Value := .int .i64 n
theorem zeroI64 (w : World) : (zeroValue 3).run Tryd.prog w = .ok (i64V 0) w := by kernel_rfl
abbrev GMap (w : World) (b : Nat) (M : List (ByteArray × Nat)) : Prop := MapIs Tryd.prog 9 Value.string i64V w b M
def cntP (M : List (ByteArray × Nat)) (p : ByteArray × Nat) : List (ByteArray × Nat) := putL M p.1 ((lookL M p.1).getD 0 + 1)
def cntM (I : List (ByteArray × Nat)) : List (ByteArray × Nat) := I.foldl cntP []
theorem cnt_snoc (I : List (ByteArray × Nat)) (k : Nat) (hk : k < I.length) : cntM (I.take (k + 1)) = cntP (cntM (I.take k)) I[k] := by
  unfold cntM
  rw [List.take_add_one, List.getElem?_eq_getElem hk, List.foldl_append]
  rfl
theorem cnt_len (I : List (ByteArray × Nat)) : (cntM I).length ≤ I.length := by
  have h : ∀ (J M : List (ByteArray × Nat)), (J.foldl cntP M).length ≤ M.length + J.length := by
    intro J
    induction J with
    | nil => intro M; exact Nat.le_refl _
    | cons p J ih =>
      intro M
      have h1 := ih (cntP M p)
      have h2 := put_len M p.1 ((lookL M p.1).getD 0 + 1)
      rw [List.foldl_cons, List.length_cons]
      unfold cntP at h1 ⊢
      omega
  have h2 := h I []
  unfold cntM
  simpa using h2
def metB (I : List (ByteArray × Nat)) (k : ByteArray) : Bool := I.any (fun p => decide (p.1 = k))
theorem cnt_met (I : List (ByteArray × Nat)) (k : ByteArray) : (lookL (cntM I) k).getD 0 ≤ I.length ∧ (metB I k = false ↔ (lookL (cntM I) k).getD 0 = 0) := by
  have h : ∀ (J M : List (ByteArray × Nat)), (lookL (J.foldl cntP M) k).getD 0 ≤ (lookL M k).getD 0 + J.length ∧ ((lookL M k).getD 0 = 0 ∧ metB J k = false ↔ (lookL (J.foldl cntP M) k).getD 0 = 0) := by
    intro J
    induction J with
    | nil => intro M; exact ⟨Nat.le_refl _, by simp [metB]⟩
    | cons p J ih =>
      intro M
      obtain ⟨h1, h2⟩ := ih (cntP M p)
      have h3 : (lookL (cntP M p) k).getD 0 = (lookL M k).getD 0 + if p.1 = k then 1 else 0 := by
        unfold cntP
        by_cases hp : p.1 = k
        · rw [hp, lookL_put_same, if_pos rfl]; rfl
        · rw [lookL_put_other M (Ne.symm hp), if_neg hp]
          omega
      have h4 : metB (p :: J) k = (decide (p.1 = k) || metB J k) := rfl
      rw [h3] at h1 h2
      rw [List.foldl_cons, List.length_cons, ← h2, h4]
      by_cases hp : p.1 = k
      · simp only [hp, if_pos] at h1 ⊢
        exact ⟨by omega, by simp⟩
      · simp only [hp] at h1 ⊢
        exact ⟨by simp at h1 ⊢; omega, by simp⟩
  have h2 := h I []
  rw [show (lookL ([] : List (ByteArray × Nat)) k).getD 0 = 0 from rfl] at h2
  unfold cntM
  exact ⟨by have := h2.1; omega, by rw [← h2.2]; simp⟩
/-- The records of some ids' keys, each once. -/
def giveA (L : List RecT) : List ByteArray → List (ByteArray × Nat) → List RecT
  | _, [] => []
  | seen, p :: I => (if seen.any (fun k => decide (k = p.1)) then [] else (findS L p.1).toList) ++ giveA L (p.1 :: seen) I
def giveL (L : List RecT) (I : List (ByteArray × Nat)) : List RecT := giveA L [] I
theorem giveA_snoc (L : List RecT) (p : ByteArray × Nat) : ∀ (I : List (ByteArray × Nat)) (seen : List ByteArray), giveA L seen (I ++ [p]) = giveA L seen I ++ if (seen.any (fun k => decide (k = p.1)) || metB I p.1) then [] else (findS L p.1).toList
  | [], seen => by rw [show metB [] p.1 = false from rfl, Bool.or_false]; simp [giveA]
  | q :: I, seen => by
    rw [List.cons_append, giveA, giveA_snoc L p I (q.1 :: seen), giveA, List.append_assoc]
    congr 2
    have : metB (q :: I) p.1 = (decide (q.1 = p.1) || metB I p.1) := rfl
    rw [this, List.any_cons]
    simp only [Bool.or_assoc, Bool.or_left_comm]
theorem give_snoc (L : List RecT) (I : List (ByteArray × Nat)) (k : Nat) (hk : k < I.length) : giveL L (I.take (k + 1)) = giveL L (I.take k) ++ if metB (I.take k) I[k].1 then [] else (findS L I[k].1).toList := by
  unfold giveL
  rw [List.take_add_one, List.getElem?_eq_getElem hk]
  exact giveA_snoc L I[k] (I.take k) []
theorem give_mem (L : List RecT) : ∀ (I : List (ByteArray × Nat)) (seen : List ByteArray), (giveA L seen I).length ≤ I.length ∧ ∀ x ∈ giveA L seen I, x ∈ L
  | [], _ => ⟨Nat.le_refl _, fun _ h => by cases h⟩
  | p :: I, seen => by
    obtain ⟨h1, h2⟩ := give_mem L I (p.1 :: seen)
    have h3 : ∀ x ∈ (findS L p.1).toList, x ∈ L := fun x hx => by
      cases hf : findS L p.1 with
      | none => rw [hf] at hx; cases hx
      | some y =>
        rw [hf] at hx
        simp at hx
        rw [hx]
        exact (findS_some hf).1
    have h4 : (findS L p.1).toList.length ≤ 1 := by cases findS L p.1 <;> simp
    unfold giveA
    split
    · exact ⟨by simp; omega, fun x hx => h2 x (by simpa using hx)⟩
    · refine ⟨by rw [List.length_append, List.length_cons]; omega, fun x hx => ?_⟩
      rcases List.mem_append.1 hx with h | h
      · exact h3 x h
      · exact h2 x h
theorem give_look {w : World} {mb : Nat} {M : List (ByteArray × Nat)} {kx : ByteArray} {c : Nat} (h : GMap w mb (putL M kx (c + 1))) (hk : kx.size ≤ maxLen) : (Instr.lookup 159 (.map (some mb)) (.string kx) false).run Tryd.prog w = .ok (.int .i64 ((c : Int) + 1)) w := by
  have h1 := h.look strKeyed strInj Tryd.underlying159 (z := 0) (zeroI64 w) (strOk hk) false
  rw [lookL_put_same] at h1
  exact h1
set_option maxRecDepth 100000 in
set_option maxHeartbeats 4000000 in
theorem give_any (w : World) (ps : Value) (ttl kind : Int) (L : List RecT) (hT : TtlIs w ps ttl) (hG : GetIs w ps L) (hA : AgeOk L) (v : Value) (I : List (ByteArray × Nat)) (hv : Sl w 2 v I.length (I.flatMap idT)) (hI : I.length ≤ 1000000) (hk : ∀ p ∈ I, p.1.size ≤ maxLen) :
    Calls Tryd.prog 45 #[ps, .int .i64 kind, v] w fun e w' => ∃ v, e = .returned v ∧ Only (fun _ => False) w w' ∧ MsgRow w' w.heap.size v (packM kind (sentL ttl (giveL L I))) := by
  obtain ⟨i0, hi0, iz0, iz1, iz2⟩ := info_parts infoRec
  obtain ⟨ia, icap, rfl, k1, k2, hc⟩ := Sl.cells idT_length hv
  unfold maxLen at k2
  obtain ⟨W, hW⟩ : ∃ W, W = w.alloc (.map #[] 0) := ⟨_, rfl⟩
  have hoW : Only (fun _ => False) w W := by rw [hW]; exact (Only.refl _ _).alloc _
  have hm2 : GMap W w.heap.size [] := by rw [hW]; exact MapIs.made w
  have hsW : W.heap.size = w.heap.size + 1 := by rw [hW]; simp
  have hmm := @run_makeMap Tryd.prog
  have hbl : ∀ a u, w.cell? a = some u → a.block < w.heap.size := fun a u hu => World.block_lt_of_cell? _ _ hu
  have HT := Lib.hid hT
  have HG := Lib.hid hG
  have HA := Lib.hid hA
  have HC := Lib.hid hc
  have HK := Lib.hid hk
  have HM := Lib.hid hm2
  have HOW := Lib.hid hoW
  have HSW := Lib.hid hsW
  have HBL := Lib.hid hbl
  clear hT hG hA hc hk hm2 hoW hsW hbl
  clear hv
  go_enter Tryd.func45, Tryd.ntmps45
  go_upto_region 3 with (fail)
  rw [← hW]
  clear hW hmm
  generalize hmb : w.heap.size = mb at *
  have HMB := Lib.hid hmb
  clear hmb
  go_upto_block 0 with fail
  go_cut [7] (fun v7 wx => Only (fun i => i = mb) W wx ∧ RecRow wx W.heap.size v7 (giveL L I))
  case first =>
    go_wp2_with fail
    go_loopg [7, 16] I.length (fun g v7 v16 wr => ∃ k : Nat, v16 = .int .i64 k ∧ k ≤ I.length ∧ Only (fun i => i = mb) W wr ∧ GMap wr mb (cntM (I.take k)) ∧ RecRow wr W.heap.size v7 (giveL L (I.take k)) ∧ g = I.length - k)
    case atStart => exact ⟨0, rfl, Nat.zero_le _, Only.refl _ _, HM.out, World.ownsRow_nil _ _ _ _, rfl⟩
    case round =>
      obtain ⟨k, rfl, hk, ho, hmp, hrow, hg⟩ := hrel
      have Hg := Lib.hid hg
      have HO := Lib.hid ho
      have HMP := Lib.hid hmp
      have HROW := Lib.hid hrow
      clear hg ho hmp hrow
      by_cases hlt : k < I.length
      · -- round
        obtain ⟨lb, off, he, hcc⟩ := HC.out.at k hlt
        subst he
        have hoX : Only (fun _ => False) w wr := HOW.out.tr HO.out (fun i hi e => by have := HMB.out; omega)
        have hcr : ∀ i u, (idT I[k])[i]? = some u → wr.cell? ⟨lb, off + k * 2 + i, none⟩ = some u := fun i u hu => hoX.cell (hcc i u hu) id
        have HGS := Lib.hid (give_snoc L I k hlt)
        have HCS := Lib.hid (cnt_snoc I k hlt)
        obtain ⟨hcb, hcz⟩ := cnt_met (I.take k) I[k].1
        have hgl : (giveL L (I.take k)).length ≤ k := Nat.le_trans (give_mem L _ []).1 (List.length_take_le _ _)
        have hcl : (cntM (I.take k)).length ≤ k := Nat.le_trans (cnt_len _) (List.length_take_le _ _)
        have hkk := HK.out I[k] (List.getElem_mem hlt)
        have htk : (I.take k).length ≤ k := List.length_take_le _ _
        have hlt' : (k : Int) < (I.length : Int) := by omega
        generalize I[k] = p at *
        obtain ⟨kx, vx⟩ := p
        simp only at hkk hcb hcz
        unfold cntP at HCS
        simp only at HCS HGS
        have hGx := HG.out
        have y0 := hcr 0 _ rfl
        have y1 := hcr 1 _ rfl
        simp only [Nat.add_zero] at y0
        obtain ⟨W3, hW3⟩ : ∃ W3, W3 = wr.alloc (.cells #[.string kx, .int .u64 vx] 31) := ⟨_, rfl⟩
        have hbW3 : W3.heap[wr.heap.size]? = some (.cells #[.string kx, .int .u64 vx] 31 (0, 0)) := by rw [hW3]; exact heap_alloc_new wr _
        have hoW3 : Only (fun _ => False) wr W3 := by rw [hW3]; exact (Only.refl _ _).alloc _
        have hsW3 : W3.heap.size = wr.heap.size + 1 := by rw [hW3]; simp
        have hoY := hoX.trans hoW3
        have HGET := Lib.hid (hGx W3 hoY kx hkk)
        generalize hcv : (lookL (cntM (I.take k)) kx).getD 0 = c at *
        have hm3 := HMP.out.kept (hoW3.weaken (T := fun _ => False) (fun _ _ => id)) id
        have hrow3 := owns_only HROW.out hoW3 (fun _ _ => id)
        have hoB := HO.out.trans (hoW3.weaken (T := fun i => i = mb) (fun _ _ => False.elim))
        have hmr : mb < wr.heap.size := HMP.out.lt
        have hcB : c ≤ 1000000 := by omega
        generalize metB (I.take k) kx = met at *
        have HM3 := Lib.hid hm3
        have HROW3 := Lib.hid hrow3
        have HOB := Lib.hid hoB
        have HB3 := Lib.hid hbW3
        have HKK := Lib.hid hkk
        have HGL := Lib.hid hgl
        have HCL := Lib.hid hcl
        have HMR := Lib.hid hmr
        have HCV := Lib.hid hcv
        have HCZ := Lib.hid hcz
        clear hm3 hrow3 hoB hbW3 hkk hgl hcl hmr hcv hcz
        clear hcc hcr hoX hoY hoW3 hsW3 hGx htk hcb
        go_upto_region 6 with (fail)
        rw [← hW3]
        clear hW3 y0 y1
        have x0 : W3.cell? ⟨wr.heap.size, 0, none⟩ = some (.string kx) := cell_at HB3.out 0
        have x1 : W3.cell? ⟨wr.heap.size, 1, none⟩ = some (.int .u64 vx) := cell_at HB3.out 1
        unfold findV at HGET
        have hfm := fun y (h : findS L kx = some y) => (findS_some h).1
        generalize findS L kx = fo at *
        have HFM := Lib.hid hfm
        clear hfm
        cases fo with
        | none =>
          have HGET : Hid (Calls Tryd.prog 16 #[ps, .string kx] W3 fun e w2 => e = .returned (.tuple #[.agg #[.string ⟨#[]⟩, .int .u64 0, .int .i64 0, .int .i64 0, .bool false, .string ⟨#[]⟩], .bool false]) ∧ Only (fun _ => False) W3 w2) := HGET
          go_wp2_with fail
          refine HGET.out.mono ?_
          rintro e w4 ⟨rfl, ho4⟩
          have hb4 := ho4.old HB3.out id
          have hm4 := HM3.out.kept ho4 id
          have hrow4 := owns_only HROW3.out ho4 (fun _ _ => id)
          have hoC := HOB.out.trans (ho4.weaken (T := fun i => i = mb) (fun _ _ => False.elim))
          have hl4 : wr.heap.size < w4.heap.size := lt_of_block hb4
          have HB4 := Lib.hid hb4
          have HM4 := Lib.hid hm4
          have HROW4 := Lib.hid hrow4
          have HOC := Lib.hid hoC
          clear hb4 hm4 hrow4 hoC
          clear ho4 x0 x1 HGET
          obtain ⟨W5, hW5⟩ : ∃ W5, W5 = w4.alloc (.cells #[.string ⟨#[]⟩, .int .u64 0, .int .i64 0, .int .i64 0, .bool false, .string ⟨#[]⟩] 33) := ⟨_, rfl⟩
          have hbW5 : W5.heap[w4.heap.size]? = some (.cells #[.string ⟨#[]⟩, .int .u64 0, .int .i64 0, .int .i64 0, .bool false, .string ⟨#[]⟩] 33 (0, 0)) := by rw [hW5]; exact heap_alloc_new w4 _
          have hoW5 : Only (fun _ => False) w4 W5 := by rw [hW5]; exact (Only.refl _ _).alloc _
          have hsW5 : W5.heap.size = w4.heap.size + 1 := by rw [hW5]; simp
          have hm5 := HM4.out.kept hoW5 id
          have hlk := hm5.look strKeyed strInj Tryd.underlying159 (z := 0) (zeroI64 W5) (strOk HKK.out) false
          rw [HCV.out] at hlk
          have hlk2 : (Instr.lookup 159 (.map (some mb)) (.string kx) false).run Tryd.prog W5 = .ok (.int .i64 c) W5 := hlk
          have hwr : IntKind.i64.wrap ((c : Int) + 1) = (c : Int) + 1 := IntWalk.i64_in _ (by omega)
          have hb5 := hoW5.old HB4.out id
          have hrow5 := owns_only HROW4.out hoW5 (fun _ _ => id)
          have hoD := HOC.out.trans (hoW5.weaken (T := fun i => i = mb) (fun _ _ => False.elim))
          have x0 : W5.cell? ⟨wr.heap.size, 0, none⟩ = some (.string kx) := cell_at hb5 0
          have hml5 := hm5.lt
          have HM5 := Lib.hid hm5
          have HB5 := Lib.hid hb5
          have HBR := Lib.hid hbW5
          have HROW5 := Lib.hid hrow5
          have HOD := Lib.hid hoD
          have HML5 := Lib.hid hml5
          clear hm5 hb5 hbW5 hrow5 hoD hml5
          clear hlk hoW5 hsW5
          go_upto_region 7 with (fail)
          rw [← hW5]
          clear hW5
          go_wp2_with (first | (at_mapUpdate; refine wpList_mapStore rfl _ _ _ _ rfl HM5.out strKeyed strInj Tryd.underlying159 (by have := HCL.out; unfold maxLen; omega) rfl rfl (strOk HKK.out) (u := c + 1) rfl ?_; intro w6 hm6 ho6; have HM6 := Lib.hid hm6; have HO6 := Lib.hid ho6; clear hm6 ho6))
          have hoE := HOD.out.trans HO6.out
          have hrow6 := owns_only HROW5.out HO6.out (fun i hi e => by have := HSW.out; have := HMB.out; omega)
          have HOE := Lib.hid hoE
          have HROW6 := Lib.hid hrow6
          clear hoE hrow6
          clear x0 hlk2 hwr
          go_roundg (I.length - (k + 1))
          case measure => rw [Hg.out]; omega
          case rel =>
            refine ⟨k + 1, by go_num, by omega, HOE.out, ?_, ?_, rfl⟩
            · rw [HCS.out]; exact HM6.out
            · rw [HGS.out]
              cases met <;> simpa using HROW6.out
        | some y =>
          obtain ⟨k1, v1, o1, a1, g1, d1⟩ := y
          have HGET : Hid (Calls Tryd.prog 16 #[ps, .string kx] W3 fun e w2 => e = .returned (.tuple #[.agg #[.string k1, .int .u64 v1, .int .i64 o1, .int .i64 a1, .bool g1, .string d1], .bool true]) ∧ Only (fun _ => False) W3 w2) := HGET
          go_wp2_with fail
          refine HGET.out.mono ?_
          rintro e w4 ⟨rfl, ho4⟩
          have hb4 := ho4.old HB3.out id
          have hm4 := HM3.out.kept ho4 id
          have hrow4 := owns_only HROW3.out ho4 (fun _ _ => id)
          have hoC := HOB.out.trans (ho4.weaken (T := fun i => i = mb) (fun _ _ => False.elim))
          have hl4 : wr.heap.size < w4.heap.size := lt_of_block hb4
          have HB4 := Lib.hid hb4
          have HM4 := Lib.hid hm4
          have HROW4 := Lib.hid hrow4
          have HOC := Lib.hid hoC
          clear hb4 hm4 hrow4 hoC
          clear ho4 x0 x1 HGET
          obtain ⟨W5, hW5⟩ : ∃ W5, W5 = w4.alloc (.cells #[.string k1, .int .u64 v1, .int .i64 o1, .int .i64 a1, .bool g1, .string d1] 33) := ⟨_, rfl⟩
          have hbW5 : W5.heap[w4.heap.size]? = some (.cells #[.string k1, .int .u64 v1, .int .i64 o1, .int .i64 a1, .bool g1, .string d1] 33 (0, 0)) := by rw [hW5]; exact heap_alloc_new w4 _
          have hoW5 : Only (fun _ => False) w4 W5 := by rw [hW5]; exact (Only.refl _ _).alloc _
          have hsW5 : W5.heap.size = w4.heap.size + 1 := by rw [hW5]; simp
          have hm5 := HM4.out.kept hoW5 id
          have hlk := hm5.look strKeyed strInj Tryd.underlying159 (z := 0) (zeroI64 W5) (strOk HKK.out) false
          rw [HCV.out] at hlk
          have hlk2 : (Instr.lookup 159 (.map (some mb)) (.string kx) false).run Tryd.prog W5 = .ok (.int .i64 c) W5 := hlk
          have hwr : IntKind.i64.wrap ((c : Int) + 1) = (c : Int) + 1 := IntWalk.i64_in _ (by omega)
          have hb5 := hoW5.old HB4.out id
          have hrow5 := owns_only HROW4.out hoW5 (fun _ _ => id)
          have hoD := HOC.out.trans (hoW5.weaken (T := fun i => i = mb) (fun _ _ => False.elim))
          have x0 : W5.cell? ⟨wr.heap.size, 0, none⟩ = some (.string kx) := cell_at hb5 0
          have hml5 := hm5.lt
          have HM5 := Lib.hid hm5
          have HB5 := Lib.hid hb5
          have HBR := Lib.hid hbW5
          have HROW5 := Lib.hid hrow5
          have HOD := Lib.hid hoD
          have HML5 := Lib.hid hml5
          clear hm5 hb5 hbW5 hrow5 hoD hml5
          clear hlk hoW5 hsW5
          go_upto_region 7 with (fail)
          rw [← hW5]
          clear hW5
          have hl5 : mb < w4.heap.size := by have := HMR.out; omega
          have HL5 := Lib.hid hl5
          clear hl5
          by_cases hc0 : c = 0
          · -- yes
            have HMET := Lib.hid (HCZ.out.2 hc0)
            have h1c : ((c : Int) + 1 == 1) = true := by rw [hc0]; rfl
            have HC0 := Lib.hid hc0
            clear hc0
            go_wp2_with (first | (at_mapUpdate; refine wpList_mapStore rfl _ _ _ _ rfl HM5.out strKeyed strInj Tryd.underlying159 (by have := HCL.out; unfold maxLen; omega) rfl rfl (strOk HKK.out) (u := c + 1) rfl ?_; intro w6 hm6 ho6; have hlk6 : (Instr.lookup 159 (.map (some mb)) (.string kx) false).run Tryd.prog w6 = .ok (.int .i64 ((c : Int) + 1)) w6 := give_look hm6 HKK.out; have hb6 := ho6.old HB5.out (by have := HMR.out; omega); have hbr6 := ho6.old HBR.out (by have := HL5.out; omega); have z0 : w6.cell? ⟨wr.heap.size, 0, none⟩ = some (.string kx) := cell_at hb6 0; have q0 : w6.cell? ⟨w4.heap.size, 0, none⟩ = some (.string k1) := cell_at hbr6 0; have q1 : w6.cell? ⟨w4.heap.size, 1, none⟩ = some (.int .u64 v1) := cell_at hbr6 1; have q2 : w6.cell? ⟨w4.heap.size, 2, none⟩ = some (.int .i64 o1) := cell_at hbr6 2; have q3 : w6.cell? ⟨w4.heap.size, 3, none⟩ = some (.int .i64 a1) := cell_at hbr6 3; have q4 : w6.cell? ⟨w4.heap.size, 4, none⟩ = some (.bool g1) := cell_at hbr6 4; have q5 : w6.cell? ⟨w4.heap.size, 5, none⟩ = some (.string d1) := cell_at hbr6 5; have HM6 := Lib.hid hm6; have HO6 := Lib.hid ho6; have HBR6 := Lib.hid hbr6; clear hm6 ho6 hb6 hbr6) | (at_builtin; refine Wait.mk ?_))
            have hoE := HOD.out.trans HO6.out
            have hrow6 := owns_only HROW5.out HO6.out (fun i hi e => by have := HSW.out; have := HMB.out; omega)
            have HOE := Lib.hid hoE
            have HROW6 := Lib.hid hrow6
            clear hoE hrow6
            clear x0 hlk2 hwr h1c
            refine Wait.go (wpList_append_src _ rfl (.tmp 40) (.tmp 42) 28 28 rfl W.heap.size 33 i0 _ 6 64 Tryd.underlying28 hi0 iz0 iz1 iz2 rfl _ (giveL L (I.take k)).length ((giveL L (I.take k)).flatMap recC) rfl (HROW6.out.alloc _) _ 1 (recC ⟨k1, v1, o1, a1, g1, d1⟩) rfl ?src4 ?m4 ?b4 ?base4 ?_)
            case src4 => exact Src.ofSlice _ Tryd.underlying28 _ _ _ _ rfl (news_new _ _ _) (recC_one _)
            case m4 => have := HGL.out; unfold maxLen; omega
            case b4 => have := HGL.out; omega
            case base4 => have := HOE.out.size; simp; omega
            intro v4 w7 own4 gr4 _
            have hmB : ∀ i, some i = u7.ownBlock → i ≠ mb := fun i hi e => by have h1 := HROW6.out.lt i hi.symm; have := HSW.out; have := HMB.out; omega
            have ho7 : Only (fun i => i = mb) W w7 := (HOE.out.alloc _).own (HROW6.out.alloc _) (Nat.le_refl _) gr4
            have hm7 : GMap w7 mb (putL (cntM (I.take k)) kx (c + 1)) := by
              refine HM6.out.at ?_
              have hlt5 := HM6.out.lt
              have gr5 : (w6.alloc (.cells #[.string k1, .int .u64 v1, .int .i64 o1, .int .i64 a1, .bool g1, .string d1] 33)).grownBy w7 u7.ownBlock := gr4
              exact (gr5.block mb (by simp; omega) (fun e => hmB mb e rfl)).trans (Below.heap_alloc _ _ _ hlt5)
            have HO7 := Lib.hid ho7
            have HW7 := Lib.hid own4
            have HM7 := Lib.hid hm7
            clear ho7 own4 hm7
            clear gr4 z0 q0 q1 q2 q3 q4 q5 hmB hlk6
            go_wp2_with fail
            go_roundg (I.length - (k + 1))
            case measure => rw [Hg.out]; omega
            case rel =>
              refine ⟨k + 1, by go_num, by omega, HO7.out, ?_, ?_, rfl⟩
              · rw [HCS.out]; exact HM7.out
              · unfold RecRow
                rw [HGS.out, HMET.out, if_neg (by decide)]
                have e1 : (some (RecT.mk k1 v1 o1 a1 g1 d1)).toList = [⟨k1, v1, o1, a1, g1, d1⟩] := rfl
                rw [e1, List.length_append, List.flatMap_append, List.flatMap_singleton]
                exact HW7.out
          · -- no
            have HMET := Lib.hid (show met = true by have h9 := HCZ.out; cases met; exact absurd (h9.1 rfl) hc0; rfl)
            go_wp2_with (first | (at_mapUpdate; refine wpList_mapStore rfl _ _ _ _ rfl HM5.out strKeyed strInj Tryd.underlying159 (by have := HCL.out; unfold maxLen; omega) rfl rfl (strOk HKK.out) (u := c + 1) rfl ?_; intro w6 hm6 ho6; have hlk6 : (Instr.lookup 159 (.map (some mb)) (.string kx) false).run Tryd.prog w6 = .ok (.int .i64 ((c : Int) + 1)) w6 := give_look hm6 HKK.out; have hb6 := ho6.old HB5.out (by have := HMR.out; omega); have z0 : w6.cell? ⟨wr.heap.size, 0, none⟩ = some (.string kx) := cell_at hb6 0; have HM6 := Lib.hid hm6; have HO6 := Lib.hid ho6; clear hm6 ho6 hb6))
            have hoE := HOD.out.trans HO6.out
            have hrow6 := owns_only HROW5.out HO6.out (fun i hi e => by have := HSW.out; have := HMB.out; omega)
            have HOE := Lib.hid hoE
            have HROW6 := Lib.hid hrow6
            clear hoE hrow6
            clear x0 hlk2 hwr
            go_roundg (I.length - (k + 1))
            case measure => rw [Hg.out]; omega
            case rel =>
              refine ⟨k + 1, by go_num, by omega, HOE.out, ?_, ?_, rfl⟩
              · rw [HCS.out]; exact HM6.out
              · rw [HGS.out, HMET.out, if_pos rfl, List.append_nil]; exact HROW6.out
      · have hke : k = I.length := by omega
        have hlt' : ¬ (k : Int) < (I.length : Int) := by omega
        have hW := HROW.out
        rw [hke, List.take_length] at hW
        have HW2 := Lib.hid hW
        clear hW
        clear hke
        go_wp2_with fail
        go_meet
        exact ⟨HO.out, HW2.out⟩
  case rest =>
  obtain ⟨ho, hrow⟩ := hcut
  have hoX : Only (fun _ => False) w wc := HOW.out.tr ho (fun i hi e => by have := HMB.out; omega)
  obtain ⟨g1, g2⟩ := give_mem L I []
  have hao : AgeOk (giveL L I) := fun x hx => HA.out x (g2 x hx)
  have hgl : (giveL L I).length ≤ 1000000 := Nat.le_trans g1 hI
  have HPA := Lib.hid (pack_any wc ps ttl kind u7 (giveL L I) (HT.out.new hoX) (Sl.of_owns hrow) hgl hao)
  generalize hNL : giveL L I = NL at *
  obtain ⟨na, ncap, rfl, _⟩ := Sl.cells recC_length (Sl.of_owns hrow)
  have HOX := Lib.hid hoX
  clear hoX
  clear hrow ho HG HA g1 g2 hao
  go_wp2_with fail
  refine HPA.out.mono ?_
  rintro e w8 ⟨v8, rfl, ho8, hrow8⟩
  have hrow9 := hrow8.base HOX.out.size
  have ho9 := HOX.out.trans ho8
  obtain ⟨Q, _, hownQ, _⟩ := hrow8.out
  obtain ⟨qa, qcap, rfl, _⟩ := Sl.cells cellsM_length (Sl.of_owns hownQ)
  rw [← hNL] at hrow9
  have HROW9 := Lib.hid hrow9
  have HO9 := Lib.hid ho9
  have HNL := Lib.hid hNL
  clear hrow9 ho9 hNL
  clear hrow8 ho8 hownQ
  go_wp2_with fail
  go_ret
  exact ⟨_, rfl, HO9.out, HROW9.out⟩
end Go.Proofs.YtjdlcfllmpdffaaDoor
/-! digest.Take. -/
namespace Go.Proofs.YtjdlcfllmpdffaaDoor
open Go.Conc Go.RowKit Go.Maps

/-- A store that was told some records, and which of them were new. -/
def takeS (most ttl : Int) (L l : List RecT) : List RecT := l.foldl (putS most ttl) L
def takeO (most ttl : Int) : List RecT → List RecT → List RecT
  | _, [] => []
  | L, x :: l => (if putE most ttl L x = 0 then [x] else []) ++ takeO most ttl (putS most ttl L x) l
theorem takeO_snoc (most ttl : Int) (x : RecT) : ∀ (l L : List RecT), takeO most ttl L (l ++ [x]) = takeO most ttl L l ++ if putE most ttl (takeS most ttl L l) x = 0 then [x] else []
  | [], L => by
    show (if putE most ttl L x = 0 then [x] else []) ++ [] = [] ++ _
    rw [List.append_nil, List.nil_append]
    rfl
  | y :: l, L => by
    rw [List.cons_append, takeO, takeO_snoc most ttl x l, takeO, List.append_assoc]
    rfl
theorem take_snoc (most ttl : Int) (L l : List RecT) (k : Nat) (hk : k < l.length) : takeS most ttl L (l.take (k + 1)) = putS most ttl (takeS most ttl L (l.take k)) l[k] ∧
    takeO most ttl L (l.take (k + 1)) = takeO most ttl L (l.take k) ++ if putE most ttl (takeS most ttl L (l.take k)) l[k] = 0 then [l[k]] else [] := by
  rw [List.take_add_one, List.getElem?_eq_getElem hk]
  refine ⟨?_, takeO_snoc most ttl l[k] (l.take k) L⟩
  unfold takeS
  rw [List.foldl_append]
  rfl
theorem takeO_len (most ttl : Int) : ∀ (l L : List RecT), (takeO most ttl L l).length ≤ l.length
  | [], _ => Nat.le_refl _
  | x :: l, L => by
    have h := takeO_len most ttl l (putS most ttl L x)
    unfold takeO
    rw [List.length_append, List.length_cons]
    split <;> simp <;> omega
theorem putR_range (most ttl : Int) (L : List RecT) (x : RecT) (r : Int) : r ≤ putR most ttl L x r ∧ putR most ttl L x r ≤ r + 1 := by
  unfold putR
  split <;> omega
set_option maxRecDepth 100000 in
theorem take_nil (w : World) (v : Value) (l : List RecT) (h : RSl w v l) :
    Calls Tryd.prog 49 #[.pointer none, v] w fun e w' => e = .returned (.slice none 0 0) ∧ Only (fun _ => False) w w' := by
  obtain ⟨a, cap, rfl, h1, h2, h3⟩ := Sl.cells recC_length h
  unfold maxLen at h2
  have HPN := Lib.hid (fun w x => sput_nil w x)
  have HC := Lib.hid h3
  clear h3
  clear h
  go_enter Tryd.func49, Tryd.ntmps49
  go_wp2_with fail
  go_loopg [5, 10] l.length (fun g v5 v10 wr => ∃ k : Nat, v5 = .slice none 0 0 ∧ v10 = .int .i64 k ∧ k ≤ l.length ∧ Only (fun _ => False) w wr ∧ g = l.length - k)
  case atStart => exact ⟨0, rfl, rfl, Nat.zero_le _, Only.refl _ _, rfl⟩
  case round =>
    obtain ⟨k, rfl, rfl, hk, ho, hg⟩ := hrel
    have Hg := Lib.hid hg
    have HO := Lib.hid ho
    clear hg ho
    by_cases hlt : k < l.length
    · obtain ⟨lb, off, he, hc⟩ := HC.out.at k hlt
      subst he
      have hcr : ∀ i u, (recC l[k])[i]? = some u → _ := fun i u hu => HO.out.cell (hc i u hu) id
      have hlt' : (k : Int) < (l.length : Int) := by omega
      have HPX := Lib.hid (fun w => HPN.out w l[k])
      generalize l[k] = x at *
      obtain ⟨k1, v1, o1, a1, g1, d1⟩ := x
      unfold recT at HPX
      simp only at HPX
      have y0 := hcr 0 _ rfl
      have y1 := hcr 1 _ rfl
      have y2 := hcr 2 _ rfl
      have y3 := hcr 3 _ rfl
      have y4 := hcr 4 _ rfl
      have y5 := hcr 5 _ rfl
      simp only [Nat.add_zero] at y0
      clear hc hcr
      obtain ⟨W, hW⟩ : ∃ W, W = wr.alloc (.cells #[.string k1, .int .u64 v1, .int .i64 o1, .int .i64 a1, .bool g1, .string d1] 33) := ⟨_, rfl⟩
      have hbW : W.heap[wr.heap.size]? = some (.cells #[.string k1, .int .u64 v1, .int .i64 o1, .int .i64 a1, .bool g1, .string d1] 33 (0, 0)) := by rw [hW]; exact heap_alloc_new wr _
      have hoW : Only (fun _ => False) wr W := by rw [hW]; exact (Only.refl _ _).alloc _
      have hsW : W.heap.size = wr.heap.size + 1 := by rw [hW]; simp
      have hoA := HO.out.trans hoW
      have HOA := Lib.hid hoA
      clear hoA
      go_upto_region 5 with (fail)
      rw [← hW]
      clear hW y0 y1 y2 y3 y4 y5 hoW
      have x0 : W.cell? ⟨wr.heap.size, 0, none⟩ = some (.string k1) := cell_at hbW 0
      have x1 : W.cell? ⟨wr.heap.size, 1, none⟩ = some (.int .u64 v1) := cell_at hbW 1
      have x2 : W.cell? ⟨wr.heap.size, 2, none⟩ = some (.int .i64 o1) := cell_at hbW 2
      have x3 : W.cell? ⟨wr.heap.size, 3, none⟩ = some (.int .i64 a1) := cell_at hbW 3
      have x4 : W.cell? ⟨wr.heap.size, 4, none⟩ = some (.bool g1) := cell_at hbW 4
      have x5 : W.cell? ⟨wr.heap.size, 5, none⟩ = some (.string d1) := cell_at hbW 5
      clear hbW hsW
      go_wp2_with fail
      refine (HPX.out W).mono ?_
      rintro e w2 ⟨rfl, ho2⟩
      have hoB := HOA.out.trans ho2
      have HOB := Lib.hid hoB
      clear hoB
      clear x0 x1 x2 x3 x4 x5 HPX ho2
      go_wp2_with fail
      go_roundg (l.length - (k + 1))
      case measure => rw [Hg.out]; omega
      case rel => exact ⟨k + 1, rfl, by go_num, by omega, HOB.out, rfl⟩
    · have hlt' : ¬ (k : Int) < (l.length : Int) := by omega
      go_wp2_with fail
      go_ret
      exact ⟨rfl, HO.out⟩
set_option maxRecDepth 100000 in
set_option maxHeartbeats 4000000 in
theorem take_any (w : World) (s b : Nat) (most ttl r : Int) (L : List RecT) (h : StoreAt w s b most ttl r L) (m : Int) (hm : w.cell? ⟨0, 0, none⟩ = some (.int .i64 m)) (hm0 : s ≠ 0 ∧ b ≠ 0) (v : Value) (l : List RecT) (hv : RSl w v l) (hb : RecBlk w v) (hl : l.length ≤ 1000) (hx : ∀ x ∈ l, x.ver < 2 ^ 64 ∧ x.key.size ≤ 1000000) (hr0 : 0 ≤ r) (hr : r < 900000) :
    Calls Tryd.prog 49 #[.pointer (some ⟨s, 0, none⟩), v] w fun e w' => ∃ v', e = .returned v' ∧ Only (fun i => i = s ∨ i = b) w w' ∧ RecRow w' w.heap.size v' (takeO most ttl L l) ∧ ∃ r', r ≤ r' ∧ r' ≤ r + l.length ∧ StoreAt w' s b most ttl r' (takeS most ttl L l) := by
  obtain ⟨i0, hi0, iz0, iz1, iz2⟩ := info_parts infoRec
  obtain ⟨a, cap, rfl, h1, h2, h3⟩ := Sl.cells recC_length hv
  unfold maxLen at h2
  have hne : ∀ g off, a = some ⟨g, off, none⟩ → ¬ (g = s ∨ g = b) := fun g off e => by
    subst e
    obtain ⟨cs, hc⟩ := hb.out g rfl
    rintro (e | e)
    · subst e
      have h9 := h.blk
      rw [hc] at h9
      injection h9 with h9
      injection h9 with _ h9 _
      exact absurd h9 (by decide)
    · subst e
      obtain ⟨es, c, h9, _⟩ := h.map.own
      rw [hc] at h9
      cases h9
  have hsb := h.lt
  have HC := Lib.hid h3
  have HX := Lib.hid hx
  have HNE := Lib.hid hne
  have HH := Lib.hid h
  have HM := Lib.hid hm
  have HM0 := Lib.hid hm0
  have HSB := Lib.hid hsb
  clear h3 hx hne h hm hm0 hsb
  clear hv hb
  go_enter Tryd.func49, Tryd.ntmps49
  go_wp2_with fail
  go_loopg [5, 10] l.length (fun g v5 v10 wr => ∃ (k : Nat) (r' : Int), v10 = .int .i64 k ∧ k ≤ l.length ∧ Only (fun i => i = s ∨ i = b) w wr ∧ RecRow wr w.heap.size v5 (takeO most ttl L (l.take k)) ∧ r ≤ r' ∧ r' ≤ r + k ∧ StoreAt wr s b most ttl r' (takeS most ttl L (l.take k)) ∧ g = l.length - k)
  case atStart => exact ⟨0, r, rfl, Nat.zero_le _, Only.refl _ _, World.ownsRow_nil _ _ _ _, Int.le_refl _, by simp, HH.out, rfl⟩
  case round =>
    obtain ⟨k, r', rfl, hk, ho, hrow, hr1, hr2, hst, hg⟩ := hrel
    have Hg := Lib.hid hg
    have HO := Lib.hid ho
    have HROW := Lib.hid hrow
    have HST := Lib.hid hst
    clear hg ho hrow hst
    by_cases hlt : k < l.length
    · obtain ⟨lb, off, he, hc⟩ := HC.out.at k hlt
      have hnb := HNE.out lb _ he
      subst he
      have hcr : ∀ i u, (recC l[k])[i]? = some u → wr.cell? ⟨lb, off + k * 6 + i, none⟩ = some u := fun i u hu => HO.out.cell (hc i u hu) hnb
      have hlt' : (k : Int) < (l.length : Int) := by omega
      obtain ⟨ht1, ht2⟩ := take_snoc most ttl L l k hlt
      have hol : (takeO most ttl L (l.take k)).length ≤ k := Nat.le_trans (takeO_len _ _ _ _) (List.length_take_le _ _)
      obtain ⟨hx1, hx2⟩ := HX.out l[k] (List.getElem_mem hlt)
      generalize takeS most ttl L (l.take k) = D at *
      generalize l[k] = x at *
      have hrr := putR_range most ttl D x r'
      have HPX := Lib.hid (fun w hh hm => sput_any w s b most ttl r' D hh x m hm hx1 hx2 (by omega) (by omega))
      unfold SPut at HPX
      generalize putE most ttl D x = E at *
      generalize putR most ttl D x r' = r2 at *
      generalize putS most ttl D x = D2 at *
      obtain ⟨k1, v1, o1, a1, g1, d1⟩ := x
      unfold recT at HPX
      simp only at HPX
      have y0 := hcr 0 _ rfl
      have y1 := hcr 1 _ rfl
      have y2 := hcr 2 _ rfl
      have y3 := hcr 3 _ rfl
      have y4 := hcr 4 _ rfl
      have y5 := hcr 5 _ rfl
      simp only [Nat.add_zero] at y0
      have HT1 := Lib.hid ht1
      have HT2 := Lib.hid ht2
      have HOL := Lib.hid hol
      have HRR := Lib.hid hrr
      clear ht1 ht2 hol hrr
      clear hc hcr hx1 hx2 hnb
      obtain ⟨W, hW⟩ : ∃ W, W = wr.alloc (.cells #[.string k1, .int .u64 v1, .int .i64 o1, .int .i64 a1, .bool g1, .string d1] 33) := ⟨_, rfl⟩
      have hbW : W.heap[wr.heap.size]? = some (.cells #[.string k1, .int .u64 v1, .int .i64 o1, .int .i64 a1, .bool g1, .string d1] 33 (0, 0)) := by rw [hW]; exact heap_alloc_new wr _
      have hoW : Only (fun _ => False) wr W := by rw [hW]; exact (Only.refl _ _).alloc _
      have hsW : W.heap.size = wr.heap.size + 1 := by rw [hW]; simp
      have hoA := HO.out.trans (hoW.weaken (T := fun i => i = s ∨ i = b) (fun _ _ => False.elim))
      have hst2 := HST.out.new hoW
      have hm2 := hoA.cell HM.out (by have := HM0.out; intro e; rcases e with e | e <;> (simp only at e; omega))
      have hrow2 := owns_only HROW.out hoW (fun _ _ => id)
      have HPY := Lib.hid (HPX.out W hst2 hm2)
      have hbl : s < wr.heap.size ∧ b < wr.heap.size := HST.out.lt
      have HOA := Lib.hid hoA
      have HBW := Lib.hid hbW
      have HROW2 := Lib.hid hrow2
      have HBL := Lib.hid hbl
      clear hoA hbW hrow2 hbl
      clear hst2 hm2 HPX
      go_upto_region 5 with (fail)
      rw [← hW]
      clear hW y0 y1 y2 y3 y4 y5 hoW
      have x0 : W.cell? ⟨wr.heap.size, 0, none⟩ = some (.string k1) := cell_at HBW.out 0
      have x1 : W.cell? ⟨wr.heap.size, 1, none⟩ = some (.int .u64 v1) := cell_at HBW.out 1
      have x2 : W.cell? ⟨wr.heap.size, 2, none⟩ = some (.int .i64 o1) := cell_at HBW.out 2
      have x3 : W.cell? ⟨wr.heap.size, 3, none⟩ = some (.int .i64 a1) := cell_at HBW.out 3
      have x4 : W.cell? ⟨wr.heap.size, 4, none⟩ = some (.bool g1) := cell_at HBW.out 4
      have x5 : W.cell? ⟨wr.heap.size, 5, none⟩ = some (.string d1) := cell_at HBW.out 5
      clear hsW
      go_wp2_with fail
      refine HPY.out.mono ?_
      rintro e w2 ⟨rfl, ho2, hst3⟩
      have hoB := HOA.out.trans ho2
      have hb2 := ho2.old HBW.out (by have := HBL.out; omega)
      have hrow3 := owns_only HROW2.out ho2 (fun i hi e => by have := HSB.out; omega)
      clear x0 x1 x2 x3 x4 x5 HPY ho2
      have HOB := Lib.hid hoB
      have HST3 := Lib.hid hst3
      have HROW3 := Lib.hid hrow3
      have HB2 := Lib.hid hb2
      clear hoB hst3 hrow3 hb2
      by_cases hE : E = 0
      · have hEb : (E == 0) = true := by simpa using hE
        have HEE := Lib.hid hE
        clear hE
        have x0 : w2.cell? ⟨wr.heap.size, 0, none⟩ = some (.string k1) := cell_at HB2.out 0
        have x1 : w2.cell? ⟨wr.heap.size, 1, none⟩ = some (.int .u64 v1) := cell_at HB2.out 1
        have x2 : w2.cell? ⟨wr.heap.size, 2, none⟩ = some (.int .i64 o1) := cell_at HB2.out 2
        have x3 : w2.cell? ⟨wr.heap.size, 3, none⟩ = some (.int .i64 a1) := cell_at HB2.out 3
        have x4 : w2.cell? ⟨wr.heap.size, 4, none⟩ = some (.bool g1) := cell_at HB2.out 4
        have x5 : w2.cell? ⟨wr.heap.size, 5, none⟩ = some (.string d1) := cell_at HB2.out 5
        go_wp2_with (at_builtin; refine Wait.mk ?_)
        refine Wait.go (wpList_append_src _ rfl (.tmp 18) (.tmp 20) 28 28 rfl w.heap.size 33 i0 _ 6 64 Tryd.underlying28 hi0 iz0 iz1 iz2 rfl _ (takeO most ttl L (l.take k)).length ((takeO most ttl L (l.take k)).flatMap recC) rfl (HROW3.out.alloc _) _ 1 (recC ⟨k1, v1, o1, a1, g1, d1⟩) rfl ?src4 ?m4 ?b4 ?base4 ?_)
        case src4 => exact Src.ofSlice _ Tryd.underlying28 _ _ _ _ rfl (news_new _ _ _) (recC_one _)
        case m4 => have := HOL.out; unfold maxLen; omega
        case b4 => have := HOL.out; omega
        case base4 => have := HOB.out.size; simp; omega
        intro v4 w5 own4 gr4 _
        have ho5 : Only (fun i => i = s ∨ i = b) w w5 := (HOB.out.alloc _).own (HROW3.out.alloc _) (Nat.le_refl _) gr4
        have hst5 : StoreAt w5 s b most ttl r2 D2 := by
          have gr5 : (w2.alloc (.cells #[.string k1, .int .u64 v1, .int .i64 o1, .int .i64 a1, .bool g1, .string d1] 33)).grownBy w5 u5.ownBlock := gr4
          have hq : ∀ i, i < w.heap.size → w5.heap[i]? = w2.heap[i]? := fun i hi => by
            have h8 : i < w2.heap.size := Nat.lt_of_lt_of_le hi HOB.out.size
            exact (gr5.block i (by simp; omega) (fun e => by have := (HROW3.out.lt i e.symm).1; omega)).trans (Below.heap_alloc _ _ _ h8)
          have h9 := HST3.out
          exact ⟨(hq s HSB.out.1).trans h9.blk, h9.map.at (hq b HSB.out.2), h9.ok⟩
        have hr3 : r ≤ r2 ∧ r2 ≤ r + ((k + 1 : Nat) : Int) := by have := HRR.out; omega
        have HO5 := Lib.hid ho5
        have HW5 := Lib.hid own4
        have HST5 := Lib.hid hst5
        have HR3 := Lib.hid hr3
        clear ho5 own4 hst5 hr3
        clear gr4 x0 x1 x2 x3 x4 x5
        go_wp2_with fail
        go_roundg (l.length - (k + 1))
        case measure => rw [Hg.out]; omega
        case rel =>
          refine ⟨k + 1, r2, by go_num, by omega, HO5.out, ?_, HR3.out.1, HR3.out.2, ?_, rfl⟩
          · unfold RecRow
            rw [HT2.out, if_pos HEE.out, List.length_append, List.flatMap_append, List.flatMap_singleton]
            exact HW5.out
          · rw [HT1.out]; exact HST5.out
      · have hEb : (E == 0) = false := by simpa using hE
        have hr3 : r ≤ r2 ∧ r2 ≤ r + ((k + 1 : Nat) : Int) := by have := HRR.out; omega
        have HEE := Lib.hid hE
        have HR3 := Lib.hid hr3
        clear hE hr3
        go_wp2_with fail
        go_roundg (l.length - (k + 1))
        case measure => rw [Hg.out]; omega
        case rel =>
          refine ⟨k + 1, r2, by go_num, by omega, HOB.out, ?_, HR3.out.1, HR3.out.2, ?_, rfl⟩
          · rw [HT2.out, if_neg HEE.out, List.append_nil]; exact HROW3.out
          · rw [HT1.out]; exact HST3.out
    · have hke : k = l.length := by omega
      have hlt' : ¬ (k : Int) < (l.length : Int) := by omega
      have hW := HROW.out
      have hS := HST.out
      rw [hke, List.take_length] at hW hS
      have hr3 : r' ≤ r + l.length := by omega
      have HW2 := Lib.hid hW
      have HS2 := Lib.hid hS
      have HR3 := Lib.hid hr3
      have HR1 := Lib.hid hr1
      clear hW hS hr3 hr1
      clear hke hr2
      go_wp2_with fail
      go_ret
      exact ⟨_, rfl, HO.out, HW2.out, r', HR1.out, HR3.out, HS2.out⟩
end Go.Proofs.YtjdlcfllmpdffaaDoor
