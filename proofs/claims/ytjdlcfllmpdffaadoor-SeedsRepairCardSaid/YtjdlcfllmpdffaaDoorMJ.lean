/- Appends in regions: what is kept beside the row that is appended to. -/
import Derived.Test.YtjdlcfllmpdffaaDoorMI
import Derived.Test.YtjdlcfllmpdffaaDoorMA
/-! SeedsTake, plainly: the records that came in. -/
namespace Go.Proofs.YtjdlcfllmpdffaaDoor
open Go.Conc Go.RowKit

structure RecB where
  org : Nat
  nm : Nat
  cnt : Nat
def recBC (a : RecB) : List Value := [.int .u8 a.org, .int .u8 a.nm, .int .u8 a.cnt]
theorem recBC_length (a : RecB) : (recBC a).length = 3 := rfl
def recB (a : RecB) : RecT := rec20 (1 + ((a.org % 4 : Nat) : Int)) a.nm a.cnt
theorem recB_ver (a : RecB) (h : a.cnt < 256) : (recB a).ver < 2 ^ 64 := by show 4294967296 + a.cnt < 2 ^ 64; omega
theorem recB_key (a : RecB) : (recB a).key.size ≤ 1000000 := by
  show (keyB _ _).size ≤ _
  rw [keyB_size]
  show (bytesOf [97 + ((a.nm % 4 : Nat) : Int)]).size + 2 ≤ 1000000
  have : (bytesOf [97 + ((a.nm % 4 : Nat) : Int)]).size = 1 := rfl
  omega
/-- What a store holds in which so many were put. -/
def putsB (L : List RecB) : List RecT := takeS 6 100 [] (L.map recB)
theorem young_ok {most ttl : Int} {L : List RecT} (h : StoreOk most ttl L) : AgeOk L := fun x hx => by
  obtain ⟨h1, h2⟩ := h.goods x hx
  have h3 := h.ttlB
  unfold goodR goodP at h1
  simp only [Bool.and_eq_true, decide_eq_true_eq] at h1
  have h4 := h1.1.1.2
  omega
end Go.Proofs.YtjdlcfllmpdffaaDoor
/-! A slice of structs that came in (bellhop/bellhoplaw20.Put), as a list. -/
namespace Go.Proofs.YtjdlcfllmpdffaaDoor
open Go.Conc Go.RowKit Go.ChangeShapes Go.WideShapes Go.ChangeAt Go.WideMaps Go.WideElems

/-- What is known of an element that came in. -/
def rowP_sl_puts20 (a : RecB) : Prop := a.org < 256 ∧ a.nm < 256 ∧ a.cnt < 256
theorem rows_sl_puts20 : ∀ rows : List (List Value), (∀ r ∈ rows, r.length = 3 ∧ ∃ a : RecB, r = recBC a ∧ rowP_sl_puts20 a) →
    ∃ l : List RecB, rows.length = l.length ∧ rows.flatten = l.flatMap recBC ∧ ∀ a ∈ l, rowP_sl_puts20 a
  | [], _ => ⟨[], rfl, rfl, by simp⟩
  | r :: rows, h => by
    obtain ⟨l, h1, h2, h3⟩ := rows_sl_puts20 rows (fun r' h' => h r' (by simp [h']))
    obtain ⟨_, a, rfl, h4⟩ := h r (by simp)
    refine ⟨a :: l, by simp [h1], by simp [h2], fun b hb => ?_⟩
    rcases List.mem_cons.1 hb with rfl | hb
    · exact h4
    · exact h3 b hb
set_option maxRecDepth 100000 in
theorem sl_puts20 {H : Type} {enc : TypeId × Value → H} {w : World} {base : Nat} {held : Bool} {v : Value} {d : DataW H} {ps : List MemPlace} (hok : Value.okWide Tryd.prog w .any base 99 v) (h : DataW.Trod enc Tryd.prog w 0 (fun _ => true) held 99 v d ps) :
    ∃ l : List RecB, Sl w 3 v l.length (l.flatMap recBC) ∧ ∀ a ∈ l, rowP_sl_puts20 a := by
  have hc : Tryd.prog.cellsOf 103 = 3 := by kernel_rfl
  have cu8 : Tryd.prog.cellsOf 5 = 1 := by kernel_rfl
  obtain ⟨rows, h1, h2⟩ := sl_structs (Q := fun r => ∃ a : RecB, r = recBC a ∧ rowP_sl_puts20 a) Tryd.underlying99 hc (by decide) hok h (fun n cs x hx => by
    obtain ⟨xs, m, _, _, hl, hlen, hel⟩ := DataW.trod_struct Tryd.underlying103 hx
    rw [hc] at hl
    match cs, hl with
    | [k0, k1, k2], _ =>
      match xs, hlen with
      | [y0, y1, y2], _ =>
        have e0 : DataW.trod enc Tryd.prog w 0 (fun _ => true) held m 5 ((([k0, k1, k2] : List Value).drop 0).take (Tryd.prog.cellsOf 5)) = some y0 := hel 0 _ rfl
        rw [cu8] at e0
        have f0 : DataW.trod enc Tryd.prog w 0 (fun _ => true) held m 5 [k0] = some y0 := e0
        have e1 : DataW.trod enc Tryd.prog w 0 (fun _ => true) held m 5 ((([k0, k1, k2] : List Value).drop 1).take (Tryd.prog.cellsOf 5)) = some y1 := hel 1 _ rfl
        rw [cu8] at e1
        have f1 : DataW.trod enc Tryd.prog w 0 (fun _ => true) held m 5 [k1] = some y1 := e1
        have e2 : DataW.trod enc Tryd.prog w 0 (fun _ => true) held m 5 ((([k0, k1, k2] : List Value).drop 2).take (Tryd.prog.cellsOf 5)) = some y2 := hel 2 _ rfl
        rw [cu8] at e2
        have f2 : DataW.trod enc Tryd.prog w 0 (fun _ => true) held m 5 [k2] = some y2 := e2
        obtain ⟨z0, g0, _, w0⟩ := DataW.trod_int Tryd.underlying5 f0
        obtain ⟨z1, g1, _, w1⟩ := DataW.trod_int Tryd.underlying5 f1
        obtain ⟨z2, g2, _, w2⟩ := DataW.trod_int Tryd.underlying5 f2
        cases g0
        cases g1
        cases g2
        obtain ⟨z0, rfl, q0⟩ := nat_u8 w0
        obtain ⟨z1, rfl, q1⟩ := nat_u8 w1
        obtain ⟨z2, rfl, q2⟩ := nat_u8 w2
        exact ⟨⟨z0, z1, z2⟩, rfl, ⟨q0, q1, q2⟩⟩)
  obtain ⟨l, e1, e2, e3⟩ := rows_sl_puts20 rows h2
  rw [e1, e2] at h1
  exact ⟨l, h1, e3⟩
end Go.Proofs.YtjdlcfllmpdffaaDoor
/-! seeds.Take, of any kind; what the two stores' answers are. -/
namespace Go.Proofs.YtjdlcfllmpdffaaDoor
open Go.Conc Go.RowKit Go.Maps

def outM (kind : Int) (L : List RecT) (I : List (ByteArray × Nat)) (R : List RecT) : List MsgT := if kind = 13 then answerM 100 L I else if kind = 14 then packM 14 (sentL 100 (giveL (takeS 6 100 L R) I)) else []
def outR (kind : Int) (L R : List RecT) : List RecT := if kind = 14 then takeO 6 100 L R else []
def outS (kind : Int) (L R : List RecT) : List RecT := if kind = 14 then takeS 6 100 L R else L
theorem StoreOk.takes {most ttl : Int} : ∀ (l : List RecT) {L : List RecT}, StoreOk most ttl L → StoreOk most ttl (takeS most ttl L l)
  | [], _, h => h
  | x :: l, _, h => StoreOk.takes l (h.put x)
theorem packM_len (kind : Int) (S : List RecT) : (packM kind S).length ≤ S.length + 1 := by
  unfold packM
  rw [List.length_map, List.length_range]
  omega
theorem answerM_len {L : List RecT} (h : StoreOk 6 100 L) (I : List (ByteArray × Nat)) : (answerM 100 L I).length ≤ 100 := by
  unfold answerM
  have h1 := packM_len 14 (sentL 100 (newerL L I))
  have h2 := sentL_length 100 (newerL L I)
  have h3 : (newerL L I).length ≤ L.length := by unfold newerL; exact List.length_filter_le _ _
  have h4 := h.room
  have h5 : (wantM (wantedL L I)).length ≤ 1 := by unfold wantM; split <;> simp
  rw [List.length_append]
  omega
theorem giveM_len (L : List RecT) (I : List (ByteArray × Nat)) (hI : I.length ≤ 12) : (packM 14 (sentL 100 (giveL L I))).length ≤ 100 := by
  have h1 := packM_len 14 (sentL 100 (giveL L I))
  have h2 := sentL_length 100 (giveL L I)
  have h3 : (giveL L I).length ≤ I.length := (give_mem L I []).1
  omega
theorem outM_len {kind : Int} {L : List RecT} (h : StoreOk 6 100 L) (I : List (ByteArray × Nat)) (R : List RecT) (hI : I.length ≤ 12) : (outM kind L I R).length ≤ 100 := by
  unfold outM
  split
  · exact answerM_len h I
  · split
    · exact giveM_len _ I hI
    · simp
theorem outR_len {kind : Int} {L R : List RecT} (hR : R.length ≤ 12) : (outR kind L R).length ≤ 12 := by
  unfold outR
  split
  · exact Nat.le_trans (takeO_len 6 100 R L) hR
  · simp
/-- A message's slices, of one's own. -/
structure MsgData (w : World) (Mb : Nat) (vI vR : Value) (I : List (ByteArray × Nat)) (R : List RecT) : Prop where
  ids : w.ownsRow Mb 31 2 vI I.length (I.flatMap idT)
  recs : w.ownsRow Mb 33 6 vR R.length (R.flatMap recC)
  idsL : I.length ≤ 12
  recsL : R.length ≤ 12
  idsK : ∀ p ∈ I, p.1.size ≤ maxLen
  recsK : ∀ y ∈ R, y.ver < 2 ^ 64 ∧ y.key.size ≤ 1000000
theorem MsgData.only {S : Nat → Prop} {w w' : World} {Mb : Nat} {vI vR : Value} {I : List (ByteArray × Nat)} {R : List RecT} (h : MsgData w Mb vI vR I R) (ho : Only S w w') (hn : ∀ k, Mb ≤ k → ¬ S k) : MsgData w' Mb vI vR I R :=
  ⟨owns_only h.ids ho hn, owns_only h.recs ho hn, h.idsL, h.recsL, h.idsK, h.recsK⟩
theorem MsgData.is {w : World} {Mb : Nat} {vI vR : Value} {I : List (ByteArray × Nat)} {R : List RecT} (h : MsgData w Mb vI vR I R) (kind : Int) : MsgIs w (.agg #[.int .i64 kind, .int .i64 0, .int .i64 0, .bool false, .slice none 0 0, vI, vR]) ⟨kind, 0, 0, false, [], I, R⟩ :=
  ⟨_, _, _, rfl, Sl.nil _ _, Sl.of_owns h.ids, Sl.of_owns h.recs⟩
theorem stake_all (w : World) (x s b Mb : Nat) (r m0 kind : Int) (L : List RecT) (vI vR : Value) (I : List (ByteArray × Nat)) (R : List RecT) (h : SeedsAt w x 0 0 0 [] s) (hs : StoreAt w s b 6 100 r L) (hx : x ≠ s ∧ x ≠ b) (hm : w.cell? ⟨0, 0, none⟩ = some (.int .i64 m0)) (hm0 : s ≠ 0 ∧ b ≠ 0) (hlt : s < Mb ∧ b < Mb) (hd : MsgData w Mb vI vR I R) (hr0 : 0 ≤ r) (hr1 : r ≤ 10) :
    Calls Tryd.prog 51 #[.pointer (some ⟨x, 0, none⟩), .int .i64 7, .agg #[.int .i64 kind, .int .i64 0, .int .i64 0, .bool false, .slice none 0 0, vI, vR]] w fun e w' => ∃ v v2, e = .returned (.tuple #[v, v2]) ∧ Only (fun i => i = s ∨ i = b) w w' ∧ OutsNew w w' v 7 (outM kind L I R) ∧ RecRow w' w.heap.size v2 (outR kind L R) ∧ ∃ r', StoreAt w' s b 6 100 r' (outS kind L R) := by
  have h1 := hd.idsL
  have h2 := hd.recsL
  by_cases hk : kind = 13
  · subst hk
    refine (stake_digest w x 0 0 0 [] s b 6 100 r L h hs 7 _ ⟨13, 0, 0, false, [], I, R⟩ (hd.is 13) rfl (show I.length ≤ 1000000 by omega) hd.idsK (Nat.le_trans (answerM_len hs.ok I) (by omega))).mono ?_
    rintro e w' ⟨v, rfl, ho, hout⟩
    exact ⟨v, .slice none 0 0, rfl, ho.weaken (fun _ _ => False.elim), hout, World.ownsRow_nil _ _ _ _, r, hs.new ho⟩
  · by_cases hk2 : kind = 14
    · subst hk2
      refine (stake_delta w x 0 0 0 [] s b 6 100 r L h hs hx m0 hm hm0 7 _ ⟨14, 0, 0, false, [], I, R⟩ (hd.is 14) rfl ?_ (show I.length ≤ 1000000 by omega) hd.idsK (show R.length ≤ 1000 by omega) hd.recsK hr0 (by omega) (young_ok (hs.ok.takes R)) (Nat.le_trans (giveM_len _ I h1) (by omega))).mono ?_
      · intro vn vi vr e
        injection e with e
        simp only [Array.mk.injEq, List.cons.injEq, and_true] at e
        obtain ⟨_, _, _, _, _, rfl, rfl⟩ := e
        refine ⟨RecBlk.of_row hd.recs, fun w' ho => Sl.of_owns (owns_only hd.ids ho (fun k hk e => ?_))⟩
        have h9 : k = s ∨ k = b := e
        omega
      rintro e w' ⟨v, v2, rfl, ho, hout, hrow, r', _, _, hst⟩
      exact ⟨v, v2, rfl, ho, hout, hrow, r', hst⟩
    · refine (stake_other w x 7 _ ⟨kind, 0, 0, false, [], I, R⟩ (hd.is kind) hk hk2).mono ?_
      rintro e w' ⟨rfl, ho⟩
      refine ⟨.slice none 0 0, .slice none 0 0, rfl, ho.weaken (fun _ _ => False.elim), ?_, ?_, r, ?_⟩
      · unfold outM
        rw [if_neg hk, if_neg hk2]
        exact ⟨_, _, Nat.le_refl _, Nat.le_refl _, ⟨[], rfl, World.ownsRow_nil _ _ _ _, fun _ h => by cases h⟩⟩
      · unfold outR
        rw [if_neg hk2]
        exact World.ownsRow_nil _ _ _ _
      · unfold outS
        rw [if_neg hk2]
        exact hs.new ho
theorem data20 (came : List RecB) (hl : ∀ a ∈ came, a.cnt < 256) {w : World} {Mb : Nat} {vI vR : Value} (hI : w.ownsRow Mb 31 2 vI (came.take 12).length ((((came.take 12).map recB).map toId).flatMap idT)) (hR : w.ownsRow Mb 33 6 vR (came.take 12).length (((came.take 12).map recB).flatMap recC)) :
    MsgData w Mb vI vR (((came.take 12).map recB).map toId) ((came.take 12).map recB) := by
  have hn : (came.take 12).length ≤ 12 := by rw [List.length_take]; omega
  have hr : ∀ y ∈ (came.take 12).map recB, y.ver < 2 ^ 64 ∧ y.key.size ≤ 1000000 := fun y hy => by
    obtain ⟨a, ha, rfl⟩ := List.mem_map.1 hy
    exact ⟨recB_ver a (hl a (List.mem_of_mem_take ha)), recB_key a⟩
  refine ⟨by rw [List.length_map, List.length_map]; exact hI, by rw [List.length_map]; exact hR, by rw [List.length_map, List.length_map]; exact hn, by rw [List.length_map]; exact hn, fun p hp => ?_, hr⟩
  obtain ⟨y, hy, rfl⟩ := List.mem_map.1 hp
  have h1 := (hr y hy).2
  show y.key.size ≤ maxLen
  unfold maxLen
  omega
theorem outs_at {w : World} {B mb : Nat} {v : Value} {n : Int} {ms : List MsgT} (h : OutRow w B mb v n ms) : ∃ a cap, v = .slice a ms.length cap ∧ ∀ k (hk : k < ms.length), ∃ lb off na nc ia ic ra rc, a = some ⟨lb, off, none⟩ ∧
    w.cell? ⟨lb, off + k * 8, none⟩ = some (.int .i64 n) ∧ w.cell? ⟨lb, off + k * 8 + 1, none⟩ = some (.int .i64 ms[k].kind) ∧ w.cell? ⟨lb, off + k * 8 + 2, none⟩ = some (.int .i64 ms[k].node) ∧ w.cell? ⟨lb, off + k * 8 + 3, none⟩ = some (.int .i64 ms[k].walk) ∧ w.cell? ⟨lb, off + k * 8 + 4, none⟩ = some (.bool ms[k].high) ∧ w.cell? ⟨lb, off + k * 8 + 5, none⟩ = some (.slice na ms[k].nodes.length nc) ∧ w.cell? ⟨lb, off + k * 8 + 6, none⟩ = some (.slice ia ms[k].ids.length ic) ∧ w.cell? ⟨lb, off + k * 8 + 7, none⟩ = some (.slice ra ms[k].recs.length rc) ∧
    MsgIs w (.agg #[.int .i64 ms[k].kind, .int .i64 ms[k].node, .int .i64 ms[k].walk, .bool ms[k].high, .slice na ms[k].nodes.length nc, .slice ia ms[k].ids.length ic, .slice ra ms[k].recs.length rc]) ms[k] := by
  obtain ⟨P, rfl, h2, h3⟩ := h.out
  obtain ⟨a, cap, rfl, _, _, hc⟩ := Sl.cells (cellsO_length n) (Sl.of_owns h2)
  refine ⟨a, cap, by rw [List.length_map], fun k hk => ?_⟩
  have hk' : k < P.length := by rw [List.length_map] at hk; exact hk
  obtain ⟨lb, off, rfl, hcc⟩ := hc.at k hk'
  have ho := h3 P[k] (List.getElem_mem hk')
  rw [List.getElem_map]
  generalize P[k] = p at *
  obtain ⟨m, vn, vi, vr⟩ := p
  obtain ⟨_, na, nc, e1, _⟩ := Sl.of_owns ho.n
  obtain ⟨_, ia, ic, e2, _⟩ := Sl.of_owns ho.i
  obtain ⟨_, ra, rc, e3, _⟩ := Sl.of_owns ho.r
  simp only at e1 e2 e3
  subst e1 e2 e3
  exact ⟨lb, off, na, nc, ia, ic, ra, rc, rfl, hcc 0 _ rfl, hcc 1 _ rfl, hcc 2 _ rfl, hcc 3 _ rfl, hcc 4 _ rfl, hcc 5 _ rfl, hcc 6 _ rfl, hcc 7 _ rfl, ho.is⟩
theorem msgs_at {w : World} {B : Nat} {v : Value} {ms : List MsgT} (h : MsgRow w B v ms) : ∃ a cap, v = .slice a ms.length cap ∧ ∀ k (hk : k < ms.length), ∃ lb off na nc ia ic ra rc, a = some ⟨lb, off, none⟩ ∧
    w.cell? ⟨lb, off + k * 7, none⟩ = some (.int .i64 ms[k].kind) ∧ w.cell? ⟨lb, off + k * 7 + 1, none⟩ = some (.int .i64 ms[k].node) ∧ w.cell? ⟨lb, off + k * 7 + 2, none⟩ = some (.int .i64 ms[k].walk) ∧ w.cell? ⟨lb, off + k * 7 + 3, none⟩ = some (.bool ms[k].high) ∧ w.cell? ⟨lb, off + k * 7 + 4, none⟩ = some (.slice na ms[k].nodes.length nc) ∧ w.cell? ⟨lb, off + k * 7 + 5, none⟩ = some (.slice ia ms[k].ids.length ic) ∧ w.cell? ⟨lb, off + k * 7 + 6, none⟩ = some (.slice ra ms[k].recs.length rc) ∧
    MsgIs w (.agg #[.int .i64 ms[k].kind, .int .i64 ms[k].node, .int .i64 ms[k].walk, .bool ms[k].high, .slice na ms[k].nodes.length nc, .slice ia ms[k].ids.length ic, .slice ra ms[k].recs.length rc]) ms[k] := by
  obtain ⟨P, rfl, h2, h3⟩ := h.out
  obtain ⟨a, cap, rfl, _, _, hc⟩ := Sl.cells cellsM_length (Sl.of_owns h2)
  refine ⟨a, cap, by rw [List.length_map], fun k hk => ?_⟩
  have hk' : k < P.length := by rw [List.length_map] at hk; exact hk
  obtain ⟨lb, off, rfl, hcc⟩ := hc.at k hk'
  have ho := h3 P[k] (List.getElem_mem hk')
  rw [List.getElem_map]
  generalize P[k] = p at *
  obtain ⟨m, vn, vi, vr⟩ := p
  obtain ⟨_, na, nc, e1, _⟩ := Sl.of_owns ho.n
  obtain ⟨_, ia, ic, e2, _⟩ := Sl.of_owns ho.i
  obtain ⟨_, ra, rc, e3, _⟩ := Sl.of_owns ho.r
  simp only at e1 e2 e3
  subst e1 e2 e3
  exact ⟨lb, off, na, nc, ia, ic, ra, rc, rfl, hcc 0 _ rfl, hcc 1 _ rfl, hcc 2 _ rfl, hcc 3 _ rfl, hcc 4 _ rfl, hcc 5 _ rfl, hcc 6 _ rfl, ho.is⟩
end Go.Proofs.YtjdlcfllmpdffaaDoor
/-! Appends in regions: what is kept beside the row that is appended to. -/
namespace Go.Proofs.YtjdlcfllmpdffaaDoor
open Go.Conc Go.RowKit

theorem ownsDr {w : World} {base : Nat} {e : TypeId} {size n : Nat} {v : Value} {xs : List Value} (h : w.ownsRow base e size v n xs) : w.drew.ownsRow base e size v n xs := owns_only h ((Only.refl (fun _ => False) w).drew) (fun _ _ => id)
theorem ownsAl {w : World} {base : Nat} {e : TypeId} {size n : Nat} {v : Value} {xs : List Value} (h : w.ownsRow base e size v n xs) (o : Obj) : (w.alloc o).ownsRow base e size v n xs := owns_only h ((Only.refl (fun _ => False) w).alloc o) (fun _ _ => id)
/-- A block of another kind than the row's. -/
theorem blkGr {w w' : World} {b : Nat} {cs : Array Value} {e e' : TypeId} {f : Nat × Nat} {base size n : Nat} {v : Value} {xs : List Value} (hb : w.heap[b]? = some (.cells cs e f)) (hv : w.ownsRow base e' size v n xs) (hne : e' ≠ e) (hg : w.grownBy w' v.ownBlock) : w'.heap[b]? = some (.cells cs e f) := by
  rw [hg.block b (lt_of_block hb) (fun h => by
    rcases hv.2 with ⟨rfl, _⟩ | ⟨g, cap, cur, rfl, _, hgb, _⟩
    · cases h
    · simp only [Value.ownBlock, Option.some.injEq] at h
      subst h
      rw [hb] at hgb
      simp only [Option.some.injEq, Obj.cells.injEq] at hgb
      exact hne hgb.2.1.symm)]
  exact hb
/-- A block with another number than the row's. -/
theorem blkGrN {w w' : World} {b g n cap : Nat} {o : Obj} (hb : w.heap[b]? = some o) (hne : g ≠ b) (hg : w.grownBy w' (Value.slice (some ⟨g, 0, none⟩) n cap).ownBlock) : w'.heap[b]? = some o := by
  rw [hg.block b (lt_of_block hb) (fun h => hne (by simpa [Value.ownBlock, eq_comm] using h))]
  exact hb
/-- A row of another kind than the one that is appended to. -/
theorem ownsGr {w w' : World} {b' base size n base' size' n' : Nat} {e e' : TypeId} {v v' : Value} {xs xs' : List Value} (h : w.ownsRow base e size v n xs) (hv : w.ownsRow base' e' size' v' n' xs') (hne : e' ≠ e) (hg : w.grownBy w' v'.ownBlock) (hb' : b' = base) : w'.ownsRow b' e size v n xs := by
  subst hb'
  refine ⟨h.1, ?_⟩
  rcases h.2 with h2 | ⟨g, cap, cur, rfl, hb, hgb, r⟩
  · exact .inl h2
  · exact .inr ⟨g, cap, cur, rfl, hb, blkGr hgb hv hne hg, r⟩
theorem ownsBase {w : World} {base base' size n : Nat} {e : TypeId} {v : Value} {xs : List Value} (h : w.ownsRow base e size v n xs) (hb : base' ≤ base) : w.ownsRow base' e size v n xs := by
  refine ⟨h.1, ?_⟩
  rcases h.2 with h2 | ⟨g, cap, cur, rfl, hb2, r⟩
  · exact .inl h2
  · exact .inr ⟨g, cap, cur, rfl, Nat.le_trans hb hb2, r⟩
/-- A row of another kind than the blocks that turn. -/
theorem owns_n {S : Nat → Prop} {w w' : World} {base size n : Nat} {e : TypeId} {v : Value} {xs : List Value} (h : w.ownsRow base e size v n xs) (ho : Only S w w') (hn : ∀ k, v.ownBlock = some k → ¬ S k) : w'.ownsRow base e size v n xs := by
  refine ⟨h.1, ?_⟩
  rcases h.2 with h2 | ⟨g, cap, cur, rfl, hb, hg, r⟩
  · exact .inl h2
  · exact .inr ⟨g, cap, cur, rfl, hb, ho.old hg (hn g rfl), r⟩
theorem cells_not {w : World} {b : Nat} {cs : Array Value} {t e : TypeId} {f : Nat × Nat} (h : w.heap[b]? = some (.cells cs t f)) (hne : t ≠ e) : ∀ k, k = b → ∀ cs' f', w.heap[k]? ≠ some (.cells cs' e f') := by
  rintro k rfl cs' f' h2
  rw [h] at h2
  simp only [Option.some.injEq, Obj.cells.injEq] at h2
  exact hne h2.2.1
/-- append as one step of a region that draws; where the new row lies. -/
theorem stepAppend {P : Program} {ops : Array Oper} {o : Oper} {a : Act} {w : World} {K : Act → World → Prop} {Q : Exit → Act → World → Prop} {E : Prop} (hgd : o.guard = none) (s x : Operand) (t tx : TypeId)
    (ho : o.op = .call { callee := .builtin .append, args := #[s, x], argTypes := #[t, tx] })
    (base : Nat) (e : TypeId) (i : TypeInfo) (z : Value) (size bytes : Nat) (ht : P.underlying t = some (.slice e)) (hi : P.info? e = some i) (hz : i.zero = some z)
    (hsize : i.size = size) (hby : i.bytes = bytes) (hzs : z.cells.size = size)
    (v : Value) (n : Nat) (xs : List Value) (hv : a.eval s = v) (hown : w.ownsRow base e size v n xs) (xv : Value) (m : Nat) (news : List Value) (hx : a.eval x = xv) (hs : Src P size tx xv m news w)
    (h63 : n + m ≤ maxLen) (hbytes : (n + m) * bytes ≤ 140737488355328) (hbase : base ≤ w.heap.size)
    (h : ∀ v' w', w'.ownsRow base e size v' (n + m) (xs ++ news) → w.grownBy w' v.ownBlock → (∀ k, v'.ownBlock = some k → v.ownBlock = some k ∨ w.heap.size ≤ k) → K (a.put o.dst v') w') :
    if Region.wanted o (yielded ops a.tmps) = true then Oper.wp P o a w K Q else E := by
  have hw : Region.wanted o (yielded ops a.tmps) = true := by simp [Region.wanted, hgd]
  rw [if_pos hw]
  obtain ⟨v', w', hr, h2, h3, h4⟩ := run_append_src (P := P) w base t tx o.type e i z size bytes ht hi hz hsize hby hzs v n xs hown xv m news hs h63 hbytes hbase
  unfold Oper.wp execOp
  simp only [ho, resolve, invoke, builtin, Sem.run_bind, Sem.run_pure, Result.andThen_ok, List.map_toArray, List.map_cons, List.map_nil, hv, hx, hr]
  exact h v' w' h2 h3 h4
theorem ownKind {w : World} {base : Nat} {e : TypeId} {size n : Nat} {v : Value} {xs : List Value} (h : w.ownsRow base e size v n xs) {k : Nat} (hk : v.ownBlock = some k) : base ≤ k ∧ k < w.heap.size ∧ ∃ cs f, w.heap[k]? = some (.cells cs e f) := by
  rcases h.2 with ⟨h2, _⟩ | ⟨g, cap, cur, rfl, hb, hg, _⟩
  · rw [h2] at hk; cases hk
  · have : g = k := by simpa [Value.ownBlock] using hk
    subst this
    exact ⟨hb, lt_of_block hg, _, _, hg⟩
/-- The row's block is none of another kind. -/
theorem ownKind_ne {w : World} {base : Nat} {e t : TypeId} {size n : Nat} {v : Value} {xs : List Value} (h : w.ownsRow base e size v n xs) (hne : e ≠ t) : ∀ k, v.ownBlock = some k → ∀ cs f, w.heap[k]? ≠ some (.cells cs t f) := fun k hk cs f h2 => by
  obtain ⟨_, _, cs', f', h3⟩ := ownKind h hk
  rw [h3] at h2
  simp only [Option.some.injEq, Obj.cells.injEq] at h2
  exact hne h2.2.1
/-- The row's block is not one that is of another kind. -/
theorem ownKind_not {w : World} {base b : Nat} {e t : TypeId} {size n : Nat} {v : Value} {xs : List Value} {cs : Array Value} {f : Nat × Nat} (h : w.ownsRow base e size v n xs) (hb : w.heap[b]? = some (.cells cs t f)) (hne : e ≠ t) : ¬ v.ownBlock = some b := fun hk => ownKind_ne h hne b hk _ _ hb
end Go.Proofs.YtjdlcfllmpdffaaDoor
