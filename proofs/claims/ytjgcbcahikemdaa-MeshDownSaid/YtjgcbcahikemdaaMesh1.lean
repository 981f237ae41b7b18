/- A mesh: New, Live, Up, pipe. -/
import Derived.Test.YtjgcbcahikemdaaMesh0
import Derived.RegionTactic
import Derived.Deep.RegionWith
import Derived.Deep.RegionLaw
import Derived.Deep.RegionHeld3
namespace Go.Proofs.Ytjgcbcahikemdaa
open Go.Conc Go.RowKit Go.Maps

theorem wf64 {n : Int} (h1 : -9223372036854775808 ≤ n) (h2 : n ≤ 9223372036854775807) : (Lit.int .i64 n).wf = true := by
  show (decide (_ ≤ n) && decide (n ≤ _)) = true
  rw [Bool.and_eq_true]
  exact ⟨decide_eq_true h1, decide_eq_true h2⟩
/-- A mesh just made. -/
def MNewPost (w w' : World) (m lb pb : Nat) : Prop := Only (fun _ => False) w w' ∧ MeshAt w' m lb pb [] [] ∧ w.heap.size ≤ m ∧ w.heap.size ≤ lb ∧ w.heap.size ≤ pb
theorem mnew_any (w : World) : Calls Try.prog 23 #[] w fun e w' => ∃ m lb pb, e = .returned (.pointer (some ⟨m, 0, none⟩)) ∧ MNewPost w w' m lb pb := by
  have hmm := @run_makeMap Try.prog
  go_enter Try.func23, Try.ntmps23
  go_wp2_with fail
  go_ret
  refine ⟨w.heap.size + 2, w.heap.size, w.heap.size + 1, by simp, (((Only.refl _ _).alloc _).alloc _).alloc _, ⟨?_, ?_, ?_, by omega, by simp, List.Pairwise.nil, by simp⟩, by omega, by omega, by omega⟩
  · have := heap_alloc_new ((w.alloc (.map #[] 0)).alloc (.map #[] 0)) (.cells #[.map (some w.heap.size), .map (some (w.heap.size + 1))] 105 (0, 0))
    simpa using this
  · exact ((MapIs.made w).kept (((Only.refl (fun _ => False) _).alloc _).alloc _) id)
  · have := (MapIs.made (P := Try.prog) (k := 108) (κ := wayV) (ε := ptrV) (w.alloc (.map #[] 0))).kept ((Only.refl (fun _ => False) _).alloc (.cells #[.map (some w.heap.size), .map (some (w.heap.size + 1))] 105 (0, 0))) id
    simpa using this
theorem look_lv (lv : List Int) (n : Int) : (lookL (lv.map (fun k => (k, true))) n).getD false = decide (n ∈ lv) := by
  by_cases h : n ∈ lv
  · rw [decide_eq_true h]
    cases hl : lookL (lv.map (fun k => (k, true))) n with
    | none => exact absurd rfl (lookL_none hl (n, true) (List.mem_map.2 ⟨n, h, rfl⟩))
    | some b =>
      obtain ⟨k, _, e⟩ := List.mem_map.1 (lookL_some hl)
      cases e; rfl
  · rw [decide_eq_false h, lookL_of_none (fun p hp e => h (by obtain ⟨k, hk, rfl⟩ := List.mem_map.1 hp; exact e ▸ hk))]
    rfl
theorem mlive_any (w : World) (m lb pb : Nat) (lv : List Int) (L : PMap) (h : MeshAt w m lb pb lv L) (n : Int) (hn : (Lit.int .i64 n).wf = true) :
    Calls Try.prog 39 #[.pointer (some ⟨m, 0, none⟩), .int .i64 n] w fun e w' => e = .returned (.bool (decide (n ∈ lv))) ∧ w = w' := by
  have c0 : w.cell? ⟨m, 0, none⟩ = some (.map (some lb)) := cell_at h.blk 0
  have hl0 := h.live.look intKeyed intInj Try.underlying102 (z := false) (zeroB w) (intOk hn) false
  have hl : (Instr.lookup 102 (.map (some lb)) (.int .i64 n) false).run Try.prog w = .ok (.bool (decide (n ∈ lv))) w := by rw [← look_lv]; exact hl0
  clear hl0 h hn
  generalize decide (n ∈ lv) = r at *
  go_enter Try.func39, Try.ntmps39
  go_wp2_with fail
  all_goals
    go_ret
    exact ⟨rfl, rfl⟩
theorem mlive_nil (w : World) (n : Int) : Calls Try.prog 39 #[.pointer none, .int .i64 n] w fun e w' => e = .returned (.bool false) ∧ w = w' := by
  go_enter Try.func39, Try.ntmps39
  go_wp2_with fail
  go_ret
  exact ⟨rfl, rfl⟩
/-- Those that are there behind Up. -/
def upL (lv : List Int) (n : Int) : List Int := lv.filter (fun k => !decide (k = n)) ++ [n]
theorem mem_upL {lv : List Int} {n k : Int} : k ∈ upL lv n ↔ k ∈ lv ∨ k = n := by
  unfold upL
  rw [List.mem_append, List.mem_filter]
  by_cases h : k = n <;> simp [h]
theorem upL_put (lv : List Int) (n : Int) : putL (lv.map (fun k => (k, true))) n true = (upL lv n).map (fun k => (k, true)) := by
  unfold putL dropL upL
  rw [List.filter_map, List.map_append]
  rfl
theorem MeshAt.withLive {w w' : World} {m lb pb : Nat} {lv lv' : List Int} {L : PMap} (h : MeshAt w m lb pb lv L) (ho : Only (fun i => i = lb) w w') (hl : LMap w' lb lv') (hv : ∀ n ∈ lv', 1 ≤ n ∧ n ≤ 65535) : MeshAt w' m lb pb lv' L :=
  ⟨ho.old h.blk (fun e => h.m_not (.inl e)), hl, h.pipes.kept ho h.ne.symm, h.ne, (fun e he => by
    obtain ⟨d, hd, h1, h2⟩ := h.pipe e he
    refine ⟨d, hd, h1.kept ho (fun e2 => h.p_not he hd (.inl e2)) (fun e2 => ?_), h2⟩
    obtain ⟨s, r, hb⟩ := h1.chan
    obtain ⟨es, c, hb2⟩ := map_not h.live
    rw [e2, hb2] at hb
    cases hb), h.chans, hv⟩
set_option maxRecDepth 100000 in
theorem mup_any (w : World) (m lb pb : Nat) (lv : List Int) (L : PMap) (h : MeshAt w m lb pb lv L) (n : Int) (h1 : 1 ≤ n) (h2 : n ≤ 65535) (hlen : lv.length < 100000) :
    Calls Try.prog 24 #[.pointer (some ⟨m, 0, none⟩), .int .i64 n] w fun e w' => e = .returned (.tuple #[]) ∧ MeshAt w' m lb pb (upL lv n) L ∧ Only (fun i => i = lb) w w' := by
  have hn : (Lit.int .i64 n).wf = true := wf64 (by omega) (by omega)
  have c0 : w.cell? ⟨m, 0, none⟩ = some (.map (some lb)) := cell_at h.blk 0
  have HL := Lib.hid h.live
  have H := Lib.hid h
  clear h
  have hlen' : (lv.map (fun k => (k, true))).length < maxLen := by rw [List.length_map]; unfold maxLen; omega
  have HLE := Lib.hid hlen'
  have HN := Lib.hid hn
  clear hlen' hn
  go_enter Try.func24, Try.ntmps24
  go_wp2_with (first | (at_mapUpdate; refine wpList_mapStore rfl _ _ _ _ rfl HL.out intKeyed intInj Try.underlying102 HLE.out rfl rfl (intOk HN.out) (u := true) rfl ?_; intro w2 hm2 ho2))
  go_end0
  rw [upL_put] at hm2
  refine ⟨rfl, H.out.withLive ho2 hm2 (fun k hk => ?_), ho2⟩
  rcases mem_upL.1 hk with hk | rfl
  · exact H.out.lives k hk
  · exact ⟨h1, h2⟩
set_option maxRecDepth 100000 in
theorem mup_no (w : World) (v : Option Addr) (n : Int) (h : v = none ∨ n < 1 ∨ 65535 < n) :
    Calls Try.prog 24 #[.pointer v, .int .i64 n] w fun e w' => e = .returned (.tuple #[]) ∧ w = w' := by
  rcases h with rfl | h | h
  · go_enter Try.func24, Try.ntmps24
    go_wp2_with fail
    go_end0
    exact ⟨rfl, rfl⟩
  all_goals
    cases v <;> (
      have h' : ¬ 1 ≤ n ∨ 1 ≤ n := by omega
      rcases h' with h' | h'
      all_goals
        go_enter Try.func24, Try.ntmps24
        go_wp2_with fail
        all_goals
          go_end0
          exact ⟨rfl, rfl⟩)
/-- The pipe of a way is there. -/
def PipePost (w w' : World) (m lb pb : Nat) (lv : List Int) (L : PMap) (a b : Int) (v : Value) : Prop :=
  ∃ L' d, v = .pointer (some ⟨PipeD.p d, 0, none⟩) ∧ MeshAt w' m lb pb lv L' ∧ Step (foot lb pb L) (foot lb pb L') w w' ∧ lookL L' (a, b) = some (some d) ∧ d.l = getM L a b ∧ (∀ x y, getM L' x y = getM L x y) ∧ L'.length ≤ L.length + 1
theorem MeshAt.look_cases {w : World} {m lb pb : Nat} {lv : List Int} {L : PMap} (h : MeshAt w m lb pb lv L) (k : Int × Int) : lookL L k = none ∨ ∃ d, lookL L k = some (some d) ∧ PipeAt w d.p d.c (items d.l) ∧ d.l.length ≤ 64 := by
  cases hl : lookL L k with
  | none => exact .inl rfl
  | some o =>
    obtain ⟨d, hd, h1⟩ := h.pipe _ (look_mem hl)
    simp only at hd
    subst hd
    exact .inr ⟨d, rfl, h1⟩
theorem get_put_none {L : PMap} {a b : Int} (hn : lookL L (a, b) = none) (d : PipeD) (hd : d.l = []) (x y : Int) : getM (putL L (a, b) (some d)) x y = getM L x y := by
  unfold getM
  by_cases h : (x, y) = (a, b)
  · rw [h, lookL_put_same, hn]; exact hd
  · rw [lookL_put_other L h]
/-- A new pipe is laid. -/
theorem MeshAt.add {w w' : World} {m lb pb : Nat} {lv : List Int} {L : PMap} (h : MeshAt w m lb pb lv L) {k : Int × Int} (hn : lookL L k = none) {d : PipeD} (hp : PipeAt w d.p d.c (items d.l)) (hl : d.l.length ≤ 64) (hc : ∀ e ∈ L, ∀ d', e.2 = some d' → d'.c ≠ d.c)
    (hm : WMap w' pb (putL L k (some d))) (ho : Only (fun i => i = pb) w w') : MeshAt w' m lb pb lv (putL L k (some d)) := by
  have hdr : dropL L k = L := dropL_of_none hn
  refine ⟨ho.old h.blk (fun e => h.m_not (.inr (.inl e))), h.live.kept ho h.ne, hm, h.ne, ?_, ?_, h.lives⟩
  · have kp : ∀ {d : PipeD}, PipeAt w d.p d.c (items d.l) → PipeAt w' d.p d.c (items d.l) := fun {d} hp => hp.kept ho (fun e => by
      obtain ⟨es, c, hb⟩ := map_not h.pipes
      rw [← e, hp.blk] at hb; cases hb) (fun e => by
      obtain ⟨es, c, hb⟩ := map_not h.pipes
      obtain ⟨s, r, hb2⟩ := hp.chan
      rw [← e, hb2] at hb; cases hb)
    intro e he
    unfold putL at he
    rw [hdr] at he
    rcases List.mem_append.1 he with he | he
    · obtain ⟨d', h1, h2, h3⟩ := h.pipe e he
      exact ⟨d', h1, kp h2, h3⟩
    · obtain rfl : e = (k, some d) := by simpa using he
      exact ⟨d, rfl, kp hp, hl⟩
  · unfold putL
    rw [hdr]
    refine List.pairwise_append.2 ⟨h.chans, by simp, fun e he f hf d1 d2 h1 h2 => ?_⟩
    obtain rfl : f = (k, some d) := by simpa using hf
    cases h2
    exact hc e he d1 h1
set_option maxRecDepth 100000 in
theorem mpipe_any (w : World) (m lb pb : Nat) (lv : List Int) (L : PMap) (h : MeshAt w m lb pb lv L) (a b : Int) (ha : (Lit.int .i64 a).wf = true) (hb : (Lit.int .i64 b).wf = true) (hL : L.length < 1000000) :
    Calls Try.prog 54 #[.pointer (some ⟨m, 0, none⟩), .int .i64 a, .int .i64 b] w fun e w' => ∃ v, e = .returned v ∧ PipePost w w' m lb pb lv L a b v := by
  obtain ⟨W, hW⟩ : ∃ W, W = w.alloc (.cells #[.int .i64 a, .int .i64 b] 108) := ⟨_, rfl⟩
  have ho : Only (fun _ => False) w W := by rw [hW]; exact (Only.refl _ _).alloc _
  have hx : W.heap[w.heap.size]? = some (.cells #[.int .i64 a, .int .i64 b] 108 (0, 0)) := by rw [hW]; exact heap_alloc_new w _
  have h1 := h.new ho
  have x0 : W.cell? ⟨w.heap.size, 0, none⟩ = some (.int .i64 a) := cell_at hx 0
  have x1 : W.cell? ⟨w.heap.size, 1, none⟩ = some (.int .i64 b) := cell_at hx 1
  have c1 : W.cell? ⟨m, 1, none⟩ = some (.map (some pb)) := cell_at h1.blk 1
  have HX := Lib.hid hx
  have HW := Lib.hid hW
  have HO := Lib.hid ho
  have H1 := Lib.hid h1
  clear hx hW ho h1
  rcases h.look_cases (a, b) with hl | ⟨d, hl, hp, hn⟩
  · have hlk : ∀ n, (Instr.lookup 103 (.map (some pb)) (.agg #[.int .i64 a, .int .i64 b]) true).run Try.prog (W.drewN n) = .ok (.tuple #[.pointer none, .bool false]) (W.drewN n) := fun n => by
      have := (H1.out.pipes.kept ((Only.refl (fun _ => False) W).drewN n) id).look wayKeyed wayInj Try.underlying103 (z := none) (zeroP _) (wayOk ha hb) true
      rw [hl] at this
      exact this
    have HL := Lib.hid hl
    have HK := Lib.hid (wayOk ha hb)
    clear hl ha hb h
    go_enter Try.func54, Try.ntmps54
    go_upto_region 2 with (fail)
    rw [← HW.out]
    go_quiet (fail)
    obtain ⟨W2, hW2⟩ : ∃ W2, W2 = W.drewN nq := ⟨_, rfl⟩
    rw [← hW2]
    have ho2 : Only (fun _ => False) W W2 := by rw [hW2]; exact (Only.refl _ _).drewN _
    have HO2 := Lib.hid ho2
    clear hlk x0 x1 c1 hW2 ho2
    go_wp2_with fail
    refine (new_any W2).mono ?_
    rintro e w3 ⟨rfl, ho3, hp3, hs3⟩
    have hx3 := ho3.old (HO2.out.old HX.out id) id
    have x0 : w3.cell? ⟨w.heap.size, 0, none⟩ = some (.int .i64 a) := cell_at hx3 0
    have x1 : w3.cell? ⟨w.heap.size, 1, none⟩ = some (.int .i64 b) := cell_at hx3 1
    have hm3 := (H1.out.new HO2.out).new ho3
    have c1 : w3.cell? ⟨m, 1, none⟩ = some (.map (some pb)) := cell_at hm3.blk 1
    obtain ⟨w4, hst0, hm4, ho4⟩ := (hm3.pipes.kept ((Only.refl (fun _ => False) w3).drew) id).store wayKeyed wayInj Try.underlying103 (by unfold maxLen; omega) HK.out (some ⟨W2.heap.size + 1, W2.heap.size, []⟩)
    have hst : (Instr.mapUpdate 103 (.map (some pb)) (.agg #[.int .i64 a, .int .i64 b]) (.pointer (some ⟨W2.heap.size + 1, 0, none⟩))).run Try.prog w3.drew = .ok () w4 := hst0
    have HM3 := Lib.hid hm3
    have HM4 := Lib.hid hm4
    have HO3 := Lib.hid ho3
    have HO4 := Lib.hid ho4
    have HP3 := Lib.hid hp3
    clear hx3 hm3 hst0 hm4 ho4 ho3 hp3 hs3
    go_wp2_with fail
    go_region
    go_wp2_with fail
    go_ret
    have hoA := HO.out.trans (HO2.out.trans HO3.out)
    have hcs : w.heap.size ≤ W2.heap.size := (HO.out.trans HO2.out).size
    refine ⟨_, rfl, putL L (a, b) (some ⟨W2.heap.size + 1, W2.heap.size, []⟩), ⟨W2.heap.size + 1, W2.heap.size, []⟩, rfl, ?_, ?_, lookL_put_same _ _ _, ?_, get_put_none HL.out _ rfl, ?_⟩
    · refine (HM3.out.new ((Only.refl (fun _ => False) w3).drew)).add HL.out (HP3.out.kept ((Only.refl (fun _ => False) w3).drew) id id) (by simp) (fun e he d' hd' e2 => ?_) HM4.out HO4.out
      have h1 := (H1.out.new HO2.out).foot_lt (.inr (.inr ⟨e, he, d', hd', rfl⟩))
      rw [e2] at h1
      exact absurd h1 (by simp)
    · refine ⟨?_, fun k hk => ?_⟩
      · exact ((hoA.drew).weaken (fun _ _ => False.elim)).trans (HO4.out.weaken (fun i _ e => .inr (.inl e)))
      · rcases hk with h1 | h1 | ⟨e, he, d, hd, rfl⟩
        · exact .inl (.inl h1)
        · exact .inl (.inr (.inl h1))
        · unfold putL at he
          rw [dropL_of_none HL.out] at he
          rcases List.mem_append.1 he with he | he
          · exact .inl (.inr (.inr ⟨e, he, d, hd, rfl⟩))
          · obtain rfl : e = ((a, b), some ⟨W2.heap.size + 1, W2.heap.size, []⟩) := by simpa using he
            cases hd
            exact .inr hcs
    · unfold getM
      rw [HL.out]
    · have := length_putL H1.out.pipes.apart (a, b) (some ⟨W2.heap.size + 1, W2.heap.size, []⟩)
      rw [HL.out] at this
      simp at this
      omega
  · have hlk : ∀ n, (Instr.lookup 103 (.map (some pb)) (.agg #[.int .i64 a, .int .i64 b]) true).run Try.prog (W.drewN n) = .ok (.tuple #[.pointer (some ⟨d.p, 0, none⟩), .bool true]) (W.drewN n) := fun n => by
      have := (H1.out.pipes.kept ((Only.refl (fun _ => False) W).drewN n) id).look wayKeyed wayInj Try.underlying103 (z := none) (zeroP _) (wayOk ha hb) true
      rw [hl] at this
      exact this
    have HL := Lib.hid hl
    clear hl ha hb h hp hn
    go_enter Try.func54, Try.ntmps54
    go_upto_region 2 with (fail)
    rw [← HW.out]
    go_quiet (fail)
    clear hlk x0 x1 c1
    go_wp2_with fail
    go_ret
    refine ⟨_, rfl, L, d, rfl, H1.out.new ((Only.refl (fun _ => False) W).drewN _), Step.of (HO.out.drewN _), HL.out, ?_, fun _ _ => rfl, by omega⟩
    unfold getM
    rw [HL.out]
end Go.Proofs.Ytjgcbcahikemdaa
