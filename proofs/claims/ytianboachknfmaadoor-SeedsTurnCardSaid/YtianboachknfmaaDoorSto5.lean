/- slices.DeleteFunc and slices.IndexFunc at slices of records. -/
import Derived.Test.YtianboachknfmaaDoorSto4
import Derived.Test.YtianboachknfmaaDoorRows2
namespace Go.Proofs.YtianboachknfmaaDoor
open Go.Conc Go.RowKit Go.Maps

/-- A function value that asks p of each record of L, wherever only one block may have changed. -/
def RecPred (k : Nat) (caps : Array Value) (p : RecT → Bool) (L : List RecT) (ob : Option Nat) (w : World) : Prop :=
  ∀ x ∈ L, ∀ W, Only (fun i => ob = some i) w W → Calls Tryd.prog k (#[recT x] ++ caps) W fun e w' => e = .returned (.bool (p x)) ∧ Only (fun _ => False) W w'
theorem RecPred.at {k : Nat} {caps : Array Value} {p : RecT → Bool} {L : List RecT} {ob : Option Nat} {w w1 : World} (h : RecPred k caps p L ob w) (ho : Only (fun i => ob = some i) w w1) : RecPred k caps p L ob w1 :=
  fun x hx W hW => h x hx W (ho.trans hW)
def idxV (p : RecT → Bool) (L : List RecT) : Int := if L.all (fun x => !p x) then -1 else (L.findIdx p : Nat)
set_option maxRecDepth 100000 in
theorem ridx_any (w : World) (base : Nat) (v : Value) (L : List RecT) (k : Nat) (caps : Array Value) (p : RecT → Bool) (hrow : RecRow w base v L) (he : ∀ args w, (callFunc k args).run Tryd.prog w = .ok (.enter k args) w) (hp : RecPred k caps p L v.ownBlock w) :
    Calls Tryd.prog 110 #[v, .func (.func k) #[] caps] w fun e w' => e = .returned (.int .i64 (idxV p L)) ∧ Only (fun _ => False) w w' := by
  obtain ⟨a, cap, rfl, h1, h2, h3⟩ := Sl.cells recC_length (Sl.of_owns hrow)
  unfold maxLen at h2
  have HC := Lib.hid h3
  have HP := Lib.hid hp
  have HR := Lib.hid hrow
  clear h3 hp hrow
  go_enter Tryd.func110, Tryd.ntmps110
  go_wp2_with fail
  go_loopg [8] L.length (fun g v8 wr => ∃ j : Nat, v8 = .int .i64 j ∧ j ≤ L.length ∧ Only (fun _ => False) w wr ∧ (∀ i (hi : i < L.length), i < j → p L[i] = false) ∧ g = L.length - j)
  case atStart => exact ⟨0, rfl, Nat.zero_le _, Only.refl _ _, fun _ _ h => absurd h (Nat.not_lt_zero _), rfl⟩
  case round =>
    obtain ⟨j, rfl, hj, ho, hall, hg⟩ := hrel
    have Hg := Lib.hid hg
    have HO := Lib.hid ho
    have HA := Lib.hid hall
    clear hg ho hall
    by_cases hlt : j < L.length
    · obtain ⟨b, off, ha, hc⟩ := HC.out.at j hlt
      subst ha
      have hcall := HP.out L[j] (List.getElem_mem hlt) wr (HO.out.weaken (fun _ _ => False.elim))
      have hpj : ∃ q, p L[j] = q := ⟨_, rfl⟩
      obtain ⟨q, hq⟩ := hpj
      have HQ := Lib.hid hq
      rw [hq] at hcall
      clear hq
      have hcr : ∀ i u, (recC L[j])[i]? = some u → wr.cell? ⟨b, off + j * 6 + i, none⟩ = some u := fun i u hu => HO.out.cell (hc i u hu) id
      unfold recT at hcall
      unfold recC at hcr
      have y0 := hcr 0 _ rfl
      have y1 := hcr 1 _ rfl
      have y2 := hcr 2 _ rfl
      have y3 := hcr 3 _ rfl
      have y4 := hcr 4 _ rfl
      have y5 := hcr 5 _ rfl
      clear hc hcr
      simp only [Nat.add_zero] at y0
      generalize L[j].key = k1 at *
      generalize L[j].ver = v1 at *
      generalize L[j].o = o1 at *
      generalize L[j].age = a1 at *
      generalize L[j].gone = g1 at *
      generalize L[j].data = d1 at *
      have HCALL := Lib.hid hcall
      clear hcall
      have hlt' : (j : Int) < (L.length : Int) := by omega
      go_wp2_with fail
      refine HCALL.out.mono ?_
      rintro e w2 ⟨rfl, ho2⟩
      have ho3 := HO.out.trans ho2
      have HO3 := Lib.hid ho3
      clear ho3
      clear ho2 y0 y1 y2 y3 y4 y5
      cases q
      · go_wp2_with fail
        go_roundg (L.length - (j + 1))
        case measure => rw [Hg.out]; omega
        case rel =>
          refine ⟨j + 1, by go_num, by omega, HO3.out, fun i hi hij => ?_, rfl⟩
          rcases (by omega : i < j ∨ i = j) with h | rfl
          · exact HA.out i hi h
          · exact HQ.out
      · go_wp2_with fail
        go_ret
        refine ⟨?_, HO3.out⟩
        have hi : L.findIdx p = j := (List.findIdx_eq hlt).2 ⟨HQ.out, fun i hi => HA.out i (by omega) hi⟩
        have hn : L.all (fun x => !p x) = false := by
          rw [List.all_eq_false]
          exact ⟨L[j], List.getElem_mem hlt, by simp [HQ.out]⟩
        unfold idxV
        rw [hn, hi]
        rfl
    · have hlt' : ¬ (j : Int) < (L.length : Int) := by omega
      go_wp2_with fail
      go_ret
      refine ⟨?_, HO.out⟩
      have hn : L.all (fun x => !p x) = true := by
        rw [List.all_eq_true]
        intro x hx
        obtain ⟨i, hi, rfl⟩ := List.getElem_of_mem hx
        simp [HA.out i hi (by omega)]
      unfold idxV
      rw [hn]
      rfl
theorem filter_take_succ (p : RecT → Bool) (L : List RecT) (j : Nat) (hj : j < L.length) : (L.take (j + 1)).filter (fun x => !p x) = (L.take j).filter (fun x => !p x) ++ if p L[j] then [] else [L[j]] := by
  rw [List.take_add_one, List.getElem?_eq_getElem hj, List.filter_append]
  congr 1
  cases h : p L[j] <;> simp [h]
/-- A row while it is cut down: i kept, from j on as it was. -/
structure Kept (p : RecT → Bool) (L D : List RecT) (i j : Nat) : Prop where
  len : D.length = L.length
  lt : i < j
  jl : j ≤ L.length
  low : D.take i = (L.take j).filter (fun x => !p x)
  high : D.drop j = L.drop j
theorem Kept.start {p : RecT → Bool} {L : List RecT} (h : L.all (fun x => !p x) = false) : L.findIdx p < L.length ∧ Kept p L L (L.findIdx p) (L.findIdx p + 1) := by
  have hlt : L.findIdx p < L.length := by
    rw [List.findIdx_lt_length]
    rw [List.all_eq_false] at h
    obtain ⟨x, hx, hp⟩ := h
    exact ⟨x, hx, by simpa using hp⟩
  refine ⟨hlt, rfl, by omega, by omega, ?_, rfl⟩
  have hpt : p L[L.findIdx p] = true := List.findIdx_getElem (w := hlt)
  rw [filter_take_succ p L _ hlt, hpt, if_pos rfl, List.append_nil]
  symm
  rw [List.filter_eq_self]
  intro x hx
  obtain ⟨i, hi, rfl⟩ := List.getElem_of_mem hx
  rw [List.length_take] at hi
  have := List.not_of_lt_findIdx (p := p) (xs := L) (i := i) (by omega)
  rw [List.getElem_take]
  simpa using this
theorem Kept.at {p : RecT → Bool} {L D : List RecT} {i j : Nat} (h : Kept p L D i j) (hj : j < L.length) : ∃ hd : j < D.length, D[j] = L[j] := by
  have hd : j < D.length := by rw [h.len]; exact hj
  refine ⟨hd, ?_⟩
  have h1 : (D.drop j)[0]? = (L.drop j)[0]? := by rw [h.high]
  simpa [hd, hj] using h1
theorem Kept.skip {p : RecT → Bool} {L D : List RecT} {i j : Nat} (h : Kept p L D i j) (hj : j < L.length) (hp : p L[j] = true) : Kept p L D i (j + 1) := by
  refine ⟨h.len, by have := h.lt; omega, by omega, ?_, ?_⟩
  · rw [filter_take_succ p L j hj, hp, if_pos rfl, List.append_nil]; exact h.low
  · have := congrArg (List.drop 1) h.high
    simpa [List.drop_drop] using this
theorem Kept.put {p : RecT → Bool} {L D : List RecT} {i j : Nat} (h : Kept p L D i j) (hj : j < L.length) (hp : p L[j] = false) : Kept p L (D.set i L[j]) (i + 1) (j + 1) := by
  have hi : i < D.length := by have h1 := h.lt; have h2 := h.len; omega
  refine ⟨by rw [List.length_set]; exact h.len, by have := h.lt; omega, by omega, ?_, ?_⟩
  · rw [filter_take_succ p L j hj, hp, if_neg (by decide), ← h.low, List.take_add_one, List.take_set_of_le (Nat.le_refl _), List.getElem?_set_self hi]
    rfl
  · have := congrArg (List.drop 1) h.high
    rw [List.drop_set_of_lt (by have := h.lt; omega)]
    simpa [List.drop_drop] using this
theorem Kept.done {p : RecT → Bool} {L D : List RecT} {i : Nat} (h : Kept p L D i L.length) : D.take i = L.filter (fun x => !p x) := by
  have := h.low
  rwa [List.take_length] at this
theorem run_clear_recs (w : World) (b o n c : Nat) (hn : 0 < n) (hc : ∀ j, j < n * 6 → (w.cell? ⟨b, o + j, none⟩).isSome = true) (hf : ∀ j, j < n * 6 → w.frozen? ⟨b, o + j, none⟩ = false) :
    ∃ us : List Value, us.length = n * 6 ∧ ∀ ty, (Builtin.clear_ #[28] ty #[.slice (some ⟨b, o, none⟩) n c]).run Tryd.prog w = .ok (.tuple #[]) (w.setCells b o us) := by
  have hz : (recT zeroR).cells.size = 6 := rfl
  have hl : (Builtin.zeroCells (recT zeroR).cells n).toList.length = n * 6 := by
    simp [Builtin.zeroCells, hz]
  have h1 : ∀ u ∈ (Builtin.zeroCells (recT zeroR).cells n).toList, u.oneCell' = true := by
    intro u hu
    simp only [Builtin.zeroCells] at hu
    obtain ⟨i, _, rfl⟩ := Array.mem_map.1 (Array.mem_toList_iff.1 hu)
    rw [hz]
    rcases (by omega : i % 6 = 0 ∨ i % 6 = 1 ∨ i % 6 = 2 ∨ i % 6 = 3 ∨ i % 6 = 4 ∨ i % 6 = 5) with h | h | h | h | h | h <;> rw [h] <;> rfl
  refine ⟨(Builtin.zeroCells (recT zeroR).cells n).toList, hl, fun ty => ?_⟩
  have hst := run_storeCells_cells (P := Tryd.prog) b o (Builtin.zeroCells (recT zeroR).cells n).toList 0 w (by rw [hl]; simpa using hc) (by rw [hl]; simpa using hf) h1
  simp only [Nat.add_zero] at hst
  obtain ⟨m, rfl⟩ : ∃ m, n = m + 1 := ⟨n - 1, by omega⟩
  simp [Builtin.clear_, run_underlying Tryd.underlying28]
  exact congrArg (fun r : Result Unit => r.andThen fun _ w' => Result.ok (Value.tuple #[]) w') hst
set_option maxRecDepth 100000 in
set_option maxHeartbeats 1000000 in
theorem rdel_any (w : World) (base : Nat) (v : Value) (L : List RecT) (k : Nat) (caps : Array Value) (p : RecT → Bool) (hrow : RecRow w base v L) (hL : L.length ≤ 1000000) (he : ∀ args w, (callFunc k args).run Tryd.prog w = .ok (.enter k args) w) (hp : RecPred k caps p L v.ownBlock w) :
    Calls Tryd.prog 82 #[v, .func (.func k) #[] caps] w fun e w' => ∃ v', e = .returned v' ∧ Only (fun i => v.ownBlock = some i) w w' ∧ RecRow w' base v' (L.filter (fun x => !p x)) := by
  have hix := ridx_any w base v L k caps p hrow he hp
  have HIX := Lib.hid hix
  have HP := Lib.hid hp
  have HR := Lib.hid hrow
  clear hix hp hrow
  by_cases hall : L.all (fun x => !p x) = true
  · have hidx : idxV p L = -1 := by unfold idxV; rw [if_pos hall]
    have hfl : L.filter (fun x => !p x) = L := by
      rw [List.filter_eq_self]
      rw [List.all_eq_true] at hall
      exact hall
    rw [hidx] at HIX
    rw [hfl]
    clear hidx hfl hall
    go_enter Tryd.func82, Tryd.ntmps82
    go_wp2_with fail
    refine HIX.out.mono ?_
    rintro e w1 ⟨rfl, ho1⟩
    go_wp2_with fail
    go_ret
    exact ⟨v, rfl, ho1.weaken (fun _ _ => False.elim), owns_only HR.out ho1 (fun _ _ => id)⟩
  · have hall2 : L.all (fun x => !p x) = false := by simpa using hall
    obtain ⟨hlt, hK0⟩ := Kept.start hall2
    have hidx : idxV p L = (L.findIdx p : Nat) := by unfold idxV; rw [if_neg hall]
    rw [hidx] at HIX
    have hn1 : (((L.findIdx p : Nat) : Int) == -1) = false := beq_eq_false_iff_ne.2 (by omega)
    have HK0 := Lib.hid hK0
    clear hidx hall hall2 hK0
    generalize L.findIdx p = i0 at *
    obtain ⟨g, cap, rfl⟩ : ∃ g cap, v = .slice (some ⟨g, 0, none⟩) L.length cap := by
      rcases HR.out.2 with ⟨_, h2⟩ | ⟨g, cap, cur, h2, _⟩
      · omega
      · exact ⟨g, cap, h2⟩
    have hcap : L.length ≤ cap ∧ cap ≤ 9223372036854775807 := by
      obtain ⟨cur, _, _, h1, h2, _⟩ := row_block HR.out
      unfold maxLen at h2
      exact ⟨h1, h2⟩
    obtain ⟨hcap1, hcap2⟩ := hcap
    go_enter Tryd.func82, Tryd.ntmps82
    go_wp2_with fail
    refine HIX.out.mono ?_
    rintro e w1 ⟨rfl, ho1⟩
    have hr1 := owns_only HR.out ho1 (fun _ _ => id)
    have HO1 := Lib.hid ho1
    have HR1 := Lib.hid hr1
    clear ho1 hr1
    clear HIX
    go_wp2_with fail
    go_loopg [5, 6] (L.length - (i0 + 1)) (fun gg v5 v6 wr => ∃ (i j : Nat) (D : List RecT), v5 = .int .i64 i ∧ v6 = .int .i64 j ∧ Kept p L D i j ∧ Only (fun b => some g = some b) w wr ∧ RecRow wr base (.slice (some ⟨g, 0, none⟩) D.length cap) D ∧ gg = L.length - j)
    case atStart => exact ⟨i0, i0 + 1, L, rfl, by go_num, HK0.out, HO1.out.weaken (fun _ _ => False.elim), HR1.out, rfl⟩
    case round =>
      obtain ⟨i, j, D, rfl, rfl, hK, ho, hrw, hg⟩ := hrel
      have hij := hK.lt
      have hjl := hK.jl
      have hDl := hK.len
      have Hg := Lib.hid hg
      have HO := Lib.hid ho
      have HRW := Lib.hid hrw
      have HK := Lib.hid hK
      clear hg ho hrw hK
      by_cases hlt2 : j < L.length
      · obtain ⟨hjd, hDj⟩ := HK.out.at hlt2
        obtain ⟨a', cap', hv', _, _, hC⟩ := Sl.cells recC_length (Sl.of_owns HRW.out)
        obtain ⟨b, off, ha, hc⟩ := hC.once (by omega)
        have hav : a' = some ⟨g, 0, none⟩ := by cases hv'; rfl
        rw [hav] at ha
        cases ha
        have hcj := hc j hjd
        rw [hDj] at hcj
        have hid : i < D.length := by omega
        have HCI := Lib.hid (hc i hid)
        have hx : ∃ x, L[j] = x := ⟨_, rfl⟩
        obtain ⟨x, hx⟩ := hx
        have hmem : x ∈ L := hx ▸ List.getElem_mem hlt2
        have hpx : ∃ q, p x = q := ⟨_, rfl⟩
        obtain ⟨q, hq⟩ := hpx
        rw [hx] at hcj
        obtain ⟨k1, v1, o1, a1, g1, d1⟩ := x
        have y0 : wr.cell? ⟨g, j * 6, none⟩ = some (.string k1) := by have := hcj 0 _ rfl; simpa using this
        have y1 : wr.cell? ⟨g, j * 6 + 1, none⟩ = some (.int .u64 v1) := by have := hcj 1 _ rfl; simpa using this
        have y2 : wr.cell? ⟨g, j * 6 + 2, none⟩ = some (.int .i64 o1) := by have := hcj 2 _ rfl; simpa using this
        have y3 : wr.cell? ⟨g, j * 6 + 3, none⟩ = some (.int .i64 a1) := by have := hcj 3 _ rfl; simpa using this
        have y4 : wr.cell? ⟨g, j * 6 + 4, none⟩ = some (.bool g1) := by have := hcj 4 _ rfl; simpa using this
        have y5 : wr.cell? ⟨g, j * 6 + 5, none⟩ = some (.string d1) := by have := hcj 5 _ rfl; simpa using this
        have hlz : (j : Int) < (L.length : Int) := by omega
        obtain ⟨W, hW⟩ : ∃ W, W = wr.alloc (.cells #[.string k1, .int .u64 v1, .int .i64 o1, .int .i64 a1, .bool g1, .string d1] 33) := ⟨_, rfl⟩
        have hbW : W.heap[wr.heap.size]? = some (.cells #[.string k1, .int .u64 v1, .int .i64 o1, .int .i64 a1, .bool g1, .string d1] 33 (0, 0)) := by rw [hW]; exact heap_alloc_new wr _
        have hoW : Only (fun _ => False) wr W := by rw [hW]; exact (Only.refl _ _).alloc _
        have hsW : W.heap.size = wr.heap.size + 1 := by rw [hW]; simp
        have hcall := HP.out _ hmem W (HO.out.trans (hoW.weaken (fun _ _ => False.elim)))
        rw [hq] at hcall
        have HQ := Lib.hid hq
        have HX := Lib.hid hx
        have HCALL := Lib.hid hcall
        have HBW := Lib.hid hbW
        have HOW := Lib.hid hoW
        have HSW := Lib.hid hsW
        have HDJ := Lib.hid hDj
        have HM := Lib.hid hmem
        clear hq hx hcall hbW hoW hsW hDj hmem
        clear hc hcj hC hv' hav
        go_upto_region 8 with (fail)
        rw [← hW]
        clear hW y0 y1 y2 y3 y4 y5
        have x0 : W.cell? ⟨wr.heap.size, 0, none⟩ = some (.string k1) := cell_at HBW.out 0
        have x1 : W.cell? ⟨wr.heap.size, 1, none⟩ = some (.int .u64 v1) := cell_at HBW.out 1
        have x2 : W.cell? ⟨wr.heap.size, 2, none⟩ = some (.int .i64 o1) := cell_at HBW.out 2
        have x3 : W.cell? ⟨wr.heap.size, 3, none⟩ = some (.int .i64 a1) := cell_at HBW.out 3
        have x4 : W.cell? ⟨wr.heap.size, 4, none⟩ = some (.bool g1) := cell_at HBW.out 4
        have x5 : W.cell? ⟨wr.heap.size, 5, none⟩ = some (.string d1) := cell_at HBW.out 5
        go_wp2_with fail
        refine HCALL.out.mono ?_
        rintro e w2 ⟨rfl, ho2⟩
        have hb2 := ho2.old HBW.out id
        have ho12 := HOW.out.trans ho2
        have hr2 := owns_only HRW.out ho12 (fun _ _ => id)
        have HB2 := Lib.hid hb2
        have HO12 := Lib.hid ho12
        have HR2 := Lib.hid hr2
        clear hb2 ho12 hr2
        clear ho2 x0 x1 x2 x3 x4 x5
        cases q
        · have x0 : w2.cell? ⟨wr.heap.size, 0, none⟩ = some (.string k1) := cell_at HB2.out 0
          have x1 : w2.cell? ⟨wr.heap.size, 1, none⟩ = some (.int .u64 v1) := cell_at HB2.out 1
          have x2 : w2.cell? ⟨wr.heap.size, 2, none⟩ = some (.int .i64 o1) := cell_at HB2.out 2
          have x3 : w2.cell? ⟨wr.heap.size, 3, none⟩ = some (.int .i64 a1) := cell_at HB2.out 3
          have x4 : w2.cell? ⟨wr.heap.size, 4, none⟩ = some (.bool g1) := cell_at HB2.out 4
          have x5 : w2.cell? ⟨wr.heap.size, 5, none⟩ = some (.string d1) := cell_at HB2.out 5
          obtain ⟨k2, v2, o2, a2, g2, d2, hDi⟩ : ∃ k2 v2 o2 a2 g2 d2, D[i] = ⟨k2, v2, o2, a2, g2, d2⟩ := ⟨_, _, _, _, _, _, rfl⟩
          have hci : ∀ c u, (recC D[i])[c]? = some u → w2.cell? ⟨g, 0 + i * 6 + c, none⟩ = some u := fun c u hu => HO12.out.cell (HCI.out c u hu) id
          rw [hDi] at hci
          have z0 : w2.cell? ⟨g, i * 6, none⟩ = some (.string k2) := by have := hci 0 _ rfl; simpa using this
          have z1 : w2.cell? ⟨g, i * 6 + 1, none⟩ = some (.int .u64 v2) := by have := hci 1 _ rfl; simpa using this
          have z2 : w2.cell? ⟨g, i * 6 + 2, none⟩ = some (.int .i64 o2) := by have := hci 2 _ rfl; simpa using this
          have z3 : w2.cell? ⟨g, i * 6 + 3, none⟩ = some (.int .i64 a2) := by have := hci 3 _ rfl; simpa using this
          have z4 : w2.cell? ⟨g, i * 6 + 4, none⟩ = some (.bool g2) := by have := hci 4 _ rfl; simpa using this
          have z5 : w2.cell? ⟨g, i * 6 + 5, none⟩ = some (.string d2) := by have := hci 5 _ rfl; simpa using this
          obtain ⟨cur, hgb, _⟩ := row_block HR2.out
          have zf : ∀ o, w2.frozen? ⟨g, o, none⟩ = false := free_at hgb
          have hiz : (i : Int) < (L.length : Int) := by omega
          clear hci hDi hgb
          go_wp2_with fail
          go_roundg (L.length - (j + 1))
          case measure => rw [Hg.out]; omega
          case rel =>
            have hr3 := row_over HR2.out (i * 6) (recC ⟨k1, v1, o1, a1, g1, d1⟩) (by rw [recC_length]; omega)
            rw [fl_set recC_length D i hid] at hr3
            have hlD : (D.set i ⟨k1, v1, o1, a1, g1, d1⟩).length = D.length := List.length_set ..
            refine ⟨i + 1, j + 1, D.set i ⟨k1, v1, o1, a1, g1, d1⟩, by go_num, by go_num, ?_, ?_, ?_, rfl⟩
            · have := HK.out.put hlt2 (by rw [HX.out]; exact HQ.out)
              rw [HX.out] at this
              exact this
            · have h7 := setCells_only g (recC ⟨k1, v1, o1, a1, g1, d1⟩) (i * 6) w2
              exact (HO.out.trans (HO12.out.weaken (fun _ _ => False.elim))).trans (h7.weaken (fun b _ e => by rw [e]))
            · unfold RecRow
              rw [hlD]
              exact hr3
        · go_wp2_with fail
          go_roundg (L.length - (j + 1))
          case measure => rw [Hg.out]; omega
          case rel =>
            refine ⟨i, j + 1, D, rfl, by go_num, HK.out.skip hlt2 (by rw [HX.out]; exact HQ.out), HO.out.trans (HO12.out.weaken (fun _ _ => False.elim)), HR2.out, rfl⟩
      · obtain rfl : j = L.length := by omega
        obtain ⟨cur, hgb, hb1, hb2, hb3, hcs, _⟩ := row_block HRW.out
        have hiz : (i : Int) ≤ (L.length : Int) := by omega
        have hic : (i : Int) ≤ (cap : Int) := by omega
        have hin : ¬ cap = i := by omega
        have hlz : ¬ ((L.length : Nat) : Int) < (L.length : Int) := by omega
        have hsz : i * 6 + (L.length - i) * 6 ≤ cap * 6 := by omega
        obtain ⟨us, hus, hcl⟩ := run_clear_recs wr g (i * 6) (L.length - i) (cap - i) (by omega) (fun o ho => by rw [cell_at hgb]; rw [Array.getElem?_eq_getElem (by omega)]; rfl) (fun o _ => free_at hgb _)
        have hr4 := row_over HRW.out (i * 6) us (by rw [hus]; omega)
        have hr5 := row_cut hr4 (show i ≤ D.length by omega)
        have HUS := Lib.hid hus
        have HR5 := Lib.hid hr5
        clear hus hr5
        clear hgb hb1 hb2 hb3 hcs hsz hr4
        go_wp2_with fail
        go_ret
        refine ⟨_, rfl, ?_, ?_⟩
        · exact HO.out.trans ((setCells_only g us (i * 6) wr).weaken (fun b _ e => by rw [e]))
        · have hfl := HK.out.done
          have hli : (D.take i).length = i := by rw [List.length_take]; omega
          have h7 := HR5.out
          have e1 : ((D.flatMap recC).take (i * 6)).length = i * 6 := by rw [fl_take recC_length, fl_length recC_length, hli]
          rw [List.append_assoc, List.take_append, e1, Nat.sub_self, List.take_zero, List.append_nil, List.take_take, Nat.min_self, fl_take recC_length, hfl] at h7
          rw [hfl] at hli
          unfold RecRow
          rw [hli]
          exact h7
end Go.Proofs.YtianboachknfmaaDoor
