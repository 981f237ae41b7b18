/- A store: Tick. -/
import Derived.Test.YtjdlcfllmpdffaaDoorMD
import Derived.Test.YtjdlcfllmpdffaaDoorMA
import Derived.Test.YtjdlcfllmpdffaaDoorMC
import Derived.RegionTactic
/-! slices.DeleteFunc and slices.IndexFunc at slices of records. -/
namespace Go.Proofs.YtjdlcfllmpdffaaDoor
open Go.Conc Go.RowKit Go.Maps

/-- A function value that asks p of each record of L, wherever only one block may have changed. -/
def RecPred (k : Nat) (caps : Array Value) (p : RecT → Bool) (L : List RecT) (ob : Option Nat) (w : World) : Prop :=
  ∀ x ∈ L, ∀ W, Only (fun i => ob = some i) w W → Calls Tryd.prog k (#[recT x] ++ caps) W fun e w' => e = .returned (.bool (p x)) ∧ Only (fun _ => False) W w'
theorem RecPred.at {k : Nat} {caps : Array Value} {p : RecT → Bool} {L : List RecT} {ob : Option Nat} {w w1 : World} (h : RecPred k caps p L ob w) (ho : Only (fun i => ob = some i) w w1) : RecPred k caps p L ob w1 :=
  fun x hx W hW => h x hx W (ho.trans hW)
def idxV (p : RecT → Bool) (L : List RecT) : Int := if L.all (fun x => !p x) then -1 else (L.findIdx p : Nat)
set_option maxRecDepth 100000 in
theorem ridx_any (w : World) (base : Nat) (v : Value) (L : List RecT) (k : Nat) (caps : Array Value) (p : RecT → Bool) (hrow : RecRow w base v L) (he : ∀ args w, (callFunc k args).run Tryd.prog w = .ok (.enter k args) w) (hp : RecPred k caps p L v.ownBlock w) :
    Calls Tryd.prog 92 #[v, .func (.func k) #[] caps] w fun e w' => e = .returned (.int .i64 (idxV p L)) ∧ Only (fun _ => False) w w' := by
  obtain ⟨a, cap, rfl, h1, h2, h3⟩ := Sl.cells recC_length (Sl.of_owns hrow)
  unfold maxLen at h2
  have HC := Lib.hid h3
  have HP := Lib.hid hp
  have HR := Lib.hid hrow
  clear h3 hp hrow
  go_enter Tryd.func92, Tryd.ntmps92
  go_wp2_with fail
  go_loopg [8] L.length (fun g v8 wr => ∃ j : Nat, v8 = .int .i64 j ∧ j ≤ L.length ∧ Only (fun _ => False) w wr ∧ (∀ i (hi : i < L.length), i < j → p L[i] = false) ∧ g = L.length - j)
  case atStart => exact ⟨0, rfl, Nat.zero_le _, Only.refl _ _, fun _ _ h => absurd h (Nat.not_lt_zero _), rfl⟩
  case round =>
    obtain ⟨j, rfl, hj, ho, hall, hg⟩ := hrel
    have Hg := Lib.hid hg
    have HO := Lib.hid ho
    have HA := Lib.hid hall
    clear hg ho hall
    by_cases hlt : j < L.length
    · obtain ⟨b, off, ha, hc⟩ := HC.out.at j hlt
      subst ha
      have hcall := HP.out L[j] (List.getElem_mem hlt) wr (HO.out.weaken (fun _ _ => False.elim))
      have hpj : ∃ q, p L[j] = q := ⟨_, rfl⟩
      obtain ⟨q, hq⟩ := hpj
      have HQ := Lib.hid hq
      rw [hq] at hcall
      clear hq
      have hcr : ∀ i u, (recC L[j])[i]? = some u → wr.cell? ⟨b, off + j * 6 + i, none⟩ = some u := fun i u hu => HO.out.cell (hc i u hu) id
      unfold recT at hcall
      unfold recC at hcr
      have y0 := hcr 0 _ rfl
      have y1 := hcr 1 _ rfl
      have y2 := hcr 2 _ rfl
      have y3 := hcr 3 _ rfl
      have y4 := hcr 4 _ rfl
      have y5 := hcr 5 _ rfl
      clear hc hcr
      simp only [Nat.add_zero] at y0
      generalize L[j].key = k1 at *
      generalize L[j].ver = v1 at *
      generalize L[j].o = o1 at *
      generalize L[j].age = a1 at *
      generalize L[j].gone = g1 at *
      generalize L[j].data = d1 at *
      have HCALL := Lib.hid hcall
      clear hcall
      have hlt' : (j : Int) < (L.length : Int) := by omega
      go_wp2_with fail
      refine HCALL.out.mono ?_
      rintro e w2 ⟨rfl, ho2⟩
      have ho3 := HO.out.trans ho2
      have HO3 := Lib.hid ho3
      clear ho3
      clear ho2 y0 y1 y2 y3 y4 y5
      cases q
      · go_wp2_with fail
        go_roundg (L.length - (j + 1))
        case measure => rw [Hg.out]; omega
        case rel =>
          refine ⟨j + 1, by go_num, by omega, HO3.out, fun i hi hij => ?_, rfl⟩
          rcases (by omega : i < j ∨ i = j) with h | rfl
          · exact HA.out i hi h
          · exact HQ.out
      · go_wp2_with fail
        go_ret
        refine ⟨?_, HO3.out⟩
        have hi : L.findIdx p = j := (List.findIdx_eq hlt).2 ⟨HQ.out, fun i hi => HA.out i (by omega) hi⟩
        have hn : L.all (fun x => !p x) = false := by
          rw [List.all_eq_false]
          exact ⟨L[j], List.getElem_mem hlt, by simp [HQ.out]⟩
        unfold idxV
        rw [hn, hi]
        rfl
    · have hlt' : ¬ (j : Int) < (L.length : Int) := by omega
      go_wp2_with fail
      go_ret
      refine ⟨?_, HO.out⟩
      have hn : L.all (fun x => !p x) = true := by
        rw [List.all_eq_true]
        intro x hx
        obtain ⟨i, hi, rfl⟩ := List.getElem_of_mem hx
        simp [HA.out i hi (by omega)]
      unfold idxV
      rw [hn]
      rfl
theorem filter_take_succ (p : RecT → Bool) (L : List RecT) (j : Nat) (hj : j < L.length) : (L.take (j + 1)).filter (fun x => !p x) = (L.take j).filter (fun x => !p x) ++ if p L[j] then [] else [L[j]] := by
  rw [List.take_add_one, List.getElem?_eq_getElem hj, List.filter_append]
  congr 1
  cases h : p L[j] <;> simp [h]
/-- A row while it is cut down: i kept, from j on as it was. -/
structure Kept (p : RecT → Bool) (L D : List RecT) (i j : Nat) : Prop where
  len : D.length = L.length
  lt : i < j
  jl : j ≤ L.length
  low : D.take i = (L.take j).filter (fun x => !p x)
  high : D.drop j = L.drop j
theorem Kept.start {p : RecT → Bool} {L : List RecT} (h : L.all (fun x => !p x) = false) : L.findIdx p < L.length ∧ Kept p L L (L.findIdx p) (L.findIdx p + 1) := by
  have hlt : L.findIdx p < L.length := by
    rw [List.findIdx_lt_length]
    rw [List.all_eq_false] at h
    obtain ⟨x, hx, hp⟩ := h
    exact ⟨x, hx, by simpa using hp⟩
  refine ⟨hlt, rfl, by omega, by omega, ?_, rfl⟩
  have hpt : p L[L.findIdx p] = true := List.findIdx_getElem (w := hlt)
  rw [filter_take_succ p L _ hlt, hpt, if_pos rfl, List.append_nil]
  symm
  rw [List.filter_eq_self]
  intro x hx
  obtain ⟨i, hi, rfl⟩ := List.getElem_of_mem hx
  rw [List.length_take] at hi
  have := List.not_of_lt_findIdx (p := p) (xs := L) (i := i) (by omega)
  rw [List.getElem_take]
  simpa using this
theorem Kept.at {p : RecT → Bool} {L D : List RecT} {i j : Nat} (h : Kept p L D i j) (hj : j < L.length) : ∃ hd : j < D.length, D[j] = L[j] := by
  have hd : j < D.length := by rw [h.len]; exact hj
  refine ⟨hd, ?_⟩
  have h1 : (D.drop j)[0]? = (L.drop j)[0]? := by rw [h.high]
  simpa [hd, hj] using h1
theorem Kept.skip {p : RecT → Bool} {L D : List RecT} {i j : Nat} (h : Kept p L D i j) (hj : j < L.length) (hp : p L[j] = true) : Kept p L D i (j + 1) := by
  refine ⟨h.len, by have := h.lt; omega, by omega, ?_, ?_⟩
  · rw [filter_take_succ p L j hj, hp, if_pos rfl, List.append_nil]; exact h.low
  · have := congrArg (List.drop 1) h.high
    simpa [List.drop_drop] using this
theorem Kept.put {p : RecT → Bool} {L D : List RecT} {i j : Nat} (h : Kept p L D i j) (hj : j < L.length) (hp : p L[j] = false) : Kept p L (D.set i L[j]) (i + 1) (j + 1) := by
  have hi : i < D.length := by have h1 := h.lt; have h2 := h.len; omega
  refine ⟨by rw [List.length_set]; exact h.len, by have := h.lt; omega, by omega, ?_, ?_⟩
  · rw [filter_take_succ p L j hj, hp, if_neg (by decide), ← h.low, List.take_add_one, List.take_set_of_le (Nat.le_refl _), List.getElem?_set_self hi]
    rfl
  · have := congrArg (List.drop 1) h.high
    rw [List.drop_set_of_lt (by have := h.lt; omega)]
    simpa [List.drop_drop] using this
theorem Kept.done {p : RecT → Bool} {L D : List RecT} {i : Nat} (h : Kept p L D i L.length) : D.take i = L.filter (fun x => !p x) := by
  have := h.low
  rwa [List.take_length] at this
theorem run_clear_recs (w : World) (b o n c : Nat) (hn : 0 < n) (hc : ∀ j, j < n * 6 → (w.cell? ⟨b, o + j, none⟩).isSome = true) (hf : ∀ j, j < n * 6 → w.frozen? ⟨b, o + j, none⟩ = false) :
    ∃ us : List Value, us.length = n * 6 ∧ ∀ ty, (Builtin.clear_ #[28] ty #[.slice (some ⟨b, o, none⟩) n c]).run Tryd.prog w = .ok (.tuple #[]) (w.setCells b o us) := by
  have hz : (recT zeroR).cells.size = 6 := rfl
  have hl : (Builtin.zeroCells (recT zeroR).cells n).toList.length = n * 6 := by
    simp [Builtin.zeroCells, hz]
  have h1 : ∀ u ∈ (Builtin.zeroCells (recT zeroR).cells n).toList, u.oneCell' = true := by
    intro u hu
    simp only [Builtin.zeroCells] at hu
    obtain ⟨i, _, rfl⟩ := Array.mem_map.1 (Array.mem_toList_iff.1 hu)
    rw [hz]
    rcases (by omega : i % 6 = 0 ∨ i % 6 = 1 ∨ i % 6 = 2 ∨ i % 6 = 3 ∨ i % 6 = 4 ∨ i % 6 = 5) with h | h | h | h | h | h <;> rw [h] <;> rfl
  refine ⟨(Builtin.zeroCells (recT zeroR).cells n).toList, hl, fun ty => ?_⟩
  have hst := run_storeCells_cells (P := Tryd.prog) b o (Builtin.zeroCells (recT zeroR).cells n).toList 0 w (by rw [hl]; simpa using hc) (by rw [hl]; simpa using hf) h1
  simp only [Nat.add_zero] at hst
  obtain ⟨m, rfl⟩ : ∃ m, n = m + 1 := ⟨n - 1, by omega⟩
  simp [Builtin.clear_, run_underlying Tryd.underlying28]
  exact congrArg (fun r : Result Unit => r.andThen fun _ w' => Result.ok (Value.tuple #[]) w') hst
set_option maxRecDepth 100000 in
set_option maxHeartbeats 1000000 in
theorem rdel_any (w : World) (base : Nat) (v : Value) (L : List RecT) (k : Nat) (caps : Array Value) (p : RecT → Bool) (hrow : RecRow w base v L) (hL : L.length ≤ 1000000) (he : ∀ args w, (callFunc k args).run Tryd.prog w = .ok (.enter k args) w) (hp : RecPred k caps p L v.ownBlock w) :
    Calls Tryd.prog 68 #[v, .func (.func k) #[] caps] w fun e w' => ∃ v', e = .returned v' ∧ Only (fun i => v.ownBlock = some i) w w' ∧ RecRow w' base v' (L.filter (fun x => !p x)) := by
  have hix := ridx_any w base v L k caps p hrow he hp
  have HIX := Lib.hid hix
  have HP := Lib.hid hp
  have HR := Lib.hid hrow
  clear hix hp hrow
  by_cases hall : L.all (fun x => !p x) = true
  · have hidx : idxV p L = -1 := by unfold idxV; rw [if_pos hall]
    have hfl : L.filter (fun x => !p x) = L := by
      rw [List.filter_eq_self]
      rw [List.all_eq_true] at hall
      exact hall
    rw [hidx] at HIX
    rw [hfl]
    clear hidx hfl hall
    go_enter Tryd.func68, Tryd.ntmps68
    go_wp2_with fail
    refine HIX.out.mono ?_
    rintro e w1 ⟨rfl, ho1⟩
    go_wp2_with fail
    go_ret
    exact ⟨v, rfl, ho1.weaken (fun _ _ => False.elim), owns_only HR.out ho1 (fun _ _ => id)⟩
  · have hall2 : L.all (fun x => !p x) = false := by simpa using hall
    obtain ⟨hlt, hK0⟩ := Kept.start hall2
    have hidx : idxV p L = (L.findIdx p : Nat) := by unfold idxV; rw [if_neg hall]
    rw [hidx] at HIX
    have hn1 : (((L.findIdx p : Nat) : Int) == -1) = false := beq_eq_false_iff_ne.2 (by omega)
    have HK0 := Lib.hid hK0
    clear hidx hall hall2 hK0
    generalize L.findIdx p = i0 at *
    obtain ⟨g, cap, rfl⟩ : ∃ g cap, v = .slice (some ⟨g, 0, none⟩) L.length cap := by
      rcases HR.out.2 with ⟨_, h2⟩ | ⟨g, cap, cur, h2, _⟩
      · omega
      · exact ⟨g, cap, h2⟩
    have hcap : L.length ≤ cap ∧ cap ≤ 9223372036854775807 := by
      obtain ⟨cur, _, _, h1, h2, _⟩ := row_block HR.out
      unfold maxLen at h2
      exact ⟨h1, h2⟩
    obtain ⟨hcap1, hcap2⟩ := hcap
    go_enter Tryd.func68, Tryd.ntmps68
    go_wp2_with fail
    refine HIX.out.mono ?_
    rintro e w1 ⟨rfl, ho1⟩
    have hr1 := owns_only HR.out ho1 (fun _ _ => id)
    have HO1 := Lib.hid ho1
    have HR1 := Lib.hid hr1
    clear ho1 hr1
    clear HIX
    go_wp2_with fail
    go_loopg [5, 6] (L.length - (i0 + 1)) (fun gg v5 v6 wr => ∃ (i j : Nat) (D : List RecT), v5 = .int .i64 i ∧ v6 = .int .i64 j ∧ Kept p L D i j ∧ Only (fun b => some g = some b) w wr ∧ RecRow wr base (.slice (some ⟨g, 0, none⟩) D.length cap) D ∧ gg = L.length - j)
    case atStart => exact ⟨i0, i0 + 1, L, rfl, by go_num, HK0.out, HO1.out.weaken (fun _ _ => False.elim), HR1.out, rfl⟩
    case round =>
      obtain ⟨i, j, D, rfl, rfl, hK, ho, hrw, hg⟩ := hrel
      have hij := hK.lt
      have hjl := hK.jl
      have hDl := hK.len
      have Hg := Lib.hid hg
      have HO := Lib.hid ho
      have HRW := Lib.hid hrw
      have HK := Lib.hid hK
      clear hg ho hrw hK
      by_cases hlt2 : j < L.length
      · obtain ⟨hjd, hDj⟩ := HK.out.at hlt2
        obtain ⟨a', cap', hv', _, _, hC⟩ := Sl.cells recC_length (Sl.of_owns HRW.out)
        obtain ⟨b, off, ha, hc⟩ := hC.once (by omega)
        have hav : a' = some ⟨g, 0, none⟩ := by cases hv'; rfl
        rw [hav] at ha
        cases ha
        have hcj := hc j hjd
        rw [hDj] at hcj
        have hid : i < D.length := by omega
        have HCI := Lib.hid (hc i hid)
        have hx : ∃ x, L[j] = x := ⟨_, rfl⟩
        obtain ⟨x, hx⟩ := hx
        have hmem : x ∈ L := hx ▸ List.getElem_mem hlt2
        have hpx : ∃ q, p x = q := ⟨_, rfl⟩
        obtain ⟨q, hq⟩ := hpx
        rw [hx] at hcj
        obtain ⟨k1, v1, o1, a1, g1, d1⟩ := x
        have y0 : wr.cell? ⟨g, j * 6, none⟩ = some (.string k1) := by have := hcj 0 _ rfl; simpa using this
        have y1 : wr.cell? ⟨g, j * 6 + 1, none⟩ = some (.int .u64 v1) := by have := hcj 1 _ rfl; simpa using this
        have y2 : wr.cell? ⟨g, j * 6 + 2, none⟩ = some (.int .i64 o1) := by have := hcj 2 _ rfl; simpa using this
        have y3 : wr.cell? ⟨g, j * 6 + 3, none⟩ = some (.int .i64 a1) := by have := hcj 3 _ rfl; simpa using this
        have y4 : wr.cell? ⟨g, j * 6 + 4, none⟩ = some (.bool g1) := by have := hcj 4 _ rfl; simpa using this
        have y5 : wr.cell? ⟨g, j * 6 + 5, none⟩ = some (.string d1) := by have := hcj 5 _ rfl; simpa using this
        have hlz : (j : Int) < (L.length : Int) := by omega
        obtain ⟨W, hW⟩ : ∃ W, W = wr.alloc (.cells #[.string k1, .int .u64 v1, .int .i64 o1, .int .i64 a1, .bool g1, .string d1] 33) := ⟨_, rfl⟩
        have hbW : W.heap[wr.heap.size]? = some (.cells #[.string k1, .int .u64 v1, .int .i64 o1, .int .i64 a1, .bool g1, .string d1] 33 (0, 0)) := by rw [hW]; exact heap_alloc_new wr _
        have hoW : Only (fun _ => False) wr W := by rw [hW]; exact (Only.refl _ _).alloc _
        have hsW : W.heap.size = wr.heap.size + 1 := by rw [hW]; simp
        have hcall := HP.out _ hmem W (HO.out.trans (hoW.weaken (fun _ _ => False.elim)))
        rw [hq] at hcall
        have HQ := Lib.hid hq
        have HX := Lib.hid hx
        have HCALL := Lib.hid hcall
        have HBW := Lib.hid hbW
        have HOW := Lib.hid hoW
        have HSW := Lib.hid hsW
        have HDJ := Lib.hid hDj
        have HM := Lib.hid hmem
        clear hq hx hcall hbW hoW hsW hDj hmem
        clear hc hcj hC hv' hav
        go_upto_region 8 with (fail)
        rw [← hW]
        clear hW y0 y1 y2 y3 y4 y5
        have x0 : W.cell? ⟨wr.heap.size, 0, none⟩ = some (.string k1) := cell_at HBW.out 0
        have x1 : W.cell? ⟨wr.heap.size, 1, none⟩ = some (.int .u64 v1) := cell_at HBW.out 1
        have x2 : W.cell? ⟨wr.heap.size, 2, none⟩ = some (.int .i64 o1) := cell_at HBW.out 2
        have x3 : W.cell? ⟨wr.heap.size, 3, none⟩ = some (.int .i64 a1) := cell_at HBW.out 3
        have x4 : W.cell? ⟨wr.heap.size, 4, none⟩ = some (.bool g1) := cell_at HBW.out 4
        have x5 : W.cell? ⟨wr.heap.size, 5, none⟩ = some (.string d1) := cell_at HBW.out 5
        go_wp2_with fail
        refine HCALL.out.mono ?_
        rintro e w2 ⟨rfl, ho2⟩
        have hb2 := ho2.old HBW.out id
        have ho12 := HOW.out.trans ho2
        have hr2 := owns_only HRW.out ho12 (fun _ _ => id)
        have HB2 := Lib.hid hb2
        have HO12 := Lib.hid ho12
        have HR2 := Lib.hid hr2
        clear hb2 ho12 hr2
        clear ho2 x0 x1 x2 x3 x4 x5
        cases q
        · have x0 : w2.cell? ⟨wr.heap.size, 0, none⟩ = some (.string k1) := cell_at HB2.out 0
          have x1 : w2.cell? ⟨wr.heap.size, 1, none⟩ = some (.int .u64 v1) := cell_at HB2.out 1
          have x2 : w2.cell? ⟨wr.heap.size, 2, none⟩ = some (.int .i64 o1) := cell_at HB2.out 2
          have x3 : w2.cell? ⟨wr.heap.size, 3, none⟩ = some (.int .i64 a1) := cell_at HB2.out 3
          have x4 : w2.cell? ⟨wr.heap.size, 4, none⟩ = some (.bool g1) := cell_at HB2.out 4
          have x5 : w2.cell? ⟨wr.heap.size, 5, none⟩ = some (.string d1) := cell_at HB2.out 5
          obtain ⟨k2, v2, o2, a2, g2, d2, hDi⟩ : ∃ k2 v2 o2 a2 g2 d2, D[i] = ⟨k2, v2, o2, a2, g2, d2⟩ := ⟨_, _, _, _, _, _, rfl⟩
          have hci : ∀ c u, (recC D[i])[c]? = some u → w2.cell? ⟨g, 0 + i * 6 + c, none⟩ = some u := fun c u hu => HO12.out.cell (HCI.out c u hu) id
          rw [hDi] at hci
          have z0 : w2.cell? ⟨g, i * 6, none⟩ = some (.string k2) := by have := hci 0 _ rfl; simpa using this
          have z1 : w2.cell? ⟨g, i * 6 + 1, none⟩ = some (.int .u64 v2) := by have := hci 1 _ rfl; simpa using this
          have z2 : w2.cell? ⟨g, i * 6 + 2, none⟩ = some (.int .i64 o2) := by have := hci 2 _ rfl; simpa using this
          have z3 : w2.cell? ⟨g, i * 6 + 3, none⟩ = some (.int .i64 a2) := by have := hci 3 _ rfl; simpa using this
          have z4 : w2.cell? ⟨g, i * 6 + 4, none⟩ = some (.bool g2) := by have := hci 4 _ rfl; simpa using this
          have z5 : w2.cell? ⟨g, i * 6 + 5, none⟩ = some (.string d2) := by have := hci 5 _ rfl; simpa using this
          obtain ⟨cur, hgb, _⟩ := row_block HR2.out
          have zf : ∀ o, w2.frozen? ⟨g, o, none⟩ = false := free_at hgb
          have hiz : (i : Int) < (L.length : Int) := by omega
          clear hci hDi hgb
          go_wp2_with fail
          go_roundg (L.length - (j + 1))
          case measure => rw [Hg.out]; omega
          case rel =>
            have hr3 := row_over HR2.out (i * 6) (recC ⟨k1, v1, o1, a1, g1, d1⟩) (by rw [recC_length]; omega)
            rw [fl_set recC_length D i hid] at hr3
            have hlD : (D.set i ⟨k1, v1, o1, a1, g1, d1⟩).length = D.length := List.length_set ..
            refine ⟨i + 1, j + 1, D.set i ⟨k1, v1, o1, a1, g1, d1⟩, by go_num, by go_num, ?_, ?_, ?_, rfl⟩
            · have := HK.out.put hlt2 (by rw [HX.out]; exact HQ.out)
              rw [HX.out] at this
              exact this
            · have h7 := setCells_only g (recC ⟨k1, v1, o1, a1, g1, d1⟩) (i * 6) w2
              exact (HO.out.trans (HO12.out.weaken (fun _ _ => False.elim))).trans (h7.weaken (fun b _ e => by rw [e]))
            · unfold RecRow
              rw [hlD]
              exact hr3
        · go_wp2_with fail
          go_roundg (L.length - (j + 1))
          case measure => rw [Hg.out]; omega
          case rel =>
            refine ⟨i, j + 1, D, rfl, by go_num, HK.out.skip hlt2 (by rw [HX.out]; exact HQ.out), HO.out.trans (HO12.out.weaken (fun _ _ => False.elim)), HR2.out, rfl⟩
      · obtain rfl : j = L.length := by omega
        obtain ⟨cur, hgb, hb1, hb2, hb3, hcs, _⟩ := row_block HRW.out
        have hiz : (i : Int) ≤ (L.length : Int) := by omega
        have hic : (i : Int) ≤ (cap : Int) := by omega
        have hin : ¬ cap = i := by omega
        have hlz : ¬ ((L.length : Nat) : Int) < (L.length : Int) := by omega
        have hsz : i * 6 + (L.length - i) * 6 ≤ cap * 6 := by omega
        obtain ⟨us, hus, hcl⟩ := run_clear_recs wr g (i * 6) (L.length - i) (cap - i) (by omega) (fun o ho => by rw [cell_at hgb]; rw [Array.getElem?_eq_getElem (by omega)]; rfl) (fun o _ => free_at hgb _)
        have hr4 := row_over HRW.out (i * 6) us (by rw [hus]; omega)
        have hr5 := row_cut hr4 (show i ≤ D.length by omega)
        have HUS := Lib.hid hus
        have HR5 := Lib.hid hr5
        clear hus hr5
        clear hgb hb1 hb2 hb3 hcs hsz hr4
        go_wp2_with fail
        go_ret
        refine ⟨_, rfl, ?_, ?_⟩
        · exact HO.out.trans ((setCells_only g us (i * 6) wr).weaken (fun b _ e => by rw [e]))
        · have hfl := HK.out.done
          have hli : (D.take i).length = i := by rw [List.length_take]; omega
          have h7 := HR5.out
          have e1 : ((D.flatMap recC).take (i * 6)).length = i * 6 := by rw [fl_take recC_length, fl_length recC_length, hli]
          rw [List.append_assoc, List.take_append, e1, Nat.sub_self, List.take_zero, List.append_nil, List.take_take, Nat.min_self, fl_take recC_length, hfl] at h7
          rw [hfl] at hli
          unfold RecRow
          rw [hli]
          exact h7
end Go.Proofs.YtjdlcfllmpdffaaDoor
/-! A store: Named, Ids. -/
namespace Go.Proofs.YtjdlcfllmpdffaaDoor
open Go.Conc Go.RowKit Go.Maps

/-- Not of a name, or gone. -/
def unnamed (name : ByteArray) (x : RecT) : Bool := !decide (splitS x.key = name) || x.gone
set_option maxRecDepth 100000 in
theorem named1_any (w : World) (B : Nat) (name : ByteArray) (x : RecT) (m : Int) (hm : w.cell? ⟨0, 0, none⟩ = some (.int .i64 m)) (hB : w.cell? ⟨B, 0, none⟩ = some (.string name)) (hk : x.key.size ≤ 1000000) :
    Calls Tryd.prog 69 #[recT x, .pointer (some ⟨B, 0, none⟩)] w fun e w' => e = .returned (.bool (unnamed name x)) ∧ Only (fun _ => False) w w' := by
  have HU := Lib.hid (show unnamed name x = (!decide (splitS x.key = name) || x.gone) from rfl)
  unfold recT
  generalize hu : unnamed name x = U at *
  obtain ⟨k1, v1, o1, a1, g1, d1⟩ := x
  simp only at hk HU ⊢
  obtain ⟨W, hW⟩ : ∃ W, W = w.alloc (.cells #[.string k1, .int .u64 v1, .int .i64 o1, .int .i64 a1, .bool g1, .string d1] 33) := ⟨_, rfl⟩
  have hbW : W.heap[w.heap.size]? = some (.cells #[.string k1, .int .u64 v1, .int .i64 o1, .int .i64 a1, .bool g1, .string d1] 33 (0, 0)) := by rw [hW]; exact heap_alloc_new w _
  have hoW : Only (fun _ => False) w W := by rw [hW]; exact (Only.refl _ _).alloc _
  have hsW : W.heap.size = w.heap.size + 1 := by rw [hW]; simp
  have hsp := split_any W k1 m (hoW.cell hm id) hk
  have hBW := hoW.cell hB id
  have HSP := Lib.hid hsp
  have HBB := Lib.hid hBW
  have HBW := Lib.hid hbW
  have HOW := Lib.hid hoW
  have HSW := Lib.hid hsW
  have HUU := Lib.hid hu
  clear hsp hBW hbW hoW hsW hu
  clear hm hB hk
  go_enter Tryd.func69, Tryd.ntmps69
  go_upto_region 1 with (fail)
  rw [← hW]
  clear hW
  have x0 : W.cell? ⟨w.heap.size, 0, none⟩ = some (.string k1) := cell_at HBW.out 0
  go_wp2_with fail
  refine HSP.out.mono ?_
  rintro e w1 ⟨rfl, ho1⟩
  have x4 : w1.cell? ⟨w.heap.size, 4, none⟩ = some (.bool g1) := cell_at (ho1.old HBW.out id) 4
  have xb := ho1.cell HBB.out id
  have ho2 := HOW.out.trans ho1
  have HO2 := Lib.hid ho2
  clear ho2
  clear x0 ho1
  generalize splitS k1 = nm at *
  by_cases h : nm = name
  · have hs := str_eq h
    have hU : U = g1 := by rw [HU.out, h]; simp
    have HE := Lib.hid h
    have HUE := Lib.hid hU
    clear h hU
    go_wp2_with fail
    go_ret
    exact ⟨ret_bool HUE.out.symm, HO2.out⟩
  · have hs := str_ne h
    have hU : U = true := by rw [HU.out, decide_eq_false h]; rfl
    have HE := Lib.hid h
    have HUE := Lib.hid hU
    clear h hU
    go_wp2_with fail
    go_ret
    exact ⟨ret_bool HUE.out.symm, HO2.out⟩
set_option maxRecDepth 100000 in
theorem snamed_any (w : World) (s b : Nat) (most ttl r : Int) (L : List RecT) (h : StoreAt w s b most ttl r L) (name : ByteArray) (m : Int) (hm : w.cell? ⟨0, 0, none⟩ = some (.int .i64 m)) :
    Calls Tryd.prog 29 #[.pointer (some ⟨s, 0, none⟩), .string name] w fun e w' => ∃ v, e = .returned v ∧ Only (fun _ => False) w w' ∧ RecRow w' w.heap.size v (L.filter (fun x => !unnamed name x)) := by
  obtain ⟨W, hW⟩ : ∃ W, W = w.alloc (.cells #[.string name] 9) := ⟨_, rfl⟩
  have hbW : W.heap[w.heap.size]? = some (.cells #[.string name] 9 (0, 0)) := by rw [hW]; exact heap_alloc_new w _
  have hoW : Only (fun _ => False) w W := by rw [hW]; exact (Only.refl _ _).alloc _
  have hsW : W.heap.size = w.heap.size + 1 := by rw [hW]; simp
  have hhW := h.new hoW
  have hmW := hoW.cell hm id
  have hL := h.ok.len
  have hgk : ∀ x ∈ L, x.key.size ≤ 1000000 := fun x hx => by have := good_keys (h.ok.goods x hx).1; omega
  have hmf : ∀ (fn : Fn) (first cap : Array Value) (w : World), (Instr.makeFunc fn first cap).run Tryd.prog w = .ok (.func fn first cap) w := fun _ _ _ _ => rfl
  have hxW : W.cell? ⟨w.heap.size, 0, none⟩ = some (.string name) := cell_at hbW 0
  have HH := Lib.hid hhW
  have HM := Lib.hid hmW
  have HX := Lib.hid hxW
  have HOW := Lib.hid hoW
  have HSW := Lib.hid hsW
  have HGK := Lib.hid hgk
  clear hhW hmW hxW hoW hsW hgk
  clear h hm hbW
  go_enter Tryd.func29, Tryd.ntmps29
  go_upto_region 1 with (fail)
  rw [← hW]
  clear hW
  go_wp2_with fail
  refine (sall_any W s b most ttl r L HH.out).mono ?_
  rintro e w1 ⟨v, rfl, ho1, hrow⟩
  have hp : RecPred 69 #[.pointer (some ⟨w.heap.size, 0, none⟩)] (unnamed name) L v.ownBlock w1 := by
    intro x hx W1 hW1
    have hne : ∀ k, k < W.heap.size → ¬ v.ownBlock = some k := fun k hk e => by have := (hrow.lt k e).1; omega
    have hs := HSW.out
    have hm1 := HM.out
    exact named1_any W1 w.heap.size name x m (hW1.cell (ho1.cell hm1 id) (hne _ (World.block_lt_of_cell? _ _ hm1))) (hW1.cell (ho1.cell HX.out id) (hne _ (by show w.heap.size < W.heap.size; omega))) (HGK.out x hx)
  have HD := Lib.hid (rdel_any w1 W.heap.size v L 69 #[.pointer (some ⟨w.heap.size, 0, none⟩)] (unnamed name) hrow (by omega) (enters_of Tryd.func69 (by kernel_rfl) rfl) hp)
  have hlt : ∀ k, v.ownBlock = some k → W.heap.size ≤ k := fun k e => (hrow.lt k e).1
  have HLT := Lib.hid hlt
  have HO1 := Lib.hid ho1
  clear hlt ho1
  clear hrow hp
  go_wp2_with fail
  refine HD.out.mono ?_
  rintro e w2 ⟨v2, rfl, ho2, hrow2⟩
  have HO2 := Lib.hid ho2
  have HR2 := Lib.hid hrow2
  clear ho2 hrow2
  go_wp2_with fail
  go_ret
  refine ⟨v2, rfl, (HOW.out.trans HO1.out).tr HO2.out (fun i hi e => ?_), ownsRow_base_a HR2.out (by have := HSW.out; omega)⟩
  have h1 := HLT.out i e
  have h2 := HSW.out
  omega
/-- The two cells of a record's id. -/
def idC (x : RecT) : List Value := [.string x.key, .int .u64 x.ver]
theorem idC_length (x : RecT) : (idC x).length = 2 := rfl
theorem idC_one (x : RecT) : ∀ u ∈ idC x, u.oneCell' = true := by
  intro u hu
  simp only [idC, List.mem_cons, List.not_mem_nil, or_false] at hu
  rcases hu with rfl | rfl <;> rfl
abbrev IdRow (w : World) (base : Nat) (v : Value) (L : List RecT) : Prop := w.ownsRow base 31 2 v L.length (L.flatMap idC)
theorem sids_nil (w : World) : Calls Tryd.prog 33 #[.pointer none] w fun e w' => e = .returned (.slice none 0 0) ∧ w = w' := by
  go_enter Tryd.func33, Tryd.ntmps33
  go_wp2_with fail
  refine (sall_nil w).mono ?_
  rintro e w1 ⟨rfl, rfl⟩
  go_wp2_with fail
  refine wp_loop_rounds 1 ?_
  rw [rounds_succ]
  go_wp2_with fail
  go_ret
  exact ⟨rfl, rfl⟩
set_option maxRecDepth 100000 in
theorem sids_any (w : World) (s b : Nat) (most ttl r : Int) (L : List RecT) (h : StoreAt w s b most ttl r L) :
    Calls Tryd.prog 33 #[.pointer (some ⟨s, 0, none⟩)] w fun e w' => ∃ v, e = .returned v ∧ Only (fun _ => False) w w' ∧ IdRow w' w.heap.size v L := by
  obtain ⟨i0, hi0, iz0, iz1, iz2⟩ := info_parts infoId
  have hLl := h.ok.len
  have HALL := Lib.hid (sall_any w s b most ttl r L h)
  clear h
  go_enter Tryd.func33, Tryd.ntmps33
  go_wp2_with fail
  refine HALL.out.mono ?_
  rintro e w1 ⟨v, rfl, ho1, hrow⟩
  obtain ⟨ka, kcap, rfl, k1, k2, k3⟩ := Sl.cells recC_length (Sl.of_owns hrow)
  unfold maxLen at k2
  have HO1 := Lib.hid ho1
  have HK := Lib.hid k3
  clear ho1 k3
  clear hrow HALL
  go_wp2_with fail
  go_loopg [3, 9] L.length (fun g v3 v9 wr => ∃ k : Nat, v9 = .int .i64 k ∧ k ≤ L.length ∧ Only (fun _ => False) w1 wr ∧ IdRow wr w1.heap.size v3 (L.take k) ∧ g = L.length - k)
  case atStart => exact ⟨0, rfl, Nat.zero_le _, Only.refl _ _, World.ownsRow_nil w1 _ _ _, rfl⟩
  case round =>
    obtain ⟨k, rfl, hk, ho, hown, hg⟩ := hrel
    have Hg := Lib.hid hg
    have HO := Lib.hid ho
    have HW := Lib.hid hown
    clear hg ho hown
    by_cases hlt : k < L.length
    · obtain ⟨kb, koff, ha, hc⟩ := HK.out.at k hlt
      subst ha
      have hcr : ∀ i u, (recC L[k])[i]? = some u → wr.cell? ⟨kb, koff + k * 6 + i, none⟩ = some u := fun i u hu => HO.out.cell (hc i u hu) id
      have htk : L.take (k + 1) = L.take k ++ [L[k]] := by rw [List.take_add_one, List.getElem?_eq_getElem hlt]; rfl
      have hln : (L.take k).length = k := by simp; omega
      have HTK := Lib.hid htk
      have HLN := Lib.hid hln
      clear htk hln
      generalize L[k] = x at *
      obtain ⟨k1, v1, o1, a1, g1, d1⟩ := x
      have y0 : wr.cell? ⟨kb, koff + k * 6, none⟩ = some (.string k1) := hcr 0 _ rfl
      have y1 := hcr 1 _ rfl
      have y2 := hcr 2 _ rfl
      have y3 := hcr 3 _ rfl
      have y4 := hcr 4 _ rfl
      have y5 := hcr 5 _ rfl
      clear hc hcr
      simp only at y1 y2 y3 y4 y5
      have hlt' : (k : Int) < (L.length : Int) := by omega
      obtain ⟨W, hW⟩ : ∃ W, W = wr.alloc (.cells #[.string k1, .int .u64 v1, .int .i64 o1, .int .i64 a1, .bool g1, .string d1] 33) := ⟨_, rfl⟩
      have hbW : W.heap[wr.heap.size]? = some (.cells #[.string k1, .int .u64 v1, .int .i64 o1, .int .i64 a1, .bool g1, .string d1] 33 (0, 0)) := by rw [hW]; exact heap_alloc_new wr _
      have hoW : Only (fun _ => False) wr W := by rw [hW]; exact (Only.refl _ _).alloc _
      have hsW : W.heap.size = wr.heap.size + 1 := by rw [hW]; simp
      have HBW := Lib.hid hbW
      have HOW := Lib.hid hoW
      have HSW := Lib.hid hsW
      clear hbW hoW hsW
      go_upto_region 5 with (fail)
      rw [← hW]
      clear hW y0 y1 y2 y3 y4 y5
      have x0 : W.cell? ⟨wr.heap.size, 0, none⟩ = some (.string k1) := cell_at HBW.out 0
      have x1 : W.cell? ⟨wr.heap.size, 1, none⟩ = some (.int .u64 v1) := cell_at HBW.out 1
      go_wp2_with (at_builtin; refine Wait.mk ?_)
      refine Wait.go (wpList_append_src _ rfl (.tmp 13) (.tmp 16) 54 54 rfl w1.heap.size 31 i0 _ 2 24 Tryd.underlying54 hi0 iz0 iz1 iz2 rfl _ (L.take k).length ((L.take k).flatMap idC) rfl ((owns_only HW.out HOW.out (fun _ _ => id)).alloc _) _ 1 (idC ⟨k1, v1, o1, a1, g1, d1⟩) rfl ?src4 ?m4 ?b4 ?base4 ?_)
      case src4 => exact Src.ofSlice _ Tryd.underlying54 _ _ _ _ rfl (news_new _ _ _) (idC_one _)
      case m4 => have := HLN.out; unfold maxLen; omega
      case b4 => have := HLN.out; omega
      case base4 => have h1 := HO.out.size; have h2 := HOW.out.size; simp; omega
      intro v4 w5 own4 gr4 hv4
      have ho5 : Only (fun _ => False) w1 w5 := ((HO.out.trans HOW.out).alloc _).own ((owns_only HW.out HOW.out (fun _ _ => id)).alloc _) (Nat.le_refl _) gr4
      have HO5 := Lib.hid ho5
      have HW5 := Lib.hid own4
      clear ho5 own4
      clear x0 x1 gr4 hv4
      go_wp2_with fail
      go_roundg (L.length - (k + 1))
      case measure => rw [Hg.out]; omega
      case rel =>
        refine ⟨k + 1, by go_num, by omega, HO5.out, ?_, rfl⟩
        unfold IdRow
        rw [HTK.out, List.length_append, List.flatMap_append]
        have e1 : [RecT.mk k1 v1 o1 a1 g1 d1].flatMap idC = idC ⟨k1, v1, o1, a1, g1, d1⟩ := by simp
        rw [e1]
        exact HW5.out
    · have hke : k = L.length := by omega
      have hlt' : ¬ (k : Int) < (L.length : Int) := by omega
      have hW := HW.out
      rw [hke, List.take_length] at hW
      have HW2 := Lib.hid hW
      clear hW
      clear hke
      go_wp2_with fail
      go_ret
      exact ⟨_, rfl, HO1.out.trans HO.out, ownsRow_base_a HW2.out HO1.out.size⟩
theorem snamed_nil (w : World) (name : ByteArray) : Calls Tryd.prog 29 #[.pointer none, .string name] w fun e w' => ∃ v, e = .returned v ∧ Only (fun _ => False) w w' ∧ RecRow w' w.heap.size v [] := by
  have hmf : ∀ (fn : Fn) (first cap : Array Value) (w : World), (Instr.makeFunc fn first cap).run Tryd.prog w = .ok (.func fn first cap) w := fun _ _ _ _ => rfl
  obtain ⟨W, hW⟩ : ∃ W, W = w.alloc (.cells #[.string name] 9) := ⟨_, rfl⟩
  have hbW : W.heap[w.heap.size]? = some (.cells #[.string name] 9 (0, 0)) := by rw [hW]; exact heap_alloc_new w _
  have hoW : Only (fun _ => False) w W := by rw [hW]; exact (Only.refl _ _).alloc _
  have hsW : W.heap.size = w.heap.size + 1 := by rw [hW]; simp
  have HOW := Lib.hid hoW
  clear hoW
  clear hbW hsW
  go_enter Tryd.func29, Tryd.ntmps29
  go_upto_region 1 with (fail)
  rw [← hW]
  clear hW
  go_wp2_with fail
  refine (sall_nil W).mono ?_
  rintro e w1 ⟨rfl, rfl⟩
  have HD := Lib.hid (rdel_any W W.heap.size (.slice none 0 0) [] 69 #[.pointer (some ⟨w.heap.size, 0, none⟩)] (unnamed name) (World.ownsRow_nil _ _ _ _) (by simp) (enters_of Tryd.func69 (by kernel_rfl) rfl) (fun x hx => by cases hx))
  go_wp2_with fail
  refine HD.out.mono ?_
  rintro e w2 ⟨v2, rfl, ho2, hrow2⟩
  have HO2 := Lib.hid ho2
  have HR2 := Lib.hid hrow2
  clear ho2 hrow2
  go_wp2_with fail
  go_ret
  exact ⟨v2, rfl, HOW.out.trans (HO2.out.weaken (fun i _ e => by cases e)), ownsRow_base_a HR2.out HOW.out.size⟩
end Go.Proofs.YtjdlcfllmpdffaaDoor
/-! A store: Tick. -/
namespace Go.Proofs.YtjdlcfllmpdffaaDoor
open Go.Conc Go.RowKit Go.Maps

theorem rising_mid {A0 A C : List RecT} (h : Rising (A0 ++ C)) (hA : Rising A) (hk : ∀ a ∈ A, ∃ a0 ∈ A0, a.key = a0.key) : Rising (A ++ C) := by
  obtain ⟨h1, h2, h3⟩ := List.pairwise_append.1 h
  refine List.pairwise_append.2 ⟨hA, h2, fun a ha c hc => ?_⟩
  obtain ⟨a0, h4, e⟩ := hk a ha
  rw [e]
  exact h3 a0 h4 c hc
theorem mem_tick {ttl : Int} {L : List RecT} {y : RecT} : y ∈ tickS ttl L ↔ ∃ x ∈ L, y = older x ∧ x.age + 1 < ttl := by
  unfold tickS
  rw [List.mem_filter, List.mem_map]
  constructor
  · rintro ⟨⟨x, hx, rfl⟩, h⟩
    exact ⟨x, hx, rfl, of_decide_eq_true h⟩
  · rintro ⟨x, hx, rfl, h⟩
    exact ⟨⟨x, hx, rfl⟩, decide_eq_true h⟩
theorem rising_tick {ttl : Int} {L : List RecT} (h : Rising L) : Rising (tickS ttl L) := rising_filter (rising_map h older (fun _ => rfl)) _
theorem tick_append (ttl : Int) (A B : List RecT) : tickS ttl (A ++ B) = tickS ttl A ++ tickS ttl B := by
  unfold tickS
  rw [List.map_append, List.filter_append]
theorem tick_one (ttl : Int) (x : RecT) : tickS ttl [x] = if x.age + 1 < ttl then [older x] else [] := by
  unfold tickS
  by_cases h : x.age + 1 < ttl
  · rw [if_pos h]; simp [older, h]
  · rw [if_neg h]; simp [older]; omega
theorem length_tick_le (ttl : Int) (L : List RecT) : (tickS ttl L).length ≤ L.length := by
  unfold tickS
  exact Nat.le_trans (List.length_filter_le _ _) (by simp)
theorem StoreOk.tick {most ttl : Int} {L : List RecT} (h : StoreOk most ttl L) : StoreOk most ttl (tickS ttl L) := by
  refine ⟨h.mostB, h.ttlB, rising_tick h.rises, fun y hy => ?_, ?_⟩
  · obtain ⟨x, hx, rfl, ha⟩ := mem_tick.1 hy
    exact ⟨good_older (h.goods x hx).1 (by have := h.ttlB; omega), by simpa [older] using ha⟩
  · have h1 := length_tick_le ttl L
    have h2 := h.room
    omega
theorem ins_mid {A B : List RecT} {x y : RecT} (h : Rising (A ++ x :: B)) (hk : y.key = x.key) : insS y (A ++ x :: B) = A ++ y :: B := by
  have hr : Rising (A ++ y :: B) := by
    obtain ⟨h1, h2, h3⟩ := List.pairwise_append.1 h
    obtain ⟨h4, h5⟩ := List.pairwise_cons.1 h2
    refine List.pairwise_append.2 ⟨h1, List.pairwise_cons.2 ⟨fun b hb => by rw [hk]; exact h4 b hb, h5⟩, fun a ha c hc => ?_⟩
    rcases List.mem_cons.1 hc with rfl | hc
    · rw [hk]; exact h3 a ha x (by simp)
    · exact h3 a ha c (by simp [hc])
  refine rising_ext (rising_ins h) hr (fun z => ?_)
  rw [mem_insS h]
  obtain ⟨h1, h2, h3⟩ := List.pairwise_append.1 h
  obtain ⟨h4, h5⟩ := List.pairwise_cons.1 h2
  simp only [List.mem_append, List.mem_cons]
  constructor
  · rintro (rfl | ⟨h6 | rfl | h6, hn⟩)
    · exact .inr (.inl rfl)
    · exact .inl h6
    · exact absurd hk.symm hn
    · exact .inr (.inr h6)
  · rintro (h6 | rfl | h6)
    · exact .inr ⟨.inl h6, by rw [hk]; exact ltK_ne (h3 z h6 x (by simp))⟩
    · exact .inl rfl
    · exact .inr ⟨.inr (.inr h6), by rw [hk]; exact (ltK_ne (h4 z h6)).symm⟩
theorem drop_mid {A B : List RecT} {x : RecT} (h : Rising (A ++ x :: B)) : dropL (prs (A ++ x :: B)) x.key = prs (A ++ B) := by
  obtain ⟨h1, h2, h3⟩ := List.pairwise_append.1 h
  obtain ⟨h4, h5⟩ := List.pairwise_cons.1 h2
  have hA : (prs A).filter (fun p => !decide (p.1 = x.key)) = prs A := List.filter_eq_self.2 (fun p hp => by
    obtain ⟨h6, h7⟩ := mem_prs.1 hp
    have := ltK_ne (h3 p.2 h6 x (by simp))
    simpa [h7] using this)
  have hB : (prs B).filter (fun p => !decide (p.1 = x.key)) = prs B := List.filter_eq_self.2 (fun p hp => by
    obtain ⟨h6, h7⟩ := mem_prs.1 hp
    have := (ltK_ne (h4 p.2 h6)).symm
    simpa [h7] using this)
  unfold dropL
  have e : prs (A ++ x :: B) = prs A ++ (x.key, x) :: prs B := by simp [prs]
  rw [e, List.filter_append, List.filter_cons_of_neg (by simp), hA, hB]
  simp [prs]
theorem find_mid {A B : List RecT} {x : RecT} (h : Rising (A ++ x :: B)) : findS (A ++ x :: B) x.key = some x := findS_mem h (by simp)
theorem stick_nil (w : World) : Calls Tryd.prog 25 #[.pointer none] w fun e w' => e = .returned (.int .i64 0) ∧ w = w' := by
  go_enter Tryd.func25, Tryd.ntmps25
  go_wp2_with fail
  refine (skeys_nil w).mono ?_
  rintro e w1 ⟨rfl, rfl⟩
  go_wp2_with fail
  refine wp_loop_rounds 1 ?_
  rw [rounds_succ]
  go_wp2_with fail
  go_ret
  exact ⟨rfl, rfl⟩
set_option maxRecDepth 100000 in
set_option maxHeartbeats 2000000 in
theorem stick_any (w : World) (s b : Nat) (most ttl r : Int) (L : List RecT) (h : StoreAt w s b most ttl r L) :
    Calls Tryd.prog 25 #[.pointer (some ⟨s, 0, none⟩)] w fun e w' => e = .returned (.int .i64 ((L.length : Int) - (tickS ttl L).length)) ∧ Only (fun i => i = b) w w' ∧ StoreAt w' s b most ttl r (tickS ttl L) := by
  have hkz := h.ok.keys
  have hLl := h.ok.len
  have hne := h.ne
  have hok := h.ok
  have hag : ∀ x ∈ L, 0 ≤ x.age ∧ x.age < 65535 := fun x hx => by
    have h1 := (h.ok.goods x hx).1
    have h2 := (h.ok.goods x hx).2
    have h3 := h.ok.ttlB
    unfold goodR goodP at h1
    simp only [Bool.and_eq_true, decide_eq_true_eq] at h1
    exact ⟨h1.1.1.2, by omega⟩
  have HKEY := Lib.hid (skeys_any w s b most ttl r L h hkz)
  have HH := Lib.hid h
  have HZ := Lib.hid hkz
  have HOK := Lib.hid hok
  have HAG := Lib.hid hag
  clear h hkz hok hag
  go_enter Tryd.func25, Tryd.ntmps25
  go_wp2_with fail
  refine HKEY.out.mono ?_
  rintro e w1 ⟨v, rfl, ho1, hrow⟩
  obtain ⟨_, ka, kcap, rfl, k1, k2, k3⟩ : Sl w1 1 v L.length (L.map (fun x => .string x.key)) := Sl.of_owns hrow
  have hh1 := HH.out.new ho1
  have hkb : ∀ p u, w1.cell? p = some u → ¬ p.block = b := fun p u hp e => by
    obtain ⟨es, c, hb, _⟩ := hh1.map.own
    simp [World.cell?, e, hb] at hp
  unfold maxLen at k2
  have H1 := Lib.hid hh1
  have HO1 := Lib.hid ho1
  have HK := Lib.hid k3
  have HKB := Lib.hid hkb
  clear hh1 ho1 k3 hkb
  clear hrow HKEY
  go_wp2_with fail
  go_loopg [3, 10] L.length (fun g v3 v10 wr => ∃ k : Nat, v10 = .int .i64 k ∧ k ≤ L.length ∧ v3 = .int .i64 ((k : Int) - (tickS ttl (L.take k)).length) ∧ Only (fun i => i = b) w1 wr ∧ RMap wr b (tickS ttl (L.take k) ++ L.drop k) ∧ g = L.length - k)
  case atStart => exact ⟨0, rfl, Nat.zero_le _, rfl, Only.refl _ _, H1.out.map, rfl⟩
  case round =>
    obtain ⟨k, rfl, hk, rfl, ho, hmap, hg⟩ := hrel
    have hblk := ho.old H1.out.blk hne
    have htl := length_tick_le ttl (L.take k)
    have htl2 : (L.take k).length = k := by simp; omega
    have Hg := Lib.hid hg
    have HO := Lib.hid ho
    have HM := Lib.hid hmap
    have HBLK := Lib.hid hblk
    clear hg ho hmap hblk
    by_cases hlt : k < L.length
    · obtain ⟨kb, koff, ha, hc⟩ := HK.out.resolve_left (by omega)
      subst ha
      have hz1 := hc k _ (by simp [hlt]; rfl)
      have z0 : wr.cell? ⟨kb, koff + k, none⟩ = some (.string L[k].key) := HO.out.cell hz1 (HKB.out _ _ hz1)
      have htk : L.take (k + 1) = L.take k ++ [L[k]] := by rw [List.take_add_one, List.getElem?_eq_getElem hlt]; rfl
      have hdk : L.drop k = L[k] :: L.drop (k + 1) := by rw [List.drop_eq_getElem_cons hlt]
      have hris : Rising (tickS ttl (L.take k) ++ L[k] :: L.drop (k + 1)) := by
        rw [← hdk]
        refine rising_mid (A0 := L.take k) (by rw [List.take_append_drop]; exact HOK.out.rises) (rising_tick (HOK.out.rises.sublist (List.take_sublist _ _))) (fun a ha => ?_)
        obtain ⟨x, hx, rfl, _⟩ := mem_tick.1 ha
        exact ⟨x, hx, rfl⟩
      have hm2 := HM.out
      rw [hdk] at hm2
      have hxk := HZ.out L[k] (List.getElem_mem hlt)
      have hxa := HAG.out L[k] (List.getElem_mem hlt)
      have hlen2 : (tickS ttl (L.take k) ++ L[k] :: L.drop (k + 1)).length < maxLen := by simp [List.length_append] at htl ⊢; unfold maxLen; omega
      have hts : tickS ttl (L.take (k + 1)) = tickS ttl (L.take k) ++ tickS ttl [L[k]] := by rw [htk, tick_append]
      generalize L[k] = x at *
      have HTS := Lib.hid hts
      have HRIS := Lib.hid hris
      have HM2 := Lib.hid hm2
      have HXK := Lib.hid hxk
      have HLEN2 := Lib.hid hlen2
      clear hts hris hm2 hxk hlen2
      clear hc htk hdk hz1 HM
      generalize tickS ttl (L.take k) = A at *
      generalize hB : L.drop (k + 1) = B at *
      have HB := Lib.hid hB
      clear hB
      have c0 : wr.cell? ⟨s, 0, none⟩ = some (.map (some b)) := cell_at HBLK.out 0
      have hlk := HM2.out.look strKeyed strInj Tryd.underlying138 (z := zeroR) (zeroRec wr) (strOk HXK.out) false
      rw [look_prs, find_mid HRIS.out] at hlk
      obtain ⟨k1, v1, o1, a1, g1, d1⟩ := x
      have hlk2 : (Instr.lookup 138 (.map (some b)) (.string k1) false).run Tryd.prog wr = .ok (.agg #[.string k1, .int .u64 v1, .int .i64 o1, .int .i64 a1, .bool g1, .string d1]) wr := hlk
      clear hlk
      simp only at hxa
      have hlt' : (k : Int) < (L.length : Int) := by omega
      obtain ⟨W, hW⟩ : ∃ W, W = wr.alloc (.cells #[.string k1, .int .u64 v1, .int .i64 o1, .int .i64 (a1 + 1), .bool g1, .string d1] 33) := ⟨_, rfl⟩
      have hbW : W.heap[wr.heap.size]? = some (.cells #[.string k1, .int .u64 v1, .int .i64 o1, .int .i64 (a1 + 1), .bool g1, .string d1] 33 (0, 0)) := by rw [hW]; exact heap_alloc_new wr _
      have hoW : Only (fun _ => False) wr W := by rw [hW]; exact (Only.refl _ _).alloc _
      have hsW : W.heap.size = wr.heap.size + 1 := by rw [hW]; simp
      have HBW := Lib.hid hbW
      have HOW := Lib.hid hoW
      have HSW := Lib.hid hsW
      clear hbW hoW hsW
      go_upto_region 7 with (fail)
      rw [← hW]
      clear hW hlk2 z0 c0
      have x3 : W.cell? ⟨wr.heap.size, 3, none⟩ = some (.int .i64 (a1 + 1)) := cell_at HBW.out 3
      have c2 : W.cell? ⟨s, 2, none⟩ = some (.int .i64 ttl) := cell_at (HOW.out.old HBLK.out id) 2
      by_cases hy : a1 + 1 < ttl
      · have ht1 : tickS ttl [RecT.mk k1 v1 o1 a1 g1 d1] = [RecT.mk k1 v1 o1 (a1 + 1) g1 d1] := by rw [tick_one]; exact if_pos hy
        rw [ht1] at HTS
        clear ht1
        go_quiet (fail)
        obtain ⟨w5, hw5⟩ : ∃ w5, w5 = W.drewN nq := ⟨_, rfl⟩
        have ho5 : Only (fun _ => False) wr w5 := by rw [hw5]; exact HOW.out.drewN _
        have hb5 : w5.heap[wr.heap.size]? = some (.cells #[.string k1, .int .u64 v1, .int .i64 o1, .int .i64 (a1 + 1), .bool g1, .string d1] 33 (0, 0)) := by rw [hw5]; exact HBW.out
        rw [← hw5]
        clear hw5 x3 c2
        have c0 : w5.cell? ⟨s, 0, none⟩ = some (.map (some b)) := cell_at (ho5.old HBLK.out id) 0
        have x0 : w5.cell? ⟨wr.heap.size, 0, none⟩ = some (.string k1) := cell_at hb5 0
        have x1 : w5.cell? ⟨wr.heap.size, 1, none⟩ = some (.int .u64 v1) := cell_at hb5 1
        have x2 : w5.cell? ⟨wr.heap.size, 2, none⟩ = some (.int .i64 o1) := cell_at hb5 2
        have x3 : w5.cell? ⟨wr.heap.size, 3, none⟩ = some (.int .i64 (a1 + 1)) := cell_at hb5 3
        have x4 : w5.cell? ⟨wr.heap.size, 4, none⟩ = some (.bool g1) := cell_at hb5 4
        have x5 : w5.cell? ⟨wr.heap.size, 5, none⟩ = some (.string d1) := cell_at hb5 5
        have hlp : (prs (A ++ RecT.mk k1 v1 o1 a1 g1 d1 :: B)).length < maxLen := by rw [prs_length]; exact HLEN2.out
        obtain ⟨w6, hst0, hm6, ho6⟩ := (HM2.out.kept (ho5.drew) id).store strKeyed strInj Tryd.underlying138 hlp (strOk HXK.out) ⟨k1, v1, o1, a1 + 1, g1, d1⟩
        have hst : (Instr.mapUpdate 138 (.map (some b)) (.string k1) (.agg #[.string k1, .int .u64 v1, .int .i64 o1, .int .i64 (a1 + 1), .bool g1, .string d1])).run Tryd.prog w5.drew = .ok () w6 := hst0
        have HM6 := Lib.hid hm6
        have HO6 := Lib.hid ho6
        have HO5 := Lib.hid ho5
        clear hm6 ho6 ho5
        clear hst0 hb5 hlp
        go_upto_region 8 with (fail)
        go_region
        all_goals
          go_wp2_with fail
          go_roundg (L.length - (k + 1))
          case measure => rw [Hg.out]; omega
          case rel =>
            have hp := HM6.out.perm strKeyed strInj (put_prs HRIS.out ⟨k1, v1, o1, a1 + 1, g1, d1⟩)
            rw [ins_mid HRIS.out (show (RecT.mk k1 v1 o1 (a1 + 1) g1 d1).key = (RecT.mk k1 v1 o1 a1 g1 d1).key from rfl)] at hp
            refine ⟨k + 1, by go_num, by omega, ?_, ?_, ?_, rfl⟩
            · rw [HTS.out]; exact congrArg (Value.int .i64) (by simp; omega)
            · exact HO.out.trans ((HO5.out.drew.weaken (fun _ _ => False.elim)).trans HO6.out)
            · rw [HTS.out, HB.out]
              simpa using hp
      · have ht1 : tickS ttl [RecT.mk k1 v1 o1 a1 g1 d1] = [] := by rw [tick_one]; exact if_neg hy
        rw [ht1] at HTS
        clear ht1
        go_quiet (fail)
        obtain ⟨w5, hw5⟩ : ∃ w5, w5 = W.drewN nq := ⟨_, rfl⟩
        have ho5 : Only (fun _ => False) wr w5 := by rw [hw5]; exact HOW.out.drewN _
        rw [← hw5]
        clear hw5 x3 c2
        have c0 : w5.cell? ⟨s, 0, none⟩ = some (.map (some b)) := cell_at (ho5.old HBLK.out id) 0
        have HM5 := Lib.hid (HM2.out.kept ho5 id)
        have HO5 := Lib.hid ho5
        clear ho5
        go_wp2_with (first | (at_delete; refine wpList_mapDrop rfl _ _ _ rfl HM5.out strKeyed strInj Tryd.underlying138 rfl rfl (strOk HXK.out) ?_; intro w6 hm6 ho6))
        have HM6 := Lib.hid hm6
        have HO6 := Lib.hid ho6
        clear hm6 ho6
        go_roundg (L.length - (k + 1))
        case measure => rw [Hg.out]; omega
        case rel =>
          have hp := HM6.out
          rw [drop_mid HRIS.out] at hp
          refine ⟨k + 1, by go_num, by omega, ?_, ?_, ?_, rfl⟩
          · rw [HTS.out]; exact congrArg (Value.int .i64) (by simp; omega)
          · exact HO.out.trans ((HO5.out.weaken (fun _ _ => False.elim)).trans HO6.out)
          · rw [HTS.out, HB.out]
            simpa using hp
    · obtain rfl : k = L.length := by omega
      have hlt' : ¬ ((L.length : Nat) : Int) < (L.length : Int) := by omega
      rw [List.take_length] at HM
      rw [List.take_length]
      have HM2 := HM
      rw [List.drop_length, List.append_nil] at HM2
      clear HM htl htl2
      go_wp2_with fail
      go_ret
      exact ⟨rfl, (HO1.out.weaken (fun _ _ => False.elim)).trans HO.out, HBLK.out, HM2.out, HOK.out.tick⟩
end Go.Proofs.YtjdlcfllmpdffaaDoor
