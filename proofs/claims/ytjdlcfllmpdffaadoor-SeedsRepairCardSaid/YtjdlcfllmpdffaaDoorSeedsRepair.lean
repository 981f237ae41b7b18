/- SeedsRepair is true of every input: what five nodes hold, some of which are not there, is behind two turns through the seeds and some rounds held by all that are there. No condition; the package variables that it names are tied to the text. -/
import Derived.Test.YtjdlcfllmpdffaaDoorML
import Derived.Test.YtjdlcfllmpdffaaDoorMA
import Derived.RegionTactic
import Derived.Test.YtjdlcfllmpdffaaDoorMJ
import Derived.ChangeMaps5
import Derived.Test.YtjdlcfllmpdffaaDoorCards
import Derived.Test.YtjdlcfllmpdffaaDoorTie
/-! SeedsRepair: the walk. -/
namespace Go.Proofs.YtjdlcfllmpdffaaDoor
open Go.Conc Go.RowKit Go.Maps

theorem best_has {up : Nat → Bool} {st : StT} (hgood : GoodQ keys20 0 st) (h1 : up 1 = true) {per : Nat} (hper : per = 1 ∨ per = 2) {i : Nat} (hi : i < 5) (hu : up i = true) {x : RecT} (hx : x ∈ (List.range 5).flatMap fun i => if up i then st i else []) : ∃ y, findS ((runQ (askN per) up st (6 * per + 6)).1 i) x.key = some y ∧ x.ver ≤ y.ver := by
  obtain ⟨j, hj, hxj⟩ := List.mem_flatMap.1 hx
  cases huj : up j with
  | false => rw [huj] at hxj; cases hxj
  | true =>
    rw [huj, if_pos rfl] at hxj
    exact hasB_out (repair keys20_len hgood h1 (by omega) (hask20 hper) hi (List.mem_range.1 hj) hu huj (hasB_mem (hgood.ok j).rises hxj (Nat.le_refl _)))
/-- The nodes behind so many puts. -/
structure PutAt (w1 wx : World) (y : Lay) (up : Nat → Bool) (per : Int) (l : List RecB) (k : Nat) : Prop where
  only : Only (fun _ => False) w1 wx
  top : y.lo 5 ≤ wx.heap.size
  net : ∃ rr : Nat → Int, (∀ i, 0 ≤ rr i ∧ rr i ≤ k) ∧ NetAt wx y up per (fun _ => 0) (fun _ => 0) rr (putsN (l.take k))
theorem heldP {W w' : World} {T : Nat → Prop} {C : World → Prop} (hC : ∀ w', Only T W w' → C w') (h : Only T W w') : Only T W w' ∧ C w' := ⟨h, hC _ h⟩
/-- A Put into a node's store. -/
theorem net_put {w1 wr : World} {y : Lay} {up : Nat → Bool} {per : Int} {l : List RecB} {k : Nat} (ha : LayOk y) (h1 : w1.heap.size ≤ y.lo 0) (h : PutAt w1 wr y up per l k) (hk : k < l.length) (hk30 : k < 30) (hc : l[k].cnt < 256) (m : Int) (hm : wr.cell? ⟨0, 0, none⟩ = some (.int .i64 m)) (W : World) (hW : Only (fun _ => False) wr W) :
    Calls Tryd.prog 14 #[.pointer (some ⟨y.S (l[k].org % 5), 0, none⟩), recT (recN l[k])] W fun e w' => ∃ z, e = .returned (.int .i64 z) ∧ Only (fun j => j = y.S (l[k].org % 5) ∨ j = y.B (l[k].org % 5)) wr w' ∧ PutAt w1 w' y up per l (k + 1) := by
  obtain ⟨ho, htop, rr, hrr, hn⟩ := h
  have hi : l[k].org % 5 < 5 := Nat.mod_lt _ (by omega)
  have hnW := hn.new hW
  have hat := ha.at_ _ hi
  have hz := ha.zero (i := l[k].org % 5) (by omega)
  have hr := hrr (l[k].org % 5)
  refine (sput_any W _ _ 48 1000 _ _ (hnW.sto _ hi) (recN l[k]) m (hW.cell hm id) (recN_ver _ hc) (recN_key _) hr.1 (by omega)).mono ?_
  rintro e w' ⟨rfl, ho', hs'⟩
  refine ⟨_, rfl, (hW.weaken (fun _ _ => False.elim)).trans ho', (ho.trans hW).tr ho' (fun j hj e => by have e : j = y.S (l[k].org % 5) ∨ j = y.B (l[k].org % 5) := e; omega), Nat.le_trans htop (Nat.le_trans hW.size ho'.size), updI rr (l[k].org % 5) (putR 48 1000 (putsN (l.take k) (l[k].org % 5)) (recN l[k]) (rr (l[k].org % 5))), fun i => ?_, by rw [putsN_snoc l k hk]; exact hnW.put ha hi ho' hs'⟩
  · unfold updI
    split
    · unfold putR
      split <;> omega
    · have := hrr i
      omega
def upF (u i : Nat) : Bool := decide (u / 2 ^ i % 2 = 1)
/-- What the nodes that are there have, one behind another. -/
def bestN (up : Nat → Bool) (st : StT) (n : Nat) : List RecT := (List.range n).flatMap fun i => if up i then st i else []
theorem bestN_snoc (up : Nat → Bool) (st : StT) (n : Nat) : bestN up st (n + 1) = bestN up st n ++ if up n then st n else [] := by
  unfold bestN
  rw [List.range_succ, List.flatMap_append, List.flatMap_singleton]
theorem bestN_len {up : Nat → Bool} {st : StT} (h : StV st) : ∀ n, (bestN up st n).length ≤ 48 * n
  | 0 => Nat.le_refl _
  | n + 1 => by
    rw [bestN_snoc, List.length_append]
    have := bestN_len (up := up) h n
    have h2 := (h n).1.len
    split
    · omega
    · simp; omega
theorem bit20 {u k : Nat} (hu : u < 256) {up : Nat → Bool} (hup : up = fun i => decide (u / 2 ^ i % 2 = 1)) : bits BinOp.and IntKind.u8 ((u : Int) / 2 ^ k) 1 = if up k then 1 else 0 := by
  have e : (u : Int) / 2 ^ k = ((u / 2 ^ k : Nat) : Int) := by
    rw [Int.natCast_ediv, Int.natCast_pow]; rfl
  rw [e, and1_u8 _ (Nat.lt_of_le_of_lt (Nat.div_le_self _ _) hu), hup]
  simp only [decide_eq_true_eq]
  split <;> omega
theorem per20 (every : Nat) (h2 : every < 256) : ∃ per : Nat, (per = 1 ∨ per = 2) ∧ wrap64 (1 + wrap64 (bits BinOp.and IntKind.u8 (every : Int) 1)) = (per : Nat) := by
  refine ⟨1 + every % 2, by omega, ?_⟩
  rw [and1_u8 every h2]
  unfold wrap64
  omega
theorem or20 : ∀ there : Nat, there < 256 → ∃ u : Nat, u < 256 ∧ u / 2 % 2 = 1 ∧ bits BinOp.or IntKind.u8 (there : Int) 2 = (u : Nat) := fun there h => by
  have h1 : bits BinOp.or IntKind.u8 (there : Int) 2 = IntKind.u8.wrap ((BitVec.ofInt 8 (there : Int) ||| BitVec.ofInt 8 2).toNat : Int) := rfl
  refine ⟨there ||| 2, ?_, ?_, ?_⟩
  · exact Nat.or_lt_two_pow (n := 8) h (by omega)
  · have := Nat.testBit_or there 2 1
    rw [Nat.testBit_eq_decide_div_mod_eq, Nat.testBit_eq_decide_div_mod_eq (x := 2)] at this
    simpa using this
  · have hlt : there ||| 2 < 2 ^ 8 := Nat.or_lt_two_pow (n := 8) h (by omega)
    rw [h1, BitVec.toNat_or, BitVec.ofInt_natCast, BitVec.toNat_ofNat, Nat.mod_eq_of_lt (show there < 2 ^ 8 by omega)]
    show ((there ||| 2 : Nat) : Int) % 256 = _
    omega
theorem new3 (w1 : World) (A B C : Obj) : Only (fun _ => False) w1 (((w1.alloc A).alloc B).alloc C) ∧ (((w1.alloc A).alloc B).alloc C).heap[w1.heap.size]? = some A ∧ (((w1.alloc A).alloc B).alloc C).heap[w1.heap.size + 1]? = some B ∧ (((w1.alloc A).alloc B).alloc C).heap[w1.heap.size + 1 + 1]? = some C := by
  refine ⟨(((Only.refl _ _).alloc _).alloc _).alloc _, ?_, ?_, ?_⟩
  · rw [heap_alloc_old _ _ (by simp; omega), heap_alloc_old _ _ (by simp), heap_alloc_new]
  · rw [heap_alloc_old _ _ (by simp)]
    have := heap_alloc_new (w1.alloc A) B
    simpa using this
  · have := heap_alloc_new ((w1.alloc A).alloc B) C
    simpa using this
theorem seeds3 : ∀ k, k < 5 → seedsOk ((k : Nat) + 1 : Int) [1, 2, 3] 1 = true ∧ seedsOk ((k : Nat) + 1 : Int) [1, 2, 3] 2 = true := by decide
theorem all3 {w : World} {b : Nat} (h : w.heap[b]? = some (.cells #[.int .i64 1, .int .i64 2, .int .i64 3] 3 (0, 0))) : Sl w 1 (.slice (some ⟨b, 0, none⟩) 3 3) 3 (([1, 2, 3] : List Int).flatMap intC) := by
  refine ⟨rfl, _, _, rfl, Nat.le_refl _, by unfold maxLen; decide, .inr ⟨b, 0, rfl, fun j u hu => ?_⟩⟩
  rw [cell_at h]
  simpa [intC] using hu
set_option maxRecDepth 100000 in
set_option maxHeartbeats 16000000 in
theorem repair20_any (w : World) (m : Int) (hm : w.cell? ⟨0, 0, none⟩ = some (.int .i64 m)) (v : Value) (l : List RecB) (there every : Nat) (h : Sl w 3 v l.length (l.flatMap recBC)) (hl : ∀ a ∈ l, a.org < 256 ∧ a.nm < 256 ∧ a.cnt < 256) (h1 : there < 256) (h2 : every < 256) :
    Calls Tryd.prog 8 #[v, .int .u8 there, .int .u8 every] w fun e w' => e = .returned (.bool true) ∧ Only (fun _ => False) w w' := by
  obtain ⟨i0, hi0, iz0, iz1, iz2⟩ := info_parts infoId
  obtain ⟨j0, hj0, jz0, jz1, jz2⟩ := info_parts infoLet
  obtain ⟨a, cap, rfl, c1, c2, c3⟩ := Sl.cells recBC_length h
  unfold maxLen at c2
  have HC := Lib.hid c3
  have HL := Lib.hid hl
  have HM := Lib.hid hm
  clear c3 hl hm
  clear h
  go_enter Tryd.func8, Tryd.ntmps8
  go_wp2_with fail
  refine (speaks20_any w).mono ?_
  rintro e w1 ⟨rfl, ho1⟩
  have HO1 := Lib.hid ho1
  clear ho1
  obtain ⟨per, hper, hpe⟩ := per20 every h2
  obtain ⟨u, hu, hu1, hue⟩ := or20 there h1
  go_upto_block 0 with fail
  rw [hpe]
  clear hpe hue
  obtain ⟨w4, hw4⟩ : ∃ w4, w4 = ((w1.alloc (.cells #[.int .i64 1, .int .i64 2, .int .i64 3] 3)).alloc (.cells #[.pointer none, .pointer none, .pointer none, .pointer none, .pointer none] 100)).alloc (.cells #[.pointer none, .pointer none, .pointer none, .pointer none, .pointer none] 101) := ⟨_, rfl⟩
  rw [← hw4]
  obtain ⟨n1, n2, n3, n4⟩ := new3 w1 (.cells #[.int .i64 1, .int .i64 2, .int .i64 3] 3) (.cells #[.pointer none, .pointer none, .pointer none, .pointer none, .pointer none] 100) (.cells #[.pointer none, .pointer none, .pointer none, .pointer none, .pointer none] 101)
  rw [← hw4] at n1 n2 n3 n4
  clear hw4
  have hst := MadeTo.start (per := (per : Int)) n3 rfl n4 rfl
  have HN1 := Lib.hid n1
  have HN2 := Lib.hid n2
  have HST := Lib.hid hst
  have HPER := Lib.hid hper
  have HU := Lib.hid hu
  have HU1 := Lib.hid hu1
  clear n1 n2 hst hper hu hu1
  clear n3 n4
  have HNE := Lib.hid (show w1.heap.size + 1 ≠ w1.heap.size + 1 + 1 ∧ w1.heap.size ≠ w1.heap.size + 1 ∧ w1.heap.size ≠ w1.heap.size + 1 + 1 by omega)
  go_cut [12] (fun _ wx => ∃ S B X lo, MadeTo wx (w1.heap.size + 1) (w1.heap.size + 1 + 1) per 5 S B X lo ∧ Only (fun _ => False) w1 wx ∧ wx.heap[w1.heap.size]? = some (.cells #[.int .i64 1, .int .i64 2, .int .i64 3] 3 (0, 0)))
  case first =>
    go_wp2_with fail
    go_loopg [12] 5 (fun gk v12 wr => ∃ (k : Nat) (S B X lo : Nat → Nat), v12 = .int .i64 k ∧ k ≤ 5 ∧ MadeTo wr (w1.heap.size + 1) (w1.heap.size + 1 + 1) per k S B X lo ∧ Only (fun _ => False) w1 wr ∧ wr.heap[w1.heap.size]? = some (.cells #[.int .i64 1, .int .i64 2, .int .i64 3] 3 (0, 0)) ∧ gk = 5 - k)
    case atStart => exact ⟨0, _, _, _, _, rfl, by omega, HST.out, HN1.out, HN2.out, rfl⟩
    case round =>
      obtain ⟨k, S, B, X, lo, rfl, hk, hmd, ho, hall, hg⟩ := hrel
      have Hg := Lib.hid hg
      have HMD := Lib.hid hmd
      have HO := Lib.hid ho
      have HALL := Lib.hid hall
      clear hg hmd ho hall
      by_cases hlt : k < 5
      · have hlt' : (k : Int) < 5 := by omega
        have hk0 : (0 : Int) ≤ (k : Int) := by omega
        go_wp2_with fail
        refine (snew_ok wr 48 1000 (by omega) (by omega) (by omega) (by omega)).mono ?_
        rintro e w5 ⟨rfl, ho5, hs5⟩
        have HO5 := Lib.hid ho5
        have HS5 := Lib.hid hs5
        clear ho5 hs5
        go_wp2_with fail
        have h3 := all3 (HO5.out.old HALL.out id)
        have hsd := seeds3 k hlt
        have HSD := Lib.hid (show seedsOk ((k : Int) + 1) [1, 2, 3] (per : Int) = true from by
          rcases HPER.out with e | e <;> rw [e]
          · exact hsd.1
          · exact hsd.2)
        refine (sdnew_any w5 ((k : Int) + 1) [1, 2, 3] (per : Int) (wr.heap.size + 1) _ h3).mono ?_
        rintro e w6 ⟨ho6, hp6⟩
        rw [HSD.out] at hp6
        obtain ⟨_, x, hx6, rfl, hs6⟩ := hp6.resolve_right (fun h => by cases h.1)
        clear hsd h3 hp6
        have hm6 := (HMD.out.new HO5.out).new ho6
        obtain ⟨cs, q1, q2, _⟩ := hm6.cs
        obtain ⟨xs, p1, p2, _⟩ := hm6.xs
        have qf : ∀ i, w6.frozen? ⟨w1.heap.size + 1, i, none⟩ = false := free_at q1
        have pf : ∀ i, w6.frozen? ⟨w1.heap.size + 1 + 1, i, none⟩ = false := free_at p1
        have qc : ∃ z, w6.cell? ⟨w1.heap.size + 1, k, none⟩ = some z := ⟨cs[k], by rw [cell_at q1]; simp [q2, hlt]⟩
        have pc : ∃ z, w6.cell? ⟨w1.heap.size + 1 + 1, k, none⟩ = some z := ⟨xs[k], by rw [cell_at p1]; simp [p2, hlt]⟩
        obtain ⟨z1, qc⟩ := qc
        obtain ⟨z2, pc⟩ := pc
        have HO6 := Lib.hid ho6
        have HX6 := Lib.hid hx6
        have HS6 := Lib.hid hs6
        have HM6 := Lib.hid hm6
        clear ho6 hx6 hs6 hm6
        clear q1 p1
        go_wp2_with fail
        have hw5 := HS5.out.lt
        have hox := HO5.out.size
        obtain ⟨S', B', X', lo', hm7, hsz7, ho7⟩ := HMD.out.step hlt (HO5.out.trans HO6.out) (HS5.out.new HO6.out) HS6.out (by have := HX6.out; omega) rfl HNE.out.1
        have hall7 := ho7.old ((HO5.out.trans HO6.out).old HALL.out id) (fun e => by rcases e with e | e; exact HNE.out.2.1 e; exact HNE.out.2.2 e)
        have hon7 : Only (fun _ => False) w1 _ := (HO.out.trans (HO5.out.trans HO6.out)).tr ho7 (fun j hj e => by have e : j = w1.heap.size + 1 ∨ j = w1.heap.size + 1 + 1 := e; omega)
        have HM7 := Lib.hid hm7
        have HON7 := Lib.hid hon7
        have HALL7 := Lib.hid hall7
        clear hm7 hon7 hall7
        clear ho7
        go_roundg (5 - (k + 1))
        case measure => rw [Hg.out]; omega
        case rel => exact ⟨k + 1, S', B', X', lo', by go_num, by omega, HM7.out, HON7.out, HALL7.out, rfl⟩
      · have hlt' : ¬ (k : Int) < 5 := by omega
        obtain rfl : k = 5 := by omega
        go_wp2_with fail
        go_meet
        exact ⟨S, B, X, lo, HMD.out, HO.out, HALL.out⟩
  case rest =>
  obtain ⟨S, B, X, lo, hmd, ho, -⟩ := hcut
  have HM4 := Lib.hid (ho.cell (HO1.out.cell HM.out id) id)
  obtain ⟨up, hup⟩ : ∃ up : Nat → Bool, up = fun i => decide (u / 2 ^ i % 2 = 1) := ⟨_, rfl⟩
  obtain ⟨y, hyS, hyX, hlay, htop, hnet⟩ := hmd.net up
  rw [← hyX, ← hyS]
  have hlo0 : w1.heap.size ≤ y.lo 0 := by have := hlay.arr; omega
  have hp0 : PutAt w1 wc y up per l 0 := ⟨ho, htop, fun _ => 0, fun _ => ⟨Int.le_refl _, Int.le_refl _⟩, hnet⟩
  have HLAY := Lib.hid hlay
  have HLO0 := Lib.hid hlo0
  have HP0 := Lib.hid hp0
  have HHUP := Lib.hid hup
  clear hlay hlo0 hp0 hup
  have HSA := Lib.hid (And.intro hyS hyX)
  clear hmd HN1 HN2 HST HNE hyS hyX
  go_upto_block 2 with fail
  go_cut [17] (fun _ wx => ∃ k, k ≤ 30 ∧ (k = 30 ∨ k = l.length) ∧ PutAt w1 wx y up per l k)
  case first =>
    go_wp2_with fail
    go_loopg [17] 30 (fun gk v17 wr => ∃ k : Nat, v17 = .int .i64 k ∧ k ≤ l.length ∧ k ≤ 30 ∧ PutAt w1 wr y up per l k ∧ gk = 30 - k)
    case atStart => exact ⟨0, rfl, by omega, by omega, HP0.out, rfl⟩
    case round =>
      obtain ⟨k, rfl, hk, hk30, hp, hg⟩ := hrel
      have Hg := Lib.hid hg
      have HP := Lib.hid hp
      clear hg hp
      by_cases hlt : k < l.length ∧ k < 30
      · -- put
        obtain ⟨hlt, hlt30⟩ := hlt
        have hlt' : (k : Int) < (l.length : Int) := by omega
        have hlt30' : (k : Int) < 30 := by omega
        obtain ⟨lb, off, rfl, hcc⟩ := HC.out.at k hlt
        have hw1 := HO1.out.trans HP.out.only
        have hcr : ∀ j z, (recBC l[k])[j]? = some z → wr.cell? ⟨lb, off + k * 3 + j, none⟩ = some z := fun j z hz => hw1.cell (hcc j z hz) id
        have hP := HL.out l[k] (List.getElem_mem hlt)
        have HNP := Lib.hid (fun W hW => net_put HLAY.out HLO0.out HP.out hlt (by omega) hP.2.2 m (hw1.cell HM.out id) W hW)
        obtain ⟨rr, _, hnet⟩ := HP.out.net
        have hq5 : l[k].org % 5 < 5 := Nat.mod_lt _ (by omega)
        have hyc := hnet.arrS _ hq5
        have hout := HLAY.out.out hq5
        have HREC := Lib.hid (fun w => rec20_any w (1 + ((l[k].cnt % 4 : Nat) : Int)) l[k].nm l[k].cnt (by omega) (by omega) hP.2.1 hP.2.2)
        have hRB : rec20 (1 + ((l[k].cnt % 4 : Nat) : Int)) l[k].nm l[k].cnt = recN l[k] := rfl
        rw [hRB] at HREC
        have y0 := hcr 0 _ rfl
        have y1 := hcr 1 _ rfl
        have y2 := hcr 2 _ rfl
        have hlb : ¬ (lb = y.S (l[k].org % 5) ∨ lb = y.B (l[k].org % 5)) := by
          have h9 := World.block_lt_of_cell? _ _ (hcc 0 _ rfl)
          have h8 := HLAY.out.at_ _ hq5
          have h7 := HLAY.out.zero (i := l[k].org % 5) (by omega)
          have h6 := HLO0.out
          have h5 := HO1.out.size
          have h4 : lb < w.heap.size := h9
          omega
        clear hcc hcr hRB hnet hw1
        generalize l[k] = t at *
        simp only [Nat.add_zero] at y0
        have hb1 : bits BinOp.and IntKind.u8 (t.cnt : Int) 3 = ((t.cnt % 4 : Nat) : Int) := and3_u8 t.cnt hP.2.2
        have hb2 : (t.org : Int).tmod 5 = ((t.org % 5 : Nat) : Int) := by rw [Int.tmod_eq_emod_of_nonneg (by omega)]; omega
        have hb3 : (t.org : Int) % 5 = ((t.org % 5 : Nat) : Int) := by omega
        have hc4 : t.cnt % 4 < 4 := Nat.mod_lt _ (by omega)
        generalize hb5 : t.cnt % 4 = c4 at *
        generalize hb4 : t.org % 5 = q at *
        have hqi0 : (0 : Int) ≤ (q : Int) := by omega
        have hqi5 : (q : Int) < 5 := by omega
        have hwo : IntKind.i64.wrap (t.org : Int) = (t.org : Int) := by rw [IntKind.wrap_i64]; omega
        have hwq : IntKind.i64.wrap (q : Int) = (q : Int) := by rw [IntKind.wrap_i64]; omega
        have hwc : IntKind.i64.wrap (c4 : Int) = (c4 : Int) := by rw [IntKind.wrap_i64]; omega
        have hwc1 : IntKind.i64.wrap (1 + (c4 : Int)) = 1 + (c4 : Int) := by rw [IntKind.wrap_i64]; omega
        go_upto_region 19 with (fail)
        have HCS := Lib.hid (show ∀ w', Only (fun j => j = y.S q ∨ j = y.B q) wr w' → w'.cell? ⟨lb, off + k * 3, none⟩ = some (.int .u8 t.org) ∧ w'.cell? ⟨lb, off + k * 3 + 1, none⟩ = some (.int .u8 t.nm) ∧ w'.cell? ⟨lb, off + k * 3 + 2, none⟩ = some (.int .u8 t.cnt) ∧ w'.cell? ⟨y.SA, q, none⟩ = some (.pointer (some ⟨y.S q, 0, none⟩)) from fun w' h => ⟨h.cell y0 hlb, h.cell y1 hlb, h.cell y2 hlb, h.cell hyc (fun e => by rcases e with e | e; exact hout.1.1 e; exact hout.1.2.1 e)⟩)
        generalize hXR : recN t = X at *
        obtain ⟨k1, v1, o1, a1, g1, D1⟩ := X
        unfold recT at HREC HNP
        simp only at HREC HNP
        clear y0 y1 y2 hyc hout hlb
        go_region_held3 (fun w' => Only (fun j => j = y.S q ∨ j = y.B q) wr w' ∧ w'.cell? ⟨lb, off + k * 3, none⟩ = some (.int .u8 t.org) ∧ w'.cell? ⟨lb, off + k * 3 + 1, none⟩ = some (.int .u8 t.nm) ∧ w'.cell? ⟨lb, off + k * 3 + 2, none⟩ = some (.int .u8 t.cnt) ∧ w'.cell? ⟨y.SA, q, none⟩ = some (.pointer (some ⟨y.S q, 0, none⟩)))
          (((refine heldP HCS.out ?_); (first | (refine Only.weaken (S := fun _ => False) ?_ (fun _ _ => False.elim); ((repeat (first | (with_reducible assumption) | (with_reducible exact Only.refl _ _) | (with_reducible refine Only.drew ?_) | (with_reducible refine Only.alloc ?_ _) | (with_reducible refine onlySet ?_ (by first | (with_reducible assumption) | omega) _) | (with_reducible refine Only.trans ?_ (by with_reducible assumption)))); done)) | ((repeat (first | (with_reducible assumption) | (with_reducible exact Only.refl _ _) | (with_reducible refine Only.drew ?_) | (with_reducible refine Only.alloc ?_ _) | (with_reducible refine onlySet ?_ (by first | (with_reducible assumption) | omega) _) | (with_reducible refine Only.trans ?_ (by with_reducible assumption)))); done))))
          (first
            | (go_at_call 18; (with_reducible refine (HREC.out _).mono ?_); rintro e w8 ⟨rfl, ho8⟩; have o8 : Only (fun _ => False) wr w8 := (by (refine Only.trans (b := _) ?_ ho8); (repeat (first | (with_reducible assumption) | (with_reducible exact Only.refl _ _) | (with_reducible refine Only.drew ?_) | (with_reducible refine Only.alloc ?_ _) | (with_reducible refine onlySet ?_ (by first | (with_reducible assumption) | omega) _) | (with_reducible refine Only.trans ?_ (by with_reducible assumption))))))
            | (go_at_call 14; (with_reducible refine (HNP.out _ (by (repeat (first | (with_reducible assumption) | (with_reducible exact Only.refl _ _) | (with_reducible refine Only.drew ?_) | (with_reducible refine Only.alloc ?_ _) | (with_reducible refine onlySet ?_ (by first | (with_reducible assumption) | omega) _) | (with_reducible refine Only.trans ?_ (by with_reducible assumption)))))).mono ?_); rintro e w9 ⟨z, rfl, o9, hn9⟩))
        all_goals
          have HN := Lib.hid hn9
          clear hn9
          go_wp2_with fail
          go_roundg (30 - (k + 1))
          case measure => rw [Hg.out]; omega
          case rel => exact ⟨k + 1, by go_num, by omega, by omega, HN.out, rfl⟩
      · -- stop
        have HF := Lib.hid (show ∃ k, k ≤ 30 ∧ (k = 30 ∨ k = l.length) ∧ PutAt w1 wr y up per l k from ⟨k, by omega, by omega, HP.out⟩)
        by_cases hlt1 : k < l.length
        · have hlt' : (k : Int) < (l.length : Int) := by omega
          have hlt2' : ¬ (k : Int) < 30 := by omega
          go_wp2_with fail
          go_meet
          exact HF.out
        · have hlt' : ¬ (k : Int) < (l.length : Int) := by omega
          go_wp2_with fail
          go_meet
          exact HF.out
  case rest =>
  obtain ⟨k0, hk0, _, hp⟩ := hcut
  obtain ⟨st, hst⟩ : ∃ st, st = putsN (l.take k0) := ⟨_, rfl⟩
  obtain ⟨hgood, hstv⟩ := putsN_ok (l.take k0) st0 (fun a ha => (HL.out a (List.mem_of_mem_take ha)).2.2) st0_ok
  have hgood : GoodQ keys20 0 st := by rw [hst]; exact hgood
  have hstv : StV st := by rw [hst]; exact hstv
  obtain ⟨rr, hrr, hnet⟩ := hp.net
  rw [← hst] at hnet
  have hon := hp.only
  have htop := hp.top
  have HGOOD := Lib.hid hgood
  have HSTV := Lib.hid hstv
  have HRR := Lib.hid hrr
  have HNET := Lib.hid hnet
  have HON := Lib.hid hon
  have HTOP := Lib.hid htop
  clear hgood hstv hrr hnet hon htop
  clear hp hst HP0
  go_upto_block 4 with fail
  go_cut [18, 19] (fun v18 _ wx => Only (fun _ => False) wc wx ∧ IdRow wx wc.heap.size v18 (bestN up st 5))
  case first =>
    go_wp2_with fail
    go_loopg [18, 19] 5 (fun gk v18 v19 wr => ∃ k : Nat, v19 = .int .i64 k ∧ k ≤ 5 ∧ Only (fun _ => False) wc wr ∧ IdRow wr wc.heap.size v18 (bestN up st k) ∧ gk = 5 - k)
    case atStart => exact ⟨0, rfl, by omega, Only.refl _ _, World.ownsRow_nil _ _ _ _, rfl⟩
    case round =>
      obtain ⟨k, rfl, hk, ho, hrow, hg⟩ := hrel
      have Hg := Lib.hid hg
      have HO := Lib.hid ho
      have HROW := Lib.hid hrow
      clear hg ho hrow
      by_cases hlt : k < 5
      · -- bround
        have hlt' : (k : Int) < 5 := by omega
        have hk0 : (0 : Int) ≤ (k : Int) := by omega
        have hbt := bit20 (k := k) HU.out HHUP.out
        cases hb : up k with
        | false =>
          rw [hb] at hbt
          have hbt : bits BinOp.and IntKind.u8 ((u : Int) / 2 ^ k) 1 = 0 := hbt
          have hrow2 : IdRow wr wc.heap.size u18 (bestN up st (k + 1)) := by
            rw [bestN_snoc, hb]
            simpa using HROW.out
          have HROW2 := Lib.hid hrow2
          clear hrow2
          go_wp2_with fail
          go_roundg (5 - (k + 1))
          case measure => rw [Hg.out]; omega
          case rel => exact ⟨k + 1, by go_num, by omega, HO.out, HROW2.out, rfl⟩
        | true =>
          rw [hb] at hbt
          have hbt : bits BinOp.and IntKind.u8 ((u : Int) / 2 ^ k) 1 = 1 := hbt
          have hnr := HNET.out.new HO.out
          have hyc := hnr.arrS k hlt
          have HI := Lib.hid (sids_any wr _ _ _ _ _ _ (hnr.sto k hlt))
          obtain ⟨sa, sc, rfl⟩ : ∃ sa sc, u18 = .slice sa (bestN up st k).length sc := by obtain ⟨_, sa, sc, h, _⟩ := Sl.of_owns HROW.out; exact ⟨sa, sc, h⟩
          have hbl := bestN_len (up := up) HSTV.out k
          clear hnr
          go_wp2_with fail
          refine HI.out.mono ?_
          rintro e w5 ⟨v5, rfl, ho5, hi5⟩
          have hr5 : IdRow w5 wc.heap.size _ (bestN up st k) := owns_only HROW.out ho5 (fun _ _ => id)
          have hln := (HSTV.out k).1.len
          have hos := HO.out.size
          have HO5 := Lib.hid ho5
          have HI5 := Lib.hid hi5
          have HR5 := Lib.hid hr5
          clear ho5 hi5 hr5
          go_wp2_with (at_builtin; refine Wait.mk ?_)
          refine Wait.go (wpList_append_src _ rfl (.tmp 118) (.tmp 122) 54 54 rfl wc.heap.size 31 i0 _ 2 24 Tryd.underlying54 hi0 iz0 iz1 iz2 rfl _ (bestN up st k).length ((bestN up st k).flatMap idC) rfl ?own4 _ (st k).length ((st k).flatMap idC) rfl ?src4 ?m4 ?b4 ?base4 ?_)
          case own4 => exact HR5.out
          case src4 => exact Sl.src Tryd.underlying54 (Sl.of_owns HI5.out) (fl_one idC_one _)
          case m4 => unfold maxLen; omega
          case b4 => omega
          case base4 => have := HO5.out.size; omega
          intro v9 w9 own9 gr9 _
          have ho9 : Only (fun _ => False) wc w9 := (HO.out.trans HO5.out).own HR5.out (Nat.le_refl _) gr9
          have hrow2 : IdRow w9 wc.heap.size v9 (bestN up st (k + 1)) := by
            rw [bestN_snoc, hb]
            show w9.ownsRow _ _ _ _ _ _
            rw [if_pos rfl, List.length_append, List.flatMap_append]
            exact own9
          have HROW2 := Lib.hid hrow2
          have HO9 := Lib.hid ho9
          clear hrow2 ho9
          clear own9 gr9
          go_wp2_with fail
          go_roundg (5 - (k + 1))
          case measure => rw [Hg.out]; omega
          case rel => exact ⟨k + 1, by go_num, by omega, HO9.out, HROW2.out, rfl⟩
      · -- bstop
        have hlt' : ¬ (k : Int) < 5 := by omega
        obtain rfl : k = 5 := by omega
        go_wp2_with fail
        go_meet
        exact ⟨HO.out, HROW.out⟩
  case rest =>
  obtain ⟨hob, hbest⟩ := hcut
  rename World => wB
  have hbl5 := bestN_len (up := up) HSTV.out 5
  have hBsz := hob.size
  have hrd0 : RoundsAt w1 wB wB y up per st 0 (.slice none 0 0) := ⟨HON.out.trans hob, Only.refl _ _, ⟨rr, fun i => by have := HRR.out i; omega, by
    refine ((HNET.out.new hob).congr (fun i hi hu => (sdT_start _).symm) (fun i hi hu => (sdN_start _ _).symm))⟩, LetRow.nil _ _⟩
  have htop2 : y.lo 5 ≤ wB.heap.size := by have := HON.out.size; have := HTOP.out; omega
  have HBEST := Lib.hid hbest
  have HRD0 := Lib.hid hrd0
  have HTOP2 := Lib.hid htop2
  have HBSZ := Lib.hid hBsz
  clear hbest hrd0 htop2 hBsz
  have HRV := Lib.hid (fun t => run_v (ask := askN per) (up := up) HSTV.out t)
  have hp1 : (1 : Int) ≤ (per : Int) := by have := HPER.out; omega
  have hp2 : (per : Int) ≤ 2 := by have := HPER.out; omega
  have hwp : IntKind.i64.wrap (6 * (per : Int)) = 6 * (per : Int) := by rw [IntKind.wrap_i64]; omega
  have hwp6 : IntKind.i64.wrap (6 * (per : Int) + 6) = 6 * (per : Int) + 6 := by rw [IntKind.wrap_i64]; omega
  clear hob
  go_upto_block 6 with fail
  go_cut [20, 21] (fun v20 _ wx => RoundsAt w1 wB wx y up per st (6 * per + 6) v20)
  case first =>
    go_wp2_with fail
    go_loopg [20, 21] (6 * per + 6) (fun gk v20 v21 wr => ∃ t : Nat, v21 = .int .i64 t ∧ t ≤ 6 * per + 6 ∧ RoundsAt w1 wB wr y up per st t v20 ∧ gk = 6 * per + 6 - t)
    case atStart => exact ⟨0, rfl, by omega, HRD0.out, rfl⟩
    case round =>
      rename World => w0
      obtain ⟨t, rfl, ht, hrd, hg⟩ := hrel
      have Hg := Lib.hid hg
      have HRD := Lib.hid hrd
      clear hg hrd
      by_cases hlt : t < 6 * per + 6
      · -- round
        have hlt' : (t : Int) < 6 * (per : Int) + 6 := by omega
        have ht18 : t < 18 := by have := HPER.out; omega
        obtain ⟨rr0, hrr0, hnet0⟩ := HRD.out.net
        have hcv := HRV.out t
        have hrun : runQ (askN per) up st (t + 1) = roundQ (askN per) up t (runQ (askN per) up st t) := rfl
        have hrw := HRD.out.row
        have hw0 : y.lo 5 ≤ w0.heap.size := by have := HTOP2.out; have := HRD.out.onlyB.size; omega
        have HRUN := Lib.hid hrun
        clear hrun
        generalize runQ (askN per) up st t = R at *
        obtain ⟨sR, came⟩ := R
        obtain ⟨P, hP, hown, he⟩ := hrw.out
        simp only at hP hnet0
        obtain ⟨va, vcap, rfl, _, hvc2, hcs⟩ := Sl.cells cellsL_length (Sl.of_owns hown)
        have HPL := Lib.hid (show P.length = came.length by rw [← hP, List.length_map])
        have hcl := hcv.cnt.len
        simp only at hcl
        have hst0 : RndAt w1 w0 w0 y up per (fun _ => sdT per t) (fun i => sdN per (oth i).length t) (30 + 640 * (t : Int)) sR (.slice none 0 0) [] := ⟨HRD.out.only1, Only.refl _ _, ⟨rr0, hrr0, hnet0⟩, LetRow.nil _ _⟩
        have HST0 := Lib.hid hst0
        have HCS := Lib.hid hcs
        have HE := Lib.hid he
        have HCV := Lib.hid hcv
        have HW0 := Lib.hid hw0
        have HP := Lib.hid hP
        have HRR0 := Lib.hid hrr0
        clear hst0 hcs he hcv hw0 hP hrr0
        have HOWN := Lib.hid hown
        clear hown
        clear hnet0 hrw
        go_upto_block 8 with fail
        go_cut [20, 23] (fun v20 _ wx => RndAt w1 w0 wx y up per (fun _ => sdT per t) (fun i => sdN per (oth i).length t) (30 + 640 * (t : Int) + 640) (came.foldl (letQ up) (sR, [])).1 v20 (came.foldl (letQ up) (sR, [])).2)
        case first =>
          go_wp2_with fail
          go_loopg [20, 23] P.length (fun gk v20 v23 wr => ∃ k : Nat, v23 = .int .i64 k ∧ k ≤ P.length ∧ RndAt w1 w0 wr y up per (fun _ => sdT per t) (fun i => sdN per (oth i).length t) (30 + 640 * (t : Int) + 16 * (k : Int)) ((came.take k).foldl (letQ up) (sR, [])).1 v20 ((came.take k).foldl (letQ up) (sR, [])).2 ∧ gk = P.length - k)
          case atStart => exact ⟨0, rfl, by omega, by simpa using HST0.out, rfl⟩
          case round =>
            obtain ⟨k, rfl, hk, hr, hg2⟩ := hrel
            have Hg2 := Lib.hid hg2
            have HR := Lib.hid hr
            clear hg2 hr
            by_cases hltk : k < P.length
            · -- letter
              have hltk' : (k : Int) < (P.length : Int) := by omega
              have hk0 : (0 : Int) ≤ (k : Int) := by omega
              have hkc : k < came.length := by have := HPL.out; omega
              have hcl' := HCV.out.cnt.len
              have HPK := Lib.hid (show letT P[k] = came[k] by have := HP.out; subst this; simp)
              have HLV := Lib.hid (HCV.out.lv came[k] (List.getElem_mem hkc))
              have HSN := Lib.hid (fold_snoc up (sR, []) came k hkc)
              have HF1 := Lib.hid (lets_v (up := up) HCV.out (k + 1))
              have HF0 := Lib.hid (lets_v (up := up) HCV.out k)
              obtain ⟨lb, off, rfl, hcc⟩ := HCS.out.at k hltk
              have hcr : ∀ j z, (cellsL P[k])[j]? = some z → w0.cell? ⟨lb, off + k * 9 + j, none⟩ = some z := hcc
              have hMO := HE.out _ (List.getElem_mem hltk)
              rw [← HPK.out] at HLV HSN
              generalize P[k] = q at *
              obtain ⟨qf, qd, mm, un, ui, ur⟩ := q
              have hlb5 : y.lo 5 ≤ lb := by
                rcases HOWN.out.2 with ⟨h2, _⟩ | ⟨g, cap', cur, hv, hb, hg, _⟩
                · cases h2
                · cases hv; exact hb
              have hHR := HR.out
              have HTK := Lib.hid (fun i (hi : i < 5) (hu : up i = true) W hW => rnd_take HLAY.out HLO0.out HW0.out m (HO1.out.cell HM.out id) hHR (by have := HPL.out; omega) hi hu (qf, qd, mm, un, ui, ur) hMO HLV.out W hW)
              have hskip : takesQ up (letT (qf, qd, mm, un, ui, ur)) = false → RndAt w1 w0 wr y up per (fun _ => sdT per t) (fun i => sdN per (oth i).length t) (30 + 640 * (t : Int) + 16 * ((k + 1 : Nat) : Int)) ((came.take (k + 1)).foldl (letQ up) (sR, [])).1 u20 ((came.take (k + 1)).foldl (letQ up) (sR, [])).2 := fun h => by
                rw [HSN.out, let_neg h]
                obtain ⟨f1, f2, ⟨rf, hrf, f3⟩, f4⟩ := hHR
                exact ⟨f1, f2, ⟨rf, fun i => by have := hrf i; omega, f3⟩, f4⟩
              have hcw : ∀ w', Only (fun j => j < y.lo 5) wr w' → ∀ j z, (cellsL (qf, qd, mm, un, ui, ur))[j]? = some z → w'.cell? ⟨lb, off + k * 9 + j, none⟩ = some z := fun w' ho j z hz => ho.cell (hHR.only0.cell (hcr j z hz) (fun e => by have e : lb < y.lo 5 := e; omega)) (fun e => by have e : lb < y.lo 5 := e; omega)
              have y1 := hcw wr (Only.refl _ _) 1 _ rfl
              have HSKIP := Lib.hid hskip
              have HCW := Lib.hid hcw
              have HMO := Lib.hid hMO
              have HLB5 := Lib.hid hlb5
              clear hskip hcw hMO hlb5
              clear hcr hcc hHR
              by_cases hin : 1 ≤ qd ∧ qd ≤ 5
              · obtain ⟨i, rfl, hi⟩ : ∃ i : Nat, qd = (i : Int) + 1 ∧ i < 5 := ⟨qd.toNat - 1, by omega, by omega⟩
                have hbt := bit20 (k := i) HU.out HHUP.out
                have hi0 : (0 : Int) ≤ (i : Int) := by omega
                have hi5 : (i : Int) < 5 := by omega
                have hin1 : ¬ (i : Int) + 1 < 1 := by omega
                have hin2 : ¬ (i : Int) + 1 > 5 := by omega
                clear hin
                cases hb : up i with
                | false =>
                  rw [hb] at hbt
                  have hbt : bits BinOp.and IntKind.u8 ((u : Int) / 2 ^ i) 1 = 0 := hbt
                  have HF := Lib.hid (HSKIP.out (by
                    have e : ((i : Int) + 1).toNat - 1 = i := by omega
                    show (decide _ && up (((i : Int) + 1).toNat - 1)) = false
                    rw [e, hb, Bool.and_false]))
                  go_wp2_with fail
                  go_roundg (P.length - (k + 1))
                  case measure => rw [Hg2.out]; omega
                  case rel => exact ⟨k + 1, by go_num, by omega, HF.out, rfl⟩
                | true =>
                  rw [hb] at hbt
                  have hbt : bits BinOp.and IntKind.u8 ((u : Int) / 2 ^ i) 1 = 1 := hbt
                  have hT := HTK.out i hi hb
                  unfold cellsM at hT
                  simp only at hT
                  obtain ⟨rk, _, hnk⟩ := HR.out.net
                  have hbel := HLAY.out.below hi
                  have hout := HLAY.out.out hi
                  have hxc := hnk.arrX i hi
                  have HCS7 := Lib.hid (show ∀ w', Only (fun j => j = y.S i ∨ j = y.B i) wr w' → w'.cell? ⟨y.XA, i, none⟩ = some (.pointer (some ⟨y.X i, 0, none⟩)) ∧ w'.cell? ⟨lb, off + k * 9, none⟩ = some (.int .i64 qf) ∧ w'.cell? ⟨lb, off + k * 9 + 2, none⟩ = some (.int .i64 mm.kind) ∧ w'.cell? ⟨lb, off + k * 9 + 3, none⟩ = some (.int .i64 mm.node) ∧ w'.cell? ⟨lb, off + k * 9 + 4, none⟩ = some (.int .i64 mm.walk) ∧ w'.cell? ⟨lb, off + k * 9 + 5, none⟩ = some (.bool mm.high) ∧ w'.cell? ⟨lb, off + k * 9 + 6, none⟩ = some un ∧ w'.cell? ⟨lb, off + k * 9 + 7, none⟩ = some ui ∧ w'.cell? ⟨lb, off + k * 9 + 8, none⟩ = some ur from fun w' ho => by
                    have hoj : Only (fun j => j < y.lo 5) wr w' := ho.weaken (fun j _ e => by have e : j = y.S i ∨ j = y.B i := e; show j < y.lo 5; omega)
                    exact ⟨ho.cell hxc (fun e => by have e : y.XA = y.S i ∨ y.XA = y.B i := e; omega), HCW.out w' hoj 0 _ rfl, HCW.out w' hoj 2 _ rfl, HCW.out w' hoj 3 _ rfl, HCW.out w' hoj 4 _ rfl, HCW.out w' hoj 5 _ rfl, HCW.out w' hoj 6 _ rfl, HCW.out w' hoj 7 _ rfl, HCW.out w' hoj 8 _ rfl⟩)
                  have HT := Lib.hid hT
                  clear hT
                  clear hnk hout hxc hbel
                  go_upto_region 37 with (fail)
                  clear y1 hbt hin1 hin2
                  have hwi : IntKind.i64.wrap ((i : Int) + 1 - 1) = (i : Int) := by rw [IntKind.wrap_i64]; omega
                  have hwi2 : IntKind.i64.wrap (i : Int) = (i : Int) := by rw [IntKind.wrap_i64]; omega
                  go_cut [25] (fun v25 wz => RndAt w1 w0 wz y up per (fun _ => sdT per t) (fun i => sdN per (oth i).length t) (30 + 640 * (t : Int) + 16 * (k : Int) + 16) (updQ ((came.take k).foldl (letQ up) (sR, [])).1 i (stoQ mm (((came.take k).foldl (letQ up) (sR, [])).1 i))) u20 ((came.take k).foldl (letQ up) (sR, [])).2 ∧ OutRow wz w0.heap.size w0.heap.size v25 qf (outQ mm (((came.take k).foldl (letQ up) (sR, [])).1 i)))
                  case first =>
                    go_region_held3 (fun w' => Only (fun j => j = y.S i ∨ j = y.B i) wr w' ∧ w'.cell? ⟨y.XA, i, none⟩ = some (.pointer (some ⟨y.X i, 0, none⟩)) ∧ w'.cell? ⟨lb, off + k * 9, none⟩ = some (.int .i64 qf) ∧ w'.cell? ⟨lb, off + k * 9 + 2, none⟩ = some (.int .i64 mm.kind) ∧ w'.cell? ⟨lb, off + k * 9 + 3, none⟩ = some (.int .i64 mm.node) ∧ w'.cell? ⟨lb, off + k * 9 + 4, none⟩ = some (.int .i64 mm.walk) ∧ w'.cell? ⟨lb, off + k * 9 + 5, none⟩ = some (.bool mm.high) ∧ w'.cell? ⟨lb, off + k * 9 + 6, none⟩ = some un ∧ w'.cell? ⟨lb, off + k * 9 + 7, none⟩ = some ui ∧ w'.cell? ⟨lb, off + k * 9 + 8, none⟩ = some ur)
                      (((refine heldP HCS7.out ?_); (first | (refine Only.weaken (S := fun _ => False) ?_ (fun _ _ => False.elim); ((repeat (first | (with_reducible assumption) | (with_reducible exact Only.refl _ _) | (with_reducible refine Only.drew ?_) | (with_reducible refine Only.alloc ?_ _) | (with_reducible refine onlySet ?_ (by first | (with_reducible assumption) | omega) _) | (with_reducible refine Only.trans ?_ (by with_reducible assumption)))); done)) | ((repeat (first | (with_reducible assumption) | (with_reducible exact Only.refl _ _) | (with_reducible refine Only.drew ?_) | (with_reducible refine Only.alloc ?_ _) | (with_reducible refine onlySet ?_ (by first | (with_reducible assumption) | omega) _) | (with_reducible refine Only.trans ?_ (by with_reducible assumption)))); done))))
                      (first
                        | (go_at_call 51; (with_reducible refine (HT.out _ (by (repeat (first | (with_reducible assumption) | (with_reducible exact Only.refl _ _) | (with_reducible refine Only.drew ?_) | (with_reducible refine Only.alloc ?_ _) | (with_reducible refine onlySet ?_ (by first | (with_reducible assumption) | omega) _) | (with_reducible refine Only.trans ?_ (by with_reducible assumption)))))).mono ?_); rintro e w9 ⟨vo, v2, rfl, r9, q9, o9⟩))
                    all_goals
                      go_wp2_with fail
                      go_meet
                      exact ⟨r9, q9⟩
                  case rest =>
                  obtain ⟨hr9, hq9⟩ := hcut
                  have hN : (came.take (k + 1)).foldl (letQ up) (sR, []) = _ := HSN.out.trans (let_pos hi hb _ qf mm)
                  have hl1 := HF1.out.len
                  simp only at hl1
                  rw [hN, List.length_append, List.length_map] at hl1
                  have HN := Lib.hid hN
                  clear hN
                  generalize hF1e : (came.take (k + 1)).foldl (letQ up) (sR, []) = F1 at *
                  have HF1E := Lib.hid hF1e
                  clear hF1e
                  generalize (came.take k).foldl (letQ up) (sR, []) = F0 at *
                  obtain ⟨s0, l0⟩ := F0
                  simp only at hr9 hq9 hl1
                  generalize outQ mm (s0 i) = oq at *
                  obtain ⟨sa, sc, rfl⟩ := hr9.row.form
                  have HS1 := Lib.hid (rnd_sent hr9 ((i : Int) + 1) qf u25 oq hq9 (by omega))
                  clear hr9 hq9
                  go_wp2_with fail
                  refine HS1.out.mono ?_
                  rintro e w5 ⟨v5, rfl, hr5, hls5, _⟩
                  obtain ⟨P2, hP2, hown2, he2⟩ := hr5.row.out
                  obtain ⟨Q2, hQ2, hownQ, heQ⟩ := hls5.out
                  have hlP : P2.length ≤ 35 := by rw [← List.length_map (f := letT), hP2]; omega
                  have hlQ : Q2.length ≤ 35 := by rw [← List.length_map (f := letT), hQ2, List.length_map]; omega
                  have HLP := Lib.hid hlP
                  have HR5 := Lib.hid hr5
                  have HOWN2 := Lib.hid hown2
                  have HE2 := Lib.hid he2
                  have HOWNQ := Lib.hid hownQ
                  have HEQ := Lib.hid heQ
                  have HP2 := Lib.hid hP2
                  have HQ2 := Lib.hid hQ2
                  clear hr5 hown2 he2 hownQ heQ hP2 hQ2
                  clear hls5
                  go_wp2_with (at_builtin; refine Wait.mk ?_)
                  refine Wait.go (wpList_append_src _ rfl (.tmp 178) (.tmp 181) 104 104 rfl w0.heap.size 106 j0 _ 9 120 Tryd.underlying104 hj0 jz0 jz1 jz2 rfl _ P2.length (P2.flatMap cellsL) rfl ?own4 _ Q2.length (Q2.flatMap cellsL) rfl ?src4 ?m4 ?b4 ?base4 ?_)
                  case own4 => exact HOWN2.out
                  case src4 => exact Sl.src Tryd.underlying104 (Sl.of_owns HOWNQ.out) (fun z hz => by obtain ⟨q, hq, hz⟩ := List.mem_flatMap.1 hz; exact cellsL_one (HEQ.out q hq) z hz)
                  case m4 => unfold maxLen; have := HLP.out; omega
                  case b4 => have := HLP.out; omega
                  case base4 => exact HR5.out.only0.size
                  intro v9 w9 own9 gr9 _
                  have gr9 : w5.grownBy w9 (Value.slice sa l0.length sc).ownBlock := gr9
                  have hr99 := HR5.out.grown HLAY.out HLO0.out HW0.out HP2.out HQ2.out HOWN2.out HE2.out HEQ.out own9 gr9
                  have HR9 := Lib.hid (show RndAt w1 w0 w9 y up per (fun _ => sdT per t) (fun i => sdN per (oth i).length t) (30 + 640 * (t : Int) + 16 * ((k + 1 : Nat) : Int)) F1.1 v9 F1.2 from by
                    rw [HN.out]
                    obtain ⟨f1, f2, ⟨rf, hrf, f3⟩, f4⟩ := hr99
                    exact ⟨f1, f2, ⟨rf, fun i => by have := hrf i; omega, f3⟩, f4⟩)
                  clear own9 gr9 hr99
                  go_wp2_with fail
                  go_roundg (P.length - (k + 1))
                  case measure => rw [Hg2.out]; omega
                  case rel => exact ⟨k + 1, by go_num, by omega, by rw [HF1E.out]; exact HR9.out, rfl⟩
              · -- out
                have HF := Lib.hid (HSKIP.out (by
                  show (decide (1 ≤ qd ∧ qd ≤ 5) && _) = false
                  rw [decide_eq_false hin, Bool.false_and]))
                by_cases h1q : qd < 1
                · clear hin
                  go_wp2_with fail
                  go_roundg (P.length - (k + 1))
                  case measure => rw [Hg2.out]; omega
                  case rel => exact ⟨k + 1, by go_num, by omega, HF.out, rfl⟩
                · have h2q : qd > 5 := by omega
                  clear hin
                  go_wp2_with fail
                  go_roundg (P.length - (k + 1))
                  case measure => rw [Hg2.out]; omega
                  case rel => exact ⟨k + 1, by go_num, by omega, HF.out, rfl⟩
            · -- lstop
              have hltk' : ¬ (k : Int) < (P.length : Int) := by omega
              obtain rfl : k = P.length := by omega
              have hF := HR.out
              rw [List.take_of_length_le (by have := HPL.out; omega)] at hF
              obtain ⟨f1, f2, ⟨rf, hrf, f3⟩, f4⟩ := hF
              have HF := Lib.hid (show RndAt w1 w0 _ y up per (fun _ => sdT per t) (fun i => sdN per (oth i).length t) (30 + 640 * (t : Int) + 640) _ _ _ from ⟨f1, f2, ⟨rf, fun i => by have := hrf i; have := HPL.out; omega, f3⟩, f4⟩)
              clear f1 f2 f3 f4 hrf
              go_wp2_with fail
              go_meet
              exact HF.out
        case rest =>
        rename World => wT
        have HRT := Lib.hid hcut
        clear hcut
        have HFE := Lib.hid (lets_v (up := up) HCV.out came.length)
        rw [List.take_of_length_le (Nat.le_refl _)] at HFE
        have HRE := Lib.hid (show runQ (askN per) up st (t + 1) = ((came.foldl (letQ up) (sR, [])).1, (came.foldl (letQ up) (sR, [])).2 ++ asksL per t 5 up (came.foldl (letQ up) (sR, [])).1) from HRUN.out)
        generalize came.foldl (letQ up) (sR, []) = F at *
        obtain ⟨sF, lF⟩ := F
        have hlF := HFE.out.len
        simp only at hlF
        simp only at HRE
        have hsv := HFE.out.sv
        simp only at hsv
        have HSV := Lib.hid hsv
        have hrt0 : RndAt w1 w0 wT y up per (tkA per t 0) (nxA per t 0) (30 + 640 * (t : Int) + 640) sF u20 (lF ++ asksL per t 0 up sF) := by
          have h1 := HRT.out
          have e : lF ++ asksL per t 0 up sF = lF := List.append_nil _
          rw [e]
          exact h1
        have HRT0 := Lib.hid hrt0
        clear hrt0 hsv HRT
        go_upto_block 10 with fail
        go_wp2_with fail
        go_loopg [20, 27] 5 (fun gk v20 v27 wr => ∃ k : Nat, v27 = .int .i64 k ∧ k ≤ 5 ∧ RndAt w1 w0 wr y up per (tkA per t k) (nxA per t k) (30 + 640 * (t : Int) + 640) sF v20 (lF ++ asksL per t k up sF) ∧ gk = 5 - k)
        case atStart => exact ⟨0, rfl, by omega, HRT0.out, rfl⟩
        case round =>
          rename World => wr
          obtain ⟨k, rfl, hk, hr, hg2⟩ := hrel
          have Hg2 := Lib.hid hg2
          have HR := Lib.hid hr
          clear hg2 hr
          by_cases hltk : k < 5
          · -- node
            have hltk' : (k : Int) < 5 := by omega
            have hk0 : (0 : Int) ≤ (k : Int) := by omega
            have hbt := bit20 (k := k) HU.out HHUP.out
            cases hb : up k with
            | false =>
              rw [hb] at hbt
              have hbt : bits BinOp.and IntKind.u8 ((u : Int) / 2 ^ k) 1 = 0 := hbt
              have HR2 := Lib.hid (HR.out.idle hb)
              go_wp2_with fail
              go_roundg (5 - (k + 1))
              case measure => rw [Hg2.out]; omega
              case rel => exact ⟨k + 1, by go_num, by omega, HR2.out, rfl⟩
            | true =>
              rw [hb] at hbt
              have hbt : bits BinOp.and IntKind.u8 ((u : Int) / 2 ^ k) 1 = 1 := hbt
              obtain ⟨rk, _, hnk⟩ := HR.out.net
              have hxc := hnk.arrX k hltk
              obtain ⟨sa, nl, sc, rfl⟩ : ∃ sa nl sc, u20 = .slice sa nl sc := by obtain ⟨sa, sc, h⟩ := HR.out.row.form; exact ⟨sa, _, sc, h⟩
              have HTK := Lib.hid (rnd_tick HPER.out HLAY.out HLO0.out HW0.out HR.out hltk hb t (tkA_at per t k).1 (tkA_at per t k).2)
              have hal := asksL_len per t k up HSV.out
              have hll : (lF ++ asksL per t k up sF).length ≤ 40 := by rw [List.length_append]; omega
              have HLL := Lib.hid hll
              clear hnk hll
              go_wp2_with fail
              refine HTK.out.mono ?_
              rintro e w5 ⟨v5, n5, ms5, rfl, hr5, hq5, hms5, hmq5⟩
              rw [(tkA_upd per t k).1, (tkA_upd per t k).2] at hr5
              have HS1 := Lib.hid (rnd_sent hr5 ((k : Int) + 1) n5 v5 ms5 hq5 (by omega))
              have HMS := Lib.hid hms5
              have HMQ := Lib.hid (show ms5.map (fun m => (⟨(k : Int) + 1, n5, m⟩ : LetT)) = askQ (askN per) up t sF k from hmq5)
              clear hr5 hq5 hms5 hmq5 hxc
              go_wp2_with fail
              refine HS1.out.mono ?_
              rintro e w6 ⟨v6, rfl, hr6, hls6, _⟩
              rw [HMQ.out] at hls6
              obtain ⟨P2, hP2, hown2, he2⟩ := hr6.row.out
              obtain ⟨Q2, hQ2, hownQ, heQ⟩ := hls6.out
              have hlP : P2.length ≤ 40 := by rw [← List.length_map (f := letT), hP2]; exact HLL.out
              have hlQ : Q2.length ≤ 1 := by rw [← List.length_map (f := letT), hQ2, ← HMQ.out, List.length_map]; exact HMS.out
              have HLP := Lib.hid (And.intro hlP hlQ)
              have HR6 := Lib.hid hr6
              have HOWN2 := Lib.hid hown2
              have HE2 := Lib.hid he2
              have HOWNQ := Lib.hid hownQ
              have HEQ := Lib.hid heQ
              have HP2 := Lib.hid hP2
              have HQ2 := Lib.hid hQ2
              clear hr6 hown2 he2 hownQ heQ hP2 hQ2
              clear hls6
              go_wp2_with (at_builtin; refine Wait.mk ?_)
              refine Wait.go (wpList_append_src _ rfl (.tmp 192) (.tmp 199) 104 104 rfl w0.heap.size 106 j0 _ 9 120 Tryd.underlying104 hj0 jz0 jz1 jz2 rfl _ P2.length (P2.flatMap cellsL) rfl ?own4 _ Q2.length (Q2.flatMap cellsL) rfl ?src4 ?m4 ?b4 ?base4 ?_)
              case own4 => exact HOWN2.out
              case src4 => exact Sl.src Tryd.underlying104 (Sl.of_owns HOWNQ.out) (fun z hz => by obtain ⟨q, hq, hz⟩ := List.mem_flatMap.1 hz; exact cellsL_one (HEQ.out q hq) z hz)
              case m4 => unfold maxLen; have := HLP.out; omega
              case b4 => have := HLP.out; omega
              case base4 => exact HR6.out.only0.size
              intro v9 w9 own9 gr9 _
              have gr9 : w6.grownBy w9 (Value.slice sa nl sc).ownBlock := gr9
              have hr99 := HR6.out.grown HLAY.out HLO0.out HW0.out HP2.out HQ2.out HOWN2.out HE2.out HEQ.out own9 gr9
              rw [List.append_assoc, ← asksL_snoc] at hr99
              have HR9 := Lib.hid hr99
              clear own9 gr9 hr99
              go_wp2_with fail
              go_roundg (5 - (k + 1))
              case measure => rw [Hg2.out]; omega
              case rel => exact ⟨k + 1, by go_num, by omega, HR9.out, rfl⟩
          · -- tstop
            have hltk' : ¬ (k : Int) < 5 := by omega
            obtain rfl : k = 5 := by omega
            have HEND := Lib.hid (HR.out.ended HRE.out HRD.out.onlyB HW0.out)
            go_wp2_with fail
            go_roundg (6 * per + 6 - (t + 1))
            case measure => rw [Hg.out]; omega
            case rel => exact ⟨t + 1, by go_num, by omega, HEND.out, rfl⟩
      · -- rstop
        have hlt' : ¬ (t : Int) < 6 * (per : Int) + 6 := by omega
        obtain rfl : t = 6 * per + 6 := by omega
        go_wp2_with fail
        go_meet
        exact HRD.out
  case rest =>
  have HRDE := Lib.hid hcut
  clear hcut
  rename World => wE
  have hup1 : up 1 = true := by rw [HHUP.out]; have := HU1.out; simpa using this
  obtain ⟨rE, _, hnE⟩ := HRDE.out.net
  have HBH := Lib.hid (fun i (hi : i < 5) (hu : up i = true) x (hx : x ∈ bestN up st 5) => best_has HGOOD.out hup1 HPER.out hi hu hx)
  have hst5 : StV (runQ (askN per) up st (6 * per + 6)).1 := (HRV.out (6 * per + 6)).sv
  generalize (runQ (askN per) up st (6 * per + 6)).1 = sF at *
  have hrowE : IdRow wE wc.heap.size u18 (bestN up st 5) := owns_only HBEST.out HRDE.out.onlyB (fun k hk e => by have e : k < y.lo 5 := e; have := HTOP.out; omega)
  have HKS := Lib.hid (show ∀ x ∈ bestN up st 5, x.key.size ≤ 1000000 from fun x hx => by
    obtain ⟨j, _, hxj⟩ := List.mem_flatMap.1 hx
    split at hxj
    · exact ((HSTV.out j).2 x hxj).2
    · cases hxj)
  have HOE := Lib.hid HRDE.out.only1
  generalize bestN up st 5 = L at *
  obtain ⟨va, vcap, rfl, _, hvc2, hcs⟩ := Sl.cells idC_length (Sl.of_owns hrowE)
  have HNE := Lib.hid hnE
  have HCSE := Lib.hid hcs
  clear hnE hcs
  clear hrowE hst5 hup1 HRDE HRV
  go_wp2_with fail
  go_loopg [28] 5 (fun gk v28 wr => ∃ i : Nat, v28 = .int .i64 i ∧ i ≤ 5 ∧ Only (fun _ => False) wE wr ∧ gk = 5 - i)
  case atStart => exact ⟨0, rfl, by omega, Only.refl _ _, rfl⟩
  case round =>
    rename World => wi
    obtain ⟨i, rfl, hi5, hoi, hg⟩ := hrel
    have Hg := Lib.hid hg
    have HOI := Lib.hid hoi
    clear hg hoi
    by_cases hlt : i < 5
    · -- cnode
      have hlt' : (i : Int) < 5 := by omega
      have hi0 : (0 : Int) ≤ (i : Int) := by omega
      have hbt := bit20 (k := i) HU.out HHUP.out
      have HBT := Lib.hid hbt
      clear hbt
      go_upto_block 14 with fail
      go_wp2_with fail
      go_loopg [29] L.length (fun gk v29 wr => ∃ k : Nat, v29 = .int .i64 k ∧ k ≤ L.length ∧ Only (fun _ => False) wE wr ∧ gk = L.length - k)
      case atStart => exact ⟨0, rfl, by omega, HOI.out, rfl⟩
      case round =>
        rename World => wr
        obtain ⟨k, rfl, hk, hok, hg2⟩ := hrel
        have Hg2 := Lib.hid hg2
        have HOK := Lib.hid hok
        clear hg2 hok
        have hk0 : (0 : Int) ≤ (k : Int) := by omega
        have hbt := HBT.out
        cases hb : up i with
        | false =>
          rw [hb] at hbt
          have hbt : bits BinOp.and IntKind.u8 ((u : Int) / 2 ^ i) 1 = 0 := hbt
          go_wp2_with fail
          go_roundg (5 - (i + 1))
          case measure => rw [Hg.out]; omega
          case rel => exact ⟨i + 1, by go_num, by omega, HOK.out, rfl⟩
        | true =>
          rw [hb] at hbt
          have hbt : bits BinOp.and IntKind.u8 ((u : Int) / 2 ^ i) 1 = 1 := hbt
          by_cases hltk : k < L.length
          · -- check
            have hltk' : (k : Int) < (L.length : Int) := by omega
            obtain ⟨lb, off, rfl, hcc⟩ := HCSE.out.at k hltk
            have hxk := List.getElem_mem hltk
            obtain ⟨yy, hfy, hvy⟩ := HBH.out i hlt hb L[k] hxk
            have hks := HKS.out L[k] hxk
            have hnr := HNE.out.new HOK.out
            have HG1 := Lib.hid (fun W (hW : Only (fun _ => False) wr W) => sget_any W _ _ _ _ _ _ ((hnr.new hW).sto i hlt) L[k].key (by unfold maxLen; omega))
            have e1 : findV (sF i) L[k].key = yy := by unfold findV; rw [hfy]; rfl
            rw [e1, hfy] at HG1
            have y0 := HOK.out.cell (hcc 0 _ rfl) id
            have y1 := HOK.out.cell (hcc 1 _ rfl) id
            have ysc := hnr.arrS i hlt
            clear e1 hfy hnr hcc hxk hks
            generalize L[k] = X at *
            obtain ⟨k1, v1, o1, a1, g1, D1⟩ := X
            obtain ⟨k2, v2, o2, a2, g2, D2⟩ := yy
            simp only at HG1 hvy y0 y1
            unfold recT at HG1
            simp only [Nat.add_zero, Option.isSome_some] at y0 HG1
            have hvi : ¬ (v2 : Int) < (v1 : Int) := by omega
            have HCS9 := Lib.hid (show ∀ w', Only (fun _ => False) wr w' → w'.cell? ⟨y.SA, i, none⟩ = some (.pointer (some ⟨y.S i, 0, none⟩)) ∧ w'.cell? ⟨lb, off + k * 2, none⟩ = some (.string k1) from fun w' h => ⟨h.cell ysc id, h.cell y0 id⟩)
            go_upto_region 50 with (fail)
            have Y1 := Lib.hid y1
            clear y0 y1 ysc hbt
            go_cut [30, 31] (fun v30 v31 wz => ∃ Q, v30 = .pointer (some ⟨Q, 0, none⟩) ∧ v31 = .bool true ∧ wz.heap[Q]? = some (.cells #[.string k2, .int .u64 v2, .int .i64 o2, .int .i64 a2, .bool g2, .string D2] 33 (0, 0)) ∧ Only (fun _ => False) wr wz)
            case first =>
              go_region_held3 (fun w' => Only (fun _ => False) wr w' ∧ w'.cell? ⟨y.SA, i, none⟩ = some (.pointer (some ⟨y.S i, 0, none⟩)) ∧ w'.cell? ⟨lb, off + k * 2, none⟩ = some (.string k1))
                (((refine heldO HCS9.out ?_); (repeat (first | (with_reducible assumption) | (with_reducible exact Only.refl _ _) | (with_reducible refine Only.drew ?_) | (with_reducible refine Only.alloc ?_ _) | (with_reducible refine onlySet ?_ (by first | (with_reducible assumption) | omega) _) | (with_reducible refine Only.trans ?_ (by with_reducible assumption))))))
                (first
                  | (go_at_call 16; (with_reducible refine (HG1.out _ (by (repeat (first | (with_reducible assumption) | (with_reducible exact Only.refl _ _) | (with_reducible refine Only.drew ?_) | (with_reducible refine Only.alloc ?_ _) | (with_reducible refine onlySet ?_ (by first | (with_reducible assumption) | omega) _) | (with_reducible refine Only.trans ?_ (by with_reducible assumption)))))).mono ?_); rintro e w8 ⟨rfl, ho8⟩; have o8 : Only (fun _ => False) wr w8 := (by (refine Only.trans (b := _) ?_ ho8); (repeat (first | (with_reducible assumption) | (with_reducible exact Only.refl _ _) | (with_reducible refine Only.drew ?_) | (with_reducible refine Only.alloc ?_ _) | (with_reducible refine onlySet ?_ (by first | (with_reducible assumption) | omega) _) | (with_reducible refine Only.trans ?_ (by with_reducible assumption))))); have hz8 : wr.heap.size ≤ w8.heap.size := Only.size o8; (first | (have hs9 : w8.heap[wr.heap.size]? = some (.cells #[.string ⟨#[]⟩, .int .u64 0, .int .i64 0, .int .i64 0, .bool false, .string ⟨#[]⟩] 33 (0, 0)) := (by (refine Only.old ho8 ?_ id); first | (apply Eq.trans; (case h₁ => repeat (first | (with_reducible assumption) | (with_reducible exact heap_alloc_new _ _) | (with_reducible apply blk_new; (repeat (first | (with_reducible rfl) | (with_reducible apply sz_set) | (with_reducible apply sz_alloc) | (with_reducible apply sz_drew))); done) | (with_reducible apply blk_same) | (with_reducible apply blk_ne; case hn => (first | assumption | omega)) | (with_reducible apply blk_old) | (with_reducible apply blk_drew))); (case h₂ => rfl)) | fail); have ls9 := lt_of_block hs9; have fs9 : ∀ i, w8.frozen? ⟨wr.heap.size, i, none⟩ = false := free_at hs9; have sz0 : w8.cell? ⟨wr.heap.size, 0, none⟩ = some (.string ⟨#[]⟩) := cell_at hs9 0; have sz1 : w8.cell? ⟨wr.heap.size, 1, none⟩ = some (.int .u64 0) := cell_at hs9 1; have sz2 : w8.cell? ⟨wr.heap.size, 2, none⟩ = some (.int .i64 0) := cell_at hs9 2; have sz3 : w8.cell? ⟨wr.heap.size, 3, none⟩ = some (.int .i64 0) := cell_at hs9 3; have sz4 : w8.cell? ⟨wr.heap.size, 4, none⟩ = some (.bool false) := cell_at hs9 4; have sz5 : w8.cell? ⟨wr.heap.size, 5, none⟩ = some (.string ⟨#[]⟩) := cell_at hs9 5) | skip); (try (have nn0 : ¬ wr.heap.size = w8.heap.size := (by omega)))))
              all_goals
                go_wp2_with fail
                go_meet
                refine ⟨_, by with_reducible rfl, rfl, ?_, ?_⟩
                · (apply Eq.trans; (case h₁ => repeat (first | (with_reducible assumption) | (with_reducible exact heap_alloc_new _ _) | (with_reducible apply blk_new; (repeat (first | (with_reducible rfl) | (with_reducible apply sz_set) | (with_reducible apply sz_alloc) | (with_reducible apply sz_drew))); done) | (with_reducible apply blk_same) | (with_reducible apply blk_ne; case hn => (first | assumption | omega)) | (with_reducible apply blk_old) | (with_reducible apply blk_drew))); (case h₂ => rfl))
                · (repeat (first | (with_reducible assumption) | (with_reducible exact Only.refl _ _) | (with_reducible refine Only.drew ?_) | (with_reducible refine Only.alloc ?_ _) | (with_reducible refine onlySet ?_ (by first | (with_reducible assumption) | omega) _) | (with_reducible refine Only.trans ?_ (by with_reducible assumption))))
            case rest =>
            obtain ⟨Q, rfl, rfl, hQ, hoQ⟩ := hcut
            rename World => wz
            have q1 : wz.cell? ⟨Q, 1, none⟩ = some (.int .u64 v2) := cell_at hQ 1
            have y1 := hoQ.cell Y1.out id
            have HOQ := Lib.hid hoQ
            clear hoQ
            clear hQ
            go_upto_region 51 with (fail)
            go_quiet (fail)
            obtain ⟨wa, hwa⟩ : ∃ wa, wa = wz.drewN nq := ⟨_, rfl⟩
            have hoa : Only (fun _ => False) wz wa := by rw [hwa]; exact (Only.refl _ _).drewN _
            rw [← hwa]
            clear hwa q1 y1
            have HF := Lib.hid (HOK.out.trans (HOQ.out.trans hoa))
            clear hoa
            go_wp2_with fail
            go_roundg (L.length - (k + 1))
            case measure => rw [Hg2.out]; omega
            case rel => exact ⟨k + 1, by go_num, by omega, HF.out, rfl⟩
          · have hltk' : ¬ (k : Int) < (L.length : Int) := by omega
            go_wp2_with fail
            go_roundg (5 - (i + 1))
            case measure => rw [Hg.out]; omega
            case rel => exact ⟨i + 1, by go_num, by omega, HOK.out, rfl⟩
    · -- cend
      have hlt' : ¬ (i : Int) < 5 := by omega
      have HF := Lib.hid (HO1.out.trans (HOE.out.trans HOI.out))
      go_wp2_with fail
      go_ret
      exact ⟨rfl, HF.out⟩
end Go.Proofs.YtjdlcfllmpdffaaDoor
/-! SeedsRepair is true of every input: what five nodes hold, some of which are not there, is behind two turns through the seeds and some rounds held by all that are there. No condition; the package variables that it names are tied to the text. -/
namespace Go.Proofs.YtjdlcfllmpdffaaDoor.seedsRepairLaw
open Go.Conc Go.RowKit Go.ChangeShapes Go.WideShapes Go.ChangeAt Go.ChangeMaps

theorem reads : ∀ t ∈ Tryd.f8.params.toList, Tryd.prog.readableRec t = true ∧ t < Tryd.prog.types.size := by
  intro t ht
  have h1 : ([99, 5, 5].all fun u => Tryd.prog.readableRec u && decide (u < Tryd.prog.types.size)) = true := by kernel_rfl
  rw [Tryd.params8] at ht
  have := List.all_eq_true.1 h1 t ht
  simpa using this
set_option maxRecDepth 100000 in
theorem lifted (os : Os) (started : os.Started) (H : Type) (enc : TypeId × Value → H) :
    ReturnsInHanded {} Tryd.checked os 8 .any (fun w args => (Rows.seedsRepairSpec.pre enc Tryd.prog Tryd.f8 Rows.seedsRepairRow.domain false w args ∧ laidMetH Tryd.prog Rows.seedsRepairRow.laid w) ∧ sizedMet enc Tryd.prog Tryd.f8 (OpenSpec.ofChange Rows.seedsRepairSpec) false w args)
      (Rows.seedsRepairSpec.post enc Tryd.prog Tryd.f8 false true false false) := by
  refine returns_laid (C := Tryd.checked) (X := fun w _ => laidMetH Tryd.prog Rows.seedsRepairRow.laid w) (fun _ _ _ hh h => h.of_heap hh) ownD started (by kernel_rfl) Tryd.func8
    (ChangeSpec.witness_shaped (enc := enc) (C := Tryd.checked) (os := os) (X := fun w _ => laidMetH Tryd.prog Rows.seedsRepairRow.laid w) false (World.laidAll Tryd.prog os Rows.seedsRepairRow.laid) #[.slice none 0 0, .int .u8 0, .int .u8 0] 8 (World.laidAll_os _ _ _)
      (World.shaped_of_ZipB (by kernel_rfl) (by kernel_rfl)) (by kernel_rfl) (by kernel_rfl) (by kernel_rfl)
      (by rw [MakeChecks.laidMetH_plain _ _ _ (by kernel_rfl)]; exact laidMet_laidAll _ (by kernel_rfl) (by kernel_rfl))) ?_
  intro W base args ds gs before hval0 hW _ hsh
  have hval : ∀ (j : Nat) t v, Tryd.f8.params[j]? = some t → args[j]? = some v → Value.okWide Tryd.prog W .any base t v := hval0
  have hW' := hW
  obtain ⟨m0, hm0⟩ := maxLen_cell W hsh
  obtain ⟨p, q, hA0, hV, rfl, _, _⟩ := hW
  have hA : DataW.TrodAll enc Tryd.prog W 0 (fun _ => true) true Tryd.f8.params.toList args.toList ds p := hA0
  rw [Tryd.params8] at hA hval
  obtain ⟨v0, vs0, d0, ds0, p0, q0, hargs, rfl, rfl, h0, r0⟩ := trodAll_cons hA
  obtain ⟨v1, vs1, d1, ds1, p1, q1, rfl, rfl, rfl, h1, r1⟩ := trodAll_cons r0
  obtain ⟨v2, vs2, d2, ds2, p2, q2, rfl, rfl, rfl, h2, r2⟩ := trodAll_cons r1
  obtain ⟨rfl, rfl, rfl⟩ := trodAll_nil r2
  obtain rfl : args = #[v0, v1, v2] := by cases args; simp_all
  obtain ⟨x0, s0, b0⟩ := sl_puts20 (hval 0 99 v0 rfl rfl) h0
  obtain ⟨x1, rfl, rfl, rfl, b1⟩ := open_int Tryd.underlying5 (hval 1 5 v1 rfl rfl) h1
  obtain ⟨n1, rfl, w1⟩ := nat_u8 b1
  obtain ⟨x2, rfl, rfl, rfl, b2⟩ := open_int Tryd.underlying5 (hval 2 5 v2 rfl rfl) h2
  obtain ⟨n2, rfl, w2⟩ := nat_u8 b2
  obtain ⟨rfl, rfl⟩ := trodVars_none hV
  refine (repair20_any W m0 hm0 v0 x0 n1 n2 s0 b0 w1 w2).mono fun e W' ⟨he, ho⟩ => ?_
  subst he
  exact ⟨_, rfl, law_post hW' (ho.below (Nat.le_refl _) (fun _ _ => id)) laidOutD reads rfl Tryd.underlying4 rfl rfl rfl rfl⟩

theorem said : Rows.SeedsRepairSaid :=
  OpenClaim.holds_of_wide 8 Tryd.f8 rfl rfl rfl rfl rfl rfl rfl ⟨rfl, rfl, rfl, rfl, rfl⟩ rfl rfl rfl rfl rfl (by kernel_rfl) Tryd.func8 (by kernel_rfl)
    (of_decide_eq_true (by kernel_rfl)) (by unfold Func.isWrapper; first | (rw [if_pos (by decide +kernel)]; kernel_rfl) | (rw [if_neg (by decide +kernel)]; exact ⟨rfl, rfl⟩))
    (fun os started H enc _ => lifted os started H enc)
theorem looks (f : FuncId) (fn : Func) (hf : Tryd.pinned.checked.prog.funcNamed "bellhop/bellhoplaw20.SeedsRepair" = some f) (hfn : Tryd.pinned.checked.prog.funcs[f]? = some fn) :
    true = Tryd.pinned.checked.prog.looks [] ∧ ∀ (j : Nat) t, fn.params[j]? = some t → Tryd.pinned.checked.prog.wantsStandIn t = false := by
  obtain rfl : f = 8 := Option.some.inj ((show Tryd.prog.funcNamed "bellhop/bellhoplaw20.SeedsRepair" = some 8 by kernel_rfl).symm.trans hf) |>.symm
  obtain rfl : fn = Tryd.f8 := (Option.some.inj (Tryd.func8.symm.trans hfn)).symm
  refine ⟨by kernel_rfl, fun j t ht => ?_⟩
  rw [Tryd.params8] at ht
  have hm : t ∈ [99, 5, 5] := by simpa using Array.mem_of_getElem? ht
  have hall : ([99, 5, 5].all fun u => !Tryd.prog.wantsStandIn u) = true := by kernel_rfl
  exact (show Tryd.prog.wantsStandIn t = false by simpa using List.all_eq_true.1 hall t hm)
theorem card : Rows.SeedsRepairCardSaid :=
  Claim7.holds_tied_plain_at .later [] _ _ _ _ said (fun _ h => by cases h) (by kernel_rfl) (fun _ h => by cases h) seedsRepair_row_tie rfl ⟨rfl, rfl⟩ (by kernel_rfl) rfl looks (by kernel_rfl)
#print axioms card
end Go.Proofs.YtjdlcfllmpdffaaDoor.seedsRepairLaw
