/- SeedsTake is true of every input: seeds that take a message of any kind, any records and ids in it, answer and store just as the store alone does when asked through digest; no seeds answer nothing. No condition; the package variables that it names are tied to the text. -/
import Derived.Test.YtjdaommelikdmaaDoorMJ
import Derived.Test.YtjdaommelikdmaaDoorMC
import Derived.Deep.CutBlock
import Derived.Test.YtjdaommelikdmaaDoorMA
import Derived.ChangeMaps5
import Derived.Test.YtjdaommelikdmaaDoorCards
import Derived.Test.YtjdaommelikdmaaDoorTie
/-! The walk of bellhoplaw20.SeedsTake. -/
namespace Go.Proofs.YtjdaommelikdmaaDoor
open Go.Conc Go.RowKit Go.Maps

theorem putsB_snoc (L : List RecB) (k : Nat) (hk : k < L.length) : putsB (L.take (k + 1)) = putS 6 100 (putsB (L.take k)) (recB L[k]) := by
  unfold putsB takeS
  rw [List.take_add_one, List.getElem?_eq_getElem hk, List.map_append, List.foldl_append]
  rfl
/-- Two stores, alike. -/
structure TwoAt (w : World) (s b t c : Nat) (r : Int) (L : List RecT) : Prop where
  one : StoreAt w s b 6 100 r L
  two : StoreAt w t c 6 100 r L
theorem TwoAt.new {w w' : World} {s b t c : Nat} {r : Int} {L : List RecT} (h : TwoAt w s b t c r L) (ho : Only (fun _ => False) w w') : TwoAt w' s b t c r L := ⟨h.one.new ho, h.two.new ho⟩
theorem recB_val (a : RecB) : (1 : Int) + ((a.org % 4 : Nat) : Int) = 1 + (a.org : Int) % 4 := by omega
theorem recs_snoc (L : List RecB) (k : Nat) (hk : k < L.length) : (L.take (k + 1)).map recB = (L.take k).map recB ++ [recB L[k]] := by
  rw [List.take_add_one, List.getElem?_eq_getElem hk, List.map_append]; rfl
/-- The blocks of the message's own rows. -/
def S19 (vR vI : Value) : Nat → Prop := fun g => vR.ownBlock = some g ∨ vI.ownBlock = some g
theorem s19_kept {wr wc : World} {Mb Q k n : Nat} {vR vI : Value} {xR xI : List Value} {cm cq : Array Value} (hR : wr.ownsRow Mb 33 6 vR k xR) (hI : wr.ownsRow Mb 31 2 vI n xI) (hmr : wr.heap[Mb]? = some (.cells cm 56 (0, 0))) (hm : wc.heap[Mb]? = some (.cells cm 56 (0, 0))) (hq : wc.heap[Q]? = some (.cells cq 33 (0, 0))) (hQ : wr.heap.size ≤ Q) :
    ∀ w', Only (S19 vR vI) wc w' → w'.heap[Mb]? = some (.cells cm 56 (0, 0)) ∧ w'.heap[Q]? = some (.cells cq 33 (0, 0)) := fun w' h => by
  refine ⟨h.old hm (fun e => ?_), h.old hq (fun e => ?_)⟩
  · rcases e with e | e
    · exact ownKind_not hR hmr (by decide) e
    · exact ownKind_not hI hmr (by decide) e
  · rcases e with e | e
    · have := (ownKind hR e).2.1; omega
    · have := (ownKind hI e).2.1; omega
theorem s19_end {w5 wr wc wj : World} {Mb k n i : Nat} {vR vI v8 v9 a0 a1 a2 a3 a4 : Value} {xR xI : List Value} {LK X : List RecT} {R : RecT} (hb : wj.heap[Mb]? = some (.cells #[a0, a1, a2, a3, a4, vI, vR] 56 (0, 0)))
    (hA : wj.ownsRow Mb 33 6 v8 n (LK.flatMap recC ++ recC R)) (hB : wj.ownsRow Mb 31 2 v9 n ((LK.map toId).flatMap idT ++ idT (R.key, R.ver))) (hR : wr.ownsRow Mb 33 6 vR k xR) (hI : wr.ownsRow Mb 31 2 vI i xI) (ho : Only (fun _ => False) w5 wc) (hoj : Only (S19 vR vI) wc wj) (hMb : w5.heap.size = Mb) (hX : X = LK ++ [R]) :
    Only (fun _ => False) w5 ((wj.setCell ⟨Mb, 6, none⟩ v8).setCell ⟨Mb, 5, none⟩ v9) ∧ ((wj.setCell ⟨Mb, 6, none⟩ v8).setCell ⟨Mb, 5, none⟩ v9).heap[Mb]? = some (.cells #[a0, a1, a2, a3, a4, v9, v8] 56 (0, 0)) ∧ ((wj.setCell ⟨Mb, 6, none⟩ v8).setCell ⟨Mb, 5, none⟩ v9).ownsRow Mb 31 2 v9 n ((X.map toId).flatMap idT) ∧ ((wj.setCell ⟨Mb, 6, none⟩ v8).setCell ⟨Mb, 5, none⟩ v9).ownsRow Mb 33 6 v8 n (X.flatMap recC) := by
  have hset : Only (fun j => j = Mb) wj ((wj.setCell ⟨Mb, 6, none⟩ v8).setCell ⟨Mb, 5, none⟩ v9) := ((Only.refl (fun j => j = Mb) wj).setCell (p := ⟨Mb, 6, none⟩) (.inr rfl) v8).setCell (p := ⟨Mb, 5, none⟩) (.inr rfl) v9
  have hlift : Only (fun _ => False) w5 wj := ho.tr hoj (fun j hj e => by
    rcases e with e | e
    · have := (ownKind hR e).1; omega
    · have := (ownKind hI e).1; omega)
  refine ⟨hlift.tr hset (fun j hj e => by have h9 : j = Mb := e; omega), set_at (set_at hb 6 v8) 5 v9, ?_, ?_⟩
  · rw [hX, List.map_append, List.flatMap_append]
    refine owns_n ?_ hset (fun j hj e => ?_)
    · simpa [toId] using hB
    · have h9 : j = Mb := e
      subst h9
      exact ownKind_not hB hb (by decide) hj
  · rw [hX, List.flatMap_append]
    refine owns_n ?_ hset (fun j hj e => ?_)
    · simpa using hA
    · have h9 : j = Mb := e
      subst h9
      exact ownKind_not hA hb (by decide) hj
set_option maxRecDepth 100000 in
set_option maxHeartbeats 8000000 in
theorem take20_any (w : World) (m : Int) (hm : w.cell? ⟨0, 0, none⟩ = some (.int .i64 m)) (v : Value) (held : List RecB) (v2 : Value) (came : List RecB) (kind : Int) (h : Sl w 3 v held.length (held.flatMap recBC)) (hl : ∀ a ∈ held, rowP_sl_recs20 a) (h2 : Sl w 3 v2 came.length (came.flatMap recBC)) (hl2 : ∀ a ∈ came, rowP_sl_recs20 a) (_hk : (Lit.int .i64 kind).wf = true) :
    Calls Tryd.prog 9 #[v, v2, .int .i64 kind] w fun e w' => e = .returned (.bool true) ∧ Only (fun _ => False) w w' := by
  obtain ⟨a, cap, rfl, c1, c2, c3⟩ := Sl.cells recBC_length h
  obtain ⟨a2, cap2, rfl, d1, d2, d3⟩ := Sl.cells recBC_length h2
  unfold maxLen at c2 d2
  have HC := Lib.hid c3
  have HC2 := Lib.hid d3
  have HL := Lib.hid hl
  have HL2 := Lib.hid hl2
  have HM := Lib.hid hm
  clear c3 d3 hl hl2 hm
  clear h h2 _hk
  go_enter Tryd.func9, Tryd.ntmps9
  go_wp2_with fail
  refine (speaks20_any w).mono ?_
  rintro e w1 ⟨rfl, ho1⟩
  have HO1 := Lib.hid ho1
  clear ho1
  go_wp2_with fail
  refine (snew_ok w1 6 100 (by omega) (by omega) (by omega) (by omega)).mono ?_
  rintro e w2 ⟨rfl, ho2, hs2⟩
  have HO2 := Lib.hid ho2
  have HS2 := Lib.hid hs2
  clear ho2 hs2
  go_wp2_with fail
  refine (snew_ok w2 6 100 (by omega) (by omega) (by omega) (by omega)).mono ?_
  rintro e w3 ⟨rfl, ho3, hs3⟩
  have hA : w1.heap.size + 1 < w2.heap.size := HS2.out.lt.1
  have hB : w2.heap.size + 1 < w3.heap.size := hs3.lt.1
  have htwo : TwoAt w3 (w1.heap.size + 1) w1.heap.size (w2.heap.size + 1) w2.heap.size 0 [] := ⟨HS2.out.new ho3, hs3⟩
  have hoA := HO1.out.trans (HO2.out.trans ho3)
  have hm3 := hoA.cell HM.out id
  have h0b : 0 < w.heap.size := World.block_lt_of_cell? _ _ HM.out
  have HX := Lib.hid (show w.heap.size ≤ w1.heap.size ∧ w1.heap.size + 1 < w2.heap.size ∧ w2.heap.size + 1 < w3.heap.size ∧ 0 < w.heap.size from ⟨HO1.out.size, hA, hB, h0b⟩)
  generalize w1.heap.size = b1 at *
  generalize w2.heap.size = b2 at *
  have HTWO := Lib.hid htwo
  have HOA := Lib.hid hoA
  have HM3 := Lib.hid hm3
  clear htwo hoA hm3
  clear ho3 hs3 HO1 HO2 HS2 hA hB h0b HM
  go_upto_block 0 with fail
  go_cut [11] (fun _ wx => ∃ r : Int, 0 ≤ r ∧ r ≤ 10 ∧ Only (fun j => j = b1 + 1 ∨ j = b1 ∨ j = b2 + 1 ∨ j = b2) w3 wx ∧ TwoAt wx (b1 + 1) b1 (b2 + 1) b2 r (putsB (held.take 10)))
  case first =>
    go_wp2_with fail
    go_loopg [11] 10 (fun gk v11 wr => ∃ (k : Nat) (r : Int), v11 = .int .i64 k ∧ k ≤ held.length ∧ k ≤ 10 ∧ 0 ≤ r ∧ r ≤ k ∧ Only (fun j => j = b1 + 1 ∨ j = b1 ∨ j = b2 + 1 ∨ j = b2) w3 wr ∧ TwoAt wr (b1 + 1) b1 (b2 + 1) b2 r (putsB (held.take k)) ∧ gk = 10 - k)
    case atStart => exact ⟨0, 0, rfl, Nat.zero_le _, Nat.zero_le _, Int.le_refl _, Int.le_refl _, Only.refl _ _, HTWO.out, rfl⟩
    case round =>
      obtain ⟨k, r, rfl, hk, hk10, hr0, hrk, ho, htw, hg⟩ := hrel
      have Hg := Lib.hid hg
      have HO := Lib.hid ho
      have HTW := Lib.hid htw
      clear hg ho htw
      by_cases hlt : k < held.length ∧ k < 10
      · -- put
        obtain ⟨hlt, hlt10⟩ := hlt
        have hlt' : (k : Int) < (held.length : Int) := by omega
        have hlt10' : (k : Int) < 10 := by omega
        obtain ⟨lb, off, rfl, hcc⟩ := HC.out.at k hlt
        have hcr : ∀ j u, (recBC held[k])[j]? = some u → wr.cell? ⟨lb, off + k * 3 + j, none⟩ = some u := fun j u hu => by
          have h1 := hcc j u hu
          have h2 : lb < w.heap.size := World.block_lt_of_cell? _ _ h1
          exact HO.out.cell (HOA.out.cell h1 id) (fun e => by have h9 : lb = b1 + 1 ∨ lb = b1 ∨ lb = b2 + 1 ∨ lb = b2 := e; have := HX.out; omega)
        have hP := HL.out held[k] (List.getElem_mem hlt)
        have HSN := Lib.hid (putsB_snoc held k hlt)
        have hmr := HO.out.cell HM3.out (fun e => by have h9 : 0 = b1 + 1 ∨ 0 = b1 ∨ 0 = b2 + 1 ∨ 0 = b2 := e; have := HX.out; omega)
        generalize held[k] = y at *
        have HRV := Lib.hid (recB_ver y hP.2.2)
        have HRKY := Lib.hid (recB_key y)
        have HREC := Lib.hid (fun w => rec20_any w (1 + (y.org : Int) % 4) y.nm y.cnt (by omega) (by omega) hP.2.1 hP.2.2)
        have hRB : rec20 (1 + (y.org : Int) % 4) y.nm y.cnt = recB y := by unfold recB; rw [recB_val]
        rw [hRB] at HREC
        generalize recB y = R at *
        obtain ⟨k1, v1, o1, a1, g1, D1⟩ := R
        have hsp := fun w' (htw : TwoAt w' (b1 + 1) b1 (b2 + 1) b2 r (putsB (held.take k))) (hm' : w'.cell? ⟨0, 0, none⟩ = some (.int .i64 m)) => sput_any w' (b1 + 1) b1 6 100 r _ htw.one ⟨k1, v1, o1, a1, g1, D1⟩ m hm' HRV.out HRKY.out hr0 (by omega)
        unfold recT at HREC hsp
        simp only at HREC hsp
        have y0 := hcr 0 _ rfl
        have y1 := hcr 1 _ rfl
        have y2 := hcr 2 _ rfl
        simp only [Nat.add_zero] at y0
        have hb1 : bits BinOp.and IntKind.u8 (y.org : Int) 3 = (y.org : Int) % 4 := by rw [and3_u8 y.org hP.1]; omega
        have hw1 : IntKind.i64.wrap ((y.org : Int) % 4) = (y.org : Int) % 4 := by rw [IntKind.wrap_i64]; omega
        have hw2 : IntKind.i64.wrap (1 + (y.org : Int) % 4) = 1 + (y.org : Int) % 4 := by rw [IntKind.wrap_i64]; omega
        have HSP := Lib.hid hsp
        have HMR := Lib.hid hmr
        have HPP := Lib.hid hP
        clear hsp hmr hP
        clear hcc hcr hRB
        go_upto_region 8 with (fail)
        have HCS := Lib.hid (show ∀ w', Only (fun _ => False) wr w' → w'.cell? ⟨lb, off + k * 3, none⟩ = some (.int .u8 y.org) ∧ w'.cell? ⟨lb, off + k * 3 + 1, none⟩ = some (.int .u8 y.nm) ∧ w'.cell? ⟨lb, off + k * 3 + 2, none⟩ = some (.int .u8 y.cnt) from fun w' h => ⟨h.cell y0 id, h.cell y1 id, h.cell y2 id⟩)
        clear y0 y1 y2
        go_cut [12] (fun vq wx => ∃ Q, vq = .pointer (some ⟨Q, 0, none⟩) ∧ wx.heap[Q]? = some (.cells #[.string k1, .int .u64 v1, .int .i64 o1, .int .i64 a1, .bool g1, .string D1] 33 (0, 0)) ∧ Only (fun _ => False) wr wx ∧ wr.heap.size ≤ Q)
        case first =>
          go_region_held3 (fun w' => Only (fun _ => False) wr w' ∧ w'.cell? ⟨lb, off + k * 3, none⟩ = some (.int .u8 y.org) ∧ w'.cell? ⟨lb, off + k * 3 + 1, none⟩ = some (.int .u8 y.nm) ∧ w'.cell? ⟨lb, off + k * 3 + 2, none⟩ = some (.int .u8 y.cnt))
            (((refine heldO HCS.out ?_); (repeat (first | (with_reducible assumption) | (with_reducible exact Only.refl _ _) | (with_reducible refine Only.drew ?_) | (with_reducible refine Only.alloc ?_ _) | (with_reducible refine onlySet ?_ (by first | (with_reducible assumption) | omega) _) | (with_reducible refine Only.trans ?_ (by with_reducible assumption))))))
            (first
              | (go_at_call 18; (with_reducible refine (HREC.out _).mono ?_); rintro e w8 ⟨rfl, ho8⟩; have o8 : Only (fun _ => False) wr w8 := (by (refine Only.trans (b := _) ?_ ho8); (repeat (first | (with_reducible assumption) | (with_reducible exact Only.refl _ _) | (with_reducible refine Only.drew ?_) | (with_reducible refine Only.alloc ?_ _) | (with_reducible refine onlySet ?_ (by first | (with_reducible assumption) | omega) _) | (with_reducible refine Only.trans ?_ (by with_reducible assumption))))); have hz8 : wr.heap.size ≤ w8.heap.size := Only.size o8; (first | (have hs9 : w8.heap[wr.heap.size]? = some (.cells #[.string ⟨#[]⟩, .int .u64 0, .int .i64 0, .int .i64 0, .bool false, .string ⟨#[]⟩] 33 (0, 0)) := (by (refine Only.old ho8 ?_ id); first | (apply Eq.trans; (case h₁ => repeat (first | (with_reducible assumption) | (with_reducible exact heap_alloc_new _ _) | (with_reducible apply blk_new; (repeat (first | (with_reducible rfl) | (with_reducible apply sz_set) | (with_reducible apply sz_alloc) | (with_reducible apply sz_drew))); done) | (with_reducible apply blk_same) | (with_reducible apply blk_ne; case hn => (first | assumption | omega)) | (with_reducible apply blk_old) | (with_reducible apply blk_drew))); (case h₂ => rfl)) | fail); have ls9 := lt_of_block hs9; have fs9 : ∀ i, w8.frozen? ⟨wr.heap.size, i, none⟩ = false := free_at hs9; have sz0 : w8.cell? ⟨wr.heap.size, 0, none⟩ = some (.string ⟨#[]⟩) := cell_at hs9 0; have sz1 : w8.cell? ⟨wr.heap.size, 1, none⟩ = some (.int .u64 0) := cell_at hs9 1; have sz2 : w8.cell? ⟨wr.heap.size, 2, none⟩ = some (.int .i64 0) := cell_at hs9 2; have sz3 : w8.cell? ⟨wr.heap.size, 3, none⟩ = some (.int .i64 0) := cell_at hs9 3; have sz4 : w8.cell? ⟨wr.heap.size, 4, none⟩ = some (.bool false) := cell_at hs9 4; have sz5 : w8.cell? ⟨wr.heap.size, 5, none⟩ = some (.string ⟨#[]⟩) := cell_at hs9 5) | skip); (try (have nn0 : ¬ wr.heap.size = w8.heap.size := (by omega)))))
          all_goals
            go_wp2_with fail
            go_meet
            refine ⟨_, by with_reducible rfl, ?_, ?_, ?_⟩
            · (apply Eq.trans; (case h₁ => repeat (first | (with_reducible assumption) | (with_reducible exact heap_alloc_new _ _) | (with_reducible apply blk_new; (repeat (first | (with_reducible rfl) | (with_reducible apply sz_set) | (with_reducible apply sz_alloc) | (with_reducible apply sz_drew))); done) | (with_reducible apply blk_same) | (with_reducible apply blk_ne; case hn => (first | assumption | omega)) | (with_reducible apply blk_old) | (with_reducible apply blk_drew))); (case h₂ => rfl))
            · (repeat (first | (with_reducible assumption) | (with_reducible exact Only.refl _ _) | (with_reducible refine Only.drew ?_) | (with_reducible refine Only.alloc ?_ _) | (with_reducible refine onlySet ?_ (by first | (with_reducible assumption) | omega) _) | (with_reducible refine Only.trans ?_ (by with_reducible assumption))))
            · first | omega | (simp; omega)
        case rest =>
        obtain ⟨Q, rfl, hQ, hoQ, hQs⟩ := hcut
        have htQ := HTW.out.new hoQ
        have hmQ := hoQ.cell HMR.out id
        have hX := HX.out
        have hwr := HO.out.size
        have q0 : wc.cell? ⟨Q, 0, none⟩ = some (.string k1) := cell_at hQ 0
        have q1 : wc.cell? ⟨Q, 1, none⟩ = some (.int .u64 v1) := cell_at hQ 1
        have q2 : wc.cell? ⟨Q, 2, none⟩ = some (.int .i64 o1) := cell_at hQ 2
        have q3 : wc.cell? ⟨Q, 3, none⟩ = some (.int .i64 a1) := cell_at hQ 3
        have q4 : wc.cell? ⟨Q, 4, none⟩ = some (.bool g1) := cell_at hQ 4
        have q5 : wc.cell? ⟨Q, 5, none⟩ = some (.string D1) := cell_at hQ 5
        have HS1 := Lib.hid (HSP.out wc htQ hmQ)
        have HTQ := Lib.hid htQ
        have HMQ := Lib.hid hmQ
        have HQB := Lib.hid hQ
        have HOQ := Lib.hid hoQ
        clear htQ hmQ hQ hoQ
        clear hb1 HREC HSP HMR hw1 hw2
        go_wp2_with fail
        refine HS1.out.mono ?_
        rintro e w5 ⟨rfl, ho5, hs5⟩
        have hQ5 := ho5.old HQB.out (fun e => by have h9 : Q = b1 + 1 ∨ Q = b1 := e; omega)
        have hm5 := ho5.cell HMQ.out (fun e => by have h9 : 0 = b1 + 1 ∨ 0 = b1 := e; omega)
        have ht5 : StoreAt w5 (b2 + 1) b2 6 100 r (putsB (held.take k)) := HTQ.out.two.kept ho5 (fun e => by have h9 : b2 + 1 = b1 + 1 ∨ b2 + 1 = b1 := e; omega) (fun e => by have h9 : b2 = b1 + 1 ∨ b2 = b1 := e; omega)
        clear q0 q1 q2 q3 q4 q5
        have q0 : w5.cell? ⟨Q, 0, none⟩ = some (.string k1) := cell_at hQ5 0
        have q1 : w5.cell? ⟨Q, 1, none⟩ = some (.int .u64 v1) := cell_at hQ5 1
        have q2 : w5.cell? ⟨Q, 2, none⟩ = some (.int .i64 o1) := cell_at hQ5 2
        have q3 : w5.cell? ⟨Q, 3, none⟩ = some (.int .i64 a1) := cell_at hQ5 3
        have q4 : w5.cell? ⟨Q, 4, none⟩ = some (.bool g1) := cell_at hQ5 4
        have q5 : w5.cell? ⟨Q, 5, none⟩ = some (.string D1) := cell_at hQ5 5
        have HS2 := Lib.hid (sput_any w5 (b2 + 1) b2 6 100 r _ ht5 ⟨k1, v1, o1, a1, g1, D1⟩ m hm5 HRV.out HRKY.out hr0 (by omega))
        unfold recT at HS2
        simp only at HS2
        have HS5 := Lib.hid hs5
        have HO5 := Lib.hid ho5
        clear hs5 ho5
        clear ht5 hm5 hQ5
        go_wp2_with fail
        refine HS2.out.mono ?_
        rintro e w6 ⟨rfl, ho6, hs6⟩
        have hs56 := HS5.out.kept ho6 (fun e => by have h9 : b1 + 1 = b2 + 1 ∨ b1 + 1 = b2 := e; omega) (fun e => by have h9 : b1 = b2 + 1 ∨ b1 = b2 := e; omega)
        have hoF : Only (fun j => j = b1 + 1 ∨ j = b1 ∨ j = b2 + 1 ∨ j = b2) w3 w6 := HO.out.trans ((HOQ.out.weaken (fun _ _ => False.elim)).trans ((HO5.out.weaken (fun j _ e => by have h9 : j = b1 + 1 ∨ j = b1 := e; show _ ∨ _; omega)).trans (ho6.weaken (fun j _ e => by have h9 : j = b2 + 1 ∨ j = b2 := e; show _ ∨ _; omega))))
        have htF : TwoAt w6 (b1 + 1) b1 (b2 + 1) b2 (putR 6 100 (putsB (held.take k)) ⟨k1, v1, o1, a1, g1, D1⟩ r) (putS 6 100 (putsB (held.take k)) ⟨k1, v1, o1, a1, g1, D1⟩) := ⟨hs56, hs6⟩
        have hrr : r ≤ putR 6 100 (putsB (held.take k)) ⟨k1, v1, o1, a1, g1, D1⟩ r ∧ putR 6 100 (putsB (held.take k)) ⟨k1, v1, o1, a1, g1, D1⟩ r ≤ r + 1 := by unfold putR; split <;> omega
        rw [← HSN.out] at htF
        generalize putR 6 100 (putsB (held.take k)) ⟨k1, v1, o1, a1, g1, D1⟩ r = r2 at *
        have HOF := Lib.hid hoF
        have HTF := Lib.hid htF
        clear hoF htF
        clear ho6 hs6 hs56 q0 q1 q2 q3 q4 q5 hX
        go_wp2_with fail
        go_roundg (10 - (k + 1))
        case measure => rw [Hg.out]; omega
        case rel => exact ⟨k + 1, r2, by go_num, by omega, by omega, by omega, by omega, HOF.out, HTF.out, rfl⟩
      · -- stop
        have hF : putsB (held.take k) = putsB (held.take 10) := by
          congr 1
          rcases Nat.lt_or_ge k held.length with h | h
          · have : k = 10 := by omega
            rw [this]
          · rw [List.take_of_length_le h, List.take_of_length_le (by omega)]
        have hFF : ∃ r : Int, 0 ≤ r ∧ r ≤ 10 ∧ Only (fun j => j = b1 + 1 ∨ j = b1 ∨ j = b2 + 1 ∨ j = b2) w3 wr ∧ TwoAt wr (b1 + 1) b1 (b2 + 1) b2 r (putsB (held.take 10)) := ⟨r, hr0, by omega, HO.out, by rw [← hF]; exact HTW.out⟩
        have HFF := Lib.hid hFF
        clear hFF
        clear hF
        by_cases hlt1 : k < held.length
        · have hlt' : (k : Int) < (held.length : Int) := by omega
          have hlt2' : ¬ (k : Int) < 10 := by omega
          go_wp2_with fail
          go_meet
          exact HFF.out
        · have hlt' : ¬ (k : Int) < (held.length : Int) := by omega
          go_wp2_with fail
          go_meet
          exact HFF.out
  case rest =>
  obtain ⟨r, hr0, hr10, ho, htw⟩ := hcut
  generalize putsB (held.take 10) = L at *
  generalize hw4 : wc = w4 at *
  clear hw4
  have HSN := Lib.hid (sdnew_any w4 1 [] 0 (b1 + 1) (.slice none 0 0) (Sl.nil _ _))
  have hsz := ho.size
  have hm4 := ho.cell HM3.out (fun e => by have h9 : 0 = b1 + 1 ∨ 0 = b1 ∨ 0 = b2 + 1 ∨ 0 = b2 := e; have := HX.out; omega)
  have HO4 := Lib.hid ho
  have HTW4 := Lib.hid htw
  have HSZ4 := Lib.hid hsz
  have HM4 := Lib.hid hm4
  clear ho htw hsz hm4
  go_wp2_with fail
  refine HSN.out.mono ?_
  rintro e w5 ⟨ho5, hcase⟩
  rcases hcase with ⟨_, x, hx, rfl, hat⟩ | ⟨hno, _⟩
  · -- main
    have htw5 := HTW4.out.new ho5
    have hm5 := ho5.cell HM4.out id
    have hX := HX.out
    have hs4 := HSZ4.out
    have hxl : x < w5.heap.size := by obtain ⟨_, _, hb, _⟩ := hat.out; exact lt_of_block hb
    have HXX := Lib.hid (show b1 + 1 < b2 ∧ b2 + 1 < x ∧ 0 < b1 ∧ x < w5.heap.size ∧ w.heap.size ≤ b1 by omega)
    have hoB : Only (fun _ => False) w w5 := HOA.out.tr (HO4.out.trans (ho5.weaken (fun _ _ => False.elim))) (fun j hj e => by have h9 : j = b1 + 1 ∨ j = b1 ∨ j = b2 + 1 ∨ j = b2 := e; omega)
    obtain ⟨W, hW⟩ : ∃ W, W = w5.alloc (.cells #[.int .i64 kind, .int .i64 0, .int .i64 0, .bool false, .slice none 0 0, .slice none 0 0, .slice none 0 0] 56) := ⟨_, rfl⟩
    have hbW : W.heap[w5.heap.size]? = some (.cells #[.int .i64 kind, .int .i64 0, .int .i64 0, .bool false, .slice none 0 0, .slice none 0 0, .slice none 0 0] 56 (0, 0)) := by rw [hW]; exact heap_alloc_new w5 _
    have hoW : Only (fun _ => False) w5 W := by rw [hW]; exact (Only.refl _ _).alloc _
    have hsW : W.heap.size = w5.heap.size + 1 := by rw [hW]; simp
    have HTW5 := Lib.hid htw5
    have HM5 := Lib.hid hm5
    have HAT5 := Lib.hid hat
    have HOB := Lib.hid hoB
    have HOW := Lib.hid hoW
    have HBM := Lib.hid hbW
    have HWW := Lib.hid hW
    clear htw5 hm5 hat hoB hoW hbW hW
    clear hX hs4 hx ho5 HSN HO4 HTW4 HM4 HTWO HM3
    go_upto_block 2 with fail
    rw [← HWW.out]
    clear HWW
    obtain ⟨i0, hi0, iz0, iz1, iz2⟩ := info_parts infoRec
    obtain ⟨j0, hj0, jz0, jz1, jz2⟩ := info_parts infoId
    generalize hMb : w5.heap.size = Mb at *
    have HMl := Lib.hid hsW
    have HMB := Lib.hid hMb
    clear hsW hMb
    go_cut [16] (fun _ wx => ∃ vI vR, Only (fun _ => False) w5 wx ∧ wx.heap[Mb]? = some (.cells #[.int .i64 kind, .int .i64 0, .int .i64 0, .bool false, .slice none 0 0, vI, vR] 56 (0, 0)) ∧ wx.ownsRow Mb 31 2 vI (came.take 12).length ((((came.take 12).map recB).map toId).flatMap idT) ∧ wx.ownsRow Mb 33 6 vR (came.take 12).length (((came.take 12).map recB).flatMap recC))
    case first =>
      go_wp2_with fail
      go_loopg [16] 12 (fun gk v16 wr => ∃ (k : Nat) (vI vR : Value), v16 = .int .i64 k ∧ k ≤ came.length ∧ k ≤ 12 ∧ Only (fun _ => False) w5 wr ∧ wr.heap[Mb]? = some (.cells #[.int .i64 kind, .int .i64 0, .int .i64 0, .bool false, .slice none 0 0, vI, vR] 56 (0, 0)) ∧ wr.ownsRow Mb 31 2 vI k ((((came.take k).map recB).map toId).flatMap idT) ∧ wr.ownsRow Mb 33 6 vR k (((came.take k).map recB).flatMap recC) ∧ gk = 12 - k)
      case atStart => exact ⟨0, .slice none 0 0, .slice none 0 0, rfl, Nat.zero_le _, Nat.zero_le _, HOW.out, HBM.out, World.ownsRow_nil _ _ _ _, World.ownsRow_nil _ _ _ _, rfl⟩
      case round =>
        obtain ⟨k, vI, vR, rfl, hk, hk12, ho, hbm, howI, howR, hg⟩ := hrel
        have Hg := Lib.hid hg
        have HO := Lib.hid ho
        have HBR := Lib.hid hbm
        have HOWI := Lib.hid howI
        have HOWR := Lib.hid howR
        clear hg ho hbm howI howR
        by_cases hlt : k < came.length ∧ k < 12
        · -- app
          obtain ⟨hlt, hlt12⟩ := hlt
          have hlt' : (k : Int) < (came.length : Int) := by omega
          have hlt12' : (k : Int) < 12 := by omega
          obtain ⟨lb, off, rfl, hcc⟩ := HC2.out.at k hlt
          have hcr : ∀ j u, (recBC came[k])[j]? = some u → wr.cell? ⟨lb, off + k * 3 + j, none⟩ = some u := fun j u hu => HO.out.cell (HOB.out.cell (hcc j u hu) id) id
          have hP := HL2.out came[k] (List.getElem_mem hlt)
          have HSN := Lib.hid (recs_snoc came k hlt)
          generalize came[k] = y at *
          have HREC := Lib.hid (fun w => rec20_any w (1 + (y.org : Int) % 4) y.nm y.cnt (by omega) (by omega) hP.2.1 hP.2.2)
          have hRB : rec20 (1 + (y.org : Int) % 4) y.nm y.cnt = recB y := by unfold recB; rw [recB_val]
          rw [hRB] at HREC
          generalize recB y = R at *
          generalize (came.take k).map recB = LK at *
          obtain ⟨k1, v1, o1, a1, g1, D1⟩ := R
          unfold recT at HREC
          simp only at HREC
          have y0 := hcr 0 _ rfl
          have y1 := hcr 1 _ rfl
          have y2 := hcr 2 _ rfl
          simp only [Nat.add_zero] at y0
          have hb1 : bits BinOp.and IntKind.u8 (y.org : Int) 3 = (y.org : Int) % 4 := by rw [and3_u8 y.org hP.1]; omega
          have hw1 : IntKind.i64.wrap ((y.org : Int) % 4) = (y.org : Int) % 4 := by rw [IntKind.wrap_i64]; omega
          have hw2 : IntKind.i64.wrap (1 + (y.org : Int) % 4) = 1 + (y.org : Int) % 4 := by rw [IntKind.wrap_i64]; omega
          have HPP := Lib.hid hP
          clear hP
          clear hcc hcr hRB
          go_upto_region 18 with (fail)
          have HCS := Lib.hid (show ∀ w', Only (fun _ => False) wr w' → w'.cell? ⟨lb, off + k * 3, none⟩ = some (.int .u8 y.org) ∧ w'.cell? ⟨lb, off + k * 3 + 1, none⟩ = some (.int .u8 y.nm) ∧ w'.cell? ⟨lb, off + k * 3 + 2, none⟩ = some (.int .u8 y.cnt) from fun w' h => ⟨h.cell y0 id, h.cell y1 id, h.cell y2 id⟩)
          clear y0 y1 y2
          go_cut [17] (fun vq wx => ∃ Q, vq = .pointer (some ⟨Q, 0, none⟩) ∧ wx.heap[Q]? = some (.cells #[.string k1, .int .u64 v1, .int .i64 o1, .int .i64 a1, .bool g1, .string D1] 33 (0, 0)) ∧ Only (fun _ => False) wr wx ∧ wr.heap.size ≤ Q)
          case first =>
            go_region_held3 (fun w' => Only (fun _ => False) wr w' ∧ w'.cell? ⟨lb, off + k * 3, none⟩ = some (.int .u8 y.org) ∧ w'.cell? ⟨lb, off + k * 3 + 1, none⟩ = some (.int .u8 y.nm) ∧ w'.cell? ⟨lb, off + k * 3 + 2, none⟩ = some (.int .u8 y.cnt))
              (((refine heldO HCS.out ?_); (repeat (first | (with_reducible assumption) | (with_reducible exact Only.refl _ _) | (with_reducible refine Only.drew ?_) | (with_reducible refine Only.alloc ?_ _) | (with_reducible refine onlySet ?_ (by first | (with_reducible assumption) | omega) _) | (with_reducible refine Only.trans ?_ (by with_reducible assumption))))))
              (first
                | (go_at_call 18; (with_reducible refine (HREC.out _).mono ?_); rintro e w8 ⟨rfl, ho8⟩; have o8 : Only (fun _ => False) wr w8 := (by (refine Only.trans (b := _) ?_ ho8); (repeat (first | (with_reducible assumption) | (with_reducible exact Only.refl _ _) | (with_reducible refine Only.drew ?_) | (with_reducible refine Only.alloc ?_ _) | (with_reducible refine onlySet ?_ (by first | (with_reducible assumption) | omega) _) | (with_reducible refine Only.trans ?_ (by with_reducible assumption))))); have hz8 : wr.heap.size ≤ w8.heap.size := Only.size o8; (first | (have hs9 : w8.heap[wr.heap.size]? = some (.cells #[.string ⟨#[]⟩, .int .u64 0, .int .i64 0, .int .i64 0, .bool false, .string ⟨#[]⟩] 33 (0, 0)) := (by (refine Only.old ho8 ?_ id); first | (apply Eq.trans; (case h₁ => repeat (first | (with_reducible assumption) | (with_reducible exact heap_alloc_new _ _) | (with_reducible apply blk_new; (repeat (first | (with_reducible rfl) | (with_reducible apply sz_set) | (with_reducible apply sz_alloc) | (with_reducible apply sz_drew))); done) | (with_reducible apply blk_same) | (with_reducible apply blk_ne; case hn => (first | assumption | omega)) | (with_reducible apply blk_old) | (with_reducible apply blk_drew))); (case h₂ => rfl)) | fail); have ls9 := lt_of_block hs9; have fs9 : ∀ i, w8.frozen? ⟨wr.heap.size, i, none⟩ = false := free_at hs9; have sz0 : w8.cell? ⟨wr.heap.size, 0, none⟩ = some (.string ⟨#[]⟩) := cell_at hs9 0; have sz1 : w8.cell? ⟨wr.heap.size, 1, none⟩ = some (.int .u64 0) := cell_at hs9 1; have sz2 : w8.cell? ⟨wr.heap.size, 2, none⟩ = some (.int .i64 0) := cell_at hs9 2; have sz3 : w8.cell? ⟨wr.heap.size, 3, none⟩ = some (.int .i64 0) := cell_at hs9 3; have sz4 : w8.cell? ⟨wr.heap.size, 4, none⟩ = some (.bool false) := cell_at hs9 4; have sz5 : w8.cell? ⟨wr.heap.size, 5, none⟩ = some (.string ⟨#[]⟩) := cell_at hs9 5) | skip); (try (have nn0 : ¬ wr.heap.size = w8.heap.size := (by omega)))))
            all_goals
              go_wp2_with fail
              go_meet
              refine ⟨_, by with_reducible rfl, ?_, ?_, ?_⟩
              · (apply Eq.trans; (case h₁ => repeat (first | (with_reducible assumption) | (with_reducible exact heap_alloc_new _ _) | (with_reducible apply blk_new; (repeat (first | (with_reducible rfl) | (with_reducible apply sz_set) | (with_reducible apply sz_alloc) | (with_reducible apply sz_drew))); done) | (with_reducible apply blk_same) | (with_reducible apply blk_ne; case hn => (first | assumption | omega)) | (with_reducible apply blk_old) | (with_reducible apply blk_drew))); (case h₂ => rfl))
              · (repeat (first | (with_reducible assumption) | (with_reducible exact Only.refl _ _) | (with_reducible refine Only.drew ?_) | (with_reducible refine Only.alloc ?_ _) | (with_reducible refine onlySet ?_ (by first | (with_reducible assumption) | omega) _) | (with_reducible refine Only.trans ?_ (by with_reducible assumption))))
              · first | omega | (simp; omega)
          case rest =>
          obtain ⟨Q, rfl, hQ, hoQ, hQs⟩ := hcut
          have hbq := hoQ.old HBR.out id
          have hQl := lt_of_block hQ
          have hMbl := lt_of_block hbq
          have ownR := owns_only HOWR.out hoQ (fun _ _ => id)
          have ownI := owns_only HOWI.out hoQ (fun _ _ => id)
          have HS19 := Lib.hid (s19_kept HOWR.out HOWI.out HBR.out hbq hQ hQs)
          have HC19 := Lib.hid (fun w' h => let a := (HS19.out w' h).1; let b := (HS19.out w' h).2; (⟨cell_at a 6, cell_at a 5, cell_at b 0, cell_at b 1, cell_at b 2, cell_at b 3, cell_at b 4, cell_at b 5⟩ : w'.cell? ⟨Mb, 6, none⟩ = some vR ∧ w'.cell? ⟨Mb, 5, none⟩ = some vI ∧ w'.cell? ⟨Q, 0, none⟩ = some (.string k1) ∧ w'.cell? ⟨Q, 1, none⟩ = some (.int .u64 v1) ∧ w'.cell? ⟨Q, 2, none⟩ = some (.int .i64 o1) ∧ w'.cell? ⟨Q, 3, none⟩ = some (.int .i64 a1) ∧ w'.cell? ⟨Q, 4, none⟩ = some (.bool g1) ∧ w'.cell? ⟨Q, 5, none⟩ = some (.string D1)))
          have HF19 := Lib.hid (fun w' h => free_at (HS19.out w' h).1)
          have HO6 := Lib.hid (HO.out.trans hoQ)
          clear hb1 HREC hw1 hw2 hbq hQ
          go_upto_region 19 with (fail)
          refine' join_by4 (F := fun K3 v8 K9 v9 wj => wj.ownsRow Mb 33 6 v8 (k + 1) (LK.flatMap recC ++ recC ⟨k1, v1, o1, a1, g1, D1⟩) ∧ wj.ownsRow Mb 31 2 v9 (k + 1) ((LK.map toId).flatMap idT ++ idT (k1, v1)) ∧ Only (S19 vR vI) wc wj) ?main ?hj
          case main =>
            intro hJ0
            have HJ := Lib.hid hJ0
            clear hJ0
            refine wp_region_G_drew (fun w' => w'.cell? ⟨Mb, 6, none⟩ = some vR ∧ w'.cell? ⟨Mb, 5, none⟩ = some vI ∧ w'.cell? ⟨Q, 0, none⟩ = some (.string k1) ∧ w'.cell? ⟨Q, 1, none⟩ = some (.int .u64 v1) ∧ w'.cell? ⟨Q, 2, none⟩ = some (.int .i64 o1) ∧ w'.cell? ⟨Q, 3, none⟩ = some (.int .i64 a1) ∧ w'.cell? ⟨Q, 4, none⟩ = some (.bool g1) ∧ w'.cell? ⟨Q, 5, none⟩ = some (.string D1)) (fun w' => True) 12 (by kernel_rfl) (by (refine HC19.out _ ?_; (repeat (first | (with_reducible assumption) | (with_reducible exact Only.refl _ _) | (with_reducible refine Only.drew ?_) | (with_reducible refine Only.alloc ?_ _) | (with_reducible refine onlySet ?_ (by first | (with_reducible assumption) | omega) _) | (with_reducible refine Only.trans ?_ (by with_reducible assumption)))))) (fun hHeld => ?_)
            refine wpAnyG_takeWD (d := some 110) (i := 0) (oi := _) (v := ?v1) rfl (by kernel_rfl) (by kernel_rfl) (by kernel_rfl) (by kernel_rfl) (by kernel_rfl) (fun _ _ _ h => h) (Or.inl ⟨by rfl, ?hy1⟩) (Gn.start (by kernel_rfl) hHeld) ?rest1
            case hy1 =>
              intro w _
              go_simp
              try with_reducible rfl
            refine wpAnyG_act (a' := ?na1) ?ne1 ?nr1
            case ne1 =>
              try simp [Act.put]
              try rfl
            refine wpAnyG_takeD (d := some 111) (i := 1) (oi := _) (v := ?v2) rfl (by kernel_rfl) (by kernel_rfl) (by kernel_rfl) (by kernel_rfl) (by kernel_rfl) rfl (by rfl) (fun _ _ _ h => h) (Or.inl ⟨by rfl, ?hy2⟩) hHeld ?rest2
            case hy2 =>
              intro w hSw
              try dsimp only at hSw
              go_simp
              try with_reducible rfl
            refine wpAnyG_act (a' := ?na2) ?ne2 ?nr2
            case ne2 =>
              try simp [Act.put]
              try rfl
            refine wpAnyG_takeD (d := some 112) (i := 2) (oi := _) (v := ?v3) rfl (by kernel_rfl) (by kernel_rfl) (by kernel_rfl) (by kernel_rfl) (by kernel_rfl) rfl (by rfl) (fun _ _ _ h => h) (Or.inl ⟨by rfl, ?hy3⟩) hHeld ?rest3
            case hy3 =>
              intro w hSw
              try dsimp only at hSw
              go_simp
              try with_reducible rfl
            refine wpAnyG_act (a' := ?na3) ?ne3 ?nr3
            case ne3 =>
              try simp [Act.put]
              try rfl
            refine wpAnyG_takeWD (d := some 115) (i := 5) (oi := _) (v := ?v4) rfl (by kernel_rfl) (by kernel_rfl) (by kernel_rfl) (by kernel_rfl) (by kernel_rfl) (fun _ _ _ h => h) (Or.inl ⟨by rfl, ?hy4⟩) (Gn.start (by kernel_rfl) hHeld) ?rest4
            case hy4 =>
              intro w _
              go_simp
              try with_reducible rfl
            refine wpAnyG_act (a' := ?na4) ?ne4 ?nr4
            case ne4 =>
              try simp [Act.put]
              try rfl
            refine wpAnyG_takeD (d := some 116) (i := 6) (oi := _) (v := ?v5) rfl (by kernel_rfl) (by kernel_rfl) (by kernel_rfl) (by kernel_rfl) (by kernel_rfl) rfl (by rfl) (fun _ _ _ h => h) (Or.inl ⟨by rfl, ?hy5⟩) hHeld ?rest5
            case hy5 =>
              intro w hSw
              try dsimp only at hSw
              go_simp
              try with_reducible rfl
            refine wpAnyG_act (a' := ?na5) ?ne5 ?nr5
            case ne5 =>
              try simp [Act.put]
              try rfl
            refine wpAnyG_takeWD (d := some 117) (i := 7) (oi := _) (v := ?v6) rfl (by kernel_rfl) (by kernel_rfl) (by kernel_rfl) (by kernel_rfl) (by kernel_rfl) (fun _ _ _ h => h) (Or.inl ⟨by rfl, ?hy6⟩) (Gn.start (by kernel_rfl) hHeld) ?rest6
            case hy6 =>
              intro w _
              go_simp
              try with_reducible rfl
            refine wpAnyG_act (a' := ?na6) ?ne6 ?nr6
            case ne6 =>
              try simp [Act.put]
              try rfl
            refine wpAnyG_takeU [9, 10, 12] (d := some 118) (i := 8) (oi := _) (v := ?v7) rfl (by kernel_rfl) (by kernel_rfl) (by kernel_rfl) (by kernel_rfl) (by kernel_rfl) rfl (by rfl) (fun _ _ _ h => h) (Or.inl ⟨by rfl, ?hy7⟩) hHeld ?rest7
            case hy7 =>
              intro w hSw
              try dsimp only at hSw
              go_simp
              try with_reducible rfl
            refine wpAnyG_act (a' := ?na7) ?ne7 ?nr7
            case ne7 =>
              try simp [Act.put]
              try rfl
            refine wpAnyG_ready (rs := [3, 9]) (by kernel_rfl) (by simp) ?_
            refine AllReadyG.cons (o := _) rfl (fun K hK => ?_) ?_
            · go_simp
              refine hK.out _ _ (Gn.start (by kernel_rfl) (by (refine HC19.out _ ?_; (repeat (first | (with_reducible assumption) | (with_reducible exact Only.refl _ _) | (with_reducible refine Only.drew ?_) | (with_reducible refine Only.alloc ?_ _) | (with_reducible refine onlySet ?_ (by first | (with_reducible assumption) | omega) _) | (with_reducible refine Only.trans ?_ (by with_reducible assumption))))))) (fun hNew => ?_)
              clear hK K hHeld
              have hHeld := Gn.outS (by kernel_rfl) hNew
              clear hNew
              refine wpAnyG_act (a' := ?na8) ?ne8 ?nr8
              case ne8 =>
                try simp [Act.put]
                try rfl
              refine wpAnyG_ready (rs := [4, 9]) (by kernel_rfl) (by simp) ?_
              refine AllReadyG.cons (o := _) rfl (fun K hK => ?_) ?_
              · refine stepAppend rfl (.tmp 111) (.tmp 113) 28 28 rfl Mb 33 i0 _ 6 64 Tryd.underlying28 hi0 iz0 iz1 iz2 rfl vR k (LK.flatMap recC) rfl (show World.ownsRow _ Mb 33 6 vR k (LK.flatMap recC) from ?_) _ 1 (recC ⟨k1, v1, o1, a1, g1, D1⟩) rfl (Src.ofSlice _ Tryd.underlying28 _ _ _ _ rfl (news_at (e := 33) ?_) (recC_one _)) ?_ ?_ ?_ ?_
                · (repeat (first | (with_reducible assumption) | (with_reducible refine ownsDr ?_) | (with_reducible refine ownsAl ?_ _)))
                · (apply Eq.trans; (case h₁ => repeat (first | (with_reducible assumption) | (with_reducible exact heap_alloc_new _ _) | (with_reducible apply blk_new; (repeat (first | (with_reducible rfl) | (with_reducible apply sz_set) | (with_reducible apply sz_alloc) | (with_reducible apply sz_drew))); done) | (with_reducible apply blk_same) | (with_reducible apply blk_ne; case hn => (first | assumption | omega)) | (with_reducible apply blk_old) | (with_reducible apply blk_drew))); (case h₂ => rfl))
                · unfold maxLen; omega
                · omega
                · first | omega | (simp; done) | (simp; omega)
                intro v8 w8 own8 gr8 hv8
                have o8 : Only (S19 vR vI) wc w8 := (by (refine Only.grown ?_ gr8 (fun k e => .inr (.inl e)); (repeat (first | (with_reducible assumption) | (with_reducible exact Only.refl _ _) | (with_reducible refine Only.drew ?_) | (with_reducible refine Only.alloc ?_ _) | (with_reducible refine onlySet ?_ (by first | (with_reducible assumption) | omega) _) | (with_reducible refine Only.trans ?_ (by with_reducible assumption))))))
                have hz8 := o8.size
                have ownI : w8.ownsRow Mb 31 2 vI k ((LK.map toId).flatMap idT) := ownsGr (e' := 33) (base' := Mb) (size' := 6) (n' := k) (xs' := LK.flatMap recC) (by (repeat (first | (with_reducible assumption) | (with_reducible refine ownsDr ?_) | (with_reducible refine ownsAl ?_ _)))) (by (repeat (first | (with_reducible assumption) | (with_reducible refine ownsDr ?_) | (with_reducible refine ownsAl ?_ _)))) (by decide) gr8 rfl
                refine hK.out _ _ (Gn.start (by kernel_rfl) (by (refine HC19.out _ ?_; (repeat (first | (with_reducible assumption) | (with_reducible exact Only.refl _ _) | (with_reducible refine Only.drew ?_) | (with_reducible refine Only.alloc ?_ _) | (with_reducible refine onlySet ?_ (by first | (with_reducible assumption) | omega) _) | (with_reducible refine Only.trans ?_ (by with_reducible assumption))))))) (fun hNew => ?_)
                clear hK K hHeld
                have hHeld := Gn.outS (by kernel_rfl) hNew
                clear hNew
                refine wpAnyG_act (a' := ?na9) ?ne9 ?nr9
                case ne9 =>
                  try simp [Act.put]
                  try rfl
                refine wpAnyG_takeWD (d := some 121) (i := 11) (oi := _) (v := ?v8) rfl (by kernel_rfl) (by kernel_rfl) (by kernel_rfl) (by kernel_rfl) (by kernel_rfl) (fun _ _ _ h => h) (Or.inl ⟨by rfl, ?hy8⟩) (Gn.start (by kernel_rfl) hHeld) ?rest8
                case hy8 =>
                  intro w _
                  go_simp
                  try with_reducible rfl
                refine wpAnyG_act (a' := ?na10) ?ne10 ?nr10
                case ne10 =>
                  try simp [Act.put]
                  try rfl
                refine wpAnyG_ready (rs := [9]) (by kernel_rfl) (by simp) ?_
                refine AllReadyG.cons (o := _) rfl (fun K hK => ?_) AllReadyG.nil
                go_simp
                refine hK.out _ _ (Gn.start (by kernel_rfl) (by (refine HC19.out _ ?_; (repeat (first | (with_reducible assumption) | (with_reducible exact Only.refl _ _) | (with_reducible refine Only.drew ?_) | (with_reducible refine Only.alloc ?_ _) | (with_reducible refine onlySet ?_ (by first | (with_reducible assumption) | omega) _) | (with_reducible refine Only.trans ?_ (by with_reducible assumption))))))) (fun hNew => ?_)
                clear hK K hHeld
                have hHeld := Gn.outS (by kernel_rfl) hNew
                clear hNew
                refine wpAnyG_act (a' := ?na11) ?ne11 ?nr11
                case ne11 =>
                  try simp [Act.put]
                  try rfl
                refine wpAnyG_ready (rs := [10]) (by kernel_rfl) (by simp) ?_
                refine AllReadyG.cons (o := _) rfl (fun K hK => ?_) AllReadyG.nil
                refine stepAppend rfl (.tmp 116) (.tmp 119) 54 54 rfl Mb 31 j0 _ 2 24 Tryd.underlying54 hj0 jz0 jz1 jz2 rfl vI k ((LK.map toId).flatMap idT) rfl (show World.ownsRow _ Mb 31 2 vI k ((LK.map toId).flatMap idT) from ?_) _ 1 (idT (k1, v1)) rfl (Src.ofSlice _ Tryd.underlying54 _ _ _ _ rfl (news_at (e := 31) ?_) (idT_one _)) ?_ ?_ ?_ ?_
                · (repeat (first | (with_reducible assumption) | (with_reducible refine ownsDr ?_) | (with_reducible refine ownsAl ?_ _)))
                · (apply Eq.trans; (case h₁ => repeat (first | (with_reducible assumption) | (with_reducible exact heap_alloc_new _ _) | (with_reducible apply blk_new; (repeat (first | (with_reducible rfl) | (with_reducible apply sz_set) | (with_reducible apply sz_alloc) | (with_reducible apply sz_drew))); done) | (with_reducible apply blk_same) | (with_reducible apply blk_ne; case hn => (first | assumption | omega)) | (with_reducible apply blk_old) | (with_reducible apply blk_drew))); (case h₂ => rfl))
                · unfold maxLen; omega
                · omega
                · first | omega | (simp; done) | (simp; omega)
                intro v9 w9 own9 gr9 hv9
                have o9 : Only (S19 vR vI) wc w9 := (by (refine Only.grown ?_ gr9 (fun k e => .inr (.inr e)); (repeat (first | (with_reducible assumption) | (with_reducible exact Only.refl _ _) | (with_reducible refine Only.drew ?_) | (with_reducible refine Only.alloc ?_ _) | (with_reducible refine onlySet ?_ (by first | (with_reducible assumption) | omega) _) | (with_reducible refine Only.trans ?_ (by with_reducible assumption))))))
                have hz9 := o9.size
                have own8 : w9.ownsRow Mb 33 6 v8 (k + 1) (LK.flatMap recC ++ recC ⟨k1, v1, o1, a1, g1, D1⟩) := ownsGr (e' := 31) (base' := Mb) (size' := 2) (n' := k) (xs' := (LK.map toId).flatMap idT) (by (repeat (first | (with_reducible assumption) | (with_reducible refine ownsDr ?_) | (with_reducible refine ownsAl ?_ _)))) (by (repeat (first | (with_reducible assumption) | (with_reducible refine ownsDr ?_) | (with_reducible refine ownsAl ?_ _)))) (by decide) gr9 rfl
                refine hK.out _ _ (Gn.start (by kernel_rfl) (by (refine HC19.out _ ?_; (repeat (first | (with_reducible assumption) | (with_reducible exact Only.refl _ _) | (with_reducible refine Only.drew ?_) | (with_reducible refine Only.alloc ?_ _) | (with_reducible refine onlySet ?_ (by first | (with_reducible assumption) | omega) _) | (with_reducible refine Only.trans ?_ (by with_reducible assumption))))))) (fun hNew => ?_)
                clear hK K hHeld
                have hHeld := Gn.outS (by kernel_rfl) hNew
                clear hNew
                refine wpAnyG_act (a' := ?na12) ?ne12 ?nr12
                case ne12 =>
                  try simp [Act.put]
                  try rfl
                refine wpAnyG_at (fuel' := 3) (listed' := #[true, true, true, true, true, true, true, true, true, true, true, true, false, false, false]) (by kernel_rfl) (by kernel_rfl) ?_
                refine wpAnyG_joinW (fun wj => wj.ownsRow Mb 33 6 v8 (k + 1) (LK.flatMap recC ++ recC ⟨k1, v1, o1, a1, g1, D1⟩) ∧ wj.ownsRow Mb 31 2 v9 (k + 1) ((LK.map toId).flatMap idT ++ idT (k1, v1)) ∧ Only (S19 vR vI) wc wj) ?_ (fun wj hwj => ?_)
                · exact ⟨by (repeat (first | (with_reducible assumption) | (with_reducible refine ownsDr ?_) | (with_reducible refine ownsAl ?_ _))), by (repeat (first | (with_reducible assumption) | (with_reducible refine ownsDr ?_) | (with_reducible refine ownsAl ?_ _))), by first | exact o8 | exact o9⟩
                generalize wc.heap.size = K3 at hwj ⊢
                generalize w8.heap.size = K9 at hwj ⊢
                exact HJ.out K3 v8 K9 v9 wj hwj
              refine AllReadyG.cons (o := _) rfl (fun K hK => ?_) AllReadyG.nil
              go_simp
              refine hK.out _ _ (Gn.start (by kernel_rfl) (by (refine HC19.out _ ?_; (repeat (first | (with_reducible assumption) | (with_reducible exact Only.refl _ _) | (with_reducible refine Only.drew ?_) | (with_reducible refine Only.alloc ?_ _) | (with_reducible refine onlySet ?_ (by first | (with_reducible assumption) | omega) _) | (with_reducible refine Only.trans ?_ (by with_reducible assumption))))))) (fun hNew => ?_)
              clear hK K hHeld
              have hHeld := Gn.outS (by kernel_rfl) hNew
              clear hNew
              refine wpAnyG_act (a' := ?na13) ?ne13 ?nr13
              case ne13 =>
                try simp [Act.put]
                try rfl
              refine wpAnyG_ready (rs := [4]) (by kernel_rfl) (by simp) ?_
              refine AllReadyG.cons (o := _) rfl (fun K hK => ?_) AllReadyG.nil
              refine stepAppend rfl (.tmp 111) (.tmp 113) 28 28 rfl Mb 33 i0 _ 6 64 Tryd.underlying28 hi0 iz0 iz1 iz2 rfl vR k (LK.flatMap recC) rfl (show World.ownsRow _ Mb 33 6 vR k (LK.flatMap recC) from ?_) _ 1 (recC ⟨k1, v1, o1, a1, g1, D1⟩) rfl (Src.ofSlice _ Tryd.underlying28 _ _ _ _ rfl (news_at (e := 33) ?_) (recC_one _)) ?_ ?_ ?_ ?_
              · (repeat (first | (with_reducible assumption) | (with_reducible refine ownsDr ?_) | (with_reducible refine ownsAl ?_ _)))
              · (apply Eq.trans; (case h₁ => repeat (first | (with_reducible assumption) | (with_reducible exact heap_alloc_new _ _) | (with_reducible apply blk_new; (repeat (first | (with_reducible rfl) | (with_reducible apply sz_set) | (with_reducible apply sz_alloc) | (with_reducible apply sz_drew))); done) | (with_reducible apply blk_same) | (with_reducible apply blk_ne; case hn => (first | assumption | omega)) | (with_reducible apply blk_old) | (with_reducible apply blk_drew))); (case h₂ => rfl))
              · unfold maxLen; omega
              · omega
              · first | omega | (simp; done) | (simp; omega)
              intro v8 w8 own8 gr8 hv8
              have o8 : Only (S19 vR vI) wc w8 := (by (refine Only.grown ?_ gr8 (fun k e => .inr (.inl e)); (repeat (first | (with_reducible assumption) | (with_reducible exact Only.refl _ _) | (with_reducible refine Only.drew ?_) | (with_reducible refine Only.alloc ?_ _) | (with_reducible refine onlySet ?_ (by first | (with_reducible assumption) | omega) _) | (with_reducible refine Only.trans ?_ (by with_reducible assumption))))))
              have hz8 := o8.size
              have ownI : w8.ownsRow Mb 31 2 vI k ((LK.map toId).flatMap idT) := ownsGr (e' := 33) (base' := Mb) (size' := 6) (n' := k) (xs' := LK.flatMap recC) (by (repeat (first | (with_reducible assumption) | (with_reducible refine ownsDr ?_) | (with_reducible refine ownsAl ?_ _)))) (by (repeat (first | (with_reducible assumption) | (with_reducible refine ownsDr ?_) | (with_reducible refine ownsAl ?_ _)))) (by decide) gr8 rfl
              have hB9w8 : w8.heap[wc.heap.size + 1]? = some (.cells #[.string k1, .int .u64 v1] 31 (0, 0)) := (by (refine blkGr (e' := 33) (size := 6) (base := Mb) (n := k) (xs := LK.flatMap recC) ?_ ?_ (by decide) gr8; (· (apply Eq.trans; (case h₁ => repeat (first | (with_reducible assumption) | (with_reducible exact heap_alloc_new _ _) | (with_reducible apply blk_new; (repeat (first | (with_reducible rfl) | (with_reducible apply sz_set) | (with_reducible apply sz_alloc) | (with_reducible apply sz_drew))); done) | (with_reducible apply blk_same) | (with_reducible apply blk_ne; case hn => (first | assumption | omega)) | (with_reducible apply blk_old) | (with_reducible apply blk_drew))); (case h₂ => rfl))); (· (repeat (first | (with_reducible assumption) | (with_reducible refine ownsDr ?_) | (with_reducible refine ownsAl ?_ _))))))
              refine hK.out _ _ (Gn.start (by kernel_rfl) (by (refine HC19.out _ ?_; (repeat (first | (with_reducible assumption) | (with_reducible exact Only.refl _ _) | (with_reducible refine Only.drew ?_) | (with_reducible refine Only.alloc ?_ _) | (with_reducible refine onlySet ?_ (by first | (with_reducible assumption) | omega) _) | (with_reducible refine Only.trans ?_ (by with_reducible assumption))))))) (fun hNew => ?_)
              clear hK K hHeld
              have hHeld := Gn.outS (by kernel_rfl) hNew
              clear hNew
              refine wpAnyG_act (a' := ?na14) ?ne14 ?nr14
              case ne14 =>
                try simp [Act.put]
                try rfl
              refine wpAnyG_takeWD (d := some 121) (i := 11) (oi := _) (v := ?v9) rfl (by kernel_rfl) (by kernel_rfl) (by kernel_rfl) (by kernel_rfl) (by kernel_rfl) (fun _ _ _ h => h) (Or.inl ⟨by rfl, ?hy9⟩) (Gn.start (by kernel_rfl) hHeld) ?rest9
              case hy9 =>
                intro w _
                go_simp
                try with_reducible rfl
              refine wpAnyG_act (a' := ?na15) ?ne15 ?nr15
              case ne15 =>
                try simp [Act.put]
                try rfl
              refine wpAnyG_ready (rs := [10]) (by kernel_rfl) (by simp) ?_
              refine AllReadyG.cons (o := _) rfl (fun K hK => ?_) AllReadyG.nil
              refine stepAppend rfl (.tmp 116) (.tmp 119) 54 54 rfl Mb 31 j0 _ 2 24 Tryd.underlying54 hj0 jz0 jz1 jz2 rfl vI k ((LK.map toId).flatMap idT) rfl (show World.ownsRow _ Mb 31 2 vI k ((LK.map toId).flatMap idT) from ?_) _ 1 (idT (k1, v1)) rfl (Src.ofSlice _ Tryd.underlying54 _ _ _ _ rfl (news_at (e := 31) ?_) (idT_one _)) ?_ ?_ ?_ ?_
              · (repeat (first | (with_reducible assumption) | (with_reducible refine ownsDr ?_) | (with_reducible refine ownsAl ?_ _)))
              · (apply Eq.trans; (case h₁ => repeat (first | (with_reducible assumption) | (with_reducible exact heap_alloc_new _ _) | (with_reducible apply blk_new; (repeat (first | (with_reducible rfl) | (with_reducible apply sz_set) | (with_reducible apply sz_alloc) | (with_reducible apply sz_drew))); done) | (with_reducible apply blk_same) | (with_reducible apply blk_ne; case hn => (first | assumption | omega)) | (with_reducible apply blk_old) | (with_reducible apply blk_drew))); (case h₂ => rfl))
              · unfold maxLen; omega
              · omega
              · first | omega | (simp; done) | (simp; omega)
              intro v9 w9 own9 gr9 hv9
              have o9 : Only (S19 vR vI) wc w9 := (by (refine Only.grown ?_ gr9 (fun k e => .inr (.inr e)); (repeat (first | (with_reducible assumption) | (with_reducible exact Only.refl _ _) | (with_reducible refine Only.drew ?_) | (with_reducible refine Only.alloc ?_ _) | (with_reducible refine onlySet ?_ (by first | (with_reducible assumption) | omega) _) | (with_reducible refine Only.trans ?_ (by with_reducible assumption))))))
              have hz9 := o9.size
              have own8 : w9.ownsRow Mb 33 6 v8 (k + 1) (LK.flatMap recC ++ recC ⟨k1, v1, o1, a1, g1, D1⟩) := ownsGr (e' := 31) (base' := Mb) (size' := 2) (n' := k) (xs' := (LK.map toId).flatMap idT) (by (repeat (first | (with_reducible assumption) | (with_reducible refine ownsDr ?_) | (with_reducible refine ownsAl ?_ _)))) (by (repeat (first | (with_reducible assumption) | (with_reducible refine ownsDr ?_) | (with_reducible refine ownsAl ?_ _)))) (by decide) gr9 rfl
              refine hK.out _ _ (Gn.start (by kernel_rfl) (by (refine HC19.out _ ?_; (repeat (first | (with_reducible assumption) | (with_reducible exact Only.refl _ _) | (with_reducible refine Only.drew ?_) | (with_reducible refine Only.alloc ?_ _) | (with_reducible refine onlySet ?_ (by first | (with_reducible assumption) | omega) _) | (with_reducible refine Only.trans ?_ (by with_reducible assumption))))))) (fun hNew => ?_)
              clear hK K hHeld
              have hHeld := Gn.outS (by kernel_rfl) hNew
              clear hNew
              refine wpAnyG_act (a' := ?na16) ?ne16 ?nr16
              case ne16 =>
                try simp [Act.put]
                try rfl
              refine wpAnyG_at (fuel' := 3) (listed' := #[true, true, true, true, true, true, true, true, true, true, true, true, false, false, false]) (by kernel_rfl) (by kernel_rfl) ?_
              refine wpAnyG_joinW (fun wj => wj.ownsRow Mb 33 6 v8 (k + 1) (LK.flatMap recC ++ recC ⟨k1, v1, o1, a1, g1, D1⟩) ∧ wj.ownsRow Mb 31 2 v9 (k + 1) ((LK.map toId).flatMap idT ++ idT (k1, v1)) ∧ Only (S19 vR vI) wc wj) ?_ (fun wj hwj => ?_)
              · exact ⟨by (repeat (first | (with_reducible assumption) | (with_reducible refine ownsDr ?_) | (with_reducible refine ownsAl ?_ _))), by (repeat (first | (with_reducible assumption) | (with_reducible refine ownsDr ?_) | (with_reducible refine ownsAl ?_ _))), by first | exact o8 | exact o9⟩
              exact HJ.out (wc.heap.size) (v8) (wc.heap.size + 1) (v9) wj hwj
            refine AllReadyG.cons (o := _) rfl (fun K hK => ?_) AllReadyG.nil
            go_simp
            refine hK.out _ _ (Gn.start (by kernel_rfl) (by (refine HC19.out _ ?_; (repeat (first | (with_reducible assumption) | (with_reducible exact Only.refl _ _) | (with_reducible refine Only.drew ?_) | (with_reducible refine Only.alloc ?_ _) | (with_reducible refine onlySet ?_ (by first | (with_reducible assumption) | omega) _) | (with_reducible refine Only.trans ?_ (by with_reducible assumption))))))) (fun hNew => ?_)
            clear hK K hHeld
            have hHeld := Gn.outS (by kernel_rfl) hNew
            clear hNew
            refine wpAnyG_act (a' := ?na17) ?ne17 ?nr17
            case ne17 =>
              try simp [Act.put]
              try rfl
            refine wpAnyG_ready (rs := [3]) (by kernel_rfl) (by simp) ?_
            refine AllReadyG.cons (o := _) rfl (fun K hK => ?_) AllReadyG.nil
            go_simp
            refine hK.out _ _ (Gn.start (by kernel_rfl) (by (refine HC19.out _ ?_; (repeat (first | (with_reducible assumption) | (with_reducible exact Only.refl _ _) | (with_reducible refine Only.drew ?_) | (with_reducible refine Only.alloc ?_ _) | (with_reducible refine onlySet ?_ (by first | (with_reducible assumption) | omega) _) | (with_reducible refine Only.trans ?_ (by with_reducible assumption))))))) (fun hNew => ?_)
            clear hK K hHeld
            have hHeld := Gn.outS (by kernel_rfl) hNew
            clear hNew
            refine wpAnyG_act (a' := ?na18) ?ne18 ?nr18
            case ne18 =>
              try simp [Act.put]
              try rfl
            refine wpAnyG_ready (rs := [4]) (by kernel_rfl) (by simp) ?_
            refine AllReadyG.cons (o := _) rfl (fun K hK => ?_) AllReadyG.nil
            refine stepAppend rfl (.tmp 111) (.tmp 113) 28 28 rfl Mb 33 i0 _ 6 64 Tryd.underlying28 hi0 iz0 iz1 iz2 rfl vR k (LK.flatMap recC) rfl (show World.ownsRow _ Mb 33 6 vR k (LK.flatMap recC) from ?_) _ 1 (recC ⟨k1, v1, o1, a1, g1, D1⟩) rfl (Src.ofSlice _ Tryd.underlying28 _ _ _ _ rfl (news_at (e := 33) ?_) (recC_one _)) ?_ ?_ ?_ ?_
            · (repeat (first | (with_reducible assumption) | (with_reducible refine ownsDr ?_) | (with_reducible refine ownsAl ?_ _)))
            · (apply Eq.trans; (case h₁ => repeat (first | (with_reducible assumption) | (with_reducible exact heap_alloc_new _ _) | (with_reducible apply blk_new; (repeat (first | (with_reducible rfl) | (with_reducible apply sz_set) | (with_reducible apply sz_alloc) | (with_reducible apply sz_drew))); done) | (with_reducible apply blk_same) | (with_reducible apply blk_ne; case hn => (first | assumption | omega)) | (with_reducible apply blk_old) | (with_reducible apply blk_drew))); (case h₂ => rfl))
            · unfold maxLen; omega
            · omega
            · first | omega | (simp; done) | (simp; omega)
            intro v8 w8 own8 gr8 hv8
            have o8 : Only (S19 vR vI) wc w8 := (by (refine Only.grown ?_ gr8 (fun k e => .inr (.inl e)); (repeat (first | (with_reducible assumption) | (with_reducible exact Only.refl _ _) | (with_reducible refine Only.drew ?_) | (with_reducible refine Only.alloc ?_ _) | (with_reducible refine onlySet ?_ (by first | (with_reducible assumption) | omega) _) | (with_reducible refine Only.trans ?_ (by with_reducible assumption))))))
            have hz8 := o8.size
            have ownI : w8.ownsRow Mb 31 2 vI k ((LK.map toId).flatMap idT) := ownsGr (e' := 33) (base' := Mb) (size' := 6) (n' := k) (xs' := LK.flatMap recC) (by (repeat (first | (with_reducible assumption) | (with_reducible refine ownsDr ?_) | (with_reducible refine ownsAl ?_ _)))) (by (repeat (first | (with_reducible assumption) | (with_reducible refine ownsDr ?_) | (with_reducible refine ownsAl ?_ _)))) (by decide) gr8 rfl
            have hB9w8 : w8.heap[wc.heap.size]? = some (.cells #[.string k1, .int .u64 v1] 31 (0, 0)) := (by (refine blkGr (e' := 33) (size := 6) (base := Mb) (n := k) (xs := LK.flatMap recC) ?_ ?_ (by decide) gr8; (· (apply Eq.trans; (case h₁ => repeat (first | (with_reducible assumption) | (with_reducible exact heap_alloc_new _ _) | (with_reducible apply blk_new; (repeat (first | (with_reducible rfl) | (with_reducible apply sz_set) | (with_reducible apply sz_alloc) | (with_reducible apply sz_drew))); done) | (with_reducible apply blk_same) | (with_reducible apply blk_ne; case hn => (first | assumption | omega)) | (with_reducible apply blk_old) | (with_reducible apply blk_drew))); (case h₂ => rfl))); (· (repeat (first | (with_reducible assumption) | (with_reducible refine ownsDr ?_) | (with_reducible refine ownsAl ?_ _))))))
            refine hK.out _ _ (Gn.start (by kernel_rfl) (by (refine HC19.out _ ?_; (repeat (first | (with_reducible assumption) | (with_reducible exact Only.refl _ _) | (with_reducible refine Only.drew ?_) | (with_reducible refine Only.alloc ?_ _) | (with_reducible refine onlySet ?_ (by first | (with_reducible assumption) | omega) _) | (with_reducible refine Only.trans ?_ (by with_reducible assumption))))))) (fun hNew => ?_)
            clear hK K hHeld
            have hHeld := Gn.outS (by kernel_rfl) hNew
            clear hNew
            refine wpAnyG_act (a' := ?na19) ?ne19 ?nr19
            case ne19 =>
              try simp [Act.put]
              try rfl
            refine wpAnyG_takeWD (d := some 121) (i := 11) (oi := _) (v := ?v10) rfl (by kernel_rfl) (by kernel_rfl) (by kernel_rfl) (by kernel_rfl) (by kernel_rfl) (fun _ _ _ h => h) (Or.inl ⟨by rfl, ?hy10⟩) (Gn.start (by kernel_rfl) hHeld) ?rest10
            case hy10 =>
              intro w _
              go_simp
              try with_reducible rfl
            refine wpAnyG_act (a' := ?na20) ?ne20 ?nr20
            case ne20 =>
              try simp [Act.put]
              try rfl
            refine wpAnyG_ready (rs := [10]) (by kernel_rfl) (by simp) ?_
            refine AllReadyG.cons (o := _) rfl (fun K hK => ?_) AllReadyG.nil
            refine stepAppend rfl (.tmp 116) (.tmp 119) 54 54 rfl Mb 31 j0 _ 2 24 Tryd.underlying54 hj0 jz0 jz1 jz2 rfl vI k ((LK.map toId).flatMap idT) rfl (show World.ownsRow _ Mb 31 2 vI k ((LK.map toId).flatMap idT) from ?_) _ 1 (idT (k1, v1)) rfl (Src.ofSlice _ Tryd.underlying54 _ _ _ _ rfl (news_at (e := 31) ?_) (idT_one _)) ?_ ?_ ?_ ?_
            · (repeat (first | (with_reducible assumption) | (with_reducible refine ownsDr ?_) | (with_reducible refine ownsAl ?_ _)))
            · (apply Eq.trans; (case h₁ => repeat (first | (with_reducible assumption) | (with_reducible exact heap_alloc_new _ _) | (with_reducible apply blk_new; (repeat (first | (with_reducible rfl) | (with_reducible apply sz_set) | (with_reducible apply sz_alloc) | (with_reducible apply sz_drew))); done) | (with_reducible apply blk_same) | (with_reducible apply blk_ne; case hn => (first | assumption | omega)) | (with_reducible apply blk_old) | (with_reducible apply blk_drew))); (case h₂ => rfl))
            · unfold maxLen; omega
            · omega
            · first | omega | (simp; done) | (simp; omega)
            intro v9 w9 own9 gr9 hv9
            have o9 : Only (S19 vR vI) wc w9 := (by (refine Only.grown ?_ gr9 (fun k e => .inr (.inr e)); (repeat (first | (with_reducible assumption) | (with_reducible exact Only.refl _ _) | (with_reducible refine Only.drew ?_) | (with_reducible refine Only.alloc ?_ _) | (with_reducible refine onlySet ?_ (by first | (with_reducible assumption) | omega) _) | (with_reducible refine Only.trans ?_ (by with_reducible assumption))))))
            have hz9 := o9.size
            have own8 : w9.ownsRow Mb 33 6 v8 (k + 1) (LK.flatMap recC ++ recC ⟨k1, v1, o1, a1, g1, D1⟩) := ownsGr (e' := 31) (base' := Mb) (size' := 2) (n' := k) (xs' := (LK.map toId).flatMap idT) (by (repeat (first | (with_reducible assumption) | (with_reducible refine ownsDr ?_) | (with_reducible refine ownsAl ?_ _)))) (by (repeat (first | (with_reducible assumption) | (with_reducible refine ownsDr ?_) | (with_reducible refine ownsAl ?_ _)))) (by decide) gr9 rfl
            refine hK.out _ _ (Gn.start (by kernel_rfl) (by (refine HC19.out _ ?_; (repeat (first | (with_reducible assumption) | (with_reducible exact Only.refl _ _) | (with_reducible refine Only.drew ?_) | (with_reducible refine Only.alloc ?_ _) | (with_reducible refine onlySet ?_ (by first | (with_reducible assumption) | omega) _) | (with_reducible refine Only.trans ?_ (by with_reducible assumption))))))) (fun hNew => ?_)
            clear hK K hHeld
            have hHeld := Gn.outS (by kernel_rfl) hNew
            clear hNew
            refine wpAnyG_act (a' := ?na21) ?ne21 ?nr21
            case ne21 =>
              try simp [Act.put]
              try rfl
            refine wpAnyG_at (fuel' := 3) (listed' := #[true, true, true, true, true, true, true, true, true, true, true, true, false, false, false]) (by kernel_rfl) (by kernel_rfl) ?_
            refine wpAnyG_joinW (fun wj => wj.ownsRow Mb 33 6 v8 (k + 1) (LK.flatMap recC ++ recC ⟨k1, v1, o1, a1, g1, D1⟩) ∧ wj.ownsRow Mb 31 2 v9 (k + 1) ((LK.map toId).flatMap idT ++ idT (k1, v1)) ∧ Only (S19 vR vI) wc wj) ?_ (fun wj hwj => ?_)
            · exact ⟨by (repeat (first | (with_reducible assumption) | (with_reducible refine ownsDr ?_) | (with_reducible refine ownsAl ?_ _))), by (repeat (first | (with_reducible assumption) | (with_reducible refine ownsDr ?_) | (with_reducible refine ownsAl ?_ _))), by first | exact o8 | exact o9⟩
            exact HJ.out (wc.heap.size + 1) (v8) (wc.heap.size) (v9) wj hwj
          case hj =>
            intro K3 v8 K9 v9 wj hwj
            obtain ⟨ownA, ownB, hoJ⟩ := hwj
            obtain ⟨_, ra, rc, rfl, _⟩ := Sl.of_owns ownA
            obtain ⟨_, ia, ic, rfl, _⟩ := Sl.of_owns ownB
            have fM : ∀ i, wj.frozen? ⟨Mb, i, none⟩ = false := HF19.out _ hoJ
            have mM := HC19.out _ hoJ
            obtain ⟨m6, m5, _⟩ := mM
            refine wpAnyG_ready (rs := [12]) (by kernel_rfl) (by simp) ?_
            refine AllReadyG.cons (o := _) rfl (fun K hK => ?_) AllReadyG.nil
            go_simp
            refine hK.out _ _ (Gn.tail (by kernel_rfl) (trivial)) (fun hNew => ?_)
            clear hK K hNew
            refine wpAnyG_act (a' := ?na22) ?ne22 ?nr22
            case ne22 =>
              try simp [Act.put]
              try rfl
            refine wpAnyG_ready (rs := [13]) (by kernel_rfl) (by simp) ?_
            refine AllReadyG.cons (o := _) rfl (fun K hK => ?_) AllReadyG.nil
            go_simp
            refine hK.out _ _ (Gn.tail (by kernel_rfl) (trivial)) (fun hNew => ?_)
            clear hK K hNew
            refine wpAnyG_act (a' := ?na23) ?ne23 ?nr23
            case ne23 =>
              try simp [Act.put]
              try rfl
            refine wpAnyG_ready (rs := [14]) (by kernel_rfl) (by simp) ?_
            refine AllReadyG.cons (o := _) rfl (fun K hK => ?_) AllReadyG.nil
            go_simp
            refine hK.out _ _ (Gn.tail (by kernel_rfl) (trivial)) (fun hNew => ?_)
            clear hK K hNew
            refine wpAnyG_act (a' := ?na24) ?ne24 ?nr24
            case ne24 =>
              try simp [Act.put]
              try rfl
            refine wpAnyG_done (by kernel_rfl) ?_ _
            skip
            have HEND := Lib.hid (s19_end (HS19.out _ hoJ).1 ownA ownB HOWR.out HOWI.out HO6.out hoJ HMB.out HSN.out)
            go_wp2_with fail
            go_roundg (12 - (k + 1))
            case measure => rw [Hg.out]; omega
            case rel => exact ⟨k + 1, _, _, by go_num, by omega, by omega, HEND.out.1, HEND.out.2.1, HEND.out.2.2.1, HEND.out.2.2.2, rfl⟩
        · -- stop
          have hF : k = (came.take 12).length ∧ came.take k = came.take 12 := by
            rcases Nat.lt_or_ge k came.length with h | h
            · have : k = 12 := by omega
              subst this
              exact ⟨by rw [List.length_take]; omega, rfl⟩
            · exact ⟨by rw [List.length_take]; omega, by rw [List.take_of_length_le h, List.take_of_length_le (by omega)]⟩
          have hFF : ∃ vI vR, Only (fun _ => False) w5 wr ∧ wr.heap[Mb]? = some (.cells #[.int .i64 kind, .int .i64 0, .int .i64 0, .bool false, .slice none 0 0, vI, vR] 56 (0, 0)) ∧ wr.ownsRow Mb 31 2 vI (came.take 12).length ((((came.take 12).map recB).map toId).flatMap idT) ∧ wr.ownsRow Mb 33 6 vR (came.take 12).length (((came.take 12).map recB).flatMap recC) := ⟨vI, vR, HO.out, HBR.out, by rw [← hF.1, ← hF.2]; exact HOWI.out, by rw [← hF.1, ← hF.2]; exact HOWR.out⟩
          have HFF := Lib.hid hFF
          clear hFF
          clear hF
          by_cases hlt1 : k < came.length
          · have hlt' : (k : Int) < (came.length : Int) := by omega
            have hlt2' : ¬ (k : Int) < 12 := by omega
            go_wp2_with fail
            go_meet
            exact HFF.out
          · have hlt' : ¬ (k : Int) < (came.length : Int) := by omega
            go_wp2_with fail
            go_meet
            exact HFF.out
    case rest =>
    obtain ⟨vI, vR, ho, hbm, howI, howR⟩ := hcut
    have hdat := data20 came (fun a ha => (HL2.out a ha).2.2) howI howR
    obtain ⟨_, ia, ic, rfl, _⟩ := Sl.of_owns howI
    obtain ⟨_, ra, rc, rfl, _⟩ := Sl.of_owns howR
    generalize ((came.take 12).map recB).map toId = IL at hdat
    generalize (came.take 12).map recB = RL at hdat
    generalize (came.take 12).length = cl at *
    have htw := HTW5.out.new ho
    have hat := HAT5.out.new ho
    have hmc := ho.cell HM5.out id
    have hX := HXX.out
    have hoT := HOB.out.trans ho
    have hMl := lt_of_block hbm
    have hXM : b1 + 1 < b2 ∧ b2 + 1 < x ∧ 0 < b1 ∧ x < Mb ∧ w.heap.size ≤ b1 := by have := HMB.out; omega
    have HST := Lib.hid (stake_all wc x (b1 + 1) b1 Mb r m kind L _ _ IL RL hat htw.one ⟨by omega, by omega⟩ hmc ⟨by omega, by omega⟩ ⟨by omega, by omega⟩ hdat hr0 hr10)
    have HXM := Lib.hid hXM
    have z0 : wc.cell? ⟨Mb, 0, none⟩ = some (.int .i64 kind) := cell_at hbm 0
    have z1 : wc.cell? ⟨Mb, 1, none⟩ = some (.int .i64 0) := cell_at hbm 1
    have z2 : wc.cell? ⟨Mb, 2, none⟩ = some (.int .i64 0) := cell_at hbm 2
    have z3 : wc.cell? ⟨Mb, 3, none⟩ = some (.bool false) := cell_at hbm 3
    have z4 : wc.cell? ⟨Mb, 4, none⟩ = some (.slice none 0 0) := cell_at hbm 4
    have z5 : wc.cell? ⟨Mb, 5, none⟩ = some (.slice ia cl ic) := cell_at hbm 5
    have z6 : wc.cell? ⟨Mb, 6, none⟩ = some (.slice ra cl rc) := cell_at hbm 6
    have HTW := Lib.hid htw
    have HMC := Lib.hid hmc
    have HOT := Lib.hid hoT
    have HDAT := Lib.hid hdat
    have HBC := Lib.hid hbm
    clear htw hmc hoT hdat hbm
    clear hat howI howR hX ho hXM
    generalize hw6 : wc = w6 at *
    clear hw6
    go_upto_region 20 with (fail)
    go_cut [18, 19] (fun v18 v19 wx => Only (fun i => i = b1 + 1 ∨ i = b1) w6 wx ∧ OutsNew w6 wx v18 7 (outM kind L IL RL) ∧ RecRow wx w6.heap.size v19 (outR kind L RL) ∧ ∃ r', StoreAt wx (b1 + 1) b1 6 100 r' (outS kind L RL))
    case first =>
      go_wp2_with fail
      refine HST.out.mono ?_
      rintro e w7 ⟨v, v2, rfl, ho7, hout7, hrow7, hst7⟩
      have HA := Lib.hid ho7
      have HB := Lib.hid hout7
      have HC0 := Lib.hid hrow7
      have HD := Lib.hid hst7
      clear ho7 hout7 hrow7 hst7
      go_wp2_with fail
      go_meet
      exact ⟨HA.out, HB.out, HC0.out, HD.out⟩
    case rest =>
    obtain ⟨ho7, ⟨B, mb, hB1, hB2, hout7⟩, hrow7, r', hst7⟩ := hcut
    generalize hw7 : wc = w7 at *
    clear hw7
    have hXM := HXM.out
    have htw7 := HTW.out.two.kept ho7 (fun e => by have h9 : b2 + 1 = b1 + 1 ∨ b2 + 1 = b1 := e; omega) (fun e => by have h9 : b2 = b1 + 1 ∨ b2 = b1 := e; omega)
    have hbm7 := ho7.old HBC.out (fun e => by have h9 : Mb = b1 + 1 ∨ Mb = b1 := e; omega)
    have hm7 := ho7.cell HMC.out (fun e => by have h9 : 0 = b1 + 1 ∨ 0 = b1 := e; omega)
    have hdat7 := HDAT.out.only ho7 (fun k hk e => by have h9 : k = b1 + 1 ∨ k = b1 := e; omega)
    have hoT7 : Only (fun _ => False) w w7 := HOT.out.tr ho7 (fun j hj e => by have h9 : j = b1 + 1 ∨ j = b1 := e; omega)
    have hsz7 : Mb < w6.heap.size := lt_of_block HBC.out
    have HOUT := Lib.hid hout7
    have HROW := Lib.hid hrow7
    have HSTA := Lib.hid hst7
    have HBB := Lib.hid (show Mb ≤ B ∧ Mb ≤ mb ∧ Mb ≤ w6.heap.size by omega)
    clear z0 z1 z2 z3 z4 z5 z6 hout7 hrow7 hst7 ho7 hB1 hB2 hsz7 HST HTW HMC HOT HDAT HBC
    have z0 : w7.cell? ⟨Mb, 0, none⟩ = some (.int .i64 kind) := cell_at hbm7 0
    have z1 : w7.cell? ⟨Mb, 1, none⟩ = some (.int .i64 0) := cell_at hbm7 1
    have z2 : w7.cell? ⟨Mb, 2, none⟩ = some (.int .i64 0) := cell_at hbm7 2
    have z3 : w7.cell? ⟨Mb, 3, none⟩ = some (.bool false) := cell_at hbm7 3
    have z4 : w7.cell? ⟨Mb, 4, none⟩ = some (.slice none 0 0) := cell_at hbm7 4
    have z5 : w7.cell? ⟨Mb, 5, none⟩ = some (.slice ia cl ic) := cell_at hbm7 5
    have z6 : w7.cell? ⟨Mb, 6, none⟩ = some (.slice ra cl rc) := cell_at hbm7 6
    have HANS := Lib.hid (answer_any w7 (b2 + 1) b2 6 100 r L htw7 _ ⟨kind, 0, 0, false, [], IL, RL⟩ (hdat7.is kind) (show IL.length ≤ 1000000 by have := hdat7.idsL; omega) hdat7.idsK)
    have HTW7 := Lib.hid htw7
    have HBM7 := Lib.hid hbm7
    have HM7 := Lib.hid hm7
    have HDAT7 := Lib.hid hdat7
    have HOT7 := Lib.hid hoT7
    clear htw7 hbm7 hm7 hdat7 hoT7
    clear hXM
    go_upto_if 130 with (fail)
    go_cut [20] (fun v20 wx => Only (fun _ => False) w7 wx ∧ MsgRow wx Mb v20 (if kind = 13 then answerM 100 L IL else []))
    case first =>
      by_cases hk : kind = 13
      · have hkb : (kind == 13) = true := by simpa using hk
        have HK := Lib.hid hk
        clear hk
        go_wp2_with fail
        refine HANS.out.mono ?_
        rintro e w8 ⟨v, rfl, ho8, hrow8⟩
        have HA := Lib.hid ho8
        have HB := Lib.hid hrow8
        clear ho8 hrow8
        go_wp2_with fail
        go_meet
        rw [if_pos HK.out]
        exact ⟨HA.out, HB.out.base (by have := lt_of_block HBM7.out; omega)⟩
      · have hkb : (kind == 13) = false := by simpa using hk
        have HK := Lib.hid hk
        clear hk
        go_wp2_with fail
        go_meet
        rw [if_neg HK.out]
        exact ⟨Only.refl _ _, MsgRow.nil _ _⟩
    case rest =>
    obtain ⟨ho8, hmsg8⟩ := hcut
    generalize hw8 : wc = w8 at *
    clear hw8
    have htw8 := HTW7.out.new ho8
    have hbm8 := ho8.old HBM7.out id
    have hm8 := ho8.cell HM7.out id
    have hdat8 := HDAT7.out.only ho8 (fun _ _ => id)
    have hoT8 := HOT7.out.trans ho8
    have hst8 := HSTA.out.new ho8
    have hout8 := HOUT.out.new ho8
    have hrow8 := owns_only HROW.out ho8 (fun _ _ => id)
    have hXM := HXM.out
    clear z0 z1 z2 z3 z4 z5 z6
    have z0 : w8.cell? ⟨Mb, 0, none⟩ = some (.int .i64 kind) := cell_at hbm8 0
    have z1 : w8.cell? ⟨Mb, 1, none⟩ = some (.int .i64 0) := cell_at hbm8 1
    have z2 : w8.cell? ⟨Mb, 2, none⟩ = some (.int .i64 0) := cell_at hbm8 2
    have z3 : w8.cell? ⟨Mb, 3, none⟩ = some (.bool false) := cell_at hbm8 3
    have z4 : w8.cell? ⟨Mb, 4, none⟩ = some (.slice none 0 0) := cell_at hbm8 4
    have z5 : w8.cell? ⟨Mb, 5, none⟩ = some (.slice ia cl ic) := cell_at hbm8 5
    have z6 : w8.cell? ⟨Mb, 6, none⟩ = some (.slice ra cl rc) := cell_at hbm8 6
    have HTK := Lib.hid (take_any w8 (b2 + 1) b2 6 100 r L htw8 m hm8 ⟨by omega, by omega⟩ _ RL (Sl.of_owns hdat8.recs) (RecBlk.of_row hdat8.recs) (by have := hdat8.recsL; omega) hdat8.recsK hr0 (by omega))
    have hRL := hdat8.recsL
    have hMs8 := lt_of_block hbm8
    have HTW8 := Lib.hid htw8
    have HBM8 := Lib.hid hbm8
    have HDAT8 := Lib.hid hdat8
    have HOT8 := Lib.hid hoT8
    have HST8 := Lib.hid hst8
    have HOUT8 := Lib.hid hout8
    have HROW8 := Lib.hid hrow8
    have HMSG8 := Lib.hid hmsg8
    clear htw8 hbm8 hdat8 hoT8 hst8 hout8 hrow8 hmsg8
    have HMS8 := Lib.hid hMs8
    have HRL := Lib.hid hRL
    clear hXM HANS HTW7 HBM7 HM7 HDAT7 HOT7 HSTA HOUT HROW ho8 hm8 hMs8 hRL
    go_upto_if 135 with (fail)
    go_cut [20, 21] (fun v20 v21 wx => Only (fun i => i = b2 + 1 ∨ i = b2) w8 wx ∧ MsgRow wx Mb v20 (outM kind L IL RL) ∧ RecRow wx Mb v21 (outR kind L RL) ∧ ∃ r2, StoreAt wx (b2 + 1) b2 6 100 r2 (outS kind L RL))
    case first =>
      by_cases hk : kind = 14
      · -- delta
        have hkb : (kind == 14) = true := by simpa using hk
        have HK := Lib.hid hk
        clear hk
        go_wp2_with fail
        refine HTK.out.mono ?_
        rintro e w9 ⟨v, rfl, ho9, hrow9, r2, _, _, hst9⟩
        have hXM := HXM.out
        have hMs := HMS8.out
        have hbm9 := ho9.old HBM8.out (fun e => by have h9 : Mb = b2 + 1 ∨ Mb = b2 := e; omega)
        have hdat9 := HDAT8.out.only ho9 (fun k hk e => by have h9 : k = b2 + 1 ∨ k = b2 := e; omega)
        clear z0 z1 z2 z3 z4 z5 z6
        have z0 : w9.cell? ⟨Mb, 0, none⟩ = some (.int .i64 kind) := cell_at hbm9 0
        have z1 : w9.cell? ⟨Mb, 1, none⟩ = some (.int .i64 0) := cell_at hbm9 1
        have z2 : w9.cell? ⟨Mb, 2, none⟩ = some (.int .i64 0) := cell_at hbm9 2
        have z3 : w9.cell? ⟨Mb, 3, none⟩ = some (.bool false) := cell_at hbm9 3
        have z4 : w9.cell? ⟨Mb, 4, none⟩ = some (.slice none 0 0) := cell_at hbm9 4
        have z5 : w9.cell? ⟨Mb, 5, none⟩ = some (.slice ia cl ic) := cell_at hbm9 5
        have z6 : w9.cell? ⟨Mb, 6, none⟩ = some (.slice ra cl rc) := cell_at hbm9 6
        have HGV := Lib.hid (give_any w9 (.pointer (some ⟨b2 + 1, 0, none⟩)) 100 14 (takeS 6 100 L RL) hst9.ttl hst9.gets (young_ok (HTW8.out.ok.takes RL)) _ IL (Sl.of_owns hdat9.ids) (by have := hdat9.idsL; omega) hdat9.idsK)
        have hMs9 := lt_of_block hbm9
        have HMS9 := Lib.hid hMs9
        have HA := Lib.hid ho9
        have HB := Lib.hid hrow9
        have HST9 := Lib.hid hst9
        clear ho9 hrow9 hst9
        clear hXM hMs hbm9 hdat9 hMs9
        go_wp2_with fail
        refine HGV.out.mono ?_
        rintro e w10 ⟨v3, rfl, ho10, hrow10⟩
        have HO10 := Lib.hid ho10
        have HRW10 := Lib.hid hrow10
        clear ho10 hrow10
        go_wp2_with fail
        go_meet
        have hMs := HMS8.out
        have hMs9 := HMS9.out
        refine ⟨HA.out.trans (HO10.out.weaken (fun _ _ => False.elim)), ?_, ?_, r2, ?_⟩
        · rw [show outM kind L IL RL = packM 14 (sentL 100 (giveL (takeS 6 100 L RL) IL)) by unfold outM; rw [if_neg (by have := HK.out; omega), if_pos HK.out]]
          exact HRW10.out.base (by omega)
        · rw [show outR kind L RL = takeO 6 100 L RL by unfold outR; rw [if_pos HK.out]]
          exact ownsRow_base_a (owns_only HB.out HO10.out (fun _ _ => id)) (by omega)
        · rw [show outS kind L RL = takeS 6 100 L RL by unfold outS; rw [if_pos HK.out]]
          exact HST9.out.new HO10.out
      · -- else
        have hkb : (kind == 14) = false := by simpa using hk
        have HK := Lib.hid hk
        clear hk
        go_wp2_with fail
        go_meet
        refine ⟨Only.refl _ _, ?_, ?_, r, ?_⟩
        · rw [show outM kind L IL RL = if kind = 13 then answerM 100 L IL else [] by unfold outM; rw [if_neg HK.out]]
          exact HMSG8.out
        · rw [show outR kind L RL = [] by unfold outR; rw [if_neg HK.out]]
          exact World.ownsRow_nil _ _ _ _
        · rw [show outS kind L RL = L by unfold outS; rw [if_neg HK.out]]
          exact HTW8.out
    case rest =>
    obtain ⟨ho9, hmsg9, hnews9, r2, hst2⟩ := hcut
    generalize hw9 : wc = w9 at *
    clear hw9
    have hXM := HXM.out
    have hBB := HBB.out
    have hst1 := HST8.out.kept ho9 (fun e => by have h9 : b1 + 1 = b2 + 1 ∨ b1 + 1 = b2 := e; omega) (fun e => by have h9 : b1 = b2 + 1 ∨ b1 = b2 := e; omega)
    have hout9 := HOUT8.out.only ho9 (fun k hk e => by have h9 : k = b2 + 1 ∨ k = b2 := e; omega) (fun k hk e => by have h9 : k = b2 + 1 ∨ k = b2 := e; omega)
    have hrow9 := owns_only HROW8.out ho9 (fun k hk e => by have h9 : k = b2 + 1 ∨ k = b2 := e; omega)
    have hbm9 := ho9.old HBM8.out (fun e => by have h9 : Mb = b2 + 1 ∨ Mb = b2 := e; omega)
    have hdat9 := HDAT8.out.only ho9 (fun k hk e => by have h9 : k = b2 + 1 ∨ k = b2 := e; omega)
    have hoT9 : Only (fun _ => False) w w9 := HOT8.out.tr ho9 (fun j hj e => by have h9 : j = b2 + 1 ∨ j = b2 := e; omega)
    have hml := outM_len (kind := kind) HTW8.out.ok IL RL hdat9.idsL
    have hrl := outR_len (kind := kind) (L := L) HRL.out
    clear z0 z1 z2 z3 z4 z5 z6
    clear HTW8 HBM8 HDAT8 HOT8 HST8 HOUT8 HROW8 HMSG8 HTK ho9 hXM hBB
    generalize outM kind L IL RL = MS at *
    generalize outR kind L RL = RS at *
    generalize outS kind L RL = SS at *
    obtain ⟨pa, pcap, rfl, hpc⟩ := outs_at hout9
    obtain ⟨qa, qcap, rfl, hqc⟩ := msgs_at hmsg9
    obtain ⟨fa, fcap, rfl, _, _, hfc⟩ := Sl.cells recC_length (Sl.of_owns hrow9)
    obtain ⟨na, ncap, rfl, _, _, hnc⟩ := Sl.cells recC_length (Sl.of_owns hnews9)
    have HL1 := Lib.hid (slen_any w9 (b1 + 1) b1 6 100 r' SS hst1)
    have HL2B := Lib.hid (slen_any w9 (b2 + 1) b2 6 100 r2 SS hst2)
    have HPC := Lib.hid hpc
    have HQC := Lib.hid hqc
    have HFC := Lib.hid hfc
    have HNC := Lib.hid hnc
    have HOT9 := Lib.hid hoT9
    have HBM9 := Lib.hid hbm9
    have HDAT9 := Lib.hid hdat9
    have HML := Lib.hid hml
    have HRLL := Lib.hid hrl
    clear hpc hqc hfc hnc hoT9 hbm9 hdat9 hml hrl
    clear hst1 hst2 hout9 hrow9 hmsg9 hnews9
    go_wp2_with fail
    refine HL1.out.mono ?_
    rintro e w10 ⟨rfl, rfl⟩
    go_wp2_with fail
    refine HL2B.out.mono ?_
    rintro e w10 ⟨rfl, rfl⟩
    go_upto_block 4 with fail
    go_cut [22] (fun _ wx => Only (fun _ => False) w9 wx)
    case first =>
      go_wp2_with fail
      go_loopg [22] MS.length (fun gk v22 wr => ∃ k : Nat, v22 = .int .i64 k ∧ k ≤ MS.length ∧ Only (fun _ => False) w9 wr ∧ gk = MS.length - k)
      case atStart => exact ⟨0, rfl, Nat.zero_le _, Only.refl _ _, rfl⟩
      case round =>
        obtain ⟨k, rfl, hk, ho, hg⟩ := hrel
        have Hg := Lib.hid hg
        have HO := Lib.hid ho
        clear hg ho
        by_cases hlt : k < MS.length
        · -- one
          obtain ⟨lb, off, pn, pnc, pi, pic, pr, prc, rfl, c0, c1, c2, c3, c4, c5, c6, c7, hm1⟩ := HPC.out k hlt
          obtain ⟨lq, oq, qn, qnc, qi, qic, qr, qrc, rfl, d0, d1, d2, d3, d4, d5, d6, hm2⟩ := HQC.out k hlt
          have hlt' : (k : Int) < (MS.length : Int) := by omega
          have hml' : (MS.length : Int) ≤ 100 := by have := HML.out; omega
          generalize MS[k] = y at *
          have HCS := Lib.hid (show ∀ w', Only (fun _ => False) w9 w' → w'.cell? ⟨lb, off + k * 8, none⟩ = some (.int .i64 7) ∧ w'.cell? ⟨lb, off + k * 8 + 1, none⟩ = some (.int .i64 y.kind) ∧ w'.cell? ⟨lb, off + k * 8 + 2, none⟩ = some (.int .i64 y.node) ∧ w'.cell? ⟨lb, off + k * 8 + 3, none⟩ = some (.int .i64 y.walk) ∧ w'.cell? ⟨lb, off + k * 8 + 4, none⟩ = some (.bool y.high) ∧ w'.cell? ⟨lb, off + k * 8 + 5, none⟩ = some (.slice pn y.nodes.length pnc) ∧ w'.cell? ⟨lb, off + k * 8 + 6, none⟩ = some (.slice pi y.ids.length pic) ∧ w'.cell? ⟨lb, off + k * 8 + 7, none⟩ = some (.slice pr y.recs.length prc) ∧ w'.cell? ⟨lq, oq + k * 7, none⟩ = some (.int .i64 y.kind) ∧ w'.cell? ⟨lq, oq + k * 7 + 1, none⟩ = some (.int .i64 y.node) ∧ w'.cell? ⟨lq, oq + k * 7 + 2, none⟩ = some (.int .i64 y.walk) ∧ w'.cell? ⟨lq, oq + k * 7 + 3, none⟩ = some (.bool y.high) ∧ w'.cell? ⟨lq, oq + k * 7 + 4, none⟩ = some (.slice qn y.nodes.length qnc) ∧ w'.cell? ⟨lq, oq + k * 7 + 5, none⟩ = some (.slice qi y.ids.length qic) ∧ w'.cell? ⟨lq, oq + k * 7 + 6, none⟩ = some (.slice qr y.recs.length qrc) from fun w' h => ⟨h.cell c0 id, h.cell c1 id, h.cell c2 id, h.cell c3 id, h.cell c4 id, h.cell c5 id, h.cell c6 id, h.cell c7 id, h.cell d0 id, h.cell d1 id, h.cell d2 id, h.cell d3 id, h.cell d4 id, h.cell d5 id, h.cell d6 id⟩)
          have HSM := Lib.hid (fun w' (h : Only (fun _ => False) w9 w') => msame_any w' _ _ y (hm1.new h) (hm2.new h))
          clear c0 c1 c2 c3 c4 c5 c6 c7 d0 d1 d2 d3 d4 d5 d6 hm1 hm2
          obtain ⟨c0, c1, c2, c3, c4, c5, c6, c7, d0, d1, d2, d3, d4, d5, d6⟩ := HCS.out wr HO.out
          go_upto_region 33 with (fail)
          have hoR := HO.out
          go_cut [187] (fun v187 wx => v187 = .bool false ∧ Only (fun _ => False) w9 wx)
          case first =>
            go_region_held3 (fun w' => Only (fun _ => False) w9 w' ∧ w'.cell? ⟨lb, off + k * 8, none⟩ = some (.int .i64 7) ∧ w'.cell? ⟨lb, off + k * 8 + 1, none⟩ = some (.int .i64 y.kind) ∧ w'.cell? ⟨lb, off + k * 8 + 2, none⟩ = some (.int .i64 y.node) ∧ w'.cell? ⟨lb, off + k * 8 + 3, none⟩ = some (.int .i64 y.walk) ∧ w'.cell? ⟨lb, off + k * 8 + 4, none⟩ = some (.bool y.high) ∧ w'.cell? ⟨lb, off + k * 8 + 5, none⟩ = some (.slice pn y.nodes.length pnc) ∧ w'.cell? ⟨lb, off + k * 8 + 6, none⟩ = some (.slice pi y.ids.length pic) ∧ w'.cell? ⟨lb, off + k * 8 + 7, none⟩ = some (.slice pr y.recs.length prc) ∧ w'.cell? ⟨lq, oq + k * 7, none⟩ = some (.int .i64 y.kind) ∧ w'.cell? ⟨lq, oq + k * 7 + 1, none⟩ = some (.int .i64 y.node) ∧ w'.cell? ⟨lq, oq + k * 7 + 2, none⟩ = some (.int .i64 y.walk) ∧ w'.cell? ⟨lq, oq + k * 7 + 3, none⟩ = some (.bool y.high) ∧ w'.cell? ⟨lq, oq + k * 7 + 4, none⟩ = some (.slice qn y.nodes.length qnc) ∧ w'.cell? ⟨lq, oq + k * 7 + 5, none⟩ = some (.slice qi y.ids.length qic) ∧ w'.cell? ⟨lq, oq + k * 7 + 6, none⟩ = some (.slice qr y.recs.length qrc))
              ((go_split_ands; (refine heldO HCS.out ?_); (repeat (first | (with_reducible assumption) | (with_reducible exact Only.refl _ _) | (with_reducible refine Only.drew ?_) | (with_reducible refine Only.alloc ?_ _) | (with_reducible refine onlySet ?_ (by first | (with_reducible assumption) | omega) _) | (with_reducible refine Only.trans ?_ (by with_reducible assumption))))))
              (first
                | (go_at_call 23; (with_reducible refine (HSM.out _ (by (repeat (first | (with_reducible assumption) | (with_reducible exact Only.refl _ _) | (with_reducible refine Only.drew ?_) | (with_reducible refine Only.alloc ?_ _) | (with_reducible refine onlySet ?_ (by first | (with_reducible assumption) | omega) _) | (with_reducible refine Only.trans ?_ (by with_reducible assumption)))))).mono ?_); rintro e w11 ⟨rfl, ho11⟩))
            all_goals
              go_split_ands
              go_wp2_with fail
              go_meet
              exact ⟨rfl, by (repeat (first | (with_reducible assumption) | (with_reducible exact Only.refl _ _) | (with_reducible refine Only.drew ?_) | (with_reducible refine Only.alloc ?_ _) | (with_reducible refine onlySet ?_ (by first | (with_reducible assumption) | omega) _) | (with_reducible refine Only.trans ?_ (by with_reducible assumption))))⟩
          case rest =>
          obtain ⟨rfl, hoz⟩ := hcut
          have HOZ := Lib.hid hoz
          clear hoz
          clear c0 c1 c2 c3 c4 c5 c6 c7 d0 d1 d2 d3 d4 d5 d6 hoR
          go_wp2_with fail
          go_roundg (MS.length - (k + 1))
          case measure => rw [Hg.out]; omega
          case rel => exact ⟨k + 1, by go_num, by omega, HOZ.out, rfl⟩
        · have hlt' : ¬ (k : Int) < (MS.length : Int) := by omega
          go_wp2_with fail
          go_meet
          exact HO.out
    case rest =>
    generalize hw10 : wc = w10 at *
    clear hw10
    have HO10 := Lib.hid hcut
    clear hcut
    go_upto_block 6 with fail
    go_cut [23] (fun _ wx => Only (fun _ => False) w9 wx)
    case first =>
      go_wp2_with fail
      go_loopg [23] RS.length (fun gk v23 wr => ∃ k : Nat, v23 = .int .i64 k ∧ k ≤ RS.length ∧ Only (fun _ => False) w9 wr ∧ gk = RS.length - k)
      case atStart => exact ⟨0, rfl, Nat.zero_le _, HO10.out, rfl⟩
      case round =>
        obtain ⟨k, rfl, hk, ho, hg⟩ := hrel
        have Hg := Lib.hid hg
        have HO := Lib.hid ho
        clear hg ho
        by_cases hlt : k < RS.length
        · -- one
          obtain ⟨lb, off, rfl, hc⟩ := HFC.out.at k hlt
          obtain ⟨lq, oq, rfl, hd⟩ := HNC.out.at k hlt
          have hcx : ∀ i u, (recC RS[k])[i]? = some u → _ := fun i u hu => HO.out.cell (hc i u hu) id
          have hcy : ∀ i u, (recC RS[k])[i]? = some u → _ := fun i u hu => HO.out.cell (hd i u hu) id
          generalize RS[k] = y at *
          have p0 := hcx 0 _ rfl
          have p1 := hcx 1 _ rfl
          have p2 := hcx 2 _ rfl
          have p3 := hcx 3 _ rfl
          have p4 := hcx 4 _ rfl
          have p5 := hcx 5 _ rfl
          have q0 := hcy 0 _ rfl
          have q1 := hcy 1 _ rfl
          have q2 := hcy 2 _ rfl
          have q3 := hcy 3 _ rfl
          have q4 := hcy 4 _ rfl
          have q5 := hcy 5 _ rfl
          simp only [Nat.add_zero] at p0 q0
          have hne : ∀ w, (binOp BinOp.neq 33 (.agg #[.string y.key, .int .u64 y.ver, .int .i64 y.o, .int .i64 y.age, .bool y.gone, .string y.data]) (.agg #[.string y.key, .int .u64 y.ver, .int .i64 y.o, .int .i64 y.age, .bool y.gone, .string y.data])).run Tryd.prog w = .ok (.bool false) w := fun w => by
            rw [neR]
            simp
          have hlt' : (k : Int) < (RS.length : Int) := by omega
          have hrl' : (RS.length : Int) ≤ 12 := by have := HRLL.out; omega
          clear hcx hcy hc hd
          go_wp2_with fail
          go_quiet (fail)
          go_wp2_with fail
          go_roundg (RS.length - (k + 1))
          case measure => rw [Hg.out]; omega
          case rel => exact ⟨k + 1, by go_num, by omega, HO.out.drewN _, rfl⟩
        · have hlt' : ¬ (k : Int) < (RS.length : Int) := by omega
          go_wp2_with fail
          go_meet
          exact HO.out
    case rest =>
    have hbm10 := hcut.old HBM9.out id
    have hdat10 := HDAT9.out.only hcut (fun _ _ => id)
    have hoT10 := HOT9.out.trans hcut
    have HNL := Lib.hid (stake_nil wc 1 _ ⟨kind, 0, 0, false, [], IL, RL⟩ (hdat10.is kind))
    have z0 : wc.cell? ⟨Mb, 0, none⟩ = some (.int .i64 kind) := cell_at hbm10 0
    have z1 : wc.cell? ⟨Mb, 1, none⟩ = some (.int .i64 0) := cell_at hbm10 1
    have z2 : wc.cell? ⟨Mb, 2, none⟩ = some (.int .i64 0) := cell_at hbm10 2
    have z3 : wc.cell? ⟨Mb, 3, none⟩ = some (.bool false) := cell_at hbm10 3
    have z4 : wc.cell? ⟨Mb, 4, none⟩ = some (.slice none 0 0) := cell_at hbm10 4
    have z5 : wc.cell? ⟨Mb, 5, none⟩ = some (.slice ia cl ic) := cell_at hbm10 5
    have z6 : wc.cell? ⟨Mb, 6, none⟩ = some (.slice ra cl rc) := cell_at hbm10 6
    have HOT10 := Lib.hid hoT10
    clear hoT10
    clear hcut hbm10 hdat10
    go_wp2_with fail
    refine HNL.out.mono ?_
    rintro e w11 ⟨rfl, ho11⟩
    have HO11 := Lib.hid ho11
    clear ho11
    go_wp2_with fail
    refine (sdtick_nil w11).mono ?_
    rintro e w12 ⟨rfl, rfl⟩
    go_wp2_with fail
    go_ret
    exact ⟨rfl, HOT10.out.trans HO11.out⟩
  · exact absurd hno (by decide)
end Go.Proofs.YtjdaommelikdmaaDoor
/-! SeedsTake is true of every input: seeds that take a message of any kind, any records and ids in it, answer and store just as the store alone does when asked through digest; no seeds answer nothing. No condition; the package variables that it names are tied to the text. -/
namespace Go.Proofs.YtjdaommelikdmaaDoor.seedsTakeLaw
open Go.Conc Go.RowKit Go.ChangeShapes Go.WideShapes Go.ChangeAt Go.ChangeMaps

theorem reads : ∀ t ∈ Tryd.f9.params.toList, Tryd.prog.readableRec t = true ∧ t < Tryd.prog.types.size := by
  intro t ht
  have h1 : ([111, 111, 3].all fun u => Tryd.prog.readableRec u && decide (u < Tryd.prog.types.size)) = true := by kernel_rfl
  rw [Tryd.params9] at ht
  have := List.all_eq_true.1 h1 t ht
  simpa using this
set_option maxRecDepth 100000 in
theorem lifted (os : Os) (started : os.Started) (H : Type) (enc : TypeId × Value → H) :
    ReturnsInHanded {} Tryd.checked os 9 .any (fun w args => (Rows.seedsTakeSpec.pre enc Tryd.prog Tryd.f9 Rows.seedsTakeRow.domain false w args ∧ laidMetH Tryd.prog Rows.seedsTakeRow.laid w) ∧ sizedMet enc Tryd.prog Tryd.f9 (OpenSpec.ofChange Rows.seedsTakeSpec) false w args)
      (Rows.seedsTakeSpec.post enc Tryd.prog Tryd.f9 false true false false) := by
  refine returns_laid (C := Tryd.checked) (X := fun w _ => laidMetH Tryd.prog Rows.seedsTakeRow.laid w) (fun _ _ _ hh h => h.of_heap hh) ownD started (by kernel_rfl) Tryd.func9
    (ChangeSpec.witness_shaped (enc := enc) (C := Tryd.checked) (os := os) (X := fun w _ => laidMetH Tryd.prog Rows.seedsTakeRow.laid w) false (World.laidAll Tryd.prog os Rows.seedsTakeRow.laid) #[.slice none 0 0, .slice none 0 0, .int .i64 0] 8 (World.laidAll_os _ _ _)
      (World.shaped_of_ZipB (by kernel_rfl) (by kernel_rfl)) (by kernel_rfl) (by kernel_rfl) (by kernel_rfl)
      (by rw [MakeChecks.laidMetH_plain _ _ _ (by kernel_rfl)]; exact laidMet_laidAll _ (by kernel_rfl) (by kernel_rfl))) ?_
  intro W base args ds gs before hval0 hW _ hsh
  have hval : ∀ (j : Nat) t v, Tryd.f9.params[j]? = some t → args[j]? = some v → Value.okWide Tryd.prog W .any base t v := hval0
  have hW' := hW
  obtain ⟨m0, hm0⟩ := maxLen_cell W hsh
  obtain ⟨p, q, hA0, hV, rfl, _, _⟩ := hW
  have hA : DataW.TrodAll enc Tryd.prog W 0 (fun _ => true) true Tryd.f9.params.toList args.toList ds p := hA0
  rw [Tryd.params9] at hA hval
  obtain ⟨v0, vs0, d0, ds0, p0, q0, hargs, rfl, rfl, h0, r0⟩ := trodAll_cons hA
  obtain ⟨v1, vs1, d1, ds1, p1, q1, rfl, rfl, rfl, h1, r1⟩ := trodAll_cons r0
  obtain ⟨v2, vs2, d2, ds2, p2, q2, rfl, rfl, rfl, h2, r2⟩ := trodAll_cons r1
  obtain ⟨rfl, rfl, rfl⟩ := trodAll_nil r2
  obtain rfl : args = #[v0, v1, v2] := by cases args; simp_all
  obtain ⟨x0, s0, b0⟩ := sl_recs20 (hval 0 111 v0 rfl rfl) h0
  obtain ⟨x1, s1, b1⟩ := sl_recs20 (hval 1 111 v1 rfl rfl) h1
  obtain ⟨x2, rfl, rfl, rfl, b2⟩ := open_int Tryd.underlying3 (hval 2 3 v2 rfl rfl) h2
  obtain ⟨rfl, rfl⟩ := trodVars_none hV
  refine (take20_any W m0 hm0 v0 x0 v1 x1 x2 s0 b0 s1 b1 b2).mono fun e W' ⟨he, ho⟩ => ?_
  subst he
  exact ⟨_, rfl, law_post hW' (ho.below (Nat.le_refl _) (fun _ _ => id)) laidOutD reads rfl Tryd.underlying4 rfl rfl rfl rfl⟩

theorem said : Rows.SeedsTakeSaid :=
  OpenClaim.holds_of_wide 9 Tryd.f9 rfl rfl rfl rfl rfl rfl rfl ⟨rfl, rfl, rfl, rfl, rfl⟩ rfl rfl rfl rfl rfl (by kernel_rfl) Tryd.func9 (by kernel_rfl)
    (of_decide_eq_true (by kernel_rfl)) (by unfold Func.isWrapper; first | (rw [if_pos (by decide +kernel)]; kernel_rfl) | (rw [if_neg (by decide +kernel)]; exact ⟨rfl, rfl⟩))
    (fun os started H enc _ => lifted os started H enc)
theorem looks (f : FuncId) (fn : Func) (hf : Tryd.pinned.checked.prog.funcNamed "bellhop/bellhoplaw20.SeedsTake" = some f) (hfn : Tryd.pinned.checked.prog.funcs[f]? = some fn) :
    true = Tryd.pinned.checked.prog.looks [] ∧ ∀ (j : Nat) t, fn.params[j]? = some t → Tryd.pinned.checked.prog.wantsStandIn t = false := by
  obtain rfl : f = 9 := Option.some.inj ((show Tryd.prog.funcNamed "bellhop/bellhoplaw20.SeedsTake" = some 9 by kernel_rfl).symm.trans hf) |>.symm
  obtain rfl : fn = Tryd.f9 := (Option.some.inj (Tryd.func9.symm.trans hfn)).symm
  refine ⟨by kernel_rfl, fun j t ht => ?_⟩
  rw [Tryd.params9] at ht
  have hm : t ∈ [111, 111, 3] := by simpa using Array.mem_of_getElem? ht
  have hall : ([111, 111, 3].all fun u => !Tryd.prog.wantsStandIn u) = true := by kernel_rfl
  exact (show Tryd.prog.wantsStandIn t = false by simpa using List.all_eq_true.1 hall t hm)
theorem card : Rows.SeedsTakeCardSaid :=
  Claim7.holds_tied_plain_at .later [] _ _ _ _ said (fun _ h => by cases h) (by kernel_rfl) (fun _ h => by cases h) seedsTake_row_tie rfl ⟨rfl, rfl⟩ (by kernel_rfl) rfl looks (by kernel_rfl)
#print axioms card
end Go.Proofs.YtjdaommelikdmaaDoor.seedsTakeLaw
