/- DigestTakes is true of every input: of any records that a store takes just those are told that were new, and the store holds what the reference holds then; no store answers nothing. No condition; the package variables that it names are tied to the text. -/
import Derived.Test.YtianboachknfmaaDoorMJ
import Derived.Test.YtianboachknfmaaDoorMA
import Derived.ChangeMaps5
import Derived.Test.YtianboachknfmaaDoorCards
import Derived.Test.YtianboachknfmaaDoorTie
/-! digest.Ask of no store; what is packed of no store; bellhopref15's Store through Puts. -/
namespace Go.Proofs.YtianboachknfmaaDoor
open Go.Conc Go.RowKit Go.Maps

set_option maxRecDepth 100000 in
theorem dask_nil (w : World) :
    Calls Tryd.prog 51 #[.pointer none] w fun e w' => e = .returned (.agg #[.int .i64 13, .int .i64 0, .int .i64 0, .bool false, .slice none 0 0, .slice none 0 0, .slice none 0 0]) ∧ Only (fun _ => False) w w' := by
  obtain ⟨W, hW⟩ : ∃ W, W = w.alloc (.cells #[.int .i64 0, .int .i64 0, .int .i64 0, .bool false, .slice none 0 0, .slice none 0 0, .slice none 0 0] 59) := ⟨_, rfl⟩
  have hbW : W.heap[w.heap.size]? = some (.cells #[.int .i64 0, .int .i64 0, .int .i64 0, .bool false, .slice none 0 0, .slice none 0 0, .slice none 0 0] 59 (0, 0)) := by rw [hW]; exact heap_alloc_new w _
  have hoW : Only (fun _ => False) w W := by rw [hW]; exact (Only.refl _ _).alloc _
  have hsW : W.heap.size = w.heap.size + 1 := by rw [hW]; simp
  have HOW := Lib.hid hoW
  have HBW := Lib.hid hbW
  have HSZ := Lib.hid hsW
  clear hoW hbW hsW
  go_enter Tryd.func51, Tryd.ntmps51
  go_upto_region 1 with (fail)
  rw [← hW]
  clear hW
  go_wp2_with fail
  refine (sids_nil W).mono ?_
  rintro e w2 ⟨rfl, rfl⟩
  have x0 : W.cell? ⟨w.heap.size, 0, none⟩ = some (.int .i64 0) := cell_at HBW.out 0
  have x1 : W.cell? ⟨w.heap.size, 1, none⟩ = some (.int .i64 0) := cell_at HBW.out 1
  have x2 : W.cell? ⟨w.heap.size, 2, none⟩ = some (.int .i64 0) := cell_at HBW.out 2
  have x3 : W.cell? ⟨w.heap.size, 3, none⟩ = some (.bool false) := cell_at HBW.out 3
  have x4 : W.cell? ⟨w.heap.size, 4, none⟩ = some (.slice none 0 0) := cell_at HBW.out 4
  have x5 : W.cell? ⟨w.heap.size, 5, none⟩ = some (.slice none 0 0) := cell_at HBW.out 5
  have x6 : W.cell? ⟨w.heap.size, 6, none⟩ = some (.slice none 0 0) := cell_at HBW.out 6
  have xf : ∀ i, W.frozen? ⟨w.heap.size, i, none⟩ = false := free_at HBW.out
  go_wp2_with fail
  obtain ⟨s1, s2⟩ := lit_set HBW.out [.int .i64 13, .int .i64 0, .int .i64 0, .bool false, .slice none 0 0, .slice none 0 0, .slice none 0 0] rfl
  rw [show World.setCells W w.heap.size 0 [.int .i64 13, .int .i64 0, .int .i64 0, .bool false, .slice none 0 0, .slice none 0 0, .slice none 0 0] = (((((((W.setCell ⟨w.heap.size, 0, none⟩ (.int .i64 13)).setCell ⟨w.heap.size, 1, none⟩ (.int .i64 0)).setCell ⟨w.heap.size, 2, none⟩ (.int .i64 0)).setCell ⟨w.heap.size, 3, none⟩ (.bool false)).setCell ⟨w.heap.size, 4, none⟩ (.slice none 0 0)).setCell ⟨w.heap.size, 5, none⟩ (.slice none 0 0)).setCell ⟨w.heap.size, 6, none⟩ (.slice none 0 0)) from rfl] at s1 s2
  generalize (((((((W.setCell ⟨w.heap.size, 0, none⟩ (.int .i64 13)).setCell ⟨w.heap.size, 1, none⟩ (.int .i64 0)).setCell ⟨w.heap.size, 2, none⟩ (.int .i64 0)).setCell ⟨w.heap.size, 3, none⟩ (.bool false)).setCell ⟨w.heap.size, 4, none⟩ (.slice none 0 0)).setCell ⟨w.heap.size, 5, none⟩ (.slice none 0 0)).setCell ⟨w.heap.size, 6, none⟩ (.slice none 0 0)) = wz at *
  have p0 : wz.cell? ⟨w.heap.size, 0, none⟩ = some (.int .i64 13) := cell_at s1 0
  have p1 : wz.cell? ⟨w.heap.size, 1, none⟩ = some (.int .i64 0) := cell_at s1 1
  have p2 : wz.cell? ⟨w.heap.size, 2, none⟩ = some (.int .i64 0) := cell_at s1 2
  have p3 : wz.cell? ⟨w.heap.size, 3, none⟩ = some (.bool false) := cell_at s1 3
  have p4 : wz.cell? ⟨w.heap.size, 4, none⟩ = some (.slice none 0 0) := cell_at s1 4
  have p5 : wz.cell? ⟨w.heap.size, 5, none⟩ = some (.slice none 0 0) := cell_at s1 5
  have p6 : wz.cell? ⟨w.heap.size, 6, none⟩ = some (.slice none 0 0) := cell_at s1 6
  refine bodyPost_ret (v := .agg #[.int .i64 13, .int .i64 0, .int .i64 0, .bool false, .slice none 0 0, .slice none 0 0, .slice none 0 0]) (by simp [results, Tryd.results51, go_sem, p0, p1, p2, p3, p4, p5, p6]) rfl ?_
  exact ⟨rfl, HOW.out.tr s2 (fun i hi e => by omega)⟩
theorem sent_none (l : List RecT) : sentL 0 l = [] := by
  unfold sentL
  rw [List.filter_eq_nil_iff]
  intro x hx
  obtain ⟨y, _, rfl⟩ := List.mem_map.1 hx
  unfold sentR
  simp
  omega
theorem give_none (I : List (ByteArray × Nat)) : giveL [] I = [] := by
  have h := (give_mem [] I []).2
  unfold giveL
  cases hg : giveA [] [] I with
  | nil => rfl
  | cons x l => exact absurd (h x (by rw [hg]; exact List.mem_cons_self)) (by simp)
theorem pack_none (kind : Int) : packM kind [] = [] := rfl
theorem StoreOk.puts {most ttl : Int} : ∀ (l : List RecT) {L : List RecT}, StoreOk most ttl L → StoreOk most ttl (takeS most ttl L l)
  | [], _, h => h
  | x :: l, _, h => StoreOk.puts l (h.put x)
theorem takes_snoc (most ttl : Int) (L l : List RecT) (x : RecT) : takeS most ttl L (l ++ [x]) = putS most ttl (takeS most ttl L l) x ∧ takeO most ttl L (l ++ [x]) = takeO most ttl L l ++ if putE most ttl (takeS most ttl L l) x = 0 then [x] else [] := by
  refine ⟨?_, takeO_snoc most ttl x l L⟩
  unfold takeS
  rw [List.foldl_append]
  rfl
theorem keepS {w : World} {b i B j : Nat} {v u : Value} (hn : B ≠ b) (h : w.cell? ⟨b, i, none⟩ = some v) : (w.setCell ⟨B, j, none⟩ u).cell? ⟨b, i, none⟩ = some v := by
  rw [World.cell?_of_block (Below.heap_setCell _ _ _ _ (Ne.symm hn))]
  exact h
theorem owns_typ {w w' : World} {base : Nat} {e t : TypeId} {size n x : Nat} {v : Value} {xs : List Value} {cs : Array Value} {f : Nat × Nat} (h : w.ownsRow base e size v n xs) (hx : w.heap[x]? = some (.cells cs t f)) (ht : t ≠ e) (ho : Only (fun i => i = x) w w') : w'.ownsRow base e size v n xs := by
  refine ⟨h.1, ?_⟩
  rcases h.2 with h2 | ⟨g, cap, cur, hv, hb, hg, r⟩
  · exact .inl h2
  · refine .inr ⟨g, cap, cur, hv, hb, ?_, r⟩
    refine ho.old hg (fun e2 => ?_)
    subst e2
    rw [hx] at hg
    injection hg with hg
    injection hg with _ hg _
    exact ht hg
theorem owns_set {w : World} {base B j : Nat} {e t : TypeId} {size n : Nat} {v u : Value} {xs : List Value} {cs : Array Value} {f : Nat × Nat} (h : w.ownsRow base e size v n xs) (hb : w.heap[B]? = some (.cells cs t f)) (ht : t ≠ e) : (w.setCell ⟨B, j, none⟩ u).ownsRow base e size v n xs :=
  owns_typ h hb ht ((Only.refl _ _).setCell (S := fun i => i = B) (p := ⟨B, j, none⟩) (.inr rfl) u)
/-- A slice of records and another slice lie in different blocks (or no record is there). -/
def ApartR (vs : Value) (D : List RecT) (u : Value) : Prop := D = [] ∨ ∀ b, vs.ownBlock = some b → u.ownBlock ≠ some b
theorem rsl_blk {w : World} {v : Value} {D : List RecT} (h : RSl w v D) : D = [] ∨ ∃ b off n cap, v = .slice (some ⟨b, off, none⟩) n cap ∧ v.ownBlock = some b ∧ b < w.heap.size := by
  obtain ⟨a, cap, rfl, _, _, hc⟩ := Sl.cells recC_length h
  cases D with
  | nil => exact .inl rfl
  | cons x D =>
    obtain ⟨b, off, rfl, hd⟩ := hc.at 0 (by simp)
    exact .inr ⟨b, off, _, cap, rfl, rfl, World.block_lt_of_cell? _ _ (hd 0 _ rfl)⟩
theorem rsl_grown {w w' : World} {vs u : Value} {D : List RecT} (h : RSl w vs D) (ha : ApartR vs D u) (gr : w.grownBy w' u.ownBlock) : RSl w' vs D := by
  obtain ⟨hl, a, cap, rfl, h3, h4, h5⟩ := h
  refine ⟨hl, a, cap, rfl, h3, h4, ?_⟩
  rcases h5 with h5 | ⟨b, off, rfl, hc⟩
  · exact .inl h5
  · by_cases hn : D = []
    · subst hn
      exact .inl rfl
    refine .inr ⟨b, off, rfl, fun j u hu => ?_⟩
    have h1 := hc j u hu
    rw [World.cell?_of_block (gr.block b (World.block_lt_of_cell? _ _ h1) (fun e => (ha.resolve_left hn) b rfl e.symm))]
    exact h1
theorem apartR_next {w : World} {vs u u' : Value} {D : List RecT} (h : RSl w vs D) (ha : ApartR vs D u) (hv : ∀ k, u'.ownBlock = some k → u.ownBlock = some k ∨ w.heap.size ≤ k) : ApartR vs D u' := by
  rcases rsl_blk h with h1 | ⟨b, off, n, cap, _, h2, h3⟩
  · exact .inl h1
  · rcases ha with ha | ha
    · exact .inl ha
    · refine .inr fun k e e2 => ?_
      rw [h2] at e
      cases e
      rcases hv b e2 with h4 | h4
      · exact ha b h2 h4
      · omega
/-- Behind a Put. -/
theorem apartR_put {w w' : World} {vs vs' u : Value} {D D2 : List RecT} {base n size : Nat} {e : TypeId} {xs : List Value} (h : RSl w vs D) (h' : RSl w' vs' D2) (ha : ApartR vs D u) (hn : NewOr w w' vs vs') (hu : w.ownsRow base e size u n xs) : ApartR vs' D2 u := by
  rcases hn with rfl | hn
  · rcases ha with rfl | ha
    · obtain ⟨_, _, rfl, _⟩ := Sl.cells recC_length h
      obtain ⟨_, _, he, _⟩ := Sl.cells recC_length h'
      injection he with _ he _
      exact .inl (List.eq_nil_of_length_eq_zero he.symm)
    · exact .inr ha
  · refine .inr fun b e e2 => ?_
    have h1 := (hn b e).1
    have h2 := (hu.lt b e2).2
    omega
theorem blk_gr2 {w w' : World} {g : Nat} {o : Obj} {v : Value} (h : w.heap[g]? = some o) (hne : v.ownBlock ≠ some g) (gr : w.grownBy w' v.ownBlock) : w'.heap[g]? = some o := by
  rw [gr.block g (lt_of_block h) (fun e => hne e.symm)]
  exact h
theorem recsL_mem {l : List RecA} {k : Nat} (hl : ∀ a ∈ l, rowA a) : ∀ x ∈ recsL l k, x.ver < 2 ^ 64 ∧ x.key.size ≤ 1000000 := fun x hx => by
  unfold recsL at hx
  obtain ⟨a, ha, rfl⟩ := List.mem_map.1 hx
  have := rec16_bd a (hl a (List.mem_of_mem_take ha))
  omega
theorem takeO_mem (most ttl : Int) : ∀ (l L : List RecT), ∀ x ∈ takeO most ttl L l, x ∈ l
  | [], _, _, h => h
  | y :: l, L, x, h => by
    unfold takeO at h
    rcases List.mem_append.1 h with h | h
    · split at h
      · rw [List.mem_singleton.1 h]; exact List.mem_cons_self
      · cases h
    · exact List.mem_cons_of_mem _ (takeO_mem most ttl l _ x h)
/-- append onto a slice of the call's own, as one step of a region that draws; where the new slice lies. -/
theorem step_append_own {P : Program} {ops : Array Oper} {o : Oper} {a : Act} {w : World} {K : Act → World → Prop} {Q : Exit → Act → World → Prop} {E : Prop} (hgd : o.guard = none) (s x : Operand) (t tx : TypeId)
    (ho : o.op = .call { callee := .builtin .append, args := #[s, x], argTypes := #[t, tx] })
    (base : Nat) (e : TypeId) (i : TypeInfo) (z : Value) (size bytes : Nat) (ht : P.underlying t = some (.slice e)) (hi : P.info? e = some i) (hz : i.zero = some z)
    (hsize : i.size = size) (hby : i.bytes = bytes) (hzs : z.cells.size = size)
    (v : Value) (n : Nat) (xs : List Value) (hv : a.eval s = v) (hown : w.ownsRow base e size v n xs) (xv : Value) (m : Nat) (news : List Value) (hx : a.eval x = xv) (hs : Src P size tx xv m news w)
    (h63 : n + m ≤ maxLen) (hbytes : (n + m) * bytes ≤ 140737488355328) (hbase : base ≤ w.heap.size)
    (h : ∀ v' w', w'.ownsRow base e size v' (n + m) (xs ++ news) → w.grownBy w' v.ownBlock → (∀ k, v'.ownBlock = some k → v.ownBlock = some k ∨ w.heap.size ≤ k) → K (a.put o.dst v') w') :
    if Region.wanted o (yielded ops a.tmps) = true then Oper.wp P o a w K Q else E := by
  have hw : Region.wanted o (yielded ops a.tmps) = true := by simp [Region.wanted, hgd]
  rw [if_pos hw]
  obtain ⟨v', w', hr, h2, h3, h4⟩ := run_append_src (P := P) w base t tx o.type e i z size bytes ht hi hz hsize hby hzs v n xs hown xv m news hs h63 hbytes hbase
  unfold Oper.wp execOp
  simp only [ho, resolve, invoke, builtin, Sem.run_bind, Sem.run_pure, Result.andThen_ok, List.map_toArray, List.map_cons, List.map_nil, hv, hx, hr]
  exact h v' w' h2 h3 h4
end Go.Proofs.YtianboachknfmaaDoor
/-! The walk of bellhoplaw16.DigestTakes. -/
namespace Go.Proofs.YtianboachknfmaaDoor
open Go.Conc Go.RowKit Go.Maps

set_option maxRecDepth 100000 in
set_option maxHeartbeats 8000000 in
theorem takes16_any (w : World) (m : Int) (hm : w.cell? ⟨0, 0, none⟩ = some (.int .i64 m)) (v : Value) (l : List RecA) (u : Value) (o : List RecA) (n : Nat) (h : Sl w 5 v l.length (l.flatMap recAC)) (hl : ∀ a ∈ l, rowP_sl_recs16 a) (hu : Sl w 5 u o.length (o.flatMap recAC)) (ho : ∀ a ∈ o, rowP_sl_recs16 a) (hn : n < 256) :
    Calls Tryd.prog 10 #[v, u, .int .u8 n] w fun e w' => e = .returned (.bool true) ∧ Only (fun _ => False) w w' := by
  obtain ⟨i0, hi0, iz0, iz1, iz2⟩ := info_parts infoRec
  obtain ⟨j0, hj0, jz0, jz1, jz2⟩ := info_parts infoRRec
  have hT0 : 1 ≤ 1 + (n : Int) % 110 ∧ 1 + (n : Int) % 110 ≤ 110 := by omega
  obtain ⟨ua, ucap, rfl, u1, u2, u3⟩ := Sl.cells recAC_length hu
  unfold maxLen at u2
  have hbl : 0 < o.length → ∀ lb off, ua = some ⟨lb, off, none⟩ → lb < w.heap.size := fun h0 lb off e => by
    obtain ⟨lb', off', e', hc⟩ := u3.at 0 h0
    rw [e] at e'
    cases e'
    exact World.block_lt_of_cell? _ _ (hc 0 _ rfl)
  have HV := Lib.hid h
  have HL := Lib.hid hl
  have HU := Lib.hid u3
  have HO := Lib.hid ho
  have HBL := Lib.hid hbl
  clear h hl u3 ho hbl
  clear hu
  go_enter Tryd.func10, Tryd.ntmps10
  go_wp2_with fail
  refine (speaks16_any w m hm).mono ?_
  rintro e w1 ⟨rfl, ho1⟩
  have hm1 := ho1.cell hm id
  have hv1 := HV.out.new ho1
  have hu1 := HU.out.new ho1 (fun _ _ _ => id)
  have HO1 := Lib.hid ho1
  have HM1 := Lib.hid hm1
  have HV1 := Lib.hid hv1
  have HU1 := Lib.hid hu1
  clear ho1 hm1 hv1 hu1
  clear hm HV HU
  go_upto_region 4 with (fail)
  generalize 1 + (n : Int) % 110 = T at *
  clear hn
  obtain ⟨hT1, hT2⟩ := hT0
  have hmade := made16_any w1 m HM1.out v l HV1.out HL.out T hT1 (by omega)
  unfold MadeP rstV at hmade
  have HMADE := Lib.hid hmade
  clear hmade
  go_wp2_with fail
  refine HMADE.out.mono ?_
  rintro e w2 ⟨s, b, r, r', vm, rfl, ho2, hs2, hb2, hst2, hr0, hr1, hq0, hq1, hsl2⟩
  generalize madeL T l 30 = L at *
  have hLl := hst2.ok.len
  obtain ⟨va, vcap, rfl, _⟩ := Sl.cells recC_length hsl2
  obtain ⟨V, hV⟩ : ∃ V, V = w2.alloc (.cells #[.int .i64 48, .int .i64 T, .slice va L.length vcap, .int .i64 r'] 95) := ⟨_, rfl⟩
  have hbV : V.heap[w2.heap.size]? = some (.cells #[.int .i64 48, .int .i64 T, .slice va L.length vcap, .int .i64 r'] 95 (0, 0)) := by rw [hV]; exact heap_alloc_new w2 _
  have hoV : Only (fun _ => False) w2 V := by rw [hV]; exact (Only.refl _ _).alloc _
  have hsV : V.heap.size = w2.heap.size + 1 := by rw [hV]; simp
  have hst3 := hst2.new hoV
  have hsl3 := hsl2.new hoV
  have hm3 := hoV.cell (ho2.cell HM1.out id) id
  have hoA := (HO1.out.trans ho2).trans hoV
  have hu3 := (HU1.out.new ho2 (fun _ _ _ => id)).new hoV (fun _ _ _ => id)
  have hw1 := HO1.out.size
  have h0 : 0 < w1.heap.size := World.block_lt_of_cell? _ _ HM1.out
  have hw2 := ho2.size
  have hbs : w.heap.size ≤ s ∧ w.heap.size ≤ b ∧ w.heap.size ≤ w2.heap.size ∧ s ≠ 0 ∧ b ≠ 0 ∧ s < w2.heap.size ∧ b < w2.heap.size := by have := hst2.lt; omega
  have HST := Lib.hid hst3
  have HSL := Lib.hid hsl3
  have HOA := Lib.hid hoA
  have HBV := Lib.hid hbV
  have HU3 := Lib.hid hu3
  have HM3 := Lib.hid hm3
  have HBS := Lib.hid hbs
  clear hst3 hsl3 hoA hbV hu3 hm3 hbs
  clear HMADE hst2 hsl2 ho2 hoV hsV hs2 hb2 HU1 HM1 HV1 HL HO1 hw1 h0 hw2
  go_upto_region 5 with (fail)
  rw [← hV]
  clear hV
  generalize w2.heap.size = B at *
  have hBV : B < V.heap.size := lt_of_block HBV.out
  go_upto_block 0 with fail
  go_cut [10, 11] (fun v10 v11 wx => Only (fun i => i = B) V wx ∧ RecRow wx V.heap.size v10 (recsL o 40) ∧ RRow wx V.heap.size v11 (takeO 48 T L (recsL o 40)) ∧ RStAt wx B T r' (takeS 48 T L (recsL o 40)))
  case first =>
    go_wp2_with fail
    go_loopg [10, 11, 12] 40 (fun g v10 v11 v12 wr => ∃ (k : Nat) (vs : Value), v12 = .int .i64 k ∧ k ≤ o.length ∧ k ≤ 40 ∧ Only (fun i => i = B) V wr ∧ RecRow wr V.heap.size v10 (recsL o k) ∧ RRow wr V.heap.size v11 (takeO 48 T L (recsL o k)) ∧ wr.heap[B]? = some (.cells #[.int .i64 48, .int .i64 T, vs, .int .i64 r'] 95 (0, 0)) ∧ RSl wr vs (takeS 48 T L (recsL o k)) ∧ ApartR vs (takeS 48 T L (recsL o k)) v10 ∧ ApartR vs (takeS 48 T L (recsL o k)) v11 ∧ g = 40 - k)
    case atStart => exact ⟨0, _, rfl, Nat.zero_le _, Nat.zero_le _, Only.refl _ _, World.ownsRow_nil _ _ _ _, World.ownsRow_nil _ _ _ _, HBV.out, HSL.out, .inr (fun _ _ e => by cases e), .inr (fun _ _ e => by cases e), rfl⟩
    case round =>
      obtain ⟨k, vs, rfl, hk, hk40, ho, hra, hrb, hbB, hvs, ha10, ha11, hg⟩ := hrel
      have Hg := Lib.hid hg
      have HO2 := Lib.hid ho
      have HRA := Lib.hid hra
      have HRB := Lib.hid hrb
      have HBB := Lib.hid hbB
      have HVS := Lib.hid hvs
      have HA10 := Lib.hid ha10
      have HA11 := Lib.hid ha11
      clear hg ho hra hrb hbB hvs ha10 ha11
      by_cases hlt : k < o.length ∧ k < 40
      · -- round
        obtain ⟨hlt, hlt40⟩ := hlt
        obtain ⟨lb, off, he, hc⟩ := HU3.out.at k hlt
        have hlb : lb < w.heap.size := HBL.out (by omega) lb off he
        subst he
        have hcr : ∀ i u, (recAC o[k])[i]? = some u → wr.cell? ⟨lb, off + k * 5 + i, none⟩ = some u := fun i u hu => HO2.out.cell (hc i u hu) (fun e => by
          have h9 : lb = B := e
          have h8 := HBS.out
          omega)
        have HTS := Lib.hid (recsL_snoc o k hlt)
        have HREC := Lib.hid (fun w => rec16_any w o[k] (HO.out _ (List.getElem_mem hlt)))
        have HTO := Lib.hid (fun w => told16_any w (rec16 o[k]))
        obtain ⟨hbd1, hbd2⟩ := rec16_bd o[k] (HO.out _ (List.getElem_mem hlt))
        have hlt' : (k : Int) < (o.length : Int) := by omega
        have hlt40' : (k : Int) < 40 := by omega
        have hk0 : (0 : Int) ≤ (k : Int) := by omega
        obtain ⟨ht1, ht2⟩ := takes_snoc 48 T L (recsL o k) (rec16 o[k])
        have hokD := StoreOk.puts (recsL o k) HST.out.ok
        have hol : (takeO 48 T L (recsL o k)).length ≤ k := Nat.le_trans (takeO_len 48 T (recsL o k) L) (recsL_len o k)
        have hrl : (recsL o k).length ≤ k := recsL_len o k
        generalize takeO 48 T L (recsL o k) = OO at *
        generalize takeS 48 T L (recsL o k) = D at *
        generalize recsL o k = A at *
        generalize rec16 o[k] = R at *
        generalize o[k] = x at *
        have hDl := hokD.len
        have HRP := Lib.hid (fun w v hv => rput_own w 48 T r' v D hv (by omega) hokD.rises R (by omega) hq0 (by omega))
        have hPE0 : putE 48 T D R = 0 → putR 48 T D R r' = r' := fun e => by unfold putR; rw [e]; rfl
        have hPEn : putE 48 T D R ≠ 0 → putS 48 T D R = D := fun e => by unfold putS; rw [if_neg e]
        obtain ⟨o1, n1, l1, c1, a1⟩ := x
        obtain ⟨k1, v1, o2, a2, g2, d2⟩ := R
        unfold recT at HREC HTO HRP
        unfold RPutQ rstV at HRP
        simp only at HREC HTO HRP
        generalize putR 48 T D ⟨k1, v1, o2, a2, g2, d2⟩ r' = r2 at *
        generalize putE 48 T D ⟨k1, v1, o2, a2, g2, d2⟩ = E at *
        generalize putS 48 T D ⟨k1, v1, o2, a2, g2, d2⟩ = D2 at *
        have y0 := hcr 0 _ rfl
        have y1 := hcr 1 _ rfl
        have y2 := hcr 2 _ rfl
        have y3 := hcr 3 _ rfl
        have y4 := hcr 4 _ rfl
        simp only [Nat.add_zero] at y0
        simp only at y0 y1 y2 y3 y4
        have HPE0 := Lib.hid hPE0
        have HPEN := Lib.hid hPEn
        have HOL := Lib.hid hol
        have HRL := Lib.hid hrl
        have HT1 := Lib.hid ht1
        have HT2 := Lib.hid ht2
        clear hPE0 hPEn hol hrl ht1 ht2
        clear hc hcr hbd1 hbd2 hokD hlb
        go_wp2_with fail
        refine (HREC.out _).mono ?_
        rintro e w4 ⟨rfl, ho4⟩
        obtain ⟨Y, hY⟩ : ∃ Y, Y = w4.alloc (.cells #[.string k1, .int .u64 v1, .int .i64 o2, .int .i64 a2, .bool g2, .string d2] 35) := ⟨_, rfl⟩
        have hbY : Y.heap[w4.heap.size]? = some (.cells #[.string k1, .int .u64 v1, .int .i64 o2, .int .i64 a2, .bool g2, .string d2] 35 (0, 0)) := by rw [hY]; exact heap_alloc_new w4 _
        have hoY : Only (fun _ => False) w4 Y := by rw [hY]; exact (Only.refl _ _).alloc _
        have hsY : Y.heap.size = w4.heap.size + 1 := by rw [hY]; simp
        have hoY2 := ho4.trans hoY
        have hbB := hoY2.old HBB.out id
        have hvsY := HVS.out.new hoY2
        have hraY := owns_only HRA.out hoY2 (fun _ _ => id)
        have hrbY := owns_only HRB.out hoY2 (fun _ _ => id)
        have hoC : Only (fun i => i = B) V Y := HO2.out.trans (hoY2.weaken (fun _ _ => False.elim))
        have hyi : ∀ b, u11.ownBlock = some b → b ≠ w4.heap.size := fun b e => by
          have h1 := (HRB.out.lt b e).2
          have h2 := ho4.size
          omega
        have hyi2 : B ≠ w4.heap.size := by
          have h1 := lt_of_block HBB.out
          have h2 := ho4.size
          omega
        clear y0 y1 y2 y3 y4
        go_upto_region 11 with (fail)
        rw [← hY]
        clear hY
        generalize w4.heap.size = yi at *
        have y0 : Y.cell? ⟨yi, 0, none⟩ = some (.string k1) := cell_at hbY 0
        have y1 : Y.cell? ⟨yi, 1, none⟩ = some (.int .u64 v1) := cell_at hbY 1
        have y2 : Y.cell? ⟨yi, 2, none⟩ = some (.int .i64 o2) := cell_at hbY 2
        have y3 : Y.cell? ⟨yi, 3, none⟩ = some (.int .i64 a2) := cell_at hbY 3
        have y4 : Y.cell? ⟨yi, 4, none⟩ = some (.bool g2) := cell_at hbY 4
        have y5 : Y.cell? ⟨yi, 5, none⟩ = some (.string d2) := cell_at hbY 5
        have HBY := Lib.hid hbY
        have HB2 := Lib.hid hbB
        have HVS2 := Lib.hid hvsY
        have HRA2 := Lib.hid hraY
        have HRB2 := Lib.hid hrbY
        have HOC := Lib.hid hoC
        have HYI := Lib.hid hyi
        have HYI2 := Lib.hid hyi2
        clear hbY hbB hvsY hraY hrbY hoC hyi hyi2
        clear hoY ho4 hoY2 hsY HREC
        go_wp2_with fail
        refine (HTO.out _).mono ?_
        rintro e w5 ⟨rfl, ho5⟩
        have hb5 := ho5.old HB2.out id
        have hy5 := ho5.old HBY.out id
        have hvs5 := HVS2.out.new ho5
        have hra5 := owns_only HRA2.out ho5 (fun _ _ => id)
        have hrb5 := owns_only HRB2.out ho5 (fun _ _ => id)
        have hoD : Only (fun i => i = B) V w5 := HOC.out.trans (ho5.weaken (fun _ _ => False.elim))
        have HY5 := Lib.hid hy5
        have HB5 := Lib.hid hb5
        have HVS5 := Lib.hid hvs5
        have HRA5 := Lib.hid hra5
        have HRB5 := Lib.hid hrb5
        have HOD := Lib.hid hoD
        clear hy5 hb5 hvs5 hra5 hrb5 hoD
        clear ho5 HB2 HVS2 HRA2 HRB2 HBY HOC HTO y0 y1 y2 y3 y4 y5
        go_wp2_with (at_builtin; refine Wait.mk ?_)
        refine Wait.go (wpList_append_src _ rfl (.tmp 47) (.tmp 50) 28 28 rfl V.heap.size 33 i0 _ 6 64 Tryd.underlying28 hi0 iz0 iz1 iz2 rfl _ A.length (A.flatMap recC) rfl (HRA5.out.alloc _) _ 1 (recC ⟨k1, v1, o2, a2, g2, d2⟩) rfl ?src4 ?m4 ?b4 ?base4 ?_)
        case src4 => exact Src.ofSlice _ Tryd.underlying28 _ _ _ _ rfl (news_new _ _ _) (recC_one _)
        case m4 => have := HRL.out; unfold maxLen; omega
        case b4 => have := HRL.out; omega
        case base4 => have := HOD.out.size; simp; omega
        intro v6 w6 own6 gr6 hv6
        have hal : Only (fun _ => False) w5 (w5.alloc (.cells (recC ⟨k1, v1, o2, a2, g2, d2⟩).toArray 33)) := (Only.refl _ _).alloc _
        have hoE : Only (fun i => i = B) V w6 := (HOD.out.alloc _).own (HRA5.out.alloc _) (Nat.le_refl _) gr6
        have hb6 := blk_gr (hal.old HB5.out id) (owns_only HRA5.out hal (fun _ _ => id)) (by decide) gr6
        have hy6 := blk_gr (hal.old HY5.out id) (owns_only HRA5.out hal (fun _ _ => id)) (by decide) gr6
        have hvs6 := rsl_grown (HVS5.out.new hal) HA10.out gr6
        have hrb6 := owns_gr (owns_only HRB5.out hal (fun _ _ => id)) (owns_only HRA5.out hal (fun _ _ => id)) (by decide) gr6
        have ha10 := apartR_next (HVS5.out.new hal) HA10.out hv6
        have HOE := Lib.hid hoE
        have HB6 := Lib.hid hb6
        have HY6 := Lib.hid hy6
        have HVS6 := Lib.hid hvs6
        have HRA6 := Lib.hid own6
        have HRB6 := Lib.hid hrb6
        have HA10B := Lib.hid ha10
        clear hoE hb6 hy6 hvs6 own6 hrb6 ha10
        clear gr6 hv6 hal HB5 HY5 HVS5 HRA5 HRB5 HOD
        obtain ⟨pa, pcap, rfl, _⟩ := Sl.cells recC_length HVS6.out
        have y0 : w6.cell? ⟨yi, 0, none⟩ = some (.string k1) := cell_at HY6.out 0
        have y1 : w6.cell? ⟨yi, 1, none⟩ = some (.int .u64 v1) := cell_at HY6.out 1
        have y2 : w6.cell? ⟨yi, 2, none⟩ = some (.int .i64 o2) := cell_at HY6.out 2
        have y3 : w6.cell? ⟨yi, 3, none⟩ = some (.int .i64 a2) := cell_at HY6.out 3
        have y4 : w6.cell? ⟨yi, 4, none⟩ = some (.bool g2) := cell_at HY6.out 4
        have y5 : w6.cell? ⟨yi, 5, none⟩ = some (.string d2) := cell_at HY6.out 5
        have p0 : w6.cell? ⟨B, 0, none⟩ = some (.int .i64 48) := cell_at HB6.out 0
        have p1 : w6.cell? ⟨B, 1, none⟩ = some (.int .i64 T) := cell_at HB6.out 1
        have p2 : w6.cell? ⟨B, 2, none⟩ = some (.slice pa D.length pcap) := cell_at HB6.out 2
        have p3 : w6.cell? ⟨B, 3, none⟩ = some (.int .i64 r') := cell_at HB6.out 3
        go_wp2_with fail
        refine (HRP.out w6 _ HVS6.out).mono ?_
        rintro e w8 ⟨v8, rfl, ho8, hs8, hn8⟩
        obtain ⟨qa, qcap, rfl, _⟩ := Sl.cells recC_length hs8
        have hb8 := ho8.old HB6.out id
        have hy8 := ho8.old HY6.out id
        have hra8 := owns_only HRA6.out ho8 (fun _ _ => id)
        have hrb8 := owns_only HRB6.out ho8 (fun _ _ => id)
        have ha10 := apartR_put HVS6.out hs8 HA10B.out hn8 HRA6.out
        have ha11 := apartR_put HVS6.out hs8 HA11.out hn8 HRB6.out
        have hoF : Only (fun i => i = B) V w8 := HOE.out.trans (ho8.weaken (fun _ _ => False.elim))
        have hvs8 := HVS6.out.new ho8
        obtain ⟨Nw, hNw⟩ : ∃ Nw, Nw = w8.alloc (.cells #[.int .i64 48, .int .i64 T, .slice qa D2.length qcap, .int .i64 r2] 95) := ⟨_, rfl⟩
        have hbNw : Nw.heap[w8.heap.size]? = some (.cells #[.int .i64 48, .int .i64 T, .slice qa D2.length qcap, .int .i64 r2] 95 (0, 0)) := by rw [hNw]; exact heap_alloc_new w8 _
        have hoNw : Only (fun _ => False) w8 Nw := by rw [hNw]; exact (Only.refl _ _).alloc _
        have hsNw : Nw.heap.size = w8.heap.size + 1 := by rw [hNw]; simp
        have hbN := hoNw.old hb8 id
        have hyN := hoNw.old hy8 id
        have hraN := owns_only hra8 hoNw (fun _ _ => id)
        have hrbN := owns_only hrb8 hoNw (fun _ _ => id)
        have hsN := hs8.new hoNw
        have hvsN := hvs8.new hoNw
        have hoG := hoF.trans (hoNw.weaken (T := fun i => i = B) (fun _ _ => False.elim))
        have hni : B ≠ w8.heap.size ∧ yi ≠ w8.heap.size ∧ ∀ b, u11.ownBlock = some b → b ≠ w8.heap.size := by
          refine ⟨by have := lt_of_block hb8; omega, by have := lt_of_block hy8; omega, fun b e => ?_⟩
          have := (hrb8.lt b e).2
          omega
        have HBN := Lib.hid hbN
        have HYN := Lib.hid hyN
        have HRAN := Lib.hid hraN
        have HRBN := Lib.hid hrbN
        have HSN := Lib.hid hsN
        have HVSN := Lib.hid hvsN
        have HOG := Lib.hid hoG
        have HNI := Lib.hid hni
        have HA10C := Lib.hid ha10
        have HA11C := Lib.hid ha11
        have HBNw := Lib.hid hbNw
        clear hbN hyN hraN hrbN hsN hvsN hoG hni ha10 ha11 hbNw
        clear y0 y1 y2 y3 y4 y5 p0 p1 p2 p3 ho8 hb8 hy8 hra8 hrb8 hoF hvs8 hs8 hn8 hoNw hsNw HB6 HY6 HVS6 HRA6 HRB6 HOE HRP
        go_upto_region 13 with (fail)
        rw [← hNw]
        clear hNw
        generalize w8.heap.size = ni at *
        by_cases hE : E = 0
        · -- yes
          have hEb : (E == 0) = true := by simpa using hE
          have hr2 := HPE0.out hE
          have HEE := Lib.hid hE
          clear hE
          subst hr2
          have y0 : Nw.cell? ⟨yi, 0, none⟩ = some (.string k1) := cell_at HYN.out 0
          have y1 : Nw.cell? ⟨yi, 1, none⟩ = some (.int .u64 v1) := cell_at HYN.out 1
          have y2 : Nw.cell? ⟨yi, 2, none⟩ = some (.int .i64 o2) := cell_at HYN.out 2
          have y3 : Nw.cell? ⟨yi, 3, none⟩ = some (.int .i64 a2) := cell_at HYN.out 3
          have y4 : Nw.cell? ⟨yi, 4, none⟩ = some (.bool g2) := cell_at HYN.out 4
          have y5 : Nw.cell? ⟨yi, 5, none⟩ = some (.string d2) := cell_at HYN.out 5
          have q0 : Nw.cell? ⟨ni, 0, none⟩ = some (.int .i64 48) := cell_at HBNw.out 0
          have q1 : Nw.cell? ⟨ni, 1, none⟩ = some (.int .i64 T) := cell_at HBNw.out 1
          have q2 : Nw.cell? ⟨ni, 2, none⟩ = some (.slice qa D2.length qcap) := cell_at HBNw.out 2
          have q3 : Nw.cell? ⟨ni, 3, none⟩ = some (.int .i64 r2) := cell_at HBNw.out 3
          have bf : ∀ i, Nw.frozen? ⟨B, i, none⟩ = false := free_at HBN.out
          have hnyi : u11.ownBlock ≠ some yi := fun e => HYI.out yi e rfl
          have hnni : u11.ownBlock ≠ some ni := fun e => HNI.out.2.2 ni e rfl
          have hrb0 := HRBN.out
          have hra0 : Nw.ownsRow V.heap.size 33 6 v6 (A.length + 1) (A.flatMap recC ++ recC ⟨k1, v1, o2, a2, g2, d2⟩) := HRAN.out
          have hsz0 : V.heap.size ≤ Nw.heap.size := HOG.out.size
          have c0 : Nw.cell? ⟨B, 0, none⟩ = some (.int .i64 48) := cell_at HBN.out 0
          have c1 : Nw.cell? ⟨B, 1, none⟩ = some (.int .i64 T) := cell_at HBN.out 1
          have c2 : Nw.cell? ⟨B, 2, none⟩ = some (.slice pa D.length pcap) := cell_at HBN.out 2
          have c3 : Nw.cell? ⟨B, 3, none⟩ = some (.int .i64 r2) := cell_at HBN.out 3
          have ooN := HOG.out
          have lyN := HYN.out
          have lnN := HBNw.out
          have lbN := HBN.out
          go_upto_region 14 with (fail)
          go_region_held3 (fun w' => w'.cell? ⟨yi, 0, none⟩ = some (.string k1) ∧ w'.cell? ⟨yi, 1, none⟩ = some (.int .u64 v1) ∧ w'.cell? ⟨yi, 2, none⟩ = some (.int .i64 o2) ∧ w'.cell? ⟨yi, 3, none⟩ = some (.int .i64 a2) ∧ w'.cell? ⟨yi, 4, none⟩ = some (.bool g2) ∧ w'.cell? ⟨yi, 5, none⟩ = some (.string d2) ∧ w'.cell? ⟨ni, 0, none⟩ = some (.int .i64 48) ∧ w'.cell? ⟨ni, 1, none⟩ = some (.int .i64 T) ∧ w'.cell? ⟨ni, 2, none⟩ = some (.slice qa D2.length qcap) ∧ w'.cell? ⟨ni, 3, none⟩ = some (.int .i64 r2))
            ((go_split_ands; refine ⟨?_, ?_, ?_, ?_, ?_, ?_, ?_, ?_, ?_, ?_⟩ <;> (repeat (first | (with_reducible assumption) | (with_reducible apply keepD) | (with_reducible apply keepN) | (with_reducible apply keepS HNI.out.1) | (with_reducible apply keepS HYI2.out)))))
            (first
              | (refine step_append_own rfl (.tmp 61) (.tmp 63) 82 82 rfl V.heap.size 35 j0 _ 6 64 Tryd.underlying82 hj0 jz0 jz1 jz2 rfl u11 OO.length (OO.flatMap recC) rfl ?_ _ 1 (recC ⟨k1, v1, o2, a2, g2, d2⟩) rfl (Src.ofSlice _ Tryd.underlying82 _ _ _ _ rfl (news_at (e := 35) ?_) (recC_one _)) ?_ ?_ ?_ ?_
                 · (repeat (first | (with_reducible assumption) | (with_reducible refine owns_dr ?_) | (with_reducible refine owns_al ?_ _)))
                 · (apply Eq.trans; (case h₁ => repeat (first | (with_reducible assumption) | (with_reducible exact heap_alloc_new _ _) | (with_reducible apply blk_new; (repeat (first | (with_reducible rfl) | (with_reducible apply sz_set) | (with_reducible apply sz_alloc) | (with_reducible apply sz_drew))); done) | (with_reducible apply blk_same) | (with_reducible apply blk_ne; case hn => (first | assumption | omega)) | (with_reducible apply blk_old) | (with_reducible apply blk_drew))); (case h₂ => rfl))
                 · have := HOL.out; unfold maxLen; omega
                 · have := HOL.out; omega
                 · first | assumption | (simp; omega)
                 intro va wa owna gra hva
                 have lya : wa.heap[yi]? = some (.cells #[.string k1, .int .u64 v1, .int .i64 o2, .int .i64 a2, .bool g2, .string d2] 35 (0, 0)) := by (refine blk_gr2 ?_ hnyi gra; (apply Eq.trans; (case h₁ => repeat (first | (with_reducible assumption) | (with_reducible exact heap_alloc_new _ _) | (with_reducible apply blk_new; (repeat (first | (with_reducible rfl) | (with_reducible apply sz_set) | (with_reducible apply sz_alloc) | (with_reducible apply sz_drew))); done) | (with_reducible apply blk_same) | (with_reducible apply blk_ne; case hn => (first | assumption | omega)) | (with_reducible apply blk_old) | (with_reducible apply blk_drew))); (case h₂ => rfl)))
                 have lna : wa.heap[ni]? = some (.cells #[.int .i64 48, .int .i64 T, .slice qa D2.length qcap, .int .i64 r2] 95 (0, 0)) := by (refine blk_gr2 ?_ hnni gra; (apply Eq.trans; (case h₁ => repeat (first | (with_reducible assumption) | (with_reducible exact heap_alloc_new _ _) | (with_reducible apply blk_new; (repeat (first | (with_reducible rfl) | (with_reducible apply sz_set) | (with_reducible apply sz_alloc) | (with_reducible apply sz_drew))); done) | (with_reducible apply blk_same) | (with_reducible apply blk_ne; case hn => (first | assumption | omega)) | (with_reducible apply blk_old) | (with_reducible apply blk_drew))); (case h₂ => rfl)))
                 have ya0 := cell_at lya 0; have ya1 := cell_at lya 1; have ya2 := cell_at lya 2; have ya3 := cell_at lya 3; have ya4 := cell_at lya 4; have ya5 := cell_at lya 5
                 have na0 := cell_at lna 0; have na1 := cell_at lna 1; have na2 := cell_at lna 2; have na3 := cell_at lna 3
                 simp at ya0 ya1 ya2 ya3 ya4 ya5 na0 na1 na2 na3
                 have lba : wa.heap[B]? = some (.cells #[.int .i64 48, .int .i64 T, .slice pa D.length pcap, .int .i64 r2] 95 (0, 0)) := by (refine blk_gr (e' := 35) (size' := 6) (base' := V.heap.size) (n' := OO.length) (xs' := OO.flatMap recC) ?_ ?_ (by decide) gra; (· (apply Eq.trans; (case h₁ => repeat (first | (with_reducible assumption) | (with_reducible exact heap_alloc_new _ _) | (with_reducible apply blk_new; (repeat (first | (with_reducible rfl) | (with_reducible apply sz_set) | (with_reducible apply sz_alloc) | (with_reducible apply sz_drew))); done) | (with_reducible apply blk_same) | (with_reducible apply blk_ne; case hn => (first | assumption | omega)) | (with_reducible apply blk_old) | (with_reducible apply blk_drew))); (case h₂ => rfl))); (· (repeat (first | (with_reducible assumption) | (with_reducible refine owns_dr ?_) | (with_reducible refine owns_al ?_ _)))))
                 have baf := free_at lba
                 have ba0 := cell_at lba 0; have ba1 := cell_at lba 1; have ba2 := cell_at lba 2; have ba3 := cell_at lba 3
                 simp at ba0 ba1 ba2 ba3
                 have hbsa : B < wa.heap.size := lt_of_block lba
                 have ooa : Only (fun i => i = B) V wa := by (refine Only.grown ?_ gra (fun j e => .inl (hrb0.lt j e).1); (repeat (first | (with_reducible assumption) | (with_reducible refine Only.drew ?_) | (with_reducible refine Only.alloc ?_ _))))
                 have rra : wa.ownsRow V.heap.size 33 6 v6 (A.length + 1) (A.flatMap recC ++ recC ⟨k1, v1, o2, a2, g2, d2⟩) := by (refine owns_gr (e' := 35) (size' := 6) (base' := V.heap.size) (n' := OO.length) (xs' := OO.flatMap recC) ?_ ?_ (by decide) gra; (· (repeat (first | (with_reducible assumption) | (with_reducible refine owns_dr ?_) | (with_reducible refine owns_al ?_ _)))); (· (repeat (first | (with_reducible assumption) | (with_reducible refine owns_dr ?_) | (with_reducible refine owns_al ?_ _)))))
                 have hsa : RSl wa (.slice qa D2.length qcap) D2 := by (refine rsl_grown (Sl.new HSN.out ?_) HA11C.out gra; (repeat (first | (with_reducible assumption) | (with_reducible exact Only.refl _ _) | (with_reducible refine Only.drew ?_) | (with_reducible refine Only.alloc ?_ _) | (with_reducible refine onlySet ?_ (by first | (with_reducible assumption) | omega) _) | (with_reducible refine Only.trans ?_ (by with_reducible assumption)))))
                 have hapa : ApartR (.slice qa D2.length qcap) D2 va := by (refine apartR_next (Sl.new HSN.out ?_) HA11C.out hva; (repeat (first | (with_reducible assumption) | (with_reducible exact Only.refl _ _) | (with_reducible refine Only.drew ?_) | (with_reducible refine Only.alloc ?_ _) | (with_reducible refine onlySet ?_ (by first | (with_reducible assumption) | omega) _) | (with_reducible refine Only.trans ?_ (by with_reducible assumption)))))))
          all_goals (
            clear y0 y1 y2 y3 y4 y5 q0 q1 q2 q3 c0 c1 c2 c3 ya0 ya1 ya2 ya3 ya4 ya5 na0 na1 na2 na3
            go_wp2_with fail
            go_roundg (40 - (k + 1))
            case measure => rw [Hg.out]; omega
            case rel =>
              have hnB : ∀ i x, wa.cell? ⟨B, i, none⟩ ≠ some (.string x) := rst_noStr (.inr ⟨_, rfl⟩) lba
              refine ⟨k + 1, .slice qa D2.length qcap, by go_num, by omega, by omega, ?_, ?_, ?_, ?_, ?_, ?_, ?_, rfl⟩
              · (repeat (first | (with_reducible assumption) | (with_reducible exact Only.refl _ _) | (with_reducible refine Only.drew ?_) | (with_reducible refine onlyPut ?_ _)))
              · unfold RecRow
                rw [HTS.out, List.length_append, List.flatMap_append, List.flatMap_singleton]
                refine owns_typ rra lba (by decide) ?_
                (repeat (first | (with_reducible assumption) | (with_reducible exact Only.refl _ _) | (with_reducible refine Only.drew ?_) | (with_reducible refine onlyPut ?_ _)))
              · rw [HTS.out, HT2.out, if_pos HEE.out]
                unfold RRow
                rw [List.length_append, List.flatMap_append, List.flatMap_singleton]
                refine owns_typ owna lba (by decide) ?_
                (repeat (first | (with_reducible assumption) | (with_reducible exact Only.refl _ _) | (with_reducible refine Only.drew ?_) | (with_reducible refine onlyPut ?_ _)))
              · (apply Eq.trans; (case h₁ => repeat (first | (with_reducible assumption) | (with_reducible exact heap_alloc_new _ _) | (with_reducible apply blk_new; (repeat (first | (with_reducible rfl) | (with_reducible apply sz_set) | (with_reducible apply sz_alloc) | (with_reducible apply sz_drew))); done) | (with_reducible apply blk_same) | (with_reducible apply blk_ne; case hn => (first | assumption | omega)) | (with_reducible apply blk_old) | (with_reducible apply blk_drew))); (case h₂ => rfl))
              · rw [HTS.out, HT1.out]
                refine rsl_kept hsa (S := fun i => i = B) ?_ (fun g e => by subst e; exact hnB)
                (repeat (first | (with_reducible assumption) | (with_reducible exact Only.refl _ _) | (with_reducible refine Only.drew ?_) | (with_reducible refine onlyPut ?_ _)))
              · rw [HTS.out, HT1.out]
                exact HA10C.out
              · rw [HTS.out, HT1.out]
                exact hapa)
        · -- no
          have hEb : (E == 0) = false := by simpa using hE
          have HD := Lib.hid (HPEN.out hE)
          have HEE := Lib.hid hE
          go_wp2_with fail
          go_roundg (40 - (k + 1))
          case measure => rw [Hg.out]; omega
          case rel =>
            refine ⟨k + 1, _, by go_num, by omega, by omega, HOG.out, ?_, ?_, HBN.out, ?_, ?_, ?_, rfl⟩
            · unfold RecRow
              rw [HTS.out, List.length_append, List.flatMap_append, List.flatMap_singleton]
              exact HRAN.out
            · rw [HTS.out, HT2.out, if_neg HEE.out, List.append_nil]
              exact HRBN.out
            · rw [HTS.out, HT1.out, HD.out]
              exact HVSN.out
            · rw [HTS.out, HT1.out, HD.out]
              exact HA10B.out
            · rw [HTS.out, HT1.out, HD.out]
              exact HA11.out
      · have HE := Lib.hid (recsL_end (l := o) hk hk40 hlt)
        rcases (by omega : (¬ (k : Int) < (o.length : Int)) ∨ ((k : Int) < (o.length : Int) ∧ ¬ (k : Int) < 40)) with e1 | ⟨e1, e2⟩
        all_goals
          clear hlt
          go_wp2_with fail
          go_meet
          exact ⟨HO2.out, by rw [← HE.out]; exact HRA.out, by rw [← HE.out]; exact HRB.out, by rw [← HE.out]; exact ⟨vs, HBB.out, HVS.out⟩⟩
  case rest =>
  obtain ⟨hoz, hrz10, hrz11, hrst⟩ := hcut
  generalize wc = wz at *
  obtain ⟨vs, hbz, hvz⟩ := hrst.out
  have hord := HBS.out
  have hstz := HST.out.kept hoz (by omega) (by omega)
  have hmz := hoz.cell HM3.out (fun e => by have h9 : 0 = B := e; omega)
  have hAl : (recsL o 40).length ≤ 40 := recsL_len o 40
  have hxA := recsL_mem (k := 40) HO.out
  have hagA : AgeOk (recsL o 40) := fun x hx => by
    unfold recsL at hx
    obtain ⟨a, _, rfl⟩ := List.mem_map.1 hx
    show _ ≤ ((a.age % 120 : Nat) : Int) ∧ ((a.age % 120 : Nat) : Int) ≤ _
    omega
  have hOl : (takeO 48 T L (recsL o 40)).length ≤ 40 := Nat.le_trans (takeO_len 48 T _ L) hAl
  generalize recsL o 40 = A at *
  have htk := take_any wz s b 48 T r L hstz m hmz ⟨hord.2.2.2.1, hord.2.2.2.2.1⟩ _ A (Sl.of_owns hrz10) (RecBlk.of_row hrz10) (by omega) hxA hr0 (by omega)
  obtain ⟨ra, rcap, rfl, _, rc1, _⟩ := Sl.cells recC_length (Sl.of_owns hrz10)
  obtain ⟨wa, wcap, rfl, _, wc1, _⟩ := Sl.cells recC_length (Sl.of_owns hrz11)
  obtain ⟨sa, scap, rfl, _, sc1, _⟩ := Sl.cells recC_length hvz
  unfold maxLen at rc1 wc1 sc1
  have hns := hstz.noStr
  have hVB : w.heap.size ≤ V.heap.size := HOA.out.size
  have hoN : Only (fun _ => False) w wz := HOA.out.tr hoz (fun i hi e => by have h9 : i = B := e; omega)
  have HTK := Lib.hid htk
  have HSTZ := Lib.hid hstz
  have HRZ10 := Lib.hid hrz10
  have HRZ11 := Lib.hid hrz11
  have HBZ := Lib.hid hbz
  have HVZ := Lib.hid hvz
  have HNS := Lib.hid hns
  have HON := Lib.hid hoN
  have HAGA := Lib.hid hagA
  clear htk hstz hrz10 hrz11 hbz hvz hns hoN hagA
  clear hoz hrst hmz HST HM3 HOA HSL HBV HU3
  go_wp2_with fail
  refine HTK.out.mono ?_
  rintro e w3 ⟨v16, rfl, ho3, hrow3, r5, _, _, hst3⟩
  obtain ⟨ga, gcap, rfl, _, gc1, hgC⟩ := Sl.cells recC_length (Sl.of_owns hrow3)
  unfold maxLen at gc1
  have hr10 := owns_only HRZ10.out ho3 (fun i hi e => by have h9 : i = s ∨ i = b := e; omega)
  have hr11 := owns_only HRZ11.out ho3 (fun i hi e => by have h9 : i = s ∨ i = b := e; omega)
  have hb3 := ho3.old HBZ.out (by omega)
  have hv3 := rsl_kept HVZ.out ho3 HNS.out
  have hoO : Only (fun _ => False) w w3 := HON.out.tr ho3 (fun i hi e => by have h9 : i = s ∨ i = b := e; omega)
  obtain ⟨_, _, he, _, _, hwC⟩ := Sl.cells recC_length (Sl.of_owns hr11)
  cases he
  generalize takeO 48 T L A = OO at *
  generalize takeS 48 T L A = D at *
  have HST3 := Lib.hid hst3
  have HR10 := Lib.hid hr10
  have HGC := Lib.hid hgC
  have HWC := Lib.hid hwC
  have HB3 := Lib.hid hb3
  have HV3 := Lib.hid hv3
  have HOO := Lib.hid hoO
  clear hst3 hr10 hgC hwC hb3 hv3 hoO
  clear ho3 hrow3 hr11 HTK HSTZ HRZ10 HRZ11 HBZ HVZ HNS HON
  go_upto_block 2 with fail
  go_cut [17] (fun _ wx => Only (fun _ => False) w3 wx)
  case first =>
    go_wp2_with fail
    go_loopg [17] OO.length (fun g v17 wr => ∃ k : Nat, v17 = .int .i64 k ∧ k ≤ OO.length ∧ Only (fun _ => False) w3 wr ∧ g = OO.length - k)
    case atStart => exact ⟨0, rfl, Nat.zero_le _, Only.refl _ _, rfl⟩
    case round =>
      obtain ⟨k, rfl, hk, ho, hg⟩ := hrel
      have Hg := Lib.hid hg
      clear hg
      clear HO
      have HO := Lib.hid ho
      clear ho
      by_cases hlt : k < OO.length
      · obtain ⟨rb, roff, he, hrc⟩ := HGC.out.at k hlt
        subst he
        obtain ⟨sb, soff, he, hsc⟩ := HWC.out.at k hlt
        subst he
        have hcr : ∀ i' u, (recC OO[k])[i']? = some u → wr.cell? ⟨rb, roff + k * 6 + i', none⟩ = some u := fun i' u hu => HO.out.cell (hrc i' u hu) id
        have hcs : ∀ i' u, (recC OO[k])[i']? = some u → wr.cell? ⟨sb, soff + k * 6 + i', none⟩ = some u := fun i' u hu => HO.out.cell (hsc i' u hu) id
        have HTO := Lib.hid (fun w => told16_any w OO[k])
        generalize OO[k] = z at *
        obtain ⟨k1, v1, o1, a1, g1, d1⟩ := z
        unfold recT at HTO
        simp only at HTO
        have p0 := hcr 0 _ rfl
        have p1 := hcr 1 _ rfl
        have p2 := hcr 2 _ rfl
        have p3 := hcr 3 _ rfl
        have p4 := hcr 4 _ rfl
        have p5 := hcr 5 _ rfl
        have q0 := hcs 0 _ rfl
        have q1 := hcs 1 _ rfl
        have q2 := hcs 2 _ rfl
        have q3 := hcs 3 _ rfl
        have q4 := hcs 4 _ rfl
        have q5 := hcs 5 _ rfl
        simp only [Nat.add_zero] at p0 q0
        simp only at p0 p1 p2 p3 p4 p5 q0 q1 q2 q3 q4 q5
        clear hcr hcs hrc hsc
        have hlt' : (k : Int) < (OO.length : Int) := by omega
        have hk0 : (0 : Int) ≤ (k : Int) := by omega
        have hne : ∀ w, (binOp BinOp.neq 33 (.agg #[.string k1, .int .u64 v1, .int .i64 o1, .int .i64 a1, .bool g1, .string d1]) (.agg #[.string k1, .int .u64 v1, .int .i64 o1, .int .i64 a1, .bool g1, .string d1])).run Tryd.prog w = .ok (.bool false) w := fun w => by
          rw [neR]
          simp
        have HCC : ∀ w', Only (fun _ => False) wr w' → w'.cell? ⟨rb, roff + k * 6, none⟩ = some (.string k1) ∧ w'.cell? ⟨rb, roff + k * 6 + 1, none⟩ = some (.int .u64 v1) ∧ w'.cell? ⟨rb, roff + k * 6 + 2, none⟩ = some (.int .i64 o1) ∧ w'.cell? ⟨rb, roff + k * 6 + 3, none⟩ = some (.int .i64 a1) ∧ w'.cell? ⟨rb, roff + k * 6 + 4, none⟩ = some (.bool g1) ∧ w'.cell? ⟨rb, roff + k * 6 + 5, none⟩ = some (.string d1) ∧ w'.cell? ⟨sb, soff + k * 6, none⟩ = some (.string k1) ∧ w'.cell? ⟨sb, soff + k * 6 + 1, none⟩ = some (.int .u64 v1) ∧ w'.cell? ⟨sb, soff + k * 6 + 2, none⟩ = some (.int .i64 o1) ∧ w'.cell? ⟨sb, soff + k * 6 + 3, none⟩ = some (.int .i64 a1) ∧ w'.cell? ⟨sb, soff + k * 6 + 4, none⟩ = some (.bool g1) ∧ w'.cell? ⟨sb, soff + k * 6 + 5, none⟩ = some (.string d1) := fun w' h => ⟨h.cell p0 id, h.cell p1 id, h.cell p2 id, h.cell p3 id, h.cell p4 id, h.cell p5 id, h.cell q0 id, h.cell q1 id, h.cell q2 id, h.cell q3 id, h.cell q4 id, h.cell q5 id⟩
        have HC0 := Lib.hid HCC
        clear HCC
        go_upto_region 21 with (fail)
        go_cut [88] (fun v88 wx => v88 = .bool false ∧ Only (fun _ => False) wr wx)
        case first =>
          go_region_held3 (fun w' => Only (fun _ => False) wr w' ∧ w'.cell? ⟨rb, roff + k * 6, none⟩ = some (.string k1) ∧ w'.cell? ⟨rb, roff + k * 6 + 1, none⟩ = some (.int .u64 v1) ∧ w'.cell? ⟨rb, roff + k * 6 + 2, none⟩ = some (.int .i64 o1) ∧ w'.cell? ⟨rb, roff + k * 6 + 3, none⟩ = some (.int .i64 a1) ∧ w'.cell? ⟨rb, roff + k * 6 + 4, none⟩ = some (.bool g1) ∧ w'.cell? ⟨rb, roff + k * 6 + 5, none⟩ = some (.string d1) ∧ w'.cell? ⟨sb, soff + k * 6, none⟩ = some (.string k1) ∧ w'.cell? ⟨sb, soff + k * 6 + 1, none⟩ = some (.int .u64 v1) ∧ w'.cell? ⟨sb, soff + k * 6 + 2, none⟩ = some (.int .i64 o1) ∧ w'.cell? ⟨sb, soff + k * 6 + 3, none⟩ = some (.int .i64 a1) ∧ w'.cell? ⟨sb, soff + k * 6 + 4, none⟩ = some (.bool g1) ∧ w'.cell? ⟨sb, soff + k * 6 + 5, none⟩ = some (.string d1))
            ((go_split_ands; (refine heldO HC0.out ?_); (repeat (first | (with_reducible assumption) | (with_reducible exact Only.refl _ _) | (with_reducible refine Only.drew ?_) | (with_reducible refine Only.alloc ?_ _) | (with_reducible refine onlySet ?_ (by first | (with_reducible assumption) | omega) _) | (with_reducible refine Only.trans ?_ (by with_reducible assumption))))))
            (first
              | (go_at_call 60; (with_reducible refine (HTO.out _).mono ?_); rintro e w6 ⟨rfl, ho6⟩))
          all_goals
            go_split_ands
            go_wp2_with fail
            go_meet
            exact ⟨rfl, by (repeat (first | (with_reducible assumption) | (with_reducible exact Only.refl _ _) | (with_reducible refine Only.drew ?_) | (with_reducible refine Only.alloc ?_ _) | (with_reducible refine onlySet ?_ (by first | (with_reducible assumption) | omega) _) | (with_reducible refine Only.trans ?_ (by with_reducible assumption))))⟩
        case rest =>
        obtain ⟨rfl, hoz⟩ := hcut
        have hoB := HO.out.trans hoz
        have HOB := Lib.hid hoB
        clear hoB
        clear hoz p0 p1 p2 p3 p4 p5 q0 q1 q2 q3 q4 q5 hne
        go_wp2_with fail
        go_roundg (OO.length - (k + 1))
        case measure => rw [Hg.out]; omega
        case rel => exact ⟨k + 1, by go_num, by omega, HOB.out, rfl⟩
      · have hlt' : ¬ (k : Int) < (OO.length : Int) := by omega
        go_wp2_with fail
        go_meet
        exact HO.out
  case rest =>
  generalize wc = w4 at *
  have hst4 := HST3.out.new hcut
  have hr10 := owns_only HR10.out hcut (fun _ _ => id)
  have hb4 := hcut.old HB3.out id
  have hv4 := HV3.out.new hcut
  have hoP := HOO.out.trans hcut
  have hall := sall_any w4 s b 48 T r5 D hst4
  have hDl := hst4.ok.len
  have hkD := hst4.ok.keys
  have HST4 := Lib.hid hst4
  have HR104 := Lib.hid hr10
  have HB4 := Lib.hid hb4
  have HV4 := Lib.hid hv4
  have HOP := Lib.hid hoP
  have HALL := Lib.hid hall
  have HKD := Lib.hid hkD
  clear hst4 hr10 hb4 hv4 hoP hall hkD
  clear hcut HST3 HR10 HGC HWC HB3 HV3 HOO
  go_wp2_with fail
  refine HALL.out.mono ?_
  rintro e w5 ⟨v18, rfl, ho5, hrow5⟩
  obtain ⟨la, lcap, rfl, _, lc1, hlC⟩ := Sl.cells recC_length (Sl.of_owns hrow5)
  unfold maxLen at lc1
  have hst5 := HST4.out.new ho5
  have hr10 := owns_only HR104.out ho5 (fun _ _ => id)
  have hb5 := ho5.old HB4.out id
  have hv5 := HV4.out.new ho5
  have hoQ := HOP.out.trans ho5
  obtain ⟨_, _, he, _, _, hsC⟩ := Sl.cells recC_length hv5
  cases he
  have x2 : w5.cell? ⟨B, 2, none⟩ = some (.slice sa D.length scap) := cell_at hb5 2
  have HST5 := Lib.hid hst5
  have HR105 := Lib.hid hr10
  have HLC := Lib.hid hlC
  have HSC := Lib.hid hsC
  have HOQ := Lib.hid hoQ
  have HX2 := Lib.hid x2
  clear hst5 hr10 hlC hsC hoQ x2
  clear ho5 hrow5 hb5 hv5 HST4 HR104 HB4 HV4 HOP HALL
  have x2 := HX2.out
  go_upto_block 4 with fail
  go_cut [19] (fun _ wx => Only (fun _ => False) w5 wx)
  case first =>
    clear x2
    go_wp2_with fail
    go_loopg [19] D.length (fun g v19 wr => ∃ k : Nat, v19 = .int .i64 k ∧ k ≤ D.length ∧ Only (fun _ => False) w5 wr ∧ g = D.length - k)
    case atStart => exact ⟨0, rfl, Nat.zero_le _, Only.refl _ _, rfl⟩
    case round =>
      obtain ⟨k, rfl, hk, ho, hg⟩ := hrel
      have Hg := Lib.hid hg
      clear hg
      clear HO
      have HO := Lib.hid ho
      clear ho
      by_cases hlt : k < D.length
      · obtain ⟨rb, roff, he, hrc⟩ := HLC.out.at k hlt
        subst he
        obtain ⟨sb, soff, he, hsc⟩ := HSC.out.at k hlt
        subst he
        have hcr : ∀ i' u, (recC D[k])[i']? = some u → wr.cell? ⟨rb, roff + k * 6 + i', none⟩ = some u := fun i' u hu => HO.out.cell (hrc i' u hu) id
        have hcs : ∀ i' u, (recC D[k])[i']? = some u → wr.cell? ⟨sb, soff + k * 6 + i', none⟩ = some u := fun i' u hu => HO.out.cell (hsc i' u hu) id
        have HTO := Lib.hid (fun w => told16_any w D[k])
        generalize D[k] = z at *
        obtain ⟨k1, v1, o1, a1, g1, d1⟩ := z
        unfold recT at HTO
        simp only at HTO
        have p0 := hcr 0 _ rfl
        have p1 := hcr 1 _ rfl
        have p2 := hcr 2 _ rfl
        have p3 := hcr 3 _ rfl
        have p4 := hcr 4 _ rfl
        have p5 := hcr 5 _ rfl
        have q0 := hcs 0 _ rfl
        have q1 := hcs 1 _ rfl
        have q2 := hcs 2 _ rfl
        have q3 := hcs 3 _ rfl
        have q4 := hcs 4 _ rfl
        have q5 := hcs 5 _ rfl
        simp only [Nat.add_zero] at p0 q0
        simp only at p0 p1 p2 p3 p4 p5 q0 q1 q2 q3 q4 q5
        clear hcr hcs hrc hsc
        have hlt' : (k : Int) < (D.length : Int) := by omega
        have hk0 : (0 : Int) ≤ (k : Int) := by omega
        have hne : ∀ w, (binOp BinOp.neq 33 (.agg #[.string k1, .int .u64 v1, .int .i64 o1, .int .i64 a1, .bool g1, .string d1]) (.agg #[.string k1, .int .u64 v1, .int .i64 o1, .int .i64 a1, .bool g1, .string d1])).run Tryd.prog w = .ok (.bool false) w := fun w => by
          rw [neR]
          simp
        have x2 := HO.out.cell HX2.out id
        have HCC : ∀ w', Only (fun _ => False) wr w' → w'.cell? ⟨B, 2, none⟩ = some (.slice (some ⟨sb, soff, none⟩) D.length scap) ∧ w'.cell? ⟨rb, roff + k * 6, none⟩ = some (.string k1) ∧ w'.cell? ⟨rb, roff + k * 6 + 1, none⟩ = some (.int .u64 v1) ∧ w'.cell? ⟨rb, roff + k * 6 + 2, none⟩ = some (.int .i64 o1) ∧ w'.cell? ⟨rb, roff + k * 6 + 3, none⟩ = some (.int .i64 a1) ∧ w'.cell? ⟨rb, roff + k * 6 + 4, none⟩ = some (.bool g1) ∧ w'.cell? ⟨rb, roff + k * 6 + 5, none⟩ = some (.string d1) ∧ w'.cell? ⟨sb, soff + k * 6, none⟩ = some (.string k1) ∧ w'.cell? ⟨sb, soff + k * 6 + 1, none⟩ = some (.int .u64 v1) ∧ w'.cell? ⟨sb, soff + k * 6 + 2, none⟩ = some (.int .i64 o1) ∧ w'.cell? ⟨sb, soff + k * 6 + 3, none⟩ = some (.int .i64 a1) ∧ w'.cell? ⟨sb, soff + k * 6 + 4, none⟩ = some (.bool g1) ∧ w'.cell? ⟨sb, soff + k * 6 + 5, none⟩ = some (.string d1) := fun w' h => ⟨h.cell x2 id, h.cell p0 id, h.cell p1 id, h.cell p2 id, h.cell p3 id, h.cell p4 id, h.cell p5 id, h.cell q0 id, h.cell q1 id, h.cell q2 id, h.cell q3 id, h.cell q4 id, h.cell q5 id⟩
        have HC0 := Lib.hid HCC
        clear HCC
        go_upto_region 29 with (fail)
        go_cut [113] (fun v113 wx => v113 = .bool false ∧ Only (fun _ => False) wr wx)
        case first =>
          go_region_held3 (fun w' => Only (fun _ => False) wr w' ∧ w'.cell? ⟨B, 2, none⟩ = some (.slice (some ⟨sb, soff, none⟩) D.length scap) ∧ w'.cell? ⟨rb, roff + k * 6, none⟩ = some (.string k1) ∧ w'.cell? ⟨rb, roff + k * 6 + 1, none⟩ = some (.int .u64 v1) ∧ w'.cell? ⟨rb, roff + k * 6 + 2, none⟩ = some (.int .i64 o1) ∧ w'.cell? ⟨rb, roff + k * 6 + 3, none⟩ = some (.int .i64 a1) ∧ w'.cell? ⟨rb, roff + k * 6 + 4, none⟩ = some (.bool g1) ∧ w'.cell? ⟨rb, roff + k * 6 + 5, none⟩ = some (.string d1) ∧ w'.cell? ⟨sb, soff + k * 6, none⟩ = some (.string k1) ∧ w'.cell? ⟨sb, soff + k * 6 + 1, none⟩ = some (.int .u64 v1) ∧ w'.cell? ⟨sb, soff + k * 6 + 2, none⟩ = some (.int .i64 o1) ∧ w'.cell? ⟨sb, soff + k * 6 + 3, none⟩ = some (.int .i64 a1) ∧ w'.cell? ⟨sb, soff + k * 6 + 4, none⟩ = some (.bool g1) ∧ w'.cell? ⟨sb, soff + k * 6 + 5, none⟩ = some (.string d1))
            ((go_split_ands; (refine heldO HC0.out ?_); (repeat (first | (with_reducible assumption) | (with_reducible exact Only.refl _ _) | (with_reducible refine Only.drew ?_) | (with_reducible refine Only.alloc ?_ _) | (with_reducible refine onlySet ?_ (by first | (with_reducible assumption) | omega) _) | (with_reducible refine Only.trans ?_ (by with_reducible assumption))))))
            (first
              | (go_at_call 60; (with_reducible refine (HTO.out _).mono ?_); rintro e w6 ⟨rfl, ho6⟩))
          all_goals
            go_split_ands
            go_wp2_with fail
            go_meet
            exact ⟨rfl, by (repeat (first | (with_reducible assumption) | (with_reducible exact Only.refl _ _) | (with_reducible refine Only.drew ?_) | (with_reducible refine Only.alloc ?_ _) | (with_reducible refine onlySet ?_ (by first | (with_reducible assumption) | omega) _) | (with_reducible refine Only.trans ?_ (by with_reducible assumption))))⟩
        case rest =>
        obtain ⟨rfl, hoz⟩ := hcut
        have hoB := HO.out.trans hoz
        have HOB := Lib.hid hoB
        clear hoB
        clear hoz p0 p1 p2 p3 p4 p5 q0 q1 q2 q3 q4 q5 hne x2
        go_wp2_with fail
        go_roundg (D.length - (k + 1))
        case measure => rw [Hg.out]; omega
        case rel => exact ⟨k + 1, by go_num, by omega, HOB.out, rfl⟩
      · have hlt' : ¬ (k : Int) < (D.length : Int) := by omega
        go_wp2_with fail
        go_meet
        exact HO.out
  case rest =>
  generalize wc = w6 at *
  have hst6 := HST5.out.new hcut
  have hr10 := owns_only HR105.out hcut (fun _ _ => id)
  have hoR := HOQ.out.trans hcut
  have htn := take_nil w6 _ A (Sl.of_owns hr10)
  have HST6 := Lib.hid hst6
  have HR106 := Lib.hid hr10
  have HOR := Lib.hid hoR
  have HTN := Lib.hid htn
  clear hst6 hr10 hoR htn
  clear hcut HST5 HR105 HOQ HLC HSC HX2 x2
  go_wp2_with fail
  refine HTN.out.mono ?_
  rintro e w7 ⟨rfl, ho7⟩
  have hst7 := HST6.out.new ho7
  have hpn := pack_any w7 _ 0 9 _ A (ttl_nil w7) ((Sl.of_owns HR106.out).new ho7) (by omega) HAGA.out
  rw [sent_none, pack_none] at hpn
  have hoS := HOR.out.trans ho7
  have HST7 := Lib.hid hst7
  have HPN := Lib.hid hpn
  have HOS := Lib.hid hoS
  clear hst7 hpn hoS
  clear ho7 HST6 HR106 HOR HTN
  go_wp2_with fail
  refine HPN.out.mono ?_
  rintro e w8 ⟨v8, rfl, ho8, hrow8⟩
  obtain ⟨P8, hP8, hown8, _⟩ := hrow8.out
  obtain rfl : P8 = [] := List.map_eq_nil_iff.1 hP8
  obtain ⟨a8, c8, rfl, _⟩ := Sl.cells cellsM_length (Sl.of_owns hown8)
  have hst8 := HST7.out.new ho8
  have hoT := HOS.out.trans ho8
  have hid8 := sids_any w8 s b 48 T r5 D hst8
  have HST8 := Lib.hid hst8
  have HOT := Lib.hid hoT
  have HID8 := Lib.hid hid8
  clear hst8 hoT hid8
  clear ho8 hrow8 hown8 HST7 HPN HOS hP8
  go_wp2_with fail
  refine HID8.out.mono ?_
  rintro e w9 ⟨v9, rfl, ho9, hrow9⟩
  have hst9 := HST8.out.new ho9
  have hoU := HOT.out.trans ho9
  have hi9 : ISl w9 v9 (D.map toId) := by
    have := Sl.of_owns hrow9
    unfold ISl
    rw [ids_fl, List.length_map]
    exact this
  have hgv := give_any w9 _ 0 9 [] (ttl_nil w9) (gets_nil w9) (fun x hx => by cases hx) v9 (D.map toId) hi9 (by simp; omega) (fun p hp => by
    obtain ⟨x, hx, rfl⟩ := List.mem_map.1 hp
    exact HKD.out x hx)
  rw [give_none, sent_none, pack_none] at hgv
  have HST9 := Lib.hid hst9
  have HOU := Lib.hid hoU
  have HGV := Lib.hid hgv
  clear hst9 hoU hgv
  clear ho9 hrow9 hi9 HST8 HOT HID8
  go_wp2_with fail
  refine HGV.out.mono ?_
  rintro e wa ⟨va', rfl, hoa, hrowa⟩
  obtain ⟨Pa, hPa, howna, _⟩ := hrowa.out
  obtain rfl : Pa = [] := List.map_eq_nil_iff.1 hPa
  obtain ⟨aa, ca, rfl, _⟩ := Sl.cells cellsM_length (Sl.of_owns howna)
  have hsta := HST9.out.new hoa
  have hoV := HOU.out.trans hoa
  have haska := dask_any wa s b 48 T r5 D hsta
  have HOV := Lib.hid hoV
  have HASKA := Lib.hid haska
  clear hoV haska
  clear hoa hrowa howna HST9 HGV HOU hPa
  go_wp2_with fail
  refine HASKA.out.mono ?_
  rintro e wb ⟨vb, rfl, hob, hqb⟩
  have han := answer_nil wb vb _ hqb
  have hoW := HOV.out.trans hob
  have HAN := Lib.hid han
  have HOW := Lib.hid hoW
  clear han hoW
  clear hob hqb HOV HASKA
  go_wp2_with fail
  refine HAN.out.mono ?_
  rintro e wd ⟨rfl, hod⟩
  have hoX := HOW.out.trans hod
  have hfm : ∀ w, (Instr.field 59 (.agg #[.int .i64 13, .int .i64 0, .int .i64 0, .bool false, .slice none 0 0, .slice none 0 0, .slice none 0 0]) 5).run Tryd.prog w = .ok (.slice none 0 0) w := fun w => by kernel_rfl
  have HOX := Lib.hid hoX
  clear hoX
  clear hod HOW HAN
  go_wp2_with fail
  refine (dask_nil wd).mono ?_
  rintro e we ⟨rfl, hoe⟩
  have hoY := HOX.out.trans hoe
  have HOY := Lib.hid hoY
  clear hoY
  clear hoe
  go_wp2_with fail
  go_ret
  exact ⟨rfl, HOY.out⟩
end Go.Proofs.YtianboachknfmaaDoor
/-! DigestTakes is true of every input: of any records that a store takes just those are told that were new, and the store holds what the reference holds then; no store answers nothing. No condition; the package variables that it names are tied to the text. -/
namespace Go.Proofs.YtianboachknfmaaDoor.takesLaw
open Go.Conc Go.RowKit Go.ChangeShapes Go.WideShapes Go.ChangeAt Go.ChangeMaps

theorem reads : ∀ t ∈ Tryd.f10.params.toList, Tryd.prog.readableRec t = true ∧ t < Tryd.prog.types.size := by
  intro t ht
  have h1 : ([108, 108, 5].all fun u => Tryd.prog.readableRec u && decide (u < Tryd.prog.types.size)) = true := by kernel_rfl
  rw [Tryd.params10] at ht
  have := List.all_eq_true.1 h1 t ht
  simpa using this
set_option maxRecDepth 100000 in
theorem lifted (os : Os) (started : os.Started) (H : Type) (enc : TypeId × Value → H) :
    ReturnsInHanded {} Tryd.checked os 10 .any (fun w args => (Rows.digestTakesSpec.pre enc Tryd.prog Tryd.f10 Rows.digestTakesRow.domain false w args ∧ laidMetH Tryd.prog Rows.digestTakesRow.laid w) ∧ sizedMet enc Tryd.prog Tryd.f10 (OpenSpec.ofChange Rows.digestTakesSpec) false w args)
      (Rows.digestTakesSpec.post enc Tryd.prog Tryd.f10 false true false false) := by
  refine returns_laid (C := Tryd.checked) (X := fun w _ => laidMetH Tryd.prog Rows.digestTakesRow.laid w) (fun _ _ _ hh h => h.of_heap hh) ownD started (by kernel_rfl) Tryd.func10
    (ChangeSpec.witness_shaped (enc := enc) (C := Tryd.checked) (os := os) (X := fun w _ => laidMetH Tryd.prog Rows.digestTakesRow.laid w) false (World.laidAll Tryd.prog os Rows.digestTakesRow.laid) #[.slice none 0 0, .slice none 0 0, .int .u8 0] 8 (World.laidAll_os _ _ _)
      (World.shaped_of_ZipB (by kernel_rfl) (by kernel_rfl)) (by kernel_rfl) (by kernel_rfl) (by kernel_rfl)
      (by rw [MakeChecks.laidMetH_plain _ _ _ (by kernel_rfl)]; exact laidMet_laidAll _ (by kernel_rfl) (by kernel_rfl))) ?_
  intro W base args ds gs before hval0 hW _ hsh
  have hval : ∀ (j : Nat) t v, Tryd.f10.params[j]? = some t → args[j]? = some v → Value.okWide Tryd.prog W .any base t v := hval0
  have hW' := hW
  obtain ⟨m0, hm0⟩ := maxLen_cell W hsh
  obtain ⟨p, q, hA0, hV, rfl, _, _⟩ := hW
  have hA : DataW.TrodAll enc Tryd.prog W 0 (fun _ => true) true Tryd.f10.params.toList args.toList ds p := hA0
  rw [Tryd.params10] at hA hval
  obtain ⟨v0, vs0, d0, ds0, p0, q0, hargs, rfl, rfl, h0, r0⟩ := trodAll_cons hA
  obtain ⟨v1, vs1, d1, ds1, p1, q1, rfl, rfl, rfl, h1, r1⟩ := trodAll_cons r0
  obtain ⟨v2, vs2, d2, ds2, p2, q2, rfl, rfl, rfl, h2, r2⟩ := trodAll_cons r1
  obtain ⟨rfl, rfl, rfl⟩ := trodAll_nil r2
  obtain rfl : args = #[v0, v1, v2] := by cases args; simp_all
  obtain ⟨x0, s0, b0⟩ := sl_recs16 (hval 0 108 v0 rfl rfl) h0
  obtain ⟨x1, s1, b1⟩ := sl_recs16 (hval 1 108 v1 rfl rfl) h1
  obtain ⟨x2, rfl, rfl, rfl, b2⟩ := open_int Tryd.underlying5 (hval 2 5 v2 rfl rfl) h2
  obtain ⟨n2, rfl, w2⟩ := nat_u8 b2
  obtain ⟨rfl, rfl⟩ := trodVars_none hV
  refine (takes16_any W m0 hm0 v0 x0 v1 x1 n2 s0 b0 s1 b1 w2).mono fun e W' ⟨he, ho⟩ => ?_
  subst he
  exact ⟨_, rfl, law_post hW' (ho.below (Nat.le_refl _) (fun _ _ => id)) laidOutD reads rfl Tryd.underlying4 rfl rfl rfl rfl⟩

theorem said : Rows.DigestTakesSaid :=
  OpenClaim.holds_of_wide 10 Tryd.f10 rfl rfl rfl rfl rfl rfl rfl ⟨rfl, rfl, rfl, rfl, rfl⟩ rfl rfl rfl rfl rfl (by kernel_rfl) Tryd.func10 (by kernel_rfl)
    (of_decide_eq_true (by kernel_rfl)) (by unfold Func.isWrapper; first | (rw [if_pos (by decide +kernel)]; kernel_rfl) | (rw [if_neg (by decide +kernel)]; exact ⟨rfl, rfl⟩))
    (fun os started H enc _ => lifted os started H enc)
theorem looks (f : FuncId) (fn : Func) (hf : Tryd.pinned.checked.prog.funcNamed "bellhop/bellhoplaw16.DigestTakes" = some f) (hfn : Tryd.pinned.checked.prog.funcs[f]? = some fn) :
    true = Tryd.pinned.checked.prog.looks [] ∧ ∀ (j : Nat) t, fn.params[j]? = some t → Tryd.pinned.checked.prog.wantsStandIn t = false := by
  obtain rfl : f = 10 := Option.some.inj ((show Tryd.prog.funcNamed "bellhop/bellhoplaw16.DigestTakes" = some 10 by kernel_rfl).symm.trans hf) |>.symm
  obtain rfl : fn = Tryd.f10 := (Option.some.inj (Tryd.func10.symm.trans hfn)).symm
  refine ⟨by kernel_rfl, fun j t ht => ?_⟩
  rw [Tryd.params10] at ht
  have hm : t ∈ [108, 108, 5] := by simpa using Array.mem_of_getElem? ht
  have hall : ([108, 108, 5].all fun u => !Tryd.prog.wantsStandIn u) = true := by kernel_rfl
  exact (show Tryd.prog.wantsStandIn t = false by simpa using List.all_eq_true.1 hall t hm)
theorem card : Rows.DigestTakesCardSaid :=
  Claim7.holds_tied_plain_at .later [] _ _ _ _ said (fun _ h => by cases h) (by kernel_rfl) (fun _ h => by cases h) digestTakes_row_tie rfl ⟨rfl, rfl⟩ (by kernel_rfl) rfl looks (by kernel_rfl)
#print axioms card
end Go.Proofs.YtianboachknfmaaDoor.takesLaw
