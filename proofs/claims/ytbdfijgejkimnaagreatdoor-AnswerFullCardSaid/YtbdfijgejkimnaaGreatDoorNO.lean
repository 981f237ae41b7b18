/- bellhoplaw25.speaks: the plain facts. -/
import Derived.Test.YtbdfijgejkimnaaGreatDoorNN
import Derived.Test.YtbdfijgejkimnaaGreatDoorNI
/-! reply.Parse. -/
namespace Go.Proofs.YtbdfijgejkimnaaGreatDoor
open Go.Conc Go.RowKit

theorem results_row4 {P : Program} {fn : Func} {p u v x y : Tmp} {ty : TypeId} (h : fn.results = #[.cell p ty, .tmp u, .tmp v, .tmp x, .tmp y]) (tmps : Array Value) (w : World) (g : Nat) (t : TypeId) (cs : Array Value) (fr : Nat × Nat) (d : TypeDesc)
    (hp : tmps.getD p undef = .pointer (some ⟨g, 0, none⟩)) (hg : w.heap[g]? = some (.cells cs t fr))
    (hu : P.underlying ty = some d) (hd : (match d with | .struct _ | .array _ _ => true | _ => false) = true) (hi : (P.info? ty).map (·.size) = some cs.size) (a b c e : Value) (ha : tmps.getD u undef = a) (hb : tmps.getD v undef = b) (hc : tmps.getD x undef = c) (he : tmps.getD y undef = e) :
    (results fn tmps).run P w = .ok (.tuple #[.agg cs, a, b, c, e]) w := by
  subst ha hb hc he
  simp only [results, h]
  have hp' : tmps[p]?.getD undef = .pointer (some ⟨g, 0, none⟩) := by simpa using hp
  simp [hp', asAddr, Result.andThen, run_loadVar_row w g t ty cs fr d hg hu hd hi]
theorem step_load_row {P : Program} {ops : Array Oper} {o : Oper} {a : Act} {w : World} {K : Act → World → Prop} {Q : Exit → Act → World → Prop} {E : Prop} (hgd : o.guard = none) (ty : TypeId) (x : Operand) (ho : o.op = .load ty x)
    (g : Nat) (hx : a.eval x = .pointer (some ⟨g, 0, none⟩)) (t : TypeId) (cs : Array Value) (fr : Nat × Nat) (d : TypeDesc) (hg : w.heap[g]? = some (.cells cs t fr))
    (hu : P.underlying ty = some d) (hd : (match d with | .struct _ | .array _ _ => true | _ => false) = true) (hi : (P.info? ty).map (·.size) = some cs.size)
    (h : K (a.put o.dst (.agg cs)) w) : if Region.wanted o (yielded ops a.tmps) = true then Oper.wp P o a w K Q else E := by
  rw [if_pos (by simp [Region.wanted, hgd])]
  exact wp_load_row ty x ho g hx t cs fr d hg hu hd hi h
theorem step_store_row {P : Program} {ops : Array Oper} {o : Oper} {a : Act} {w : World} {K : Act → World → Prop} {Q : Exit → Act → World → Prop} {E : Prop} (hgd : o.guard = none) (ty : TypeId) (x y : Operand) (ho : o.op = .store ty x y)
    (g : Nat) (cells : Array Value) (hx : a.eval x = .pointer (some ⟨g, 0, none⟩)) (hy : a.eval y = .agg cells)
    (t : TypeId) (old : Array Value) (hg : w.heap[g]? = some (.cells old t (0, 0))) (hi : (P.info? ty).map (·.size) = some cells.size)
    (hold : old.size = cells.size) (h1 : cells.all (·.oneCell') = true)
    (h : K (a.put o.dst undef) (w.setRow g cells)) : if Region.wanted o (yielded ops a.tmps) = true then Oper.wp P o a w K Q else E := by
  rw [if_pos (by simp [Region.wanted, hgd])]
  exact wp_store_row ty x y ho g cells hx hy t old hg hi hold h1 h
theorem exec_load_row {P : Program} {o : Oper} {ev : Operand → Value} {w : World} (ty : TypeId) (x : Operand) (ho : o.op = .load ty x)
    (g : Nat) (hx : ev x = .pointer (some ⟨g, 0, none⟩)) (t : TypeId) (cs : Array Value) (fr : Nat × Nat) (d : TypeDesc) (hg : w.heap[g]? = some (.cells cs t fr))
    (hu : P.underlying ty = some d) (hd : (match d with | .struct _ | .array _ _ => true | _ => false) = true) (hi : (P.info? ty).map (·.size) = some cs.size) :
    (execOp ev o).run P w = .ok (.value (.agg cs)) w := by
  unfold execOp
  simp only [ho, hx, Instr.loadAt, Instr.sureAddr, Sem.run_bind, Sem.run_pure, Result.andThen_ok, run_loadVar_row w g t ty cs fr d hg hu hd hi]
/-- What Parse hands on. -/
def ParseP (w w' : World) (q : QT) (code : Nat) (cut : Bool) (L : List RR) (e : Ending) : Prop :=
  ∃ v nv E, e = .returned (.tuple #[.agg (qC (hdQ q q.asked.toNat) q.asked nv q.typ q.cls).toArray, .int .i64 code, .bool cut, v, .int .i64 0]) ∧ Only (fun _ => False) w w' ∧ RpRow w' w.heap.size v E ∧ E.map (·.r) = L ∧ w'.ownsRow w.heap.size 9 1 nv q.name.length (q.name.map .string)
theorem hdQ_ok {q : QT} (ok : QTOk q) : HeadOk (hdQ q 0) := ⟨ok.id, ok.op, Nat.zero_le _, Nat.zero_le _, by show 0 < 65536; decide, by show 0 < 65536; decide, by show 0 < 65536; decide, by show 0 < 65536; decide⟩
theorem repB_form (q : QT) (code : Nat) (L : List RR) : repB q code L = headB (repH q code (fitN q L) (decide (fitN q L < L.length))) ++ (askB q ++ rrsB (L.take (fitN q L))) := rfl
set_option maxRecDepth 100000 in
set_option maxHeartbeats 4000000 in
theorem repParse_any (w : World) (q : QT) (ok : QTOk q) (hta : q.asked = false → q.typ = 0 ∧ q.cls = 0 ∧ q.name = []) (code : Nat) (hc : code ≤ 15) (L : List RR) (okL : ∀ x ∈ L, RROk x) (hl : L.length ≤ 1000) (hae : q.asked = true ∨ L = []) :
    Calls Tryz.prog 16 #[.string ⟨(repB q code L).toArray⟩] w fun e w' => ParseP w w' q code (decide (fitN q L < L.length)) (L.take (fitN q L)) e := by
  have hfl : fitN q L ≤ L.length := by have := fitN_le q L L.length; rwa [List.take_length] at this
  have hlen := repB_len ok code L
  have hft := fitN_take ok L
  have hbt := bodyB_take ok L
  have hbd : bodyB q L = askB q ++ rrsB (L.take (fitN q L)) := rfl
  obtain ⟨LT, hLT⟩ : ∃ LT, LT = L.take (fitN q L) := ⟨_, rfl⟩
  have hLTl : LT.length = fitN q L := by rw [hLT, List.length_take]; omega
  have okT : ∀ x ∈ LT, RROk x := fun x hx => okL x (by rw [hLT] at hx; exact List.mem_of_mem_take hx)
  obtain ⟨cut, hcut⟩ : ∃ cut, cut = decide (fitN q L < L.length) := ⟨_, rfl⟩
  obtain ⟨n, hn⟩ : ∃ n, n = fitN q L := ⟨_, rfl⟩
  have hrb : repB q code L = headB (repH q code n cut) ++ (askB q ++ rrsB LT) := by rw [repB_form, hcut, hn, hLT]
  have hrt : repB q code LT = headB (repH q code n false) ++ (askB q ++ rrsB LT) := by
    rw [repB_form, hLT, hft, ← hLT, hLTl, ← hn, decide_eq_false (by omega), ← hLTl.trans hn.symm, List.take_length]
  have haeT : q.asked = true ∨ LT = [] := hae.imp id (fun e => by rw [hLT, e]; simp)
  have hok1 := repH_ok ok hc (show n < 65536 by omega) cut
  have hok0 := repH_ok ok hc (show n < 65536 by omega) false
  rw [← hcut, ← hLT]
  have hhd := headD_of (repH q code n cut) hok1 (askB q ++ rrsB LT)
  rw [← hrb] at hhd
  have hSs : (⟨(repB q code L).toArray⟩ : ByteArray).size = (repB q code L).length := by simp [ByteArray.size]
  have h12 : 12 ≤ (⟨(repB q code L).toArray⟩ : ByteArray).size := by rw [hSs, hrb, List.length_append, headB_length]; omega
  have hdec := fun W : World => hdec_any W ⟨(repB q code L).toArray⟩ h12
  rw [hhd] at hdec
  have hex : (⟨(repB q code L).toArray⟩ : ByteArray).extract 12 (⟨(repB q code L).toArray⟩ : ByteArray).size = ⟨(askB q ++ rrsB LT).toArray⟩ := by
    rw [hrb]
    exact ext_back _ _ 12 _ (headB_length _) (by simp [ByteArray.size])
  have hread := fun (W : World) (pq : Nat) hx => rread5_any W pq q ok hta LT okT (by omega) 0 0 (headB (repH q code n cut)) (headB_length _) (by rw [← hrb]; omega) hx
  rw [← hrb, hLTl.trans hn.symm, show ((0 : Nat) : Int) = 0 from rfl] at hread
  have henc := fun W : World => henc_any W _ hok0
  obtain ⟨S, hS⟩ : ∃ S : ByteArray, S = ⟨(repB q code L).toArray⟩ := ⟨_, rfl⟩
  have hplain : (⟨(headB (repH q code n false)).toArray⟩ ++ S.extract 12 S.size : ByteArray) = ⟨(repB q code LT).toArray⟩ := by
    rw [hS, hex, hrt]
    apply str_ext
    simp [ByteArray.data_append]
  rw [← hS] at hdec hread hSs h12 ⊢
  unfold headV at hdec
  have hSz : S.size ≤ 512 := by omega
  have hnl : LT.length = n ∧ n ≤ L.length := by omega
  have HDEC := Lib.hid hdec
  have HREAD := Lib.hid hread
  have HENC := Lib.hid henc
  have HOK := Lib.hid ok
  have HC := Lib.hid hc
  have HOKT := Lib.hid okT
  have HAE := Lib.hid haeT
  have HPL := Lib.hid hplain
  have HN := Lib.hid hn
  have HNL := Lib.hid hnl
  clear hdec hread henc ok hc okT haeT hplain hn hnl
  clear hex hhd hrb hrt hLT hft hbt hbd hcut hLTl okL hSs hS hae hfl
  have hb37 : Tryz.prog.built 53 [(0, .int .u16 q.id), (2, .int .u8 q.op), (5, .bool q.des)] = some (headC (hdQ q 0)).toArray := by kernel_rfl
  have hb38 := built_q (hdQ q 0)
  go_enter Tryz.func16, Tryz.ntmps16
  obtain ⟨W, hW⟩ : ∃ W, W = w.alloc (.cells #[.int .u16 0, .bool false, .int .u8 0, .bool false, .bool false, .bool false, .bool false, .int .u8 0, .int .u8 0, .int .u16 0, .int .u16 0, .int .u16 0, .int .u16 0, .bool false, .slice none 0 0, .int .u16 0, .int .u16 0] 55) := ⟨_, rfl⟩
  have hbW : W.heap[w.heap.size]? = some (.cells #[.int .u16 0, .bool false, .int .u8 0, .bool false, .bool false, .bool false, .bool false, .int .u8 0, .int .u8 0, .int .u16 0, .int .u16 0, .int .u16 0, .int .u16 0, .bool false, .slice none 0 0, .int .u16 0, .int .u16 0] 55 (0, 0)) := by rw [hW]; exact heap_alloc_new w _
  have hoW : Only (fun _ => False) w W := by rw [hW]; exact (Only.refl _ _).alloc _
  have hsW : W.heap.size = w.heap.size + 1 := by rw [hW]; simp
  have HO := Lib.hid hoW
  have HBW := Lib.hid hbW
  have HSW := Lib.hid hsW
  clear hoW hbW hsW
  go_upto_region 1 with (fail)
  rw [← hW]
  clear hW
  go_wp2_with fail
  refine (HDEC.out W).mono ?_
  rintro e w1 ⟨rfl, ho1⟩
  have HO1 := Lib.hid (HO.out.trans ho1)
  have hB1 := ho1.old HBW.out id
  have hs1 := ho1.size
  have hlt1 : w.heap.size < w1.heap.size := by have := HSW.out; omega
  have HB1 := Lib.hid hB1
  clear ho1 hs1 hB1
  go_upto_region 2 with ((with_reducible refine wpList_store_row (o := ⟨none, .store 53 (.tmp 7) (.tmp 19), _, _, _, none⟩) rfl _ _ _ rfl (w1.heap.size) ((headC (repH q code n cut)).toArray) ?_ ?_ 53 _ (heap_alloc_new w1 _) (infoHh (repH q code n cut)) ?_ (headC_one (repH q code n cut)) ?_); (· rfl); (· rfl); (· rfl))
  have hb2 := row_set (heap_alloc_new w1 (.cells #[.int .u16 0, .bool false, .int .u8 0, .bool false, .bool false, .bool false, .bool false, .int .u8 0, .int .u8 0, .int .u16 0, .int .u16 0, .int .u16 0, .int .u16 0] 53)) (headC (repH q code n cut)).toArray
  have ho2 : Only (fun _ => False) w1 ((w1.alloc (.cells #[.int .u16 0, .bool false, .int .u8 0, .bool false, .bool false, .bool false, .bool false, .int .u8 0, .int .u8 0, .int .u16 0, .int .u16 0, .int .u16 0, .int .u16 0] 53)).setRow w1.heap.size (headC (repH q code n cut)).toArray) := ((Only.refl _ _).alloc _).setRow (.inl (Nat.le_refl _)) _
  generalize (w1.alloc (.cells #[.int .u16 0, .bool false, .int .u8 0, .bool false, .bool false, .bool false, .bool false, .int .u8 0, .int .u8 0, .int .u16 0, .int .u16 0, .int .u16 0, .int .u16 0] 53)).setRow w1.heap.size (headC (repH q code n cut)).toArray = w2 at *
  have hB2 := ho2.old HB1.out id
  have hlt2 : w.heap.size < w2.heap.size := by have := ho2.size; omega
  have hlt3 : w1.heap.size < w2.heap.size := lt_of_block hb2
  have HO2 := Lib.hid (HO1.out.trans ho2)
  have x0 : w2.cell? ⟨w1.heap.size, 0, none⟩ = some (.int .u16 q.id) := (cell_at hb2 0).trans rfl
  have x1 : w2.cell? ⟨w1.heap.size, 1, none⟩ = some (.bool true) := (cell_at hb2 1).trans rfl
  have x2 : w2.cell? ⟨w1.heap.size, 2, none⟩ = some (.int .u8 q.op) := (cell_at hb2 2).trans rfl
  have x5 : w2.cell? ⟨w1.heap.size, 5, none⟩ = some (.bool q.des) := (cell_at hb2 5).trans rfl
  have HB2 := Lib.hid hB2
  have HBH := Lib.hid hb2
  clear hB2 hb2
  clear ho2
  go_upto_region 6 with (fail)
  go_upto_region 7 with (first
    | ((with_reducible refine wpList_buildTo (o := ⟨some 37, .build 53 #[(0, .tmp 32), (2, .tmp 34), (5, .tmp 36)], _, _, _, none⟩) rfl _ _ rfl (some 37) rfl ((headC (hdQ q 0)).toArray) ?_ ?_); (· simp only [List.map_toArray, List.map_cons, List.map_nil]; exact hb37))
    | ((with_reducible refine wpList_buildTo (o := ⟨some 38, .build 55 #[(0, .tmp 37)], _, _, _, none⟩) rfl _ _ rfl (some 38) rfl ((qC (hdQ q 0) false (.slice none 0 0) 0 0).toArray) ?_ ?_); (· simp only [List.map_toArray, List.map_cons, List.map_nil]; exact hb38))
    | ((with_reducible refine wpList_store_row (o := ⟨none, .store 55 (.tmp 9) (.tmp 38), _, _, _, none⟩) rfl _ _ _ rfl (w2.heap.size) ((qC (hdQ q 0) false (.slice none 0 0) 0 0).toArray) ?_ ?_ 55 _ (heap_alloc_new w2 _) (infoQq _ _ _ _ _) ?_ (qC_one _ _ _ _ _ rfl) ?_); (· rfl); (· rfl); (· rfl)))
  have hbq := row_set (heap_alloc_new w2 (.cells #[.int .u16 0, .bool false, .int .u8 0, .bool false, .bool false, .bool false, .bool false, .int .u8 0, .int .u8 0, .int .u16 0, .int .u16 0, .int .u16 0, .int .u16 0, .bool false, .slice none 0 0, .int .u16 0, .int .u16 0] 55)) (qC (hdQ q 0) false (.slice none 0 0) 0 0).toArray
  have ho3 : Only (fun _ => False) w2 ((w2.alloc (.cells #[.int .u16 0, .bool false, .int .u8 0, .bool false, .bool false, .bool false, .bool false, .int .u8 0, .int .u8 0, .int .u16 0, .int .u16 0, .int .u16 0, .int .u16 0, .bool false, .slice none 0 0, .int .u16 0, .int .u16 0] 55)).setRow w2.heap.size (qC (hdQ q 0) false (.slice none 0 0) 0 0).toArray) := ((Only.refl _ _).alloc _).setRow (.inl (Nat.le_refl _)) _
  generalize (w2.alloc (.cells #[.int .u16 0, .bool false, .int .u8 0, .bool false, .bool false, .bool false, .bool false, .int .u8 0, .int .u8 0, .int .u16 0, .int .u16 0, .int .u16 0, .int .u16 0, .bool false, .slice none 0 0, .int .u16 0, .int .u16 0] 55)).setRow w2.heap.size (qC (hdQ q 0) false (.slice none 0 0) 0 0).toArray = w3 at *
  have hB3 := ho3.old HB2.out id
  have hbh3 := ho3.old HBH.out id
  have y9 : w3.cell? ⟨w1.heap.size, 9, none⟩ = some (.int .u16 q.asked.toNat) := (cell_at hbh3 9).trans rfl
  have y10 : w3.cell? ⟨w1.heap.size, 10, none⟩ = some (.int .u16 n) := (cell_at hbh3 10).trans rfl
  have y11 : w3.cell? ⟨w1.heap.size, 11, none⟩ = some (.int .u16 0) := (cell_at hbh3 11).trans rfl
  have y12 : w3.cell? ⟨w1.heap.size, 12, none⟩ = some (.int .u16 0) := (cell_at hbh3 12).trans rfl
  have HO3 := Lib.hid (HO2.out.trans ho3)
  have HRD := Lib.hid (HREAD.out w3 w2.heap.size hbq)
  have hlt4 : w2.heap.size < w3.heap.size := lt_of_block hbq
  have HB3 := Lib.hid hB3
  have HBH3 := Lib.hid hbh3
  have HBQ := Lib.hid hbq
  clear hB3 hbh3 hbq
  clear ho3 x0 x1 x2 x5
  go_upto_region 8 with ((with_reducible refine HRD.out.mono ?_); rintro e w4 ⟨v, nv, E, rfl, ho4, hq4, hrow4, hm4, own4⟩)
  obtain ⟨_, va, vc, rfl, _⟩ := id (Sl.of_owns hrow4.row)
  obtain ⟨_, na, nc, rfl, _⟩ := id (Sl.of_owns own4)
  have hB4 := ho4.old HB3.out (fun e => by omega)
  have hbh4 := ho4.old HBH3.out (fun e => by omega)
  have z4 : w4.cell? ⟨w1.heap.size, 4, none⟩ = some (.bool cut) := (cell_at hbh4 4).trans rfl
  have zf : w4.frozen? ⟨w1.heap.size, 4, none⟩ = false := free_at hbh4 4
  have HO4 := Lib.hid (HO3.out.tr ho4 (T := fun x => x = w2.heap.size) (fun x hx e => by omega))
  have hs4 := ho4.size
  have hs3 := HO3.out.size
  have n12 : w1.heap.size ≠ w2.heap.size := by omega
  have HS34 := Lib.hid (show w.heap.size ≤ w3.heap.size from HO3.out.size)
  have HB4 := Lib.hid hB4
  have HBH4 := Lib.hid hbh4
  have HQ4 := Lib.hid hq4
  have HROW4 := Lib.hid hrow4
  have HM4 := Lib.hid hm4
  have HOWN4 := Lib.hid own4
  clear hB4 hbh4 hq4 hrow4 hm4 own4
  clear ho4 y9 y10 y11 y12
  go_upto_region 10 with (fail)
  have q5 : Only (fun x => x = w1.heap.size) w4 (w4.setCell ⟨w1.heap.size, 4, none⟩ (.bool false)) := (Only.refl (fun x => x = w1.heap.size) w4).setCell (p := ⟨w1.heap.size, 4, none⟩) (.inr rfl) _
  have hbh5 : (w4.setCell ⟨w1.heap.size, 4, none⟩ (.bool false)).heap[w1.heap.size]? = some (.cells (headC (repH q code n false)).toArray 53 (0, 0)) := set_at HBH4.out 4 _
  have hsz5 : (w4.setCell ⟨w1.heap.size, 4, none⟩ (.bool false)).heap.size = w4.heap.size := by simp
  generalize w4.setCell ⟨w1.heap.size, 4, none⟩ (.bool false) = w5 at *
  have hB5 := q5.old HB4.out (fun e => by omega)
  have hq5 := q5.old HQ4.out (fun e => by omega)
  have hrow5 := HROW4.out.ty q5 (fun j hj cs f e => by subst hj; rw [HBH4.out] at e; simp at e) (fun j hj cs f e => by subst hj; rw [HBH4.out] at e; simp at e)
  have own5 := owns_ty HOWN4.out q5 (fun j hj cs f e => by subst hj; rw [HBH4.out] at e; simp at e)
  have HO5 := Lib.hid (HO4.out.tr q5 (fun x hx e => by omega))
  have hlt5 : w1.heap.size < w5.heap.size := lt_of_block hbh5
  have HBH5 := Lib.hid hbh5
  have HB5 := Lib.hid hB5
  have HQ5 := Lib.hid hq5
  have HROW5 := Lib.hid hrow5
  have HOWN5 := Lib.hid own5
  clear hbh5 hB5 hq5 hrow5 own5
  clear q5 z4 zf hsz5
  obtain ⟨HS, hHS⟩ : ∃ HS : ByteArray, HS = ⟨(headB (repH q code n false)).toArray⟩ := ⟨_, rfl⟩
  have henc := HENC.out
  have hpl := HPL.out
  rw [← hHS] at henc hpl
  have HENC2 := Lib.hid henc
  have HPL2 := Lib.hid hpl
  clear henc hpl
  have hhsz : HS.size = 12 := by rw [hHS]; rfl
  have HHSZ := Lib.hid hhsz
  clear hhsz
  clear hHS
  go_upto_region 11 with (first
    | ((with_reducible refine wpList_load_row (o := ⟨some 50, .load 53 (.tmp 7), _, _, _, none⟩) rfl _ _ rfl (w1.heap.size) ?_ 53 _ (0, 0) _ HBH5.out Tryz.underlying53 ?_ (infoHh _) ?_); (· rfl); (· rfl))
    | ((with_reducible refine (HENC2.out w5).mono ?_); rintro e w6 ⟨rfl, ho6⟩))
  have HO6 := Lib.hid (HO5.out.trans ho6)
  have hbh6 := ho6.old HBH5.out id
  have HQ6 := Lib.hid (ho6.old HQ5.out id)
  have HB6 := Lib.hid (ho6.old HB5.out id)
  have hrow6 := HROW5.out.new ho6
  have own6 := owns_kept HOWN5.out ho6 (fun _ _ => id)
  have z8 : w6.cell? ⟨w1.heap.size, 8, none⟩ = some (.int .u8 code) := (cell_at hbh6 8).trans rfl
  have hco : (code : Int) ≤ 15 := by have := HC.out; omega
  have hEr : ∀ x ∈ E, RROk x.r ∧ Sl w6 1 x.v x.r.tgt.length (x.r.tgt.map .string) := fun x hx => ⟨HOKT.out _ (by rw [← HM4.out]; exact List.mem_map_of_mem hx), Sl.of_owns (hrow6.tgt x hx)⟩
  have hEl : E.length ≤ 1000 := by
    have h1 := congrArg List.length HM4.out
    have h2 := HN.out
    rw [List.length_map] at h1
    have h3 := HNL.out
    omega
  have hbd := build_any w6 (hdQ q q.asked.toNat) (.slice na q.name.length nc) (.slice va E.length vc) q code E HOK.out rfl rfl rfl HC.out (Sl.of_owns own6) (Sl.of_owns hrow6.row) hEr hEl (HAE.out.imp id (fun e => by
    have h1 := congrArg List.length HM4.out
    rw [e, List.length_map] at h1
    exact List.length_eq_zero_iff.1 h1))
  rw [HM4.out] at hbd
  obtain ⟨RB, hRB⟩ : ∃ RB : ByteArray, RB = ⟨(repB q code LT).toArray⟩ := ⟨_, rfl⟩
  have hpl := HPL2.out
  rw [← hRB] at hbd hpl
  have HROW6 := Lib.hid hrow6
  have HBD := Lib.hid hbd
  have HBH6 := Lib.hid hbh6
  have HOWN6 := Lib.hid own6
  have HPL3 := Lib.hid hpl
  clear hbd hbh6 own6 hpl
  clear ho6 hrow6 hEr hEl hRB
  go_upto_region 12 with (first
    | ((with_reducible refine wpList_load_row (o := ⟨some 55, .load 55 (.tmp 9), _, _, _, none⟩) rfl _ _ rfl (w2.heap.size) ?_ 55 _ (0, 0) _ HQ6.out Tryz.underlying55 ?_ (infoQq _ _ _ _ _) ?_); (· rfl); (· rfl))
    | ((with_reducible refine HBD.out.mono ?_); rintro e w7 ⟨rfl, ho7⟩))
  have hb7 := ho7.old HB6.out id
  have hq7 := ho7.old HQ6.out id
  have hbh7 := ho7.old HBH6.out id
  have hrow7 := HROW6.out.new ho7
  have own7 := owns_kept HOWN6.out ho7 (fun _ _ => id)
  have z7 : w7.cell? ⟨w1.heap.size, 8, none⟩ = some (.int .u8 code) := (cell_at hbh7 8).trans rfl
  have HO7 := Lib.hid (HO6.out.trans ho7)
  have hlt7 : w1.heap.size < w7.heap.size := lt_of_block hbh7
  have hltw : w.heap.size < w7.heap.size := lt_of_block hb7
  have hHSz := HHSZ.out
  have hS12 : (12 : Int) ≤ (S.size : Int) := by omega
  have hsA : ¬ 9223372036854775807 < 12 + (S.size - 12) := by omega
  have hpl := HPL3.out
  have HB7 := Lib.hid hb7
  have HQ7 := Lib.hid hq7
  have HBH7 := Lib.hid hbh7
  have HROW7 := Lib.hid hrow7
  have HOWN7 := Lib.hid own7
  clear hb7 hq7 hbh7 hrow7 own7
  clear ho7 z8
  go_upto_region 14 with (fail)
  clear hpl hsA hS12 hHSz
  have hw8 : IntKind.i64.wrap (code : Int) = code := IntWalk.i64_in _ (by omega)
  refine wp_region_held_drew (S := fun w' => Only (fun x => x = w.heap.size) w7 w' ∧ w'.heap[w2.heap.size]? = some (.cells (qC (hdQ q q.asked.toNat) q.asked (.slice na q.name.length nc) q.typ q.cls).toArray 55 (0, 0)) ∧ w'.cell? ⟨w1.heap.size, 8, none⟩ = some (.int .u8 code)) (by kernel_rfl) ⟨(Only.refl _ _).drew, HQ7.out, z7⟩ (fun hHeld => ?_)
  refine wpAnyH_takeD (d := some 78) (i := 0) (oi := _) (v := .agg (qC (hdQ q q.asked.toNat) q.asked (.slice na q.name.length nc) q.typ q.cls).toArray) rfl (by kernel_rfl) (by kernel_rfl) (by kernel_rfl) (by kernel_rfl) (fun _ _ _ h => h) (Or.inl ⟨by rfl, fun w hSw => exec_load_row 55 (.tmp 9) rfl w2.heap.size rfl 55 _ (0, 0) _ hSw.2.1 Tryz.underlying55 rfl (infoQq _ _ _ _ _)⟩) hHeld ?sr0
  refine wpAnyH_act (a' := ?sn0) ?se0 ?st0
  case se0 =>
    try simp [Act.put]
    try rfl
  refine wpAnyH_takeD (d := some 79) (i := 1) (oi := _) (v := ?sv1) rfl (by kernel_rfl) (by kernel_rfl) (by kernel_rfl) (by kernel_rfl) (fun _ _ _ h => h) (Or.inl ⟨by rfl, ?sy1⟩) hHeld ?sr1
  case sy1 =>
    intro w hSw
    have hS8 := hSw.2.2
    clear hSw
    go_simp
    try with_reducible rfl
  refine wpAnyH_act (a' := ?sn1) ?se1 ?st1
  case se1 =>
    try simp [Act.put]
    try rfl
  refine wpAnyH_takeD (d := some 80) (i := 2) (oi := _) (v := ?sv2) rfl (by kernel_rfl) (by kernel_rfl) (by kernel_rfl) (by kernel_rfl) (fun _ _ _ h => h) (Or.inl ⟨by rfl, ?sy2⟩) hHeld ?sr2
  case sy2 =>
    intro w hSw
    have hS8 := hSw.2.2
    clear hSw
    go_simp
    try with_reducible rfl
  refine wpAnyH_act (a' := ?sn2) ?se2 ?st2
  case se2 =>
    try simp [Act.put]
    try rfl
  refine wpAnyH_takeD (d := some 81) (i := 3) (oi := _) (v := ?sv3) rfl (by kernel_rfl) (by kernel_rfl) (by kernel_rfl) (by kernel_rfl) (fun _ _ _ h => h) (Or.inl ⟨by rfl, ?sy3⟩) hHeld ?sr3
  case sy3 =>
    intro w hSw
    have hS8 := hSw.2.2
    clear hSw
    go_simp
    try with_reducible rfl
  refine wpAnyH_act (a' := ?sn3) ?se3 ?st3
  case se3 =>
    try simp [Act.put]
    try rfl
  refine wpAnyH_takeD (d := some 82) (i := 4) (oi := _) (v := ?sv4) rfl (by kernel_rfl) (by kernel_rfl) (by kernel_rfl) (by kernel_rfl) (fun _ _ _ h => h) (Or.inl ⟨by rfl, ?sy4⟩) hHeld ?sr4
  case sy4 =>
    intro w hSw
    have hS8 := hSw.2.2
    clear hSw
    go_simp
    try with_reducible rfl
  refine wpAnyH_act (a' := ?sn4) ?se4 ?st4
  case se4 =>
    try simp [Act.put]
    try rfl
  refine wpAnyH_takeD (d := some 83) (i := 5) (oi := _) (v := ?sv5) rfl (by kernel_rfl) (by kernel_rfl) (by kernel_rfl) (by kernel_rfl) (fun _ _ _ h => h) (Or.inl ⟨by rfl, ?sy5⟩) hHeld ?sr5
  case sy5 =>
    intro w hSw
    have hS8 := hSw.2.2
    clear hSw
    go_simp
    try with_reducible rfl
  refine wpAnyH_act (a' := ?sn5) ?se5 ?st5
  case se5 =>
    try simp [Act.put]
    try rfl
  refine wpAnyH_ready (rs := [6]) (by kernel_rfl) (by simp) ?_
  refine AllReadyH.cons (o := _) rfl (fun K hK => ?_) AllReadyH.nil
  refine step_store_row rfl 55 (.tmp 2) (.tmp 78) rfl w.heap.size ((qC (hdQ q q.asked.toNat) q.asked (.slice na q.name.length nc) q.typ q.cls).toArray) rfl rfl 55 _ (show w7.drew.heap[w.heap.size]? = _ from HB7.out) (infoQq _ _ _ _ _) rfl (qC_one _ _ _ _ _ rfl) ?_
  have hq9 : Only (fun x => x = w.heap.size) w7 (w7.drew.setRow w.heap.size (qC (hdQ q q.asked.toNat) q.asked (.slice na q.name.length nc) q.typ q.cls).toArray) := ((Only.refl (fun x => x = w.heap.size) w7).drew).setRow (b := w.heap.size) (.inr rfl) _
  have hb9 := row_set (show w7.drew.heap[w.heap.size]? = _ from HB7.out) (qC (hdQ q q.asked.toNat) q.asked (.slice na q.name.length nc) q.typ q.cls).toArray
  have hr9 := HROW7.out.ty hq9 (fun j hj cs f e => by subst hj; rw [HB7.out] at e; simp at e) (fun j hj cs f e => by subst hj; rw [HB7.out] at e; simp at e)
  have ho9 := owns_ty HOWN7.out hq9 (fun j hj cs f e => by subst hj; rw [HB7.out] at e; simp at e)
  generalize w7.drew.setRow w.heap.size (qC (hdQ q q.asked.toNat) q.asked (.slice na q.name.length nc) q.typ q.cls).toArray = w9 at *
  refine hK.out _ _ ⟨hq9, hq9.old HQ7.out (fun e => by omega), hq9.cell z7 (fun e => by dsimp only at e; omega)⟩ (fun hNew => ?_)
  clear hK K hHeld
  have hHeld := hNew
  clear hNew
  refine wpAnyH_act (a' := ?sn9) ?se9 ?st9
  case se9 =>
    try simp [Act.put]
    try rfl
  refine wpAnyH_takeD (d := some 3) (i := 7) (oi := _) (v := ?sv10) rfl (by kernel_rfl) (by kernel_rfl) (by kernel_rfl) (by kernel_rfl) (fun _ _ _ h => h) (Or.inl ⟨by rfl, ?sy10⟩) hHeld ?sr10
  case sy10 =>
    intro w hSw
    clear hSw
    go_simp
    try with_reducible rfl
  refine wpAnyH_act (a' := ?sn10) ?se10 ?st10
  case se10 =>
    try simp [Act.put]
    try rfl
  refine wpAnyH_takeD (d := some 4) (i := 8) (oi := _) (v := ?sv11) rfl (by kernel_rfl) (by kernel_rfl) (by kernel_rfl) (by kernel_rfl) (fun _ _ _ h => h) (Or.inl ⟨by rfl, ?sy11⟩) hHeld ?sr11
  case sy11 =>
    intro w hSw
    clear hSw
    go_simp
    try with_reducible rfl
  refine wpAnyH_act (a' := ?sn11) ?se11 ?st11
  case se11 =>
    try simp [Act.put]
    try rfl
  refine wpAnyH_takeD (d := some 5) (i := 9) (oi := _) (v := ?sv12) rfl (by kernel_rfl) (by kernel_rfl) (by kernel_rfl) (by kernel_rfl) (fun _ _ _ h => h) (Or.inl ⟨by rfl, ?sy12⟩) hHeld ?sr12
  case sy12 =>
    intro w hSw
    clear hSw
    go_simp
    try with_reducible rfl
  refine wpAnyH_act (a' := ?sn12) ?se12 ?st12
  case se12 =>
    try simp [Act.put]
    try rfl
  refine wpAnyH_takeD (d := some 6) (i := 10) (oi := _) (v := ?sv13) rfl (by kernel_rfl) (by kernel_rfl) (by kernel_rfl) (by kernel_rfl) (fun _ _ _ h => h) (Or.inl ⟨by rfl, ?sy13⟩) hHeld ?sr13
  case sy13 =>
    intro w hSw
    clear hSw
    go_simp
    try with_reducible rfl
  refine wpAnyH_act (a' := ?sn13) ?se13 ?st13
  case se13 =>
    try simp [Act.put]
    try rfl
  refine wpAnyH_done (by kernel_rfl) ?_ _
  go_wp2_with fail
  refine bodyPost_ret (results_row4 rfl _ _ w.heap.size 55 _ (0, 0) _ rfl hb9 Tryz.underlying55 rfl (infoQq _ _ _ _ _) _ _ _ _ rfl rfl rfl rfl) rfl ?_
  exact ⟨_, _, E, rfl, HO7.out.tr hq9 (fun x hx e => by omega), hr9.base HS34.out, HM4.out, ownsBase1 ho9 HS34.out⟩
end Go.Proofs.YtbdfijgejkimnaaGreatDoor
/-! bellhoplaw25.speaks: the plain facts. -/
namespace Go.Proofs.YtbdfijgejkimnaaGreatDoor
open Go.Conc Go.RowKit Go.Maps

def sp25 : RecB := ⟨6, 0, 5, 80, false, 0⟩
def sp25X : RecT := rec25 sp25
theorem sp25_row : rowB sp25 := ⟨by decide, by decide, by decide, by decide, by decide⟩
theorem sp25_put : putE 48 100 [] sp25X = 0 := by decide +kernel
theorem sp25_made : made25 [sp25] 50 = [sp25X] := by
  show putS 48 100 [] sp25X = [sp25X]
  unfold putS
  rw [if_pos sp25_put]
  rfl
def webU : ByteArray := ⟨#[87, 69, 66]⟩
def dbS : ByteArray := ⟨#[100, 98]⟩
def sevS : ByteArray := ⟨#[55]⟩
theorem sp25_srv : lookM 100 [sp25X] ([webU, bellS].map foldS) 33 = [⟨33, 100, (0, 0, 0, 0), 0, 5, 80, tgtL 7⟩] := by kernel_rfl
theorem sp25_srvk : decide (heldM [sp25X] ([webU, bellS].map foldS) ≠ []) = true := by kernel_rfl
theorem sp25_a : lookM 100 [sp25X] ([sevS, nodeS, bellS].map foldS) 1 = [⟨1, 100, (10, 0, 0, 5), 0, 0, 0, []⟩] := by kernel_rfl
theorem sp25_ak : decide (heldM [sp25X] ([sevS, nodeS, bellS].map foldS) ≠ []) = true := by kernel_rfl
theorem sp25_db : heldM [sp25X] ([dbS, bellS].map foldS) = [] := by kernel_rfl
theorem sp25_may : mayGo 0 [dbS, bellS] = true := by decide
theorem sp25_resp : respB 100 [sp25X] ⟨(askMsg 1 [dbS, bellS] 1).toArray⟩ = repB (askQ 1 [dbS, bellS] 1) 3 [] := by
  unfold respB
  rw [qM_ask 1 1 [dbS, bellS] (by decide) (.inl rfl) sp25_may]
  unfold finL askQ
  dsimp only
  rw [if_pos rfl, lookM_nil sp25_db, sp25_db, if_neg (by simp)]
end Go.Proofs.YtbdfijgejkimnaaGreatDoor
