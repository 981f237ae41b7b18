/- Answer's reference: Lookup, a record that is kept: up to its address. -/
import Derived.Test.YtbdfijgejkimnaaGreatDoorNN
import Derived.Test.YtbdfijgejkimnaaGreatDoorNI
import Derived.Test.YtbdfijgejkimnaaGreatDoorNG
import Derived.ChangeKeysEq
import Derived.Deep.CutBlock
import Derived.Deep.RegionHeld3
/-! reply.Parse. -/
namespace Go.Proofs.YtbdfijgejkimnaaGreatDoor
open Go.Conc Go.RowKit

theorem results_row4 {P : Program} {fn : Func} {p u v x y : Tmp} {ty : TypeId} (h : fn.results = #[.cell p ty, .tmp u, .tmp v, .tmp x, .tmp y]) (tmps : Array Value) (w : World) (g : Nat) (t : TypeId) (cs : Array Value) (fr : Nat × Nat) (d : TypeDesc)
    (hp : tmps.getD p undef = .pointer (some ⟨g, 0, none⟩)) (hg : w.heap[g]? = some (.cells cs t fr))
    (hu : P.underlying ty = some d) (hd : (match d with | .struct _ | .array _ _ => true | _ => false) = true) (hi : (P.info? ty).map (·.size) = some cs.size) (a b c e : Value) (ha : tmps.getD u undef = a) (hb : tmps.getD v undef = b) (hc : tmps.getD x undef = c) (he : tmps.getD y undef = e) :
    (results fn tmps).run P w = .ok (.tuple #[.agg cs, a, b, c, e]) w := by
  subst ha hb hc he
  simp only [results, h]
  have hp' : tmps[p]?.getD undef = .pointer (some ⟨g, 0, none⟩) := by simpa using hp
  simp [hp', asAddr, Result.andThen, run_loadVar_row w g t ty cs fr d hg hu hd hi]
theorem step_load_row {P : Program} {ops : Array Oper} {o : Oper} {a : Act} {w : World} {K : Act → World → Prop} {Q : Exit → Act → World → Prop} {E : Prop} (hgd : o.guard = none) (ty : TypeId) (x : Operand) (ho : o.op = .load ty x)
    (g : Nat) (hx : a.eval x = .pointer (some ⟨g, 0, none⟩)) (t : TypeId) (cs : Array Value) (fr : Nat × Nat) (d : TypeDesc) (hg : w.heap[g]? = some (.cells cs t fr))
    (hu : P.underlying ty = some d) (hd : (match d with | .struct _ | .array _ _ => true | _ => false) = true) (hi : (P.info? ty).map (·.size) = some cs.size)
    (h : K (a.put o.dst (.agg cs)) w) : if Region.wanted o (yielded ops a.tmps) = true then Oper.wp P o a w K Q else E := by
  rw [if_pos (by simp [Region.wanted, hgd])]
  exact wp_load_row ty x ho g hx t cs fr d hg hu hd hi h
theorem step_store_row {P : Program} {ops : Array Oper} {o : Oper} {a : Act} {w : World} {K : Act → World → Prop} {Q : Exit → Act → World → Prop} {E : Prop} (hgd : o.guard = none) (ty : TypeId) (x y : Operand) (ho : o.op = .store ty x y)
    (g : Nat) (cells : Array Value) (hx : a.eval x = .pointer (some ⟨g, 0, none⟩)) (hy : a.eval y = .agg cells)
    (t : TypeId) (old : Array Value) (hg : w.heap[g]? = some (.cells old t (0, 0))) (hi : (P.info? ty).map (·.size) = some cells.size)
    (hold : old.size = cells.size) (h1 : cells.all (·.oneCell') = true)
    (h : K (a.put o.dst undef) (w.setRow g cells)) : if Region.wanted o (yielded ops a.tmps) = true then Oper.wp P o a w K Q else E := by
  rw [if_pos (by simp [Region.wanted, hgd])]
  exact wp_store_row ty x y ho g cells hx hy t old hg hi hold h1 h
theorem exec_load_row {P : Program} {o : Oper} {ev : Operand → Value} {w : World} (ty : TypeId) (x : Operand) (ho : o.op = .load ty x)
    (g : Nat) (hx : ev x = .pointer (some ⟨g, 0, none⟩)) (t : TypeId) (cs : Array Value) (fr : Nat × Nat) (d : TypeDesc) (hg : w.heap[g]? = some (.cells cs t fr))
    (hu : P.underlying ty = some d) (hd : (match d with | .struct _ | .array _ _ => true | _ => false) = true) (hi : (P.info? ty).map (·.size) = some cs.size) :
    (execOp ev o).run P w = .ok (.value (.agg cs)) w := by
  unfold execOp
  simp only [ho, hx, Instr.loadAt, Instr.sureAddr, Sem.run_bind, Sem.run_pure, Result.andThen_ok, run_loadVar_row w g t ty cs fr d hg hu hd hi]
/-- What Parse hands on. -/
def ParseP (w w' : World) (q : QT) (code : Nat) (cut : Bool) (L : List RR) (e : Ending) : Prop :=
  ∃ v nv E, e = .returned (.tuple #[.agg (qC (hdQ q q.asked.toNat) q.asked nv q.typ q.cls).toArray, .int .i64 code, .bool cut, v, .int .i64 0]) ∧ Only (fun _ => False) w w' ∧ RpRow w' w.heap.size v E ∧ E.map (·.r) = L ∧ w'.ownsRow w.heap.size 9 1 nv q.name.length (q.name.map .string)
theorem hdQ_ok {q : QT} (ok : QTOk q) : HeadOk (hdQ q 0) := ⟨ok.id, ok.op, Nat.zero_le _, Nat.zero_le _, by show 0 < 65536; decide, by show 0 < 65536; decide, by show 0 < 65536; decide, by show 0 < 65536; decide⟩
theorem repB_form (q : QT) (code : Nat) (L : List RR) : repB q code L = headB (repH q code (fitN q L) (decide (fitN q L < L.length))) ++ (askB q ++ rrsB (L.take (fitN q L))) := rfl
set_option maxRecDepth 100000 in
set_option maxHeartbeats 4000000 in
theorem repParse_any (w : World) (q : QT) (ok : QTOk q) (hta : q.asked = false → q.typ = 0 ∧ q.cls = 0 ∧ q.name = []) (code : Nat) (hc : code ≤ 15) (L : List RR) (okL : ∀ x ∈ L, RROk x) (hl : L.length ≤ 1000) (hae : q.asked = true ∨ L = []) :
    Calls Tryz.prog 16 #[.string ⟨(repB q code L).toArray⟩] w fun e w' => ParseP w w' q code (decide (fitN q L < L.length)) (L.take (fitN q L)) e := by
  have hfl : fitN q L ≤ L.length := by have := fitN_le q L L.length; rwa [List.take_length] at this
  have hlen := repB_len ok code L
  have hft := fitN_take ok L
  have hbt := bodyB_take ok L
  have hbd : bodyB q L = askB q ++ rrsB (L.take (fitN q L)) := rfl
  obtain ⟨LT, hLT⟩ : ∃ LT, LT = L.take (fitN q L) := ⟨_, rfl⟩
  have hLTl : LT.length = fitN q L := by rw [hLT, List.length_take]; omega
  have okT : ∀ x ∈ LT, RROk x := fun x hx => okL x (by rw [hLT] at hx; exact List.mem_of_mem_take hx)
  obtain ⟨cut, hcut⟩ : ∃ cut, cut = decide (fitN q L < L.length) := ⟨_, rfl⟩
  obtain ⟨n, hn⟩ : ∃ n, n = fitN q L := ⟨_, rfl⟩
  have hrb : repB q code L = headB (repH q code n cut) ++ (askB q ++ rrsB LT) := by rw [repB_form, hcut, hn, hLT]
  have hrt : repB q code LT = headB (repH q code n false) ++ (askB q ++ rrsB LT) := by
    rw [repB_form, hLT, hft, ← hLT, hLTl, ← hn, decide_eq_false (by omega), ← hLTl.trans hn.symm, List.take_length]
  have haeT : q.asked = true ∨ LT = [] := hae.imp id (fun e => by rw [hLT, e]; simp)
  have hok1 := repH_ok ok hc (show n < 65536 by omega) cut
  have hok0 := repH_ok ok hc (show n < 65536 by omega) false
  rw [← hcut, ← hLT]
  have hhd := headD_of (repH q code n cut) hok1 (askB q ++ rrsB LT)
  rw [← hrb] at hhd
  have hSs : (⟨(repB q code L).toArray⟩ : ByteArray).size = (repB q code L).length := by simp [ByteArray.size]
  have h12 : 12 ≤ (⟨(repB q code L).toArray⟩ : ByteArray).size := by rw [hSs, hrb, List.length_append, headB_length]; omega
  have hdec := fun W : World => hdec_any W ⟨(repB q code L).toArray⟩ h12
  rw [hhd] at hdec
  have hex : (⟨(repB q code L).toArray⟩ : ByteArray).extract 12 (⟨(repB q code L).toArray⟩ : ByteArray).size = ⟨(askB q ++ rrsB LT).toArray⟩ := by
    rw [hrb]
    exact ext_back _ _ 12 _ (headB_length _) (by simp [ByteArray.size])
  have hread := fun (W : World) (pq : Nat) hx => rread5_any W pq q ok hta LT okT (by omega) 0 0 (headB (repH q code n cut)) (headB_length _) (by rw [← hrb]; omega) hx
  rw [← hrb, hLTl.trans hn.symm, show ((0 : Nat) : Int) = 0 from rfl] at hread
  have henc := fun W : World => henc_any W _ hok0
  obtain ⟨S, hS⟩ : ∃ S : ByteArray, S = ⟨(repB q code L).toArray⟩ := ⟨_, rfl⟩
  have hplain : (⟨(headB (repH q code n false)).toArray⟩ ++ S.extract 12 S.size : ByteArray) = ⟨(repB q code LT).toArray⟩ := by
    rw [hS, hex, hrt]
    apply str_ext
    simp [ByteArray.data_append]
  rw [← hS] at hdec hread hSs h12 ⊢
  unfold headV at hdec
  have hSz : S.size ≤ 512 := by omega
  have hnl : LT.length = n ∧ n ≤ L.length := by omega
  have HDEC := Lib.hid hdec
  have HREAD := Lib.hid hread
  have HENC := Lib.hid henc
  have HOK := Lib.hid ok
  have HC := Lib.hid hc
  have HOKT := Lib.hid okT
  have HAE := Lib.hid haeT
  have HPL := Lib.hid hplain
  have HN := Lib.hid hn
  have HNL := Lib.hid hnl
  clear hdec hread henc ok hc okT haeT hplain hn hnl
  clear hex hhd hrb hrt hLT hft hbt hbd hcut hLTl okL hSs hS hae hfl
  have hb37 : Tryz.prog.built 53 [(0, .int .u16 q.id), (2, .int .u8 q.op), (5, .bool q.des)] = some (headC (hdQ q 0)).toArray := by kernel_rfl
  have hb38 := built_q (hdQ q 0)
  go_enter Tryz.func16, Tryz.ntmps16
  obtain ⟨W, hW⟩ : ∃ W, W = w.alloc (.cells #[.int .u16 0, .bool false, .int .u8 0, .bool false, .bool false, .bool false, .bool false, .int .u8 0, .int .u8 0, .int .u16 0, .int .u16 0, .int .u16 0, .int .u16 0, .bool false, .slice none 0 0, .int .u16 0, .int .u16 0] 55) := ⟨_, rfl⟩
  have hbW : W.heap[w.heap.size]? = some (.cells #[.int .u16 0, .bool false, .int .u8 0, .bool false, .bool false, .bool false, .bool false, .int .u8 0, .int .u8 0, .int .u16 0, .int .u16 0, .int .u16 0, .int .u16 0, .bool false, .slice none 0 0, .int .u16 0, .int .u16 0] 55 (0, 0)) := by rw [hW]; exact heap_alloc_new w _
  have hoW : Only (fun _ => False) w W := by rw [hW]; exact (Only.refl _ _).alloc _
  have hsW : W.heap.size = w.heap.size + 1 := by rw [hW]; simp
  have HO := Lib.hid hoW
  have HBW := Lib.hid hbW
  have HSW := Lib.hid hsW
  clear hoW hbW hsW
  go_upto_region 1 with (fail)
  rw [← hW]
  clear hW
  go_wp2_with fail
  refine (HDEC.out W).mono ?_
  rintro e w1 ⟨rfl, ho1⟩
  have HO1 := Lib.hid (HO.out.trans ho1)
  have hB1 := ho1.old HBW.out id
  have hs1 := ho1.size
  have hlt1 : w.heap.size < w1.heap.size := by have := HSW.out; omega
  have HB1 := Lib.hid hB1
  clear ho1 hs1 hB1
  go_upto_region 2 with ((with_reducible refine wpList_store_row (o := ⟨none, .store 53 (.tmp 7) (.tmp 19), _, _, _, none⟩) rfl _ _ _ rfl (w1.heap.size) ((headC (repH q code n cut)).toArray) ?_ ?_ 53 _ (heap_alloc_new w1 _) (infoHh (repH q code n cut)) ?_ (headC_one (repH q code n cut)) ?_); (· rfl); (· rfl); (· rfl))
  have hb2 := row_set (heap_alloc_new w1 (.cells #[.int .u16 0, .bool false, .int .u8 0, .bool false, .bool false, .bool false, .bool false, .int .u8 0, .int .u8 0, .int .u16 0, .int .u16 0, .int .u16 0, .int .u16 0] 53)) (headC (repH q code n cut)).toArray
  have ho2 : Only (fun _ => False) w1 ((w1.alloc (.cells #[.int .u16 0, .bool false, .int .u8 0, .bool false, .bool false, .bool false, .bool false, .int .u8 0, .int .u8 0, .int .u16 0, .int .u16 0, .int .u16 0, .int .u16 0] 53)).setRow w1.heap.size (headC (repH q code n cut)).toArray) := ((Only.refl _ _).alloc _).setRow (.inl (Nat.le_refl _)) _
  generalize (w1.alloc (.cells #[.int .u16 0, .bool false, .int .u8 0, .bool false, .bool false, .bool false, .bool false, .int .u8 0, .int .u8 0, .int .u16 0, .int .u16 0, .int .u16 0, .int .u16 0] 53)).setRow w1.heap.size (headC (repH q code n cut)).toArray = w2 at *
  have hB2 := ho2.old HB1.out id
  have hlt2 : w.heap.size < w2.heap.size := by have := ho2.size; omega
  have hlt3 : w1.heap.size < w2.heap.size := lt_of_block hb2
  have HO2 := Lib.hid (HO1.out.trans ho2)
  have x0 : w2.cell? ⟨w1.heap.size, 0, none⟩ = some (.int .u16 q.id) := (cell_at hb2 0).trans rfl
  have x1 : w2.cell? ⟨w1.heap.size, 1, none⟩ = some (.bool true) := (cell_at hb2 1).trans rfl
  have x2 : w2.cell? ⟨w1.heap.size, 2, none⟩ = some (.int .u8 q.op) := (cell_at hb2 2).trans rfl
  have x5 : w2.cell? ⟨w1.heap.size, 5, none⟩ = some (.bool q.des) := (cell_at hb2 5).trans rfl
  have HB2 := Lib.hid hB2
  have HBH := Lib.hid hb2
  clear hB2 hb2
  clear ho2
  go_upto_region 6 with (fail)
  go_upto_region 7 with (first
    | ((with_reducible refine wpList_buildTo (o := ⟨some 37, .build 53 #[(0, .tmp 32), (2, .tmp 34), (5, .tmp 36)], _, _, _, none⟩) rfl _ _ rfl (some 37) rfl ((headC (hdQ q 0)).toArray) ?_ ?_); (· simp only [List.map_toArray, List.map_cons, List.map_nil]; exact hb37))
    | ((with_reducible refine wpList_buildTo (o := ⟨some 38, .build 55 #[(0, .tmp 37)], _, _, _, none⟩) rfl _ _ rfl (some 38) rfl ((qC (hdQ q 0) false (.slice none 0 0) 0 0).toArray) ?_ ?_); (· simp only [List.map_toArray, List.map_cons, List.map_nil]; exact hb38))
    | ((with_reducible refine wpList_store_row (o := ⟨none, .store 55 (.tmp 9) (.tmp 38), _, _, _, none⟩) rfl _ _ _ rfl (w2.heap.size) ((qC (hdQ q 0) false (.slice none 0 0) 0 0).toArray) ?_ ?_ 55 _ (heap_alloc_new w2 _) (infoQq _ _ _ _ _) ?_ (qC_one _ _ _ _ _ rfl) ?_); (· rfl); (· rfl); (· rfl)))
  have hbq := row_set (heap_alloc_new w2 (.cells #[.int .u16 0, .bool false, .int .u8 0, .bool false, .bool false, .bool false, .bool false, .int .u8 0, .int .u8 0, .int .u16 0, .int .u16 0, .int .u16 0, .int .u16 0, .bool false, .slice none 0 0, .int .u16 0, .int .u16 0] 55)) (qC (hdQ q 0) false (.slice none 0 0) 0 0).toArray
  have ho3 : Only (fun _ => False) w2 ((w2.alloc (.cells #[.int .u16 0, .bool false, .int .u8 0, .bool false, .bool false, .bool false, .bool false, .int .u8 0, .int .u8 0, .int .u16 0, .int .u16 0, .int .u16 0, .int .u16 0, .bool false, .slice none 0 0, .int .u16 0, .int .u16 0] 55)).setRow w2.heap.size (qC (hdQ q 0) false (.slice none 0 0) 0 0).toArray) := ((Only.refl _ _).alloc _).setRow (.inl (Nat.le_refl _)) _
  generalize (w2.alloc (.cells #[.int .u16 0, .bool false, .int .u8 0, .bool false, .bool false, .bool false, .bool false, .int .u8 0, .int .u8 0, .int .u16 0, .int .u16 0, .int .u16 0, .int .u16 0, .bool false, .slice none 0 0, .int .u16 0, .int .u16 0] 55)).setRow w2.heap.size (qC (hdQ q 0) false (.slice none 0 0) 0 0).toArray = w3 at *
  have hB3 := ho3.old HB2.out id
  have hbh3 := ho3.old HBH.out id
  have y9 : w3.cell? ⟨w1.heap.size, 9, none⟩ = some (.int .u16 q.asked.toNat) := (cell_at hbh3 9).trans rfl
  have y10 : w3.cell? ⟨w1.heap.size, 10, none⟩ = some (.int .u16 n) := (cell_at hbh3 10).trans rfl
  have y11 : w3.cell? ⟨w1.heap.size, 11, none⟩ = some (.int .u16 0) := (cell_at hbh3 11).trans rfl
  have y12 : w3.cell? ⟨w1.heap.size, 12, none⟩ = some (.int .u16 0) := (cell_at hbh3 12).trans rfl
  have HO3 := Lib.hid (HO2.out.trans ho3)
  have HRD := Lib.hid (HREAD.out w3 w2.heap.size hbq)
  have hlt4 : w2.heap.size < w3.heap.size := lt_of_block hbq
  have HB3 := Lib.hid hB3
  have HBH3 := Lib.hid hbh3
  have HBQ := Lib.hid hbq
  clear hB3 hbh3 hbq
  clear ho3 x0 x1 x2 x5
  go_upto_region 8 with ((with_reducible refine HRD.out.mono ?_); rintro e w4 ⟨v, nv, E, rfl, ho4, hq4, hrow4, hm4, own4⟩)
  obtain ⟨_, va, vc, rfl, _⟩ := id (Sl.of_owns hrow4.row)
  obtain ⟨_, na, nc, rfl, _⟩ := id (Sl.of_owns own4)
  have hB4 := ho4.old HB3.out (fun e => by omega)
  have hbh4 := ho4.old HBH3.out (fun e => by omega)
  have z4 : w4.cell? ⟨w1.heap.size, 4, none⟩ = some (.bool cut) := (cell_at hbh4 4).trans rfl
  have zf : w4.frozen? ⟨w1.heap.size, 4, none⟩ = false := free_at hbh4 4
  have HO4 := Lib.hid (HO3.out.tr ho4 (T := fun x => x = w2.heap.size) (fun x hx e => by omega))
  have hs4 := ho4.size
  have hs3 := HO3.out.size
  have n12 : w1.heap.size ≠ w2.heap.size := by omega
  have HS34 := Lib.hid (show w.heap.size ≤ w3.heap.size from HO3.out.size)
  have HB4 := Lib.hid hB4
  have HBH4 := Lib.hid hbh4
  have HQ4 := Lib.hid hq4
  have HROW4 := Lib.hid hrow4
  have HM4 := Lib.hid hm4
  have HOWN4 := Lib.hid own4
  clear hB4 hbh4 hq4 hrow4 hm4 own4
  clear ho4 y9 y10 y11 y12
  go_upto_region 10 with (fail)
  have q5 : Only (fun x => x = w1.heap.size) w4 (w4.setCell ⟨w1.heap.size, 4, none⟩ (.bool false)) := (Only.refl (fun x => x = w1.heap.size) w4).setCell (p := ⟨w1.heap.size, 4, none⟩) (.inr rfl) _
  have hbh5 : (w4.setCell ⟨w1.heap.size, 4, none⟩ (.bool false)).heap[w1.heap.size]? = some (.cells (headC (repH q code n false)).toArray 53 (0, 0)) := set_at HBH4.out 4 _
  have hsz5 : (w4.setCell ⟨w1.heap.size, 4, none⟩ (.bool false)).heap.size = w4.heap.size := by simp
  generalize w4.setCell ⟨w1.heap.size, 4, none⟩ (.bool false) = w5 at *
  have hB5 := q5.old HB4.out (fun e => by omega)
  have hq5 := q5.old HQ4.out (fun e => by omega)
  have hrow5 := HROW4.out.ty q5 (fun j hj cs f e => by subst hj; rw [HBH4.out] at e; simp at e) (fun j hj cs f e => by subst hj; rw [HBH4.out] at e; simp at e)
  have own5 := owns_ty HOWN4.out q5 (fun j hj cs f e => by subst hj; rw [HBH4.out] at e; simp at e)
  have HO5 := Lib.hid (HO4.out.tr q5 (fun x hx e => by omega))
  have hlt5 : w1.heap.size < w5.heap.size := lt_of_block hbh5
  have HBH5 := Lib.hid hbh5
  have HB5 := Lib.hid hB5
  have HQ5 := Lib.hid hq5
  have HROW5 := Lib.hid hrow5
  have HOWN5 := Lib.hid own5
  clear hbh5 hB5 hq5 hrow5 own5
  clear q5 z4 zf hsz5
  obtain ⟨HS, hHS⟩ : ∃ HS : ByteArray, HS = ⟨(headB (repH q code n false)).toArray⟩ := ⟨_, rfl⟩
  have henc := HENC.out
  have hpl := HPL.out
  rw [← hHS] at henc hpl
  have HENC2 := Lib.hid henc
  have HPL2 := Lib.hid hpl
  clear henc hpl
  have hhsz : HS.size = 12 := by rw [hHS]; rfl
  have HHSZ := Lib.hid hhsz
  clear hhsz
  clear hHS
  go_upto_region 11 with (first
    | ((with_reducible refine wpList_load_row (o := ⟨some 50, .load 53 (.tmp 7), _, _, _, none⟩) rfl _ _ rfl (w1.heap.size) ?_ 53 _ (0, 0) _ HBH5.out Tryz.underlying53 ?_ (infoHh _) ?_); (· rfl); (· rfl))
    | ((with_reducible refine (HENC2.out w5).mono ?_); rintro e w6 ⟨rfl, ho6⟩))
  have HO6 := Lib.hid (HO5.out.trans ho6)
  have hbh6 := ho6.old HBH5.out id
  have HQ6 := Lib.hid (ho6.old HQ5.out id)
  have HB6 := Lib.hid (ho6.old HB5.out id)
  have hrow6 := HROW5.out.new ho6
  have own6 := owns_kept HOWN5.out ho6 (fun _ _ => id)
  have z8 : w6.cell? ⟨w1.heap.size, 8, none⟩ = some (.int .u8 code) := (cell_at hbh6 8).trans rfl
  have hco : (code : Int) ≤ 15 := by have := HC.out; omega
  have hEr : ∀ x ∈ E, RROk x.r ∧ Sl w6 1 x.v x.r.tgt.length (x.r.tgt.map .string) := fun x hx => ⟨HOKT.out _ (by rw [← HM4.out]; exact List.mem_map_of_mem hx), Sl.of_owns (hrow6.tgt x hx)⟩
  have hEl : E.length ≤ 1000 := by
    have h1 := congrArg List.length HM4.out
    have h2 := HN.out
    rw [List.length_map] at h1
    have h3 := HNL.out
    omega
  have hbd := build_any w6 (hdQ q q.asked.toNat) (.slice na q.name.length nc) (.slice va E.length vc) q code E HOK.out rfl rfl rfl HC.out (Sl.of_owns own6) (Sl.of_owns hrow6.row) hEr hEl (HAE.out.imp id (fun e => by
    have h1 := congrArg List.length HM4.out
    rw [e, List.length_map] at h1
    exact List.length_eq_zero_iff.1 h1))
  rw [HM4.out] at hbd
  obtain ⟨RB, hRB⟩ : ∃ RB : ByteArray, RB = ⟨(repB q code LT).toArray⟩ := ⟨_, rfl⟩
  have hpl := HPL2.out
  rw [← hRB] at hbd hpl
  have HROW6 := Lib.hid hrow6
  have HBD := Lib.hid hbd
  have HBH6 := Lib.hid hbh6
  have HOWN6 := Lib.hid own6
  have HPL3 := Lib.hid hpl
  clear hbd hbh6 own6 hpl
  clear ho6 hrow6 hEr hEl hRB
  go_upto_region 12 with (first
    | ((with_reducible refine wpList_load_row (o := ⟨some 55, .load 55 (.tmp 9), _, _, _, none⟩) rfl _ _ rfl (w2.heap.size) ?_ 55 _ (0, 0) _ HQ6.out Tryz.underlying55 ?_ (infoQq _ _ _ _ _) ?_); (· rfl); (· rfl))
    | ((with_reducible refine HBD.out.mono ?_); rintro e w7 ⟨rfl, ho7⟩))
  have hb7 := ho7.old HB6.out id
  have hq7 := ho7.old HQ6.out id
  have hbh7 := ho7.old HBH6.out id
  have hrow7 := HROW6.out.new ho7
  have own7 := owns_kept HOWN6.out ho7 (fun _ _ => id)
  have z7 : w7.cell? ⟨w1.heap.size, 8, none⟩ = some (.int .u8 code) := (cell_at hbh7 8).trans rfl
  have HO7 := Lib.hid (HO6.out.trans ho7)
  have hlt7 : w1.heap.size < w7.heap.size := lt_of_block hbh7
  have hltw : w.heap.size < w7.heap.size := lt_of_block hb7
  have hHSz := HHSZ.out
  have hS12 : (12 : Int) ≤ (S.size : Int) := by omega
  have hsA : ¬ 9223372036854775807 < 12 + (S.size - 12) := by omega
  have hpl := HPL3.out
  have HB7 := Lib.hid hb7
  have HQ7 := Lib.hid hq7
  have HBH7 := Lib.hid hbh7
  have HROW7 := Lib.hid hrow7
  have HOWN7 := Lib.hid own7
  clear hb7 hq7 hbh7 hrow7 own7
  clear ho7 z8
  go_upto_region 14 with (fail)
  clear hpl hsA hS12 hHSz
  have hw8 : IntKind.i64.wrap (code : Int) = code := IntWalk.i64_in _ (by omega)
  refine wp_region_held_drew (S := fun w' => Only (fun x => x = w.heap.size) w7 w' ∧ w'.heap[w2.heap.size]? = some (.cells (qC (hdQ q q.asked.toNat) q.asked (.slice na q.name.length nc) q.typ q.cls).toArray 55 (0, 0)) ∧ w'.cell? ⟨w1.heap.size, 8, none⟩ = some (.int .u8 code)) (by kernel_rfl) ⟨(Only.refl _ _).drew, HQ7.out, z7⟩ (fun hHeld => ?_)
  refine wpAnyH_takeD (d := some 78) (i := 0) (oi := _) (v := .agg (qC (hdQ q q.asked.toNat) q.asked (.slice na q.name.length nc) q.typ q.cls).toArray) rfl (by kernel_rfl) (by kernel_rfl) (by kernel_rfl) (by kernel_rfl) (fun _ _ _ h => h) (Or.inl ⟨by rfl, fun w hSw => exec_load_row 55 (.tmp 9) rfl w2.heap.size rfl 55 _ (0, 0) _ hSw.2.1 Tryz.underlying55 rfl (infoQq _ _ _ _ _)⟩) hHeld ?sr0
  refine wpAnyH_act (a' := ?sn0) ?se0 ?st0
  case se0 =>
    try simp [Act.put]
    try rfl
  refine wpAnyH_takeD (d := some 79) (i := 1) (oi := _) (v := ?sv1) rfl (by kernel_rfl) (by kernel_rfl) (by kernel_rfl) (by kernel_rfl) (fun _ _ _ h => h) (Or.inl ⟨by rfl, ?sy1⟩) hHeld ?sr1
  case sy1 =>
    intro w hSw
    have hS8 := hSw.2.2
    clear hSw
    go_simp
    try with_reducible rfl
  refine wpAnyH_act (a' := ?sn1) ?se1 ?st1
  case se1 =>
    try simp [Act.put]
    try rfl
  refine wpAnyH_takeD (d := some 80) (i := 2) (oi := _) (v := ?sv2) rfl (by kernel_rfl) (by kernel_rfl) (by kernel_rfl) (by kernel_rfl) (fun _ _ _ h => h) (Or.inl ⟨by rfl, ?sy2⟩) hHeld ?sr2
  case sy2 =>
    intro w hSw
    have hS8 := hSw.2.2
    clear hSw
    go_simp
    try with_reducible rfl
  refine wpAnyH_act (a' := ?sn2) ?se2 ?st2
  case se2 =>
    try simp [Act.put]
    try rfl
  refine wpAnyH_takeD (d := some 81) (i := 3) (oi := _) (v := ?sv3) rfl (by kernel_rfl) (by kernel_rfl) (by kernel_rfl) (by kernel_rfl) (fun _ _ _ h => h) (Or.inl ⟨by rfl, ?sy3⟩) hHeld ?sr3
  case sy3 =>
    intro w hSw
    have hS8 := hSw.2.2
    clear hSw
    go_simp
    try with_reducible rfl
  refine wpAnyH_act (a' := ?sn3) ?se3 ?st3
  case se3 =>
    try simp [Act.put]
    try rfl
  refine wpAnyH_takeD (d := some 82) (i := 4) (oi := _) (v := ?sv4) rfl (by kernel_rfl) (by kernel_rfl) (by kernel_rfl) (by kernel_rfl) (fun _ _ _ h => h) (Or.inl ⟨by rfl, ?sy4⟩) hHeld ?sr4
  case sy4 =>
    intro w hSw
    have hS8 := hSw.2.2
    clear hSw
    go_simp
    try with_reducible rfl
  refine wpAnyH_act (a' := ?sn4) ?se4 ?st4
  case se4 =>
    try simp [Act.put]
    try rfl
  refine wpAnyH_takeD (d := some 83) (i := 5) (oi := _) (v := ?sv5) rfl (by kernel_rfl) (by kernel_rfl) (by kernel_rfl) (by kernel_rfl) (fun _ _ _ h => h) (Or.inl ⟨by rfl, ?sy5⟩) hHeld ?sr5
  case sy5 =>
    intro w hSw
    have hS8 := hSw.2.2
    clear hSw
    go_simp
    try with_reducible rfl
  refine wpAnyH_act (a' := ?sn5) ?se5 ?st5
  case se5 =>
    try simp [Act.put]
    try rfl
  refine wpAnyH_ready (rs := [6]) (by kernel_rfl) (by simp) ?_
  refine AllReadyH.cons (o := _) rfl (fun K hK => ?_) AllReadyH.nil
  refine step_store_row rfl 55 (.tmp 2) (.tmp 78) rfl w.heap.size ((qC (hdQ q q.asked.toNat) q.asked (.slice na q.name.length nc) q.typ q.cls).toArray) rfl rfl 55 _ (show w7.drew.heap[w.heap.size]? = _ from HB7.out) (infoQq _ _ _ _ _) rfl (qC_one _ _ _ _ _ rfl) ?_
  have hq9 : Only (fun x => x = w.heap.size) w7 (w7.drew.setRow w.heap.size (qC (hdQ q q.asked.toNat) q.asked (.slice na q.name.length nc) q.typ q.cls).toArray) := ((Only.refl (fun x => x = w.heap.size) w7).drew).setRow (b := w.heap.size) (.inr rfl) _
  have hb9 := row_set (show w7.drew.heap[w.heap.size]? = _ from HB7.out) (qC (hdQ q q.asked.toNat) q.asked (.slice na q.name.length nc) q.typ q.cls).toArray
  have hr9 := HROW7.out.ty hq9 (fun j hj cs f e => by subst hj; rw [HB7.out] at e; simp at e) (fun j hj cs f e => by subst hj; rw [HB7.out] at e; simp at e)
  have ho9 := owns_ty HOWN7.out hq9 (fun j hj cs f e => by subst hj; rw [HB7.out] at e; simp at e)
  generalize w7.drew.setRow w.heap.size (qC (hdQ q q.asked.toNat) q.asked (.slice na q.name.length nc) q.typ q.cls).toArray = w9 at *
  refine hK.out _ _ ⟨hq9, hq9.old HQ7.out (fun e => by omega), hq9.cell z7 (fun e => by dsimp only at e; omega)⟩ (fun hNew => ?_)
  clear hK K hHeld
  have hHeld := hNew
  clear hNew
  refine wpAnyH_act (a' := ?sn9) ?se9 ?st9
  case se9 =>
    try simp [Act.put]
    try rfl
  refine wpAnyH_takeD (d := some 3) (i := 7) (oi := _) (v := ?sv10) rfl (by kernel_rfl) (by kernel_rfl) (by kernel_rfl) (by kernel_rfl) (fun _ _ _ h => h) (Or.inl ⟨by rfl, ?sy10⟩) hHeld ?sr10
  case sy10 =>
    intro w hSw
    clear hSw
    go_simp
    try with_reducible rfl
  refine wpAnyH_act (a' := ?sn10) ?se10 ?st10
  case se10 =>
    try simp [Act.put]
    try rfl
  refine wpAnyH_takeD (d := some 4) (i := 8) (oi := _) (v := ?sv11) rfl (by kernel_rfl) (by kernel_rfl) (by kernel_rfl) (by kernel_rfl) (fun _ _ _ h => h) (Or.inl ⟨by rfl, ?sy11⟩) hHeld ?sr11
  case sy11 =>
    intro w hSw
    clear hSw
    go_simp
    try with_reducible rfl
  refine wpAnyH_act (a' := ?sn11) ?se11 ?st11
  case se11 =>
    try simp [Act.put]
    try rfl
  refine wpAnyH_takeD (d := some 5) (i := 9) (oi := _) (v := ?sv12) rfl (by kernel_rfl) (by kernel_rfl) (by kernel_rfl) (by kernel_rfl) (fun _ _ _ h => h) (Or.inl ⟨by rfl, ?sy12⟩) hHeld ?sr12
  case sy12 =>
    intro w hSw
    clear hSw
    go_simp
    try with_reducible rfl
  refine wpAnyH_act (a' := ?sn12) ?se12 ?st12
  case se12 =>
    try simp [Act.put]
    try rfl
  refine wpAnyH_takeD (d := some 6) (i := 10) (oi := _) (v := ?sv13) rfl (by kernel_rfl) (by kernel_rfl) (by kernel_rfl) (by kernel_rfl) (fun _ _ _ h => h) (Or.inl ⟨by rfl, ?sy13⟩) hHeld ?sr13
  case sy13 =>
    intro w hSw
    clear hSw
    go_simp
    try with_reducible rfl
  refine wpAnyH_act (a' := ?sn13) ?se13 ?st13
  case se13 =>
    try simp [Act.put]
    try rfl
  refine wpAnyH_done (by kernel_rfl) ?_ _
  go_wp2_with fail
  refine bodyPost_ret (results_row4 rfl _ _ w.heap.size 55 _ (0, 0) _ rfl hb9 Tryz.underlying55 rfl (infoQq _ _ _ _ _) _ _ _ _ rfl rfl rfl rfl) rfl ?_
  exact ⟨_, _, E, rfl, HO7.out.tr hq9 (fun x hx e => by omega), hr9.base HS34.out, HM4.out, ownsBase1 ho9 HS34.out⟩
end Go.Proofs.YtbdfijgejkimnaaGreatDoor
/-! bellhoplaw25.speaks: the plain facts. -/
namespace Go.Proofs.YtbdfijgejkimnaaGreatDoor
open Go.Conc Go.RowKit Go.Maps

def sp25 : RecB := ⟨6, 0, 5, 80, false, 0⟩
def sp25X : RecT := rec25 sp25
theorem sp25_row : rowB sp25 := ⟨by decide, by decide, by decide, by decide, by decide⟩
theorem sp25_put : putE 48 100 [] sp25X = 0 := by decide +kernel
theorem sp25_made : made25 [sp25] 50 = [sp25X] := by
  show putS 48 100 [] sp25X = [sp25X]
  unfold putS
  rw [if_pos sp25_put]
  rfl
def webU : ByteArray := ⟨#[87, 69, 66]⟩
def dbS : ByteArray := ⟨#[100, 98]⟩
def sevS : ByteArray := ⟨#[55]⟩
theorem sp25_srv : lookM 100 [sp25X] ([webU, bellS].map foldS) 33 = [⟨33, 100, (0, 0, 0, 0), 0, 5, 80, tgtL 7⟩] := by kernel_rfl
theorem sp25_srvk : decide (heldM [sp25X] ([webU, bellS].map foldS) ≠ []) = true := by kernel_rfl
theorem sp25_a : lookM 100 [sp25X] ([sevS, nodeS, bellS].map foldS) 1 = [⟨1, 100, (10, 0, 0, 5), 0, 0, 0, []⟩] := by kernel_rfl
theorem sp25_ak : decide (heldM [sp25X] ([sevS, nodeS, bellS].map foldS) ≠ []) = true := by kernel_rfl
theorem sp25_db : heldM [sp25X] ([dbS, bellS].map foldS) = [] := by kernel_rfl
theorem sp25_may : mayGo 0 [dbS, bellS] = true := by decide
theorem sp25_resp : respB 100 [sp25X] ⟨(askMsg 1 [dbS, bellS] 1).toArray⟩ = repB (askQ 1 [dbS, bellS] 1) 3 [] := by
  unfold respB
  rw [qM_ask 1 1 [dbS, bellS] (by decide) (.inl rfl) sp25_may]
  unfold finL askQ
  dsimp only
  rw [if_pos rfl, lookM_nil sp25_db, sp25_db, if_neg (by simp)]
end Go.Proofs.YtbdfijgejkimnaaGreatDoor
/-! Answer's reference: Lookup. -/
namespace Go.Proofs.YtbdfijgejkimnaaGreatDoor
open Go.Conc Go.RowKit Go.Maps

def LookP24 (w w' : World) (M : List RR) (known : Bool) (e : Ending) : Prop := ∃ v E, e = .returned (.tuple #[v, .bool known]) ∧ Only (fun _ => False) w w' ∧ RpRow24 w' w.heap.size v E ∧ E.map (·.r) = M
theorem infoStr25 : (Tryz.prog.info? 9).map (fun i => (i.zero, i.size, i.bytes)) = some (some (.string ⟨#[]⟩), 1, 16) := by kernel_rfl
def RLookupSaid : Prop := ∀ (w : World) (most ttl r : Int) (v vn : Value) (L : List RecT) (l : List ByteArray) (typ : Nat) (_ : RSl w v L) (_ : L.length ≤ 48) (_ : ttl ≤ 65535) (_ : ∀ x ∈ L, x.gone = false → TellOk ttl x) (_ : ∀ x ∈ L, goodR x = true) (_ : Sl w 1 vn l.length (l.map .string)) (_ : l.length ≤ 1000) (_ : ∀ s ∈ l, s.size ≤ 90) (_ : typ < 65536),
    Calls Tryz.prog 14 #[rstV most ttl v r, vn, .int .i64 typ] w fun e w' => LookP24 w w' (lookM ttl L (l.map foldS) typ) (decide (heldM L (l.map foldS) ≠ [])) e
set_option maxRecDepth 100000 in
set_option maxHeartbeats 8000000 in
def goalK24 : Prop := by
  refine (?f : (T : Prop) → (Hid (Nat → ∀ P : Prop, P) → Hid T → RLookupSaid) → Prop) ?T ?p
  case f => exact fun T _ => T
  case p =>
  intro HNEVER hK
  intro w most ttl r v vn L l typ hL hl ht hte hgo hv hn hs hty
  obtain ⟨i0, hi0, iz0, iz1, iz2⟩ := info_parts infoStr25
  obtain ⟨j0, hj0, jz0, jz1, jz2⟩ := info_parts infoRR24
  rw [lookM_eq hgo, held_eq hgo]
  obtain ⟨f, hf⟩ : ∃ f, f = l.map foldS := ⟨_, rfl⟩
  rw [← hf]
  obtain ⟨n, hnn⟩ : ∃ n, n = nodeM f := ⟨_, rfl⟩
  obtain ⟨t, htt⟩ : ∃ t, t = servR f := ⟨_, rfl⟩
  rw [← hnn, ← htt]
  obtain ⟨KN, hKN⟩ : ∃ KN, KN = decide (L.filter (keepM n t) ≠ []) := ⟨_, rfl⟩
  rw [← hKN]
  have HFF := Lib.hid hf
  have HNN := Lib.hid hnn
  have HTT := Lib.hid htt
  have HKN := Lib.hid hKN
  clear hf hnn htt hKN
  obtain ⟨la, lcap, rfl, q1, q2, q3⟩ := Sl.cells recC_length hL
  unfold maxLen at q2
  obtain ⟨_, na, nc, rfl, k1, k2, k3⟩ := id hv
  unfold maxLen at k2
  unfold rstV
  obtain ⟨W, hW⟩ : ∃ W, W = w.alloc (.cells #[.int .i64 most, .int .i64 ttl, .slice la L.length lcap, .int .i64 r] 27) := ⟨_, rfl⟩
  have hbW : W.heap[w.heap.size]? = some (.cells #[.int .i64 most, .int .i64 ttl, .slice la L.length lcap, .int .i64 r] 27 (0, 0)) := by rw [hW]; exact heap_alloc_new w _
  have hoW : Only (fun _ => False) w W := by rw [hW]; exact (Only.refl _ _).alloc _
  have hsW : W.heap.size = w.heap.size + 1 := by rw [hW]; simp
  have HNC := Lib.hid (show ∀ k (hk : k < l.length), ∃ b off, na = some ⟨b, off, none⟩ ∧ w.cell? ⟨b, off + k, none⟩ = some (.string l[k]) from fun k hk => by
    rcases k3 with h | ⟨b, off, h, hc⟩
    · omega
    · exact ⟨b, off, h, hc k _ (by rw [List.getElem?_map, List.getElem?_eq_getElem hk]; rfl)⟩)
  have HC := Lib.hid q3
  have HOW := Lib.hid hoW
  have HSW := Lib.hid hsW
  have HBW := Lib.hid hbW
  have HTE := Lib.hid hte
  have HGO := Lib.hid hgo
  have HSZ := Lib.hid hs
  clear q3 hoW hsW hbW hte hgo hs
  clear hL hv k3
  go_enter Tryz.func14, Tryz.ntmps14
  go_upto_region 1 with (fail)
  rw [← hW]
  clear hW
  go_wp2_with fail
  go_loopg [8, 9] l.length (fun g v8 v9 wr => ∃ k : Nat, v9 = .int .i64 k ∧ k ≤ l.length ∧ Only (fun _ => False) W wr ∧ wr.ownsRow W.heap.size 9 1 v8 k (((l.take k).map foldS).map .string) ∧ g = l.length - k)
  case atStart => exact ⟨0, rfl, Nat.zero_le _, Only.refl _ _, World.ownsRow_nil _ _ _ _, rfl⟩
  case round =>
    obtain ⟨k, rfl, hk, ho, hrow, hg⟩ := hrel
    by_cases hlt : k < l.length
    · exact HNEVER.out 0 _
    · -- rest
      have hlt' : ¬ (k : Int) < (l.length : Int) := by omega
      obtain rfl : k = l.length := by omega
      rw [List.take_length] at hrow
      have hll : l.length = f.length := by rw [HFF.out, List.length_map]
      have HSF := Lib.hid (show ∀ s ∈ l.map foldS, s.size ≤ 90 from fun s h => by
        obtain ⟨t, ht, rfl⟩ := List.mem_map.1 h
        rw [foldS_size]
        exact HSZ.out t ht)
      have HLF := Lib.hid (show (l.map foldS).length ≤ 1000 by rw [List.length_map]; exact hn)
      rw [← HFF.out] at HSF HLF hrow
      have hsf := Sl.of_owns hrow
      rw [hll] at hsf
      obtain ⟨_, fa, fc, he, _⟩ := id hsf
      rw [← hll] at he
      subst he
      have HN1 := Lib.hid (rnode_any wr _ f hsf (fun s h => by have := HSF.out s h; omega))
      have HS1 := Lib.hid (rservice_any wr _ f hsf HLF.out HSF.out)
      rw [← HNN.out] at HN1
      rw [← HTT.out] at HS1
      have HO := Lib.hid ho
      clear ho
      clear hrow hsf hll
      go_wp2_with fail
      refine HN1.out.mono ?_
      rintro e w' ⟨rfl, rfl⟩
      go_wp2_with fail
      refine HS1.out.mono ?_
      rintro e w' ⟨rfl, rfl⟩
      go_wp2_with fail
      go_loopg [12, 13, 14] L.length (fun g v12 v13 v14 wq => ∃ (k : Nat) (E : List RRv) (kn : Bool), v14 = .int .i64 k ∧ k ≤ L.length ∧ Only (fun _ => False) W wq ∧ RpRow24 wq W.heap.size v12 E ∧ E.map (·.r) = lookK ttl n t typ (L.take k) ∧ v13 = .bool kn ∧ kn = decide ((L.take k).filter (keepM n t) ≠ []) ∧ g = L.length - k)
      case atStart => exact ⟨0, [], false, rfl, Nat.zero_le _, HO.out, RpRow24.nil _ _, by unfold lookK addrsM; simp, rfl, by simp, rfl⟩
      case round =>
        obtain ⟨k, E, kn, rfl, hk, ho2, hrow2, hE2, rfl, hkn, hg2⟩ := hrel
        rename World => wq
        have hEl : E.length ≤ 48 := by
          have h1 := congrArg List.length hE2
          rw [List.length_map] at h1
          have h2 := lookK_len ttl n t typ (L.take k)
          rw [List.length_take] at h2
          omega
        have hb2 := ho2.cell (cell_at HBW.out 2 : W.cell? ⟨w.heap.size, 2, none⟩ = some (.slice la L.length lcap)) id
        have hb1 := ho2.cell (cell_at HBW.out 1 : W.cell? ⟨w.heap.size, 1, none⟩ = some (.int .i64 ttl)) id
        by_cases hlk : k < L.length
        · -- round
          have hlk' : (k : Int) < (L.length : Int) := by omega
          have hk0 : (0 : Int) ≤ (k : Int) := by omega
          obtain ⟨lb, off, rfl, hc⟩ := HC.out.at k hlk
          have hcr : ∀ i u, (recC L[k])[i]? = some u → wq.cell? ⟨lb, off + k * 6 + i, none⟩ = some u := fun i u hu => ho2.cell (HOW.out.cell (hc i u hu) id) id
          have HSK := Lib.hid (fun h => lookK_skip (ttl := ttl) (n := n) (t := t) (typ := typ) hlk h)
          have HTK := Lib.hid (fun h => lookK_take (ttl := ttl) (n := n) (t := t) (typ := typ) hlk h)
          have HTO := Lib.hid (fun h => HTE.out _ (List.getElem_mem hlk) h)
          have hgs := good_splitA (HGO.out _ (List.getElem_mem hlk))
          have HNO := Lib.hid (good_node (HGO.out _ (List.getElem_mem hlk)))
          generalize L[k] = x at *
          have hkm : keepM n t x = (!x.gone && ((decide (0 < n) && decide (x.o = n)) || (!decide (t = ⟨#[]⟩) && decide (x.key.extract 2 x.key.size = t)))) := rfl
          have hra : rrA ttl x = ⟨1, (ttl - x.age).toNat, addrOf x, 0, 0, 0, []⟩ := rfl
          have hao : addrOf x = (bA x.data 0, bA x.data 1, bA x.data 2, bA x.data 3) := rfl
          have hrs : rrS ttl x = ⟨33, (ttl - x.age).toNat, (0, 0, 0, 0), bA x.data 6 * 256 + bA x.data 7, bA x.data 8 * 256 + bA x.data 9, bA x.data 4 * 256 + bA x.data 5, tgtL x.o.toNat⟩ := rfl
          have HTF := Lib.hid (fun h => (HTO.out h).facts)
          have HTY := Lib.hid (fun h => (HTO.out h).young)
          obtain ⟨keep, hkeep⟩ : ∃ keep, keep = keepM n t x := ⟨_, rfl⟩
          have HAD := Lib.hid (show ∀ E, addA ttl E x = if hasA E (addrOf x) then E else E ++ [rrA ttl x] from fun _ => rfl)
          rw [← hkeep] at HSK HTK hkm
          obtain ⟨k1, n1, o1, a1, g1, d1⟩ := x
          simp only at hkm hao hgs HTF HTY hrs hra
          have HNG := Lib.hid (show 1 ≤ o1 ∧ o1 ≤ 65535 from ⟨HNO.out.1, HNO.out.2.1⟩)
          have y0 := hcr 0 _ rfl
          have y1 := hcr 1 _ rfl
          have y2 := hcr 2 _ rfl
          have y3 := hcr 3 _ rfl
          have y4 := hcr 4 _ rfl
          have y5 := hcr 5 _ rfl
          simp only [Nat.add_zero] at y0 y1 y2 y3 y4 y5
          have hb2' := hb2
          obtain ⟨W15, hW15⟩ : ∃ W15, W15 = wq.alloc (.cells #[.string k1, .int .u64 n1, .int .i64 o1, .int .i64 a1, .bool g1, .string d1] 75) := ⟨_, rfl⟩
          have hbW15 : W15.heap[wq.heap.size]? = some (.cells #[.string k1, .int .u64 n1, .int .i64 o1, .int .i64 a1, .bool g1, .string d1] 75 (0, 0)) := by rw [hW15]; exact heap_alloc_new wq _
          have hoW15 : Only (fun _ => False) wq W15 := by rw [hW15]; exact (Only.refl _ _).alloc _
          have hsW15 : W15.heap.size = wq.heap.size + 1 := by rw [hW15]; simp
          have hb1' := hoW15.cell hb1 id
          have hks : ((k1.size : Nat) : Int) ≥ 2 := by have := hgs.2; omega
          have HO2 := Lib.hid ho2
          have HROW2 := Lib.hid hrow2
          have HE2 := Lib.hid hE2
          have Hg2 := Lib.hid hg2
          have HKM := Lib.hid hkm
          have HAO := Lib.hid hao
          have HRA := Lib.hid hra
          have HRS := Lib.hid hrs
          have HB15 := Lib.hid hbW15
          have HOW15 := Lib.hid hoW15
          have HSW15 := Lib.hid hsW15
          have HKP := Lib.hid hkeep
          have HKNK := Lib.hid hkn
          clear ho2 hrow2 hE2 hg2 hkm hao hra hrs hbW15 hoW15 hsW15 hkeep hkn
          clear hc hcr hb1
          go_upto_region 13 with (fail)
          rw [← hW15]
          clear hW15 y0 y1 y2 y3 y4 y5 hb2 hb2'
          have x0 : W15.cell? ⟨wq.heap.size, 0, none⟩ = some (.string k1) := cell_at HB15.out 0
          have x1 : W15.cell? ⟨wq.heap.size, 1, none⟩ = some (.int .u64 n1) := cell_at HB15.out 1
          have x2 : W15.cell? ⟨wq.heap.size, 2, none⟩ = some (.int .i64 o1) := cell_at HB15.out 2
          have x3 : W15.cell? ⟨wq.heap.size, 3, none⟩ = some (.int .i64 a1) := cell_at HB15.out 3
          have x4 : W15.cell? ⟨wq.heap.size, 4, none⟩ = some (.bool g1) := cell_at HB15.out 4
          have x5 : W15.cell? ⟨wq.heap.size, 5, none⟩ = some (.string d1) := cell_at HB15.out 5
          go_cut [74] (fun v74 wx => v74 = .bool (!keep) ∧ W15 = wx)
          case first =>
            exact HNEVER.out 0 _
          case rest =>
          obtain ⟨rfl, rfl⟩ := hcut
          cases keep with
          | false =>
            exact HNEVER.out 0 _
          | true =>
            rename_i yleft0 yk11 yQp2 yK3 ygk4 yJ5 yK6 ya7 yhk8 yleft9 yright10 yK11 ya12 yK13 ya14 yu3815 yu3916 yu4017 yu4118 yu4219 yu4320 yu4421 yu4522 yu4623 yu4724 yu4825 yu4926 yu5027 yu5128 yu5229 yu5330 yu5431 yu5532 yu5633 yu5734 yu5835 yu5936 yu6037 yu6138 yu6239 yu6340 yu6441 yu6542 yu6643 yu6744 yu6845 yu6946 yu7047 yu7148 yu7249 yu7350 yu7551 yu7652 yu7753 yu7854 yu7955 yu8056 yu8157 yu8258 yu8359 yu8460 yu8561 yu8662 yu8763 yu8864 yu8965 yu9066 yu9167 yu9268 yu9369 yu9470 yu9571 yu9672 yu9773 yu9874 yu9975 yu10076 yu10177 yu10278 yu10379 yu10480 yu10581 yu10682 yu10783 yu10884 yu10985 yu11086 yu11187 yu11288 yu11389 yu11490 yu11591 yu11692 yu11793 yu11894 yu11995 yu12096 yu12197 yu12298 yu12399 yu124100 yu125101 yu126102 yu127103 yu128104 yu129105 yu130106 yu131107 yu132108 yu133109 yu134110 yu135111 yu136112 yu137113 yu138114 yu139115 yu140116 yu141117 yu142118 yu143119 yu144120 yu145121 yu146122 yu147123 yu148124 yJ125 yK126 ya127 ya128 ya129 yK130 ya131 yK132 ya133 yK134 ya135
            revert w most ttl r L l typ hl ht hn hty f n t KN HFF HNN HTT HKN lcap q1 q2 yleft0 na nc yk11 k2 W HNC HOW HSW HTE HGO HSZ yQp2 yK3 ygk4 wr u20 u21 u22 u23 u24 u25 u26 u27 u28 u29 u30 u31 u32 u33 yJ5 yK6 ya7 yhk8 hg hlt HSF HLF
                yleft9 fa fc yright10 HN1 HS1 HO yK11 ya12 hlt' yK13 ya14 gk wq u12 u15 u16 u17 u18 u19 yu3815 yu3916 yu4017 yu4118 yu4219 yu4320 yu4421 yu4522 yu4623 yu4724 yu4825 yu4926 yu5027 yu5128 yu5229 yu5330 yu5431 yu5532 yu5633
                yu5734 yu5835 yu5936 yu6037 yu6138 yu6239 yu6340 yu6441 yu6542 yu6643 yu6744 yu6845 yu6946 yu7047 yu7148 yu7249 yu7350 u74 yu7551 yu7652 yu7753 yu7854 yu7955 yu8056 yu8157 yu8258 yu8359 yu8460 yu8561 yu8662 yu8763 yu8864
                yu8965 yu9066 yu9167 yu9268 yu9369 yu9470 yu9571 yu9672 yu9773 yu9874 yu9975 yu10076 yu10177 yu10278 yu10379 yu10480 yu10581 yu10682 yu10783 yu10884 yu10985 yu11086 yu11187 yu11288 yu11389 yu11490 yu11591 yu11692 yu11793
                yu11894 yu11995 yu12096 yu12197 yu12298 yu12399 yu124100 yu125101 yu126102 yu127103 yu128104 yu129105 yu130106 yu131107 yu132108 yu133109 yu134110 yu135111 yu136112 yu137113 yu138114 yu139115 yu140116 yu141117 yu142118
                yu143119 yu144120 yu145121 yu146122 yu147123 yu148124 yJ125 yK126 ya127 k E kn hk hEl hlk hlk' hk0 lb off HC HBW ya128 ya129 k1 n1 o1 a1 g1 d1 HTO hgs HNO HTF HTY HAD HNG W15 hb1' hks HO2 HROW2 HE2 Hg2 HAO HRA HRS HB15 HOW15
                HSW15 HKNK yK130 ya131 yK132 ya133 yK134 ya135 x0 x1 x2 x3 x4 x5 u38 u39 u40 u41 u42 u43 u44 u45 u46 u47 u48 u49 u50 u51 u52 u53 u54 u55 u56 u57 u58 u59 u60 u61 u62 u63 u64 u65 u66 u67 u68 u69 u70 u71 u72 u73 u75 u76 u77 u78
                u79 u80 u81 u82 u83 u84 u85 u86 u87 u88 u89 u90 u91 u92 u93 u94 u95 u96 u97 u98 u99 u100 u101 u102 u103 u104 u105 u106 u107 u108 u109 u110 u111 u112 u113 u114 u115 u116 u117 u118 u119 u120 u121 u122 u123 u124 u125 u126 u127
                u128 u129 u130 u131 u132 u133 u134 u135 u136 u137 u138 u139 u140 u141 u142 u143 u144 u145 u146 u147 u148 HSK HTK HKM HKP
            exact hK.out
        · exact HNEVER.out 0 _
set_option maxRecDepth 100000 in
set_option maxHeartbeats 8000000 in
theorem rlookup_of (hK : Hid goalK24) : RLookupSaid := by
  intro w most ttl r v vn L l typ hL hl ht hte hgo hv hn hs hty
  obtain ⟨i0, hi0, iz0, iz1, iz2⟩ := info_parts infoStr25
  obtain ⟨j0, hj0, jz0, jz1, jz2⟩ := info_parts infoRR24
  rw [lookM_eq hgo, held_eq hgo]
  obtain ⟨f, hf⟩ : ∃ f, f = l.map foldS := ⟨_, rfl⟩
  rw [← hf]
  obtain ⟨n, hnn⟩ : ∃ n, n = nodeM f := ⟨_, rfl⟩
  obtain ⟨t, htt⟩ : ∃ t, t = servR f := ⟨_, rfl⟩
  rw [← hnn, ← htt]
  obtain ⟨KN, hKN⟩ : ∃ KN, KN = decide (L.filter (keepM n t) ≠ []) := ⟨_, rfl⟩
  rw [← hKN]
  have HFF := Lib.hid hf
  have HNN := Lib.hid hnn
  have HTT := Lib.hid htt
  have HKN := Lib.hid hKN
  clear hf hnn htt hKN
  obtain ⟨la, lcap, rfl, q1, q2, q3⟩ := Sl.cells recC_length hL
  unfold maxLen at q2
  obtain ⟨_, na, nc, rfl, k1, k2, k3⟩ := id hv
  unfold maxLen at k2
  unfold rstV
  obtain ⟨W, hW⟩ : ∃ W, W = w.alloc (.cells #[.int .i64 most, .int .i64 ttl, .slice la L.length lcap, .int .i64 r] 27) := ⟨_, rfl⟩
  have hbW : W.heap[w.heap.size]? = some (.cells #[.int .i64 most, .int .i64 ttl, .slice la L.length lcap, .int .i64 r] 27 (0, 0)) := by rw [hW]; exact heap_alloc_new w _
  have hoW : Only (fun _ => False) w W := by rw [hW]; exact (Only.refl _ _).alloc _
  have hsW : W.heap.size = w.heap.size + 1 := by rw [hW]; simp
  have HNC := Lib.hid (show ∀ k (hk : k < l.length), ∃ b off, na = some ⟨b, off, none⟩ ∧ w.cell? ⟨b, off + k, none⟩ = some (.string l[k]) from fun k hk => by
    rcases k3 with h | ⟨b, off, h, hc⟩
    · omega
    · exact ⟨b, off, h, hc k _ (by rw [List.getElem?_map, List.getElem?_eq_getElem hk]; rfl)⟩)
  have HC := Lib.hid q3
  have HOW := Lib.hid hoW
  have HSW := Lib.hid hsW
  have HBW := Lib.hid hbW
  have HTE := Lib.hid hte
  have HGO := Lib.hid hgo
  have HSZ := Lib.hid hs
  clear q3 hoW hsW hbW hte hgo hs
  clear hL hv k3
  go_enter Tryz.func14, Tryz.ntmps14
  go_upto_region 1 with (fail)
  rw [← hW]
  clear hW
  go_wp2_with fail
  go_loopg [8, 9] l.length (fun g v8 v9 wr => ∃ k : Nat, v9 = .int .i64 k ∧ k ≤ l.length ∧ Only (fun _ => False) W wr ∧ wr.ownsRow W.heap.size 9 1 v8 k (((l.take k).map foldS).map .string) ∧ g = l.length - k)
  case atStart => exact ⟨0, rfl, Nat.zero_le _, Only.refl _ _, World.ownsRow_nil _ _ _ _, rfl⟩
  case round =>
    obtain ⟨k, rfl, hk, ho, hrow, hg⟩ := hrel
    by_cases hlt : k < l.length
    · -- fold
      have hlt' : (k : Int) < (l.length : Int) := by omega
      have hk0 : (0 : Int) ≤ (k : Int) := by omega
      obtain ⟨b, off, rfl, hc⟩ := HNC.out k hlt
      have hc' := ho.cell (HOW.out.cell hc id) id
      have HSN := Lib.hid (show ((l.take (k + 1)).map foldS).map Value.string = ((l.take k).map foldS).map Value.string ++ [.string (foldS l[k])] by rw [List.take_add_one, List.getElem?_eq_getElem hlt, Option.toList_some, List.map_append, List.map_append]; rfl)
      have HFO := Lib.hid (rfold_any wr l[k] (by have := HSZ.out _ (List.getElem_mem hlt); omega))
      have hyz := HSZ.out _ (List.getElem_mem hlt)
      generalize l[k] = y at *
      obtain ⟨ra, rc, rfl⟩ : ∃ ra rc, u8 = .slice ra k rc := by obtain ⟨_, ra, rc, h, _⟩ := Sl.of_owns hrow; exact ⟨ra, rc, h⟩
      have HO := Lib.hid ho
      have HROW := Lib.hid hrow
      have Hg := Lib.hid hg
      clear ho hrow hg
      clear hc
      go_wp2_with fail
      refine HFO.out.mono ?_
      rintro e w1 ⟨rfl, ho1⟩
      have hr1 := owns_kept HROW.out ho1 (fun _ _ => id)
      have hsz1 := (HO.out.trans ho1).size
      have hsz0 := HSW.out
      have HO1 := Lib.hid ho1
      have HR1 := Lib.hid hr1
      clear ho1 hr1
      go_wp2_with (at_builtin; refine Wait.mk ?_)
      refine Wait.go (wpList_append_src _ rfl (.tmp 26) (.tmp 32) 34 34 rfl W.heap.size 9 i0 _ 1 16 Tryz.underlying34 hi0 iz0 iz1 iz2 rfl _ k (((l.take k).map foldS).map .string) rfl ?own4 _ 1 [.string (foldS y)] rfl ?src4 ?m4 ?b4 ?base4 ?_)
      case own4 => exact HR1.out.alloc _
      case src4 => exact Src.ofSlice _ Tryz.underlying34 _ _ _ _ rfl (news_new _ _ _) (by simp [Value.oneCell'])
      case m4 => unfold maxLen; omega
      case b4 => omega
      case base4 => simp; omega
      intro v9 w9 own9 gr9 _
      have ho9 : Only (fun _ => False) W w9 := ((HO.out.trans HO1.out).alloc _).own (HR1.out.alloc _) (Nat.le_refl _) gr9
      have hr9 : w9.ownsRow W.heap.size 9 1 v9 (k + 1) (((l.take (k + 1)).map foldS).map .string) := by rw [HSN.out]; exact own9
      have HO9 := Lib.hid ho9
      have HR9 := Lib.hid hr9
      clear ho9 hr9
      clear own9 gr9
      go_wp2_with fail
      go_roundg (l.length - (k + 1))
      case measure => rw [Hg.out]; omega
      case rel => exact ⟨k + 1, by go_num, by omega, HO9.out, HR9.out, rfl⟩
    · -- rest
      have hlt' : ¬ (k : Int) < (l.length : Int) := by omega
      obtain rfl : k = l.length := by omega
      rw [List.take_length] at hrow
      have hll : l.length = f.length := by rw [HFF.out, List.length_map]
      have HSF := Lib.hid (show ∀ s ∈ l.map foldS, s.size ≤ 90 from fun s h => by
        obtain ⟨t, ht, rfl⟩ := List.mem_map.1 h
        rw [foldS_size]
        exact HSZ.out t ht)
      have HLF := Lib.hid (show (l.map foldS).length ≤ 1000 by rw [List.length_map]; exact hn)
      rw [← HFF.out] at HSF HLF hrow
      have hsf := Sl.of_owns hrow
      rw [hll] at hsf
      obtain ⟨_, fa, fc, he, _⟩ := id hsf
      rw [← hll] at he
      subst he
      have HN1 := Lib.hid (rnode_any wr _ f hsf (fun s h => by have := HSF.out s h; omega))
      have HS1 := Lib.hid (rservice_any wr _ f hsf HLF.out HSF.out)
      rw [← HNN.out] at HN1
      rw [← HTT.out] at HS1
      have HO := Lib.hid ho
      clear ho
      clear hrow hsf hll
      go_wp2_with fail
      refine HN1.out.mono ?_
      rintro e w' ⟨rfl, rfl⟩
      go_wp2_with fail
      refine HS1.out.mono ?_
      rintro e w' ⟨rfl, rfl⟩
      go_wp2_with fail
      go_loopg [12, 13, 14] L.length (fun g v12 v13 v14 wq => ∃ (k : Nat) (E : List RRv) (kn : Bool), v14 = .int .i64 k ∧ k ≤ L.length ∧ Only (fun _ => False) W wq ∧ RpRow24 wq W.heap.size v12 E ∧ E.map (·.r) = lookK ttl n t typ (L.take k) ∧ v13 = .bool kn ∧ kn = decide ((L.take k).filter (keepM n t) ≠ []) ∧ g = L.length - k)
      case atStart => exact ⟨0, [], false, rfl, Nat.zero_le _, HO.out, RpRow24.nil _ _, by unfold lookK addrsM; simp, rfl, by simp, rfl⟩
      case round =>
        obtain ⟨k, E, kn, rfl, hk, ho2, hrow2, hE2, rfl, hkn, hg2⟩ := hrel
        rename World => wq
        have hEl : E.length ≤ 48 := by
          have h1 := congrArg List.length hE2
          rw [List.length_map] at h1
          have h2 := lookK_len ttl n t typ (L.take k)
          rw [List.length_take] at h2
          omega
        have hb2 := ho2.cell (cell_at HBW.out 2 : W.cell? ⟨w.heap.size, 2, none⟩ = some (.slice la L.length lcap)) id
        have hb1 := ho2.cell (cell_at HBW.out 1 : W.cell? ⟨w.heap.size, 1, none⟩ = some (.int .i64 ttl)) id
        by_cases hlk : k < L.length
        · -- round
          have hlk' : (k : Int) < (L.length : Int) := by omega
          have hk0 : (0 : Int) ≤ (k : Int) := by omega
          obtain ⟨lb, off, rfl, hc⟩ := HC.out.at k hlk
          have hcr : ∀ i u, (recC L[k])[i]? = some u → wq.cell? ⟨lb, off + k * 6 + i, none⟩ = some u := fun i u hu => ho2.cell (HOW.out.cell (hc i u hu) id) id
          have HSK := Lib.hid (fun h => lookK_skip (ttl := ttl) (n := n) (t := t) (typ := typ) hlk h)
          have HTK := Lib.hid (fun h => lookK_take (ttl := ttl) (n := n) (t := t) (typ := typ) hlk h)
          have HTO := Lib.hid (fun h => HTE.out _ (List.getElem_mem hlk) h)
          have hgs := good_splitA (HGO.out _ (List.getElem_mem hlk))
          have HNO := Lib.hid (good_node (HGO.out _ (List.getElem_mem hlk)))
          generalize L[k] = x at *
          have hkm : keepM n t x = (!x.gone && ((decide (0 < n) && decide (x.o = n)) || (!decide (t = ⟨#[]⟩) && decide (x.key.extract 2 x.key.size = t)))) := rfl
          have hra : rrA ttl x = ⟨1, (ttl - x.age).toNat, addrOf x, 0, 0, 0, []⟩ := rfl
          have hao : addrOf x = (bA x.data 0, bA x.data 1, bA x.data 2, bA x.data 3) := rfl
          have hrs : rrS ttl x = ⟨33, (ttl - x.age).toNat, (0, 0, 0, 0), bA x.data 6 * 256 + bA x.data 7, bA x.data 8 * 256 + bA x.data 9, bA x.data 4 * 256 + bA x.data 5, tgtL x.o.toNat⟩ := rfl
          have HTF := Lib.hid (fun h => (HTO.out h).facts)
          have HTY := Lib.hid (fun h => (HTO.out h).young)
          obtain ⟨keep, hkeep⟩ : ∃ keep, keep = keepM n t x := ⟨_, rfl⟩
          have HAD := Lib.hid (show ∀ E, addA ttl E x = if hasA E (addrOf x) then E else E ++ [rrA ttl x] from fun _ => rfl)
          rw [← hkeep] at HSK HTK hkm
          obtain ⟨k1, n1, o1, a1, g1, d1⟩ := x
          simp only at hkm hao hgs HTF HTY hrs hra
          have HNG := Lib.hid (show 1 ≤ o1 ∧ o1 ≤ 65535 from ⟨HNO.out.1, HNO.out.2.1⟩)
          have y0 := hcr 0 _ rfl
          have y1 := hcr 1 _ rfl
          have y2 := hcr 2 _ rfl
          have y3 := hcr 3 _ rfl
          have y4 := hcr 4 _ rfl
          have y5 := hcr 5 _ rfl
          simp only [Nat.add_zero] at y0 y1 y2 y3 y4 y5
          have hb2' := hb2
          obtain ⟨W15, hW15⟩ : ∃ W15, W15 = wq.alloc (.cells #[.string k1, .int .u64 n1, .int .i64 o1, .int .i64 a1, .bool g1, .string d1] 75) := ⟨_, rfl⟩
          have hbW15 : W15.heap[wq.heap.size]? = some (.cells #[.string k1, .int .u64 n1, .int .i64 o1, .int .i64 a1, .bool g1, .string d1] 75 (0, 0)) := by rw [hW15]; exact heap_alloc_new wq _
          have hoW15 : Only (fun _ => False) wq W15 := by rw [hW15]; exact (Only.refl _ _).alloc _
          have hsW15 : W15.heap.size = wq.heap.size + 1 := by rw [hW15]; simp
          have hb1' := hoW15.cell hb1 id
          have hks : ((k1.size : Nat) : Int) ≥ 2 := by have := hgs.2; omega
          have HO2 := Lib.hid ho2
          have HROW2 := Lib.hid hrow2
          have HE2 := Lib.hid hE2
          have Hg2 := Lib.hid hg2
          have HKM := Lib.hid hkm
          have HAO := Lib.hid hao
          have HRA := Lib.hid hra
          have HRS := Lib.hid hrs
          have HB15 := Lib.hid hbW15
          have HOW15 := Lib.hid hoW15
          have HSW15 := Lib.hid hsW15
          have HKP := Lib.hid hkeep
          have HKNK := Lib.hid hkn
          clear ho2 hrow2 hE2 hg2 hkm hao hra hrs hbW15 hoW15 hsW15 hkeep hkn
          clear hc hcr hb1
          go_upto_region 13 with (fail)
          rw [← hW15]
          clear hW15 y0 y1 y2 y3 y4 y5 hb2 hb2'
          have x0 : W15.cell? ⟨wq.heap.size, 0, none⟩ = some (.string k1) := cell_at HB15.out 0
          have x1 : W15.cell? ⟨wq.heap.size, 1, none⟩ = some (.int .u64 n1) := cell_at HB15.out 1
          have x2 : W15.cell? ⟨wq.heap.size, 2, none⟩ = some (.int .i64 o1) := cell_at HB15.out 2
          have x3 : W15.cell? ⟨wq.heap.size, 3, none⟩ = some (.int .i64 a1) := cell_at HB15.out 3
          have x4 : W15.cell? ⟨wq.heap.size, 4, none⟩ = some (.bool g1) := cell_at HB15.out 4
          have x5 : W15.cell? ⟨wq.heap.size, 5, none⟩ = some (.string d1) := cell_at HB15.out 5
          go_cut [74] (fun v74 wx => v74 = .bool (!keep) ∧ W15 = wx)
          case first =>
            have hex : (k1.extract 2 k1.size).size = k1.size - 2 := by rw [ByteArray.size_extract]; omega
            cases g1 with
            | true =>
              have HV := Lib.hid (show keep = false by rw [HKM.out]; rfl)
              go_wp2_with fail
              go_meet
              exact ⟨by rw [HV.out]; rfl, rfl⟩
            | false =>
              by_cases hn0 : 0 < n
              · have hn0' : (0 : Int) < (n : Int) := by omega
                by_cases ho : o1 = (n : Int)
                · have HV := Lib.hid (show keep = true by rw [HKM.out, decide_eq_true hn0, decide_eq_true ho]; rfl)
                  subst ho
                  go_wp2_with fail
                  go_meet
                  exact ⟨by rw [HV.out]; rfl, rfl⟩
                · by_cases htz : t = ⟨#[]⟩
                  · have HV := Lib.hid (show keep = false by rw [HKM.out, decide_eq_true hn0, decide_eq_false ho, decide_eq_true htz]; rfl)
                    subst htz
                    go_wp2_with fail
                    go_meet
                    exact ⟨by rw [HV.out]; first | rfl | simp [ho], rfl⟩
                  · have hte := empty_false (s := t) (fun e => htz (str_ext (List.eq_nil_of_length_eq_zero e)))
                    by_cases hkt : k1.extract 2 k1.size = t
                    · have HV := Lib.hid (show keep = true by rw [HKM.out, decide_eq_false ho, decide_eq_false htz, decide_eq_true hkt]; simp)
                      have hse := str_eq hkt
                      clear htz hkt
                      go_wp2_with fail
                      go_meet
                      exact ⟨by rw [HV.out]; first | rfl | simp [ho], rfl⟩
                    · have HV := Lib.hid (show keep = false by rw [HKM.out, decide_eq_false ho, decide_eq_false hkt]; simp)
                      have hse := str_ne hkt
                      clear htz hkt
                      go_wp2_with fail
                      go_meet
                      exact ⟨by rw [HV.out]; first | rfl | simp [ho], rfl⟩
              · have hn0' : ¬ (0 : Int) < (n : Int) := by omega
                by_cases htz : t = ⟨#[]⟩
                · have HV := Lib.hid (show keep = false by rw [HKM.out, decide_eq_false hn0, decide_eq_true htz]; rfl)
                  subst htz
                  go_wp2_with fail
                  go_meet
                  exact ⟨by rw [HV.out]; rfl, rfl⟩
                · have hte := empty_false (s := t) (fun e => htz (str_ext (List.eq_nil_of_length_eq_zero e)))
                  by_cases hkt : k1.extract 2 k1.size = t
                  · have HV := Lib.hid (show keep = true by rw [HKM.out, decide_eq_false htz, decide_eq_true hkt]; simp)
                    have hse := str_eq hkt
                    clear htz hkt
                    go_wp2_with fail
                    go_meet
                    exact ⟨by rw [HV.out]; rfl, rfl⟩
                  · have HV := Lib.hid (show keep = false by rw [HKM.out, decide_eq_false hn0, decide_eq_false hkt]; simp)
                    have hse := str_ne hkt
                    clear htz hkt
                    go_wp2_with fail
                    go_meet
                    exact ⟨by rw [HV.out]; rfl, rfl⟩
          case rest =>
          obtain ⟨rfl, rfl⟩ := hcut
          cases keep with
          | false =>
            have HS2 := Lib.hid (HSK.out rfl)
            go_wp2_with fail
            go_roundg (L.length - (k + 1))
            case measure => rw [Hg2.out]; omega
            case rel => exact ⟨k + 1, E, kn, by go_num, by omega, HO2.out.trans HOW15.out, HROW2.out.new HOW15.out, by rw [HS2.out.1]; exact HE2.out, rfl, by rw [HKNK.out, HS2.out.2], rfl⟩
          | true =>
            rename_i yleft0 yk11 yQp2 yK3 ygk4 yJ5 yK6 ya7 yhk8 yleft9 yright10 yK11 ya12 yK13 ya14 yu3815 yu3916 yu4017 yu4118 yu4219 yu4320 yu4421 yu4522 yu4623 yu4724 yu4825 yu4926 yu5027 yu5128 yu5229 yu5330 yu5431 yu5532 yu5633 yu5734 yu5835 yu5936 yu6037 yu6138 yu6239 yu6340 yu6441 yu6542 yu6643 yu6744 yu6845 yu6946 yu7047 yu7148 yu7249 yu7350 yu7551 yu7652 yu7753 yu7854 yu7955 yu8056 yu8157 yu8258 yu8359 yu8460 yu8561 yu8662 yu8763 yu8864 yu8965 yu9066 yu9167 yu9268 yu9369 yu9470 yu9571 yu9672 yu9773 yu9874 yu9975 yu10076 yu10177 yu10278 yu10379 yu10480 yu10581 yu10682 yu10783 yu10884 yu10985 yu11086 yu11187 yu11288 yu11389 yu11490 yu11591 yu11692 yu11793 yu11894 yu11995 yu12096 yu12197 yu12298 yu12399 yu124100 yu125101 yu126102 yu127103 yu128104 yu129105 yu130106 yu131107 yu132108 yu133109 yu134110 yu135111 yu136112 yu137113 yu138114 yu139115 yu140116 yu141117 yu142118 yu143119 yu144120 yu145121 yu146122 yu147123 yu148124 yJ125 yK126 ya127 ya128 ya129 yK130 ya131 yK132 ya133 yK134 ya135
            revert w most ttl r L l typ hl ht hn hty f n t KN HFF HNN HTT HKN lcap q1 q2 yleft0 na nc yk11 k2 W HNC HOW HSW HTE HGO HSZ yQp2 yK3 ygk4 wr u20 u21 u22 u23 u24 u25 u26 u27 u28 u29 u30 u31 u32 u33 yJ5 yK6 ya7 yhk8 hg hlt HSF HLF
                yleft9 fa fc yright10 HN1 HS1 HO yK11 ya12 hlt' yK13 ya14 gk wq u12 u15 u16 u17 u18 u19 yu3815 yu3916 yu4017 yu4118 yu4219 yu4320 yu4421 yu4522 yu4623 yu4724 yu4825 yu4926 yu5027 yu5128 yu5229 yu5330 yu5431 yu5532 yu5633
                yu5734 yu5835 yu5936 yu6037 yu6138 yu6239 yu6340 yu6441 yu6542 yu6643 yu6744 yu6845 yu6946 yu7047 yu7148 yu7249 yu7350 u74 yu7551 yu7652 yu7753 yu7854 yu7955 yu8056 yu8157 yu8258 yu8359 yu8460 yu8561 yu8662 yu8763 yu8864
                yu8965 yu9066 yu9167 yu9268 yu9369 yu9470 yu9571 yu9672 yu9773 yu9874 yu9975 yu10076 yu10177 yu10278 yu10379 yu10480 yu10581 yu10682 yu10783 yu10884 yu10985 yu11086 yu11187 yu11288 yu11389 yu11490 yu11591 yu11692 yu11793
                yu11894 yu11995 yu12096 yu12197 yu12298 yu12399 yu124100 yu125101 yu126102 yu127103 yu128104 yu129105 yu130106 yu131107 yu132108 yu133109 yu134110 yu135111 yu136112 yu137113 yu138114 yu139115 yu140116 yu141117 yu142118
                yu143119 yu144120 yu145121 yu146122 yu147123 yu148124 yJ125 yK126 ya127 k E kn hk hEl hlk hlk' hk0 lb off HC HBW ya128 ya129 k1 n1 o1 a1 g1 d1 HTO hgs HNO HTF HTY HAD HNG W15 hb1' hks HO2 HROW2 HE2 Hg2 HAO HRA HRS HB15 HOW15
                HSW15 HKNK yK130 ya131 yK132 ya133 yK134 ya135 x0 x1 x2 x3 x4 x5 u38 u39 u40 u41 u42 u43 u44 u45 u46 u47 u48 u49 u50 u51 u52 u53 u54 u55 u56 u57 u58 u59 u60 u61 u62 u63 u64 u65 u66 u67 u68 u69 u70 u71 u72 u73 u75 u76 u77 u78
                u79 u80 u81 u82 u83 u84 u85 u86 u87 u88 u89 u90 u91 u92 u93 u94 u95 u96 u97 u98 u99 u100 u101 u102 u103 u104 u105 u106 u107 u108 u109 u110 u111 u112 u113 u114 u115 u116 u117 u118 u119 u120 u121 u122 u123 u124 u125 u126 u127
                u128 u129 u130 u131 u132 u133 u134 u135 u136 u137 u138 u139 u140 u141 u142 u143 u144 u145 u146 u147 u148 HSK HTK HKM HKP
            exact hK.out
        · -- fin
          have hlk' : ¬ (k : Int) < (L.length : Int) := by omega
          rw [List.take_of_length_le (by omega)] at hE2 hkn
          obtain rfl : kn = KN := hkn.trans HKN.out.symm
          clear hkn
          have HO2 := Lib.hid ho2
          have HROW2 := Lib.hid hrow2
          have HE2 := Lib.hid hE2
          clear ho2 hrow2 hE2
          clear hb1
          go_wp2_with fail
          go_ret2
          exact ⟨_, E, rfl, HOW.out.trans HO2.out, HROW2.out.base HOW.out.size, HE2.out⟩
end Go.Proofs.YtbdfijgejkimnaaGreatDoor
/-! Answer's reference: Lookup, a record that is kept: up to its address. -/
namespace Go.Proofs.YtbdfijgejkimnaaGreatDoor
open Go.Conc Go.RowKit Go.Maps

set_option maxRecDepth 100000 in
set_option maxHeartbeats 8000000 in
def goalM24 : Prop := by
  refine (?f : (T : Prop) → (Hid (Nat → ∀ P : Prop, P) → Hid T → goalK24) → Prop) ?T ?p
  case f => exact fun T _ => T
  case p =>
  intro HNEVER hM
  obtain ⟨i0, hi0, iz0, iz1, iz2⟩ := info_parts infoStr25
  obtain ⟨j0, hj0, jz0, jz1, jz2⟩ := info_parts infoRR24
  intro w most ttl r L l typ hl ht hn hty f n t KN HFF HNN HTT HKN lcap q1 q2 yleft0 na nc yk11 k2 W HNC HOW HSW HTE HGO HSZ yQp2 yK3 ygk4 wr u20 u21 u22 u23 u24 u25 u26 u27 u28 u29 u30 u31 u32 u33 yJ5 yK6 ya7 yhk8 hg hlt HSF HLF
      yleft9 fa fc yright10 HN1 HS1 HO yK11 ya12 hlt' yK13 ya14 gk wq u12 u15 u16 u17 u18 u19 yu3815 yu3916 yu4017 yu4118 yu4219 yu4320 yu4421 yu4522 yu4623 yu4724 yu4825 yu4926 yu5027 yu5128 yu5229 yu5330 yu5431 yu5532 yu5633
      yu5734 yu5835 yu5936 yu6037 yu6138 yu6239 yu6340 yu6441 yu6542 yu6643 yu6744 yu6845 yu6946 yu7047 yu7148 yu7249 yu7350 u74 yu7551 yu7652 yu7753 yu7854 yu7955 yu8056 yu8157 yu8258 yu8359 yu8460 yu8561 yu8662 yu8763 yu8864
      yu8965 yu9066 yu9167 yu9268 yu9369 yu9470 yu9571 yu9672 yu9773 yu9874 yu9975 yu10076 yu10177 yu10278 yu10379 yu10480 yu10581 yu10682 yu10783 yu10884 yu10985 yu11086 yu11187 yu11288 yu11389 yu11490 yu11591 yu11692 yu11793
      yu11894 yu11995 yu12096 yu12197 yu12298 yu12399 yu124100 yu125101 yu126102 yu127103 yu128104 yu129105 yu130106 yu131107 yu132108 yu133109 yu134110 yu135111 yu136112 yu137113 yu138114 yu139115 yu140116 yu141117 yu142118
      yu143119 yu144120 yu145121 yu146122 yu147123 yu148124 yJ125 yK126 ya127 k E kn hk hEl hlk hlk' hk0 lb off HC HBW ya128 ya129 k1 n1 o1 a1 g1 d1 HTO hgs HNO HTF HTY HAD HNG W15 hb1' hks HO2 HROW2 HE2 Hg2 HAO HRA HRS HB15 HOW15
      HSW15 HKNK yK130 ya131 yK132 ya133 yK134 ya135 x0 x1 x2 x3 x4 x5 u38 u39 u40 u41 u42 u43 u44 u45 u46 u47 u48 u49 u50 u51 u52 u53 u54 u55 u56 u57 u58 u59 u60 u61 u62 u63 u64 u65 u66 u67 u68 u69 u70 u71 u72 u73 u75 u76 u77 u78
      u79 u80 u81 u82 u83 u84 u85 u86 u87 u88 u89 u90 u91 u92 u93 u94 u95 u96 u97 u98 u99 u100 u101 u102 u103 u104 u105 u106 u107 u108 u109 u110 u111 u112 u113 u114 u115 u116 u117 u118 u119 u120 u121 u122 u123 u124 u125 u126 u127
      u128 u129 u130 u131 u132 u133 u134 u135 u136 u137 u138 u139 u140 u141 u142 u143 u144 u145 u146 u147 u148 HSK HTK HKM HKP
  have hg1 : g1 = false := by
    have := HKM.out
    cases g1 with
    | false => rfl
    | true => simp at this
  subst hg1
  have HTT2 := Lib.hid (HTK.out rfl)
  have hfa := HTF.out rfl
  have hyo := HTY.out rfl
  obtain ⟨oN, rfl⟩ : ∃ oN : Nat, o1 = oN := ⟨o1.toNat, by have := HNG.out; omega⟩
  have hor := HNG.out
  obtain ⟨tt, htt⟩ : ∃ tt : Nat, ttl - a1 = tt := ⟨(ttl - a1).toNat, by omega⟩
  have hw64 : IntKind.i64.wrap (tt : Int) = tt := by rw [IntKind.wrap_i64]; omega
  have hw32 : IntKind.u32.wrap (tt : Int) = tt := by rw [IntKind.wrap_u32]; omega
  have HRS2 := HRS.out
  have HRA2 := HRA.out
  rw [htt, Int.toNat_natCast] at HRS2 HRA2
  rw [Int.toNat_natCast] at HRS2
  have HRS3 := Lib.hid HRS2
  have HRA3 := Lib.hid HRA2
  clear HRS2 HRA2
  have hW15o : Only (fun _ => False) W W15 := HO2.out.trans HOW15.out
  have hr15 : RpRow24 W15 W.heap.size u12 E := HROW2.out.new HOW15.out
  obtain ⟨W16, hW16⟩ : ∃ W16, W16 = W15.alloc (.cells #[.int .i64 typ, .int .u32 tt, .int .u8 0, .int .u8 0, .int .u8 0, .int .u8 0, .int .u16 0, .int .u16 0, .int .u16 0, .slice none 0 0] 48) := ⟨_, rfl⟩
  have hbW16 : W16.heap[W15.heap.size]? = some (.cells #[.int .i64 typ, .int .u32 tt, .int .u8 0, .int .u8 0, .int .u8 0, .int .u8 0, .int .u16 0, .int .u16 0, .int .u16 0, .slice none 0 0] 48 (0, 0)) := by rw [hW16]; exact heap_alloc_new W15 _
  have hoW16 : Only (fun _ => False) W15 W16 := by rw [hW16]; exact (Only.refl _ _).alloc _
  have hsW16 : W16.heap.size = W15.heap.size + 1 := by rw [hW16]; simp
  have q5 := hoW16.cell x5 id
  have q2 := hoW16.cell x2 id
  have hds : d1.size = 10 := hfa.2.1
  have p0 : 0 < d1.size := by rw [hds]; decide
  have p1 : 1 < d1.size := by rw [hds]; decide
  have p2 : 2 < d1.size := by rw [hds]; decide
  have p3 : 3 < d1.size := by rw [hds]; decide
  have g0 := bA_get d1 0 p0
  have g1 := bA_get d1 1 p1
  have g2 := bA_get d1 2 p2
  have g3 := bA_get d1 3 p3
  have i1 : (1 : Int) < (d1.size : Int) := by omega
  have i2 : (2 : Int) < (d1.size : Int) := by omega
  have i3 : (3 : Int) < (d1.size : Int) := by omega
  have i0' : (0 : Int) < (d1.size : Int) := by omega
  have hb15s : W15.heap.size = wq.heap.size + 1 := HSW15.out
  have HO15 := Lib.hid hW15o
  have HR15 := Lib.hid hr15
  have HB16 := Lib.hid hbW16
  have HOW16 := Lib.hid hoW16
  have HSW16 := Lib.hid hsW16
  have HYO := Lib.hid hyo
  have HGS := Lib.hid hgs
  have HFA := Lib.hid hfa
  clear hW15o hr15 hbW16 hoW16 hsW16 hyo hgs hfa
  go_upto_region 16 with (fail)
  rw [← hW16]
  clear hW16 x0 x1 x3 x4 x5 x2
  obtain ⟨b0, hb0⟩ : ∃ b, b = bA d1 0 := ⟨_, rfl⟩
  obtain ⟨b1, hb1⟩ : ∃ b, b = bA d1 1 := ⟨_, rfl⟩
  obtain ⟨b2, hb2⟩ : ∃ b, b = bA d1 2 := ⟨_, rfl⟩
  obtain ⟨b3, hb3⟩ : ∃ b, b = bA d1 3 := ⟨_, rfl⟩
  rw [← hb0] at g0
  rw [← hb1] at g1
  rw [← hb2] at g2
  rw [← hb3] at g3
  have HADR := Lib.hid (show addrOf ⟨k1, n1, oN, a1, false, d1⟩ = (b0, b1, b2, b3) by rw [HAO.out, hb0, hb1, hb2, hb3])
  clear hb0 hb1 hb2 hb3
  go_cut [17] (fun v17 wx => ∃ B17, v17 = .pointer (some ⟨B17, 0, none⟩) ∧ Only (fun _ => False) W16 wx ∧ wx.heap[B17]? = some (.cells #[.int .u8 b0, .int .u8 b1, .int .u8 b2, .int .u8 b3] 44 (0, 0)) ∧ W16.heap.size ≤ B17)
  case first => exact HNEVER.out 0 _
  case rest =>
    rename_i yq20 yu171 yu742 yu383 yu394 yu405 yu416 yu427 yu438 yu449 yu4510 yu4611 yu4712 yu4813 yu4914 yu5015 yu5116 yu5217 yu5318 yu5419 yu5520 yu5621 yu5722 yu5823 yu5924 yu6025 yu6126 yu6227 yu6328 yu6429 yu6530 yu6631 yu6732 yu6833 yu6934 yu7035 yu7136 yu7237 yu7338 yu7539 yu7640 yu7741 yu7842 yu7943 yu8044 yu8145 yu8246 yu8347 yu8448 yu8549 yu8650 yu8751 yu8852 yu8953 yu9054 yu9155 yu9256 yu9357 yu9458 yu9559 yu9660 yu9761 yu9862 yu9963 yu10064 yu10165 yu10266 yu10367 yu10468 yu10569 yu10670 yu10771 yu10872 yu10973 yu11074 yu11175 yu11276 yu11377 yu11478 yu11579 yu11680 yu11781 yu11882 yu11983 yu12084 yu12185 yu12286 yu12387 yu12488 yu12589 yu12690 yu12791 yu12892 yu12993 yu13094 yu13195 yu13296 yu13397 yu13498 yu13599 yu136100 yu137101 yu138102 yu139103 yu140104 yu141105 yu142106 yu143107 yu144108 yu145109 yu146110 yu147111 yu148112 yh113 yK114 ya115
    revert w most ttl r L l typ hl ht hn hty f n t KN HFF HNN HTT HKN lcap q1 yq20 yleft0 na nc yk11 k2 W HNC HOW HSW HTE HGO HSZ yQp2 yK3 ygk4 wr u20 u21 u22 u23 u24 u25 u26 u27 u28 u29 u30 u31 u32 u33 yJ5 yK6 ya7 yhk8 hg hlt HSF
        HLF yleft9 fa fc yright10 HN1 HS1 HO yK11 ya12 hlt' yK13 ya14 gk wq u12 u15 u16 yu171 u18 u19 yu3815 yu3916 yu4017 yu4118 yu4219 yu4320 yu4421 yu4522 yu4623 yu4724 yu4825 yu4926 yu5027 yu5128 yu5229 yu5330 yu5431 yu5532
        yu5633 yu5734 yu5835 yu5936 yu6037 yu6138 yu6239 yu6340 yu6441 yu6542 yu6643 yu6744 yu6845 yu6946 yu7047 yu7148 yu7249 yu7350 yu742 yu7551 yu7652 yu7753 yu7854 yu7955 yu8056 yu8157 yu8258 yu8359 yu8460 yu8561 yu8662 yu8763
        yu8864 yu8965 yu9066 yu9167 yu9268 yu9369 yu9470 yu9571 yu9672 yu9773 yu9874 yu9975 yu10076 yu10177 yu10278 yu10379 yu10480 yu10581 yu10682 yu10783 yu10884 yu10985 yu11086 yu11187 yu11288 yu11389 yu11490 yu11591 yu11692
        yu11793 yu11894 yu11995 yu12096 yu12197 yu12298 yu12399 yu124100 yu125101 yu126102 yu127103 yu128104 yu129105 yu130106 yu131107 yu132108 yu133109 yu134110 yu135111 yu136112 yu137113 yu138114 yu139115 yu140116 yu141117
        yu142118 yu143119 yu144120 yu145121 yu146122 yu147123 yu148124 yJ125 yK126 ya127 k E kn hk hEl hlk hlk' hk0 lb off HC HBW ya128 ya129 k1 n1 a1 d1 W15 hb1' hks HO2 HROW2 HE2 Hg2 HOW15 HSW15 HKNK yK130 ya131 yu383 yu394 yu405
        yu416 yu427 yu438 yu449 yu4510 yu4611 yu4712 yu4813 yu4914 yu5015 yu5116 yu5217 yu5318 yu5419 yu5520 yu5621 yu5722 yu5823 yu5924 yu6025 yu6126 yu6227 yu6328 yu6429 yu6530 yu6631 yu6732 yu6833 yu6934 yu7035 yu7136 yu7237
        yu7338 yu7539 yu7640 yu7741 yu7842 yu7943 yu8044 yu8145 yu8246 yu8347 yu8448 yu8549 yu8650 yu8751 yu8852 yu8953 yu9054 yu9155 yu9256 yu9357 yu9458 yu9559 yu9660 yu9761 yu9862 yu9963 yu10064 yu10165 yu10266 yu10367 yu10468
        yu10569 yu10670 yu10771 yu10872 yu10973 yu11074 yu11175 yu11276 yu11377 yu11478 yu11579 yu11680 yu11781 yu11882 yu11983 yu12084 yu12185 yu12286 yu12387 yu12488 yu12589 yu12690 yu12791 yu12892 yu12993 yu13094 yu13195 yu13296
        yu13397 yu13498 yu13599 yu136100 yu137101 yu138102 yu139103 yu140104 yu141105 yu142106 yu143107 yu144108 yu145109 yu146110 yu147111 yu148112 HSK HTF HTY oN HNG HTO HNO HAD HAO HRA HRS HB15 HTK HKM HKP HTT2 hor tt htt hw64
        hw32 HRS3 HRA3 W16 q5 q2 hds p0 p1 p2 p3 i1 i2 i3 i0' hb15s HO15 HR15 HB16 HOW16 HSW16 HYO HGS HFA yh113 yK114 ya115 b0 g0 b1 g1 b2 g2 b3 g3 HADR wc u17 u38 u39 u40 u41 u42 u43 u44 u45 u46 u47 u48 u49 u50 u51 u52 u53 u54 u55
        u56 u57 u58 u59 u60 u61 u62 u63 u64 u65 u66 u67 u68 u69 u70 u71 u72 u73 u74 u75 u76 u77 u78 u79 u80 u81 u82 u83 u84 u85 u86 u87 u88 u89 u90 u91 u92 u93 u94 u95 u96 u97 u98 u99 u100 u101 u102 u103 u104 u105 u106 u107 u108 u109
        u110 u111 u112 u113 u114 u115 u116 u117 u118 u119 u120 u121 u122 u123 u124 u125 u126 u127 u128 u129 u130 u131 u132 u133 u134 u135 u136 u137 u138 u139 u140 u141 u142 u143 u144 u145 u146 u147 u148 hcut
    exact hM.out
end Go.Proofs.YtbdfijgejkimnaaGreatDoor
