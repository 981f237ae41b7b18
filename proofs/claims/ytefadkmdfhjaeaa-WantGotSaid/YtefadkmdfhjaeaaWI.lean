/- What is wanted: Lost. -/
import Derived.Test.YtefadkmdfhjaeaaWD
import Derived.Test.YtefadkmdfhjaeaaWH
import Derived.Test.YtefadkmdfhjaeaaShelfW
import Derived.Test.YtefadkmdfhjaeaaWB
import Derived.Test.YtefadkmdfhjaeaaWA
import Derived.Deep.CutBlock
/-! What is wanted: a node is lost: its closure, DeleteFunc, drop of an entry that nobody has. -/
namespace Go.Proofs.Ytefadkmdfhjaeaa
open Go.Conc Go.RowKit Go.Maps Go.Sort Go.Shelf

theorem enter_lostc : ∀ args w, (callFunc 30 args).run Try.prog w = .ok (.enter 30 args) w := enters_of Try.func30 (by kernel_rfl) rfl
theorem lostc_any (W : World) (B : Nat) (n x : Int) (h : W.cell? ⟨B, 0, none⟩ = some (.int .i64 n)) : Calls Try.prog 30 #[.int .i64 x, .pointer (some ⟨B, 0, none⟩)] W fun e w' => e = .returned (.bool (decide (x = n))) ∧ ∃ q, w' = W.drewN q := by
  go_enter Try.func30, Try.ntmps30
  go_wp2_with fail
  go_ret
  exact ⟨rfl, 0, rfl⟩
set_option maxRecDepth 100000 in
set_option maxHeartbeats 2000000 in
theorem del_ints (W : World) (base B : Nat) (n : Int) (h1 : W.cell? ⟨B, 0, none⟩ = some (.int .i64 n)) (v : Value) (d : List Int) (hd : d.length < 1000000) (hd0 : d ≠ []) (hrow : W.ownsRow base 3 1 v d.length (rowI d)) (n1 : B < base) :
    Calls Try.prog 29 #[v, .func (.func 30) #[] #[.pointer (some ⟨B, 0, none⟩)]] W fun e w' => ∃ v', e = .returned v' ∧ Only (fun i => base ≤ i) W w' ∧ w'.ownsRow base 3 1 v' (lessN n d).length (rowI (lessN n d)) := by
  obtain ⟨g, cap, cur, rfl, hb, hg, hnc, hcm, hcs, ht⟩ := row_form hrow (fun e => hd0 (by unfold rowI at e; exact List.map_eq_nil_iff.1 e))
  have hrow2 : W.ownsRow base 3 1 (.slice (some ⟨g, 0, none⟩) d.toArray.size cap) d.toArray.size (d.toArray.toList.map (Value.int .i64)) := hrow
  obtain ⟨hH, hgl, _⟩ := row_holds hrow2
  have hp : PredAt Try.prog 30 #[.pointer (some ⟨B, 0, none⟩)] (Value.int .i64) (fun x => decide (x = n)) W := by
    intro W' x hb'
    have ho : Only (fun _ => False) W W' := Only.of_below hb'
    exact lostc_any W' B n x (ho.cell h1 id)
  have hpo : PredOver Try.prog 30 #[.pointer (some ⟨B, 0, none⟩)] (Value.int .i64) (fun x => decide (x = n)) g 0 d.toArray.size W := by
    intro m os dk' x _
    have ho := sortWorld_only (Value.int .i64) W g m dk' os
    exact lostc_any _ B n x (ho.cell h1 (by show ¬ B = g; omega))
  have hcon := AnyE.slices_DeleteFunc Try.delFI (Value.int .i64) (fun _ => rfl) (fun x => decide (x = n)) 30 #[.pointer (some ⟨B, 0, none⟩)] enter_lostc 0 Try.zeroValue3 g 0 cap d.toArray W hp hpo hH (by simp at hd ⊢; omega) (by simpa using hnc)
  refine hcon.mono ?_
  rintro e w' ⟨rfl, q, rfl⟩
  refine ⟨_, rfl, ((ahead_only W q).weaken (fun _ _ => False.elim)).trans ((put_only (Value.int .i64) _ g _).weaken (fun i _ e => by show base ≤ i; omega)), ?_⟩
  have hfl : d.toArray.toList.filter (fun x => !decide (x = n)) = lessN n d := rfl
  rw [hfl]
  generalize hK : lessN n d = K
  have hKl : K.length ≤ d.length := by rw [← hK]; exact List.length_filter_le _ _
  have r1 := put_row (w := Sort.ahead W q) (enc := Value.int .i64) hrow2 rfl (K ++ List.replicate (d.length - K.length) (0 : Int)).toArray (by simp; omega) K.length (by simp)
  rw [show ((K ++ List.replicate (d.length - K.length) (0 : Int)).toArray.toList.take K.length) = K by simp] at r1
  exact r1
/-- As WantAt, but the entry of k may be one that nobody has. -/
structure WantQ (w : World) (x kb c cb : Nat) (wait cnt : Int) (L : List EntW) (C : List (ByteArray × (Int × Int))) (k : ByteArray) : Prop where
  blk : w.heap[x]? = some (.cells #[.map (some kb), .pointer (some ⟨c, 0, none⟩), .int .i64 wait] 68 (0, 0))
  keys : WMapW w kb L
  rows : ∀ e ∈ L, w.ownsRow 0 3 1 e.s e.has.length (rowI e.has)
  clk : ClkIs w c cb 64 cnt C
  sync : (C.map (·.1)).Perm (L.map (·.key))
  ne : kb ≠ cb
  small : ∀ e ∈ L, e.key.size ≤ maxLen ∧ e.has.length ≤ 64 ∧ (e.key ≠ k → e.has ≠ [])
section
variable {w w' w1 w2 : World} {x kb c cb : Nat} {wait cnt : Int} {L : List EntW} {C : List (ByteArray × (Int × Int))} {k : ByteArray}
theorem WantQ.foot_not (h : WantQ w x kb c cb wait cnt L C k) : ∀ k, footW kb c cb k → ∀ cs f, w.heap[k]? ≠ some (.cells cs 3 f) := by
  intro k hk cs f e
  rcases hk with rfl | rfl | rfl
  · obtain ⟨es, c, hb⟩ := mapW_not h.keys; rw [hb] at e; cases e
  · rw [h.clk.blk] at e; cases e
  · obtain ⟨es, c, hb⟩ := mapW_not h.clk.map; rw [hb] at e; cases e
theorem WantQ.nes (h : WantQ w x kb c cb wait cnt L C k) : ¬ footW kb c cb x ∧ kb ≠ c ∧ c ≠ cb := by
  obtain ⟨es, q, hb⟩ := mapW_not h.keys
  obtain ⟨es', q', hb'⟩ := mapW_not h.clk.map
  refine ⟨fun hk => ?_, fun e => ?_, h.clk.ne⟩
  · have hx := h.blk
    rcases hk with rfl | rfl | rfl
    · rw [hb] at hx; cases hx
    · rw [h.clk.blk] at hx; cases hx
    · rw [hb'] at hx; cases hx
  · rw [e, h.clk.blk] at hb; cases hb
theorem WantQ.new (h : WantQ w x kb c cb wait cnt L C k) (ho : Only (fun _ => False) w w') : WantQ w' x kb c cb wait cnt L C k :=
  ⟨ho.old h.blk id, h.keys.kept ho id, fun e he => row_kept (h.rows e he) ho (fun _ => False.elim), h.clk.kept ho id id, h.sync, h.ne, h.small⟩
/-- An entry is put that may be empty. -/
theorem WantAt.putQ (h : WantAt w x kb c cb wait cnt L C) (e e0 : EntW) (hf : findW L e.key = some e0) (ho : Only (fun i => i = kb) w w') (hm : MapIs Try.prog 9 Value.string (fun v : Value => v) w' kb (putL (prsW L) e.key e.v)) (hrow : w.ownsRow 0 3 1 e.s e.has.length (rowI e.has)) (hsm : e.key.size ≤ maxLen ∧ e.has.length ≤ 64) : WantQ w' x kb c cb wait cnt (putW L e) C e.key ∧ Only (footW kb c cb) w w' := by
  obtain ⟨n1, n2, n3⟩ := h.nes
  have ho' : Only (footW kb c cb) w w' := ho.weaken (fun i _ e => .inl e)
  rw [put_prsW] at hm
  have hf2 := fun j (hj : j = kb) => h.foot_not j (.inl hj)
  have hap : L.Pairwise (fun p q => p.key ≠ q.key) := by
    have := h.keys.apart
    unfold prsW at this
    rw [List.pairwise_map] at this
    exact this
  refine ⟨⟨ho'.old h.blk n1, hm, fun e' he => ?_, h.clk.kept ho (fun e => n2 (Eq.symm e)) (fun e => h.ne (Eq.symm e)), h.sync.trans (putW_keys hap hf).symm, h.ne, fun e' he => ?_⟩, ho'⟩
  · rcases List.mem_append.1 he with he | he
    · exact row_kept (h.rows e' (List.mem_filter.1 he).1) ho' h.foot_not
    · obtain rfl : e' = e := by simpa using he
      exact row_kept hrow ho hf2
  · rcases List.mem_append.1 he with he | he
    · obtain ⟨a1, a2, a3⟩ := h.small e' (List.mem_filter.1 he).1
      exact ⟨a1, a2, fun _ => a3⟩
    · obtain rfl : e' = e := by simpa using he
      exact ⟨hsm.1, hsm.2, fun h9 => absurd rfl h9⟩
theorem WantQ.full (h : WantQ w x kb c cb wait cnt L C k) (hk : ∀ e ∈ L, e.has ≠ []) : WantAt w x kb c cb wait cnt L C := ⟨h.blk, h.keys, h.rows, h.clk, h.sync, h.ne, fun e he => ⟨(h.small e he).1, (h.small e he).2.1, hk e he⟩⟩
theorem WantQ.dropped (h : WantQ w x kb c cb wait cnt L C k) (ho1 : Only (fun i => i = kb) w w1) (hm : MapIs Try.prog 9 Value.string (fun v : Value => v) w1 kb (dropL (prsW L) k)) (ho2 : Only (fun i => i = cb) w1 w2) (hc : ClkIs w2 c cb 64 cnt (dropL C k)) :
    WantAt w2 x kb c cb wait cnt (dropW L k) (dropL C k) ∧ Only (footW kb c cb) w w2 := by
  obtain ⟨n1, n2, n3⟩ := h.nes
  have ho : Only (footW kb c cb) w w2 := (ho1.weaken (fun i _ e => .inl e)).trans (ho2.weaken (fun i _ e => .inr (.inr e)))
  rw [drop_prsW] at hm
  refine ⟨⟨ho.old h.blk n1, hm.kept ho2 h.ne, fun e he => row_kept (h.rows e (List.mem_filter.1 he).1) ho h.foot_not, hc, ?_, h.ne, fun e he => ?_⟩, ho⟩
  · have h1 := h.sync.filter (fun y => !decide (y = k))
    rw [List.filter_map, List.filter_map] at h1
    exact h1
  · obtain ⟨h8, h9⟩ := List.mem_filter.1 he
    obtain ⟨a1, a2, a3⟩ := h.small e h8
    exact ⟨a1, a2, a3 (by simpa using h9)⟩
end
set_option maxRecDepth 100000 in
set_option maxHeartbeats 1000000 in
theorem wdropq_any (w : World) (x kb c cb : Nat) (wait cnt : Int) (L : List EntW) (C : List (ByteArray × (Int × Int))) (k : ByteArray) (h : WantQ w x kb c cb wait cnt L C k) (hk : k.size ≤ maxLen) :
    Calls Try.prog 26 #[.pointer (some ⟨x, 0, none⟩), .string k] w fun e w' => e = .returned (.tuple #[]) ∧ DropPost w w' x kb c cb wait cnt L C k := by
  have c0 : w.cell? ⟨x, 0, none⟩ = some (.map (some kb)) := cell_at h.blk 0
  have hkb := h.keys
  have H := Lib.hid h
  have HNE := Lib.hid h.nes
  clear h
  go_enter Try.func26, Try.ntmps26
  go_wp2_with (first | (at_delete; refine wpList_mapDrop rfl _ _ _ rfl hkb strKeyed strInj Try.underlying64 rfl rfl (strOk hk) ?_; intro w1 hm1 ho1; have c1 : w1.cell? ⟨x, 1, none⟩ = some (.pointer (some ⟨c, 0, none⟩)) := cell_at (ho1.old H.out.blk (fun e => HNE.out.1 (.inl e))) 1) | fail)
  obtain ⟨n1, n2, n3⟩ := HNE.out
  have hc1 := H.out.clk.kept ho1 (fun e => n2 (Eq.symm e)) (fun e => H.out.ne (Eq.symm e))
  have HU := Lib.hid (unset_clk w1 c cb 64 cnt C hc1 k hk)
  have HM1 := Lib.hid hm1
  have HO1 := Lib.hid ho1
  clear hm1 ho1
  clear c0 hkb hc1 n1 n2 n3 hk
  go_wp2_with fail
  refine HU.out.mono ?_
  rintro e w2 ⟨rfl, ho2, hc2⟩
  have HO2 := Lib.hid ho2
  have HC2 := Lib.hid hc2
  clear ho2 hc2
  clear c1
  go_wp2_with fail
  go_end0
  exact ⟨rfl, H.out.dropped HO1.out HM1.out HO2.out HC2.out⟩
end Go.Proofs.Ytefadkmdfhjaeaa
/-! What is wanted: Lost. -/
namespace Go.Proofs.Ytefadkmdfhjaeaa
open Go.Conc Go.RowKit Go.Maps

def EntW.q (e : EntW) : Nat × List Int := (e.ver, e.has)
theorem findW_put (L : List EntW) (e : EntW) (k : ByteArray) : findW (putW L e) k = if e.key = k then some e else findW L k := by
  unfold findW putW dropW
  rw [List.find?_append]
  by_cases h : e.key = k
  · rw [if_pos h]
    have h1 : (L.filter (fun e' => !decide (e'.key = e.key))).find? (fun e' => decide (e'.key = k)) = none := by
      rw [List.find?_eq_none]
      intro x hx
      have := (List.mem_filter.1 hx).2
      rw [h] at this
      simpa using this
    rw [h1]
    simp [h]
  · rw [if_neg h]
    have h1 : (L.filter (fun e' => !decide (e'.key = e.key))).find? (fun e' => decide (e'.key = k)) = L.find? (fun e' => decide (e'.key = k)) := by
      rw [List.find?_filter]
      congr 1
      funext x
      by_cases hx : x.key = k
      · simp [hx, Ne.symm h]
      · simp [hx]
    rw [h1]
    have h2 : ([e] : List EntW).find? (fun e' => decide (e'.key = k)) = none := by simp [h]
    rw [h2]
    cases L.find? (fun e' => decide (e'.key = k)) <;> rfl
theorem findW_drop (L : List EntW) (d k : ByteArray) : findW (dropW L d) k = if d = k then none else findW L k := by
  unfold findW dropW
  by_cases h : d = k
  · rw [if_pos h, List.find?_eq_none]
    intro x hx
    have := (List.mem_filter.1 hx).2
    rw [h] at this
    simpa using this
  · rw [if_neg h, List.find?_filter]
    congr 1
    funext x
    by_cases hx : x.key = k
    · simp [hx, Ne.symm h]
    · simp [hx]
def inD (D : List ByteArray) (k : ByteArray) : Bool := D.any (fun y => decide (k = y))
theorem inD_iff (D : List ByteArray) (k : ByteArray) : inD D k = true ↔ k ∈ D := by
  unfold inD
  rw [List.any_eq_true]
  exact ⟨fun ⟨y, h1, h2⟩ => by have := of_decide_eq_true h2; exact this ▸ h1, fun h => ⟨k, h, by simp⟩⟩
theorem inD_snoc (D : List ByteArray) (d k : ByteArray) : inD (D ++ [d]) k = (inD D k || decide (k = d)) := by simp [inD]
theorem inD_congr {D E : List ByteArray} (h : ∀ k, k ∈ D ↔ k ∈ E) (k : ByteArray) : inD D k = inD E k := by
  rw [Bool.eq_iff_iff, inD_iff, inD_iff]
  exact h k
def lostQ (n : Int) (q : Nat × List Int) : Option (Nat × List Int) := if lessN n q.2 = [] then none else some (q.1, lessN n q.2)
/-- What is wanted when n has been struck out of the keys D. -/
structure LostAt (n : Int) (L0 : List EntW) (D : List ByteArray) (L : List EntW) : Prop where
  out : ∀ k, (findW L k).map EntW.q = if inD D k then ((findW L0 k).map EntW.q).bind (lostQ n) else (findW L0 k).map EntW.q
theorem LostAt.start (n : Int) (L : List EntW) : LostAt n L [] L := ⟨fun k => by simp [inD]⟩
def goneK (n : Int) (L0 : List EntW) (k : ByteArray) : Bool := match findW L0 k with
  | some e => decide (lessN n e.has = [])
  | none => false
def lostC (n : Int) (L0 : List EntW) (D : List ByteArray) (C : List (ByteArray × (Int × Int))) : List (ByteArray × (Int × Int)) := C.filter (fun p => !(inD D p.1 && goneK n L0 p.1))
theorem lostC_nil (n : Int) (L0 : List EntW) (C : List (ByteArray × (Int × Int))) : lostC n L0 [] C = C := by
  unfold lostC
  exact List.filter_eq_self.2 (fun p _ => by simp [inD])
theorem LostAt.keep {n : Int} {L0 L : List EntW} {D : List ByteArray} {k : ByteArray} {e0 : EntW} (h : LostAt n L0 D L) (hf : findW L0 k = some e0) (hne : lessN n e0.has ≠ []) (a : Option Addr) (cap : Nat) : LostAt n L0 (D ++ [k]) (putW L ⟨k, e0.ver, lessN n e0.has, a, cap⟩) := ⟨fun j => by
  rw [findW_put]
  by_cases hj : k = j
  · subst hj
    rw [if_pos rfl, if_pos (by simp [inD_snoc]), hf]
    simp [lostQ, hne, EntW.q]
  · have hj2 : ¬ j = k := fun e => hj e.symm
    rw [if_neg hj, h.out j]
    simp [inD_snoc, hj2]⟩
theorem LostAt.gone {n : Int} {L0 L : List EntW} {D : List ByteArray} {k : ByteArray} {e0 e : EntW} (h : LostAt n L0 D L) (hf : findW L0 k = some e0) (hne : lessN n e0.has = []) (he : e.key = k) : LostAt n L0 (D ++ [k]) (dropW (putW L e) k) := ⟨fun j => by
  rw [findW_drop, findW_put]
  by_cases hj : k = j
  · subst hj
    rw [if_pos rfl, if_pos (by simp [inD_snoc]), hf]
    simp [lostQ, hne, EntW.q]
  · have hj2 : ¬ j = k := fun e => hj e.symm
    rw [if_neg hj, he, if_neg hj, h.out j]
    simp [inD_snoc, hj2]⟩
theorem lostC_keep {n : Int} {L0 : List EntW} {D : List ByteArray} {k : ByteArray} {e0 : EntW} (C : List (ByteArray × (Int × Int))) (hf : findW L0 k = some e0) (hne : lessN n e0.has ≠ []) : lostC n L0 (D ++ [k]) C = lostC n L0 D C := by
  unfold lostC
  refine List.filter_congr (fun p _ => ?_)
  by_cases hp : p.1 = k
  · have : goneK n L0 p.1 = false := by unfold goneK; rw [hp, hf]; simp [hne]
    rw [this]; simp
  · simp [inD_snoc, hp]
theorem lostC_gone {n : Int} {L0 : List EntW} {D : List ByteArray} {k : ByteArray} {e0 : EntW} (C : List (ByteArray × (Int × Int))) (hf : findW L0 k = some e0) (hne : lessN n e0.has = []) : lostC n L0 (D ++ [k]) C = dropL (lostC n L0 D C) k := by
  unfold lostC dropL
  rw [List.filter_filter]
  refine List.filter_congr (fun p _ => ?_)
  by_cases hp : p.1 = k
  · have : goneK n L0 p.1 = true := by unfold goneK; rw [hp, hf]; simp [hne]
    rw [this]; simp [inD_snoc, hp]
  · simp [inD_snoc, hp]
/-- What Lost leaves. -/
structure WLostPost (w w' : World) (x kb c cb : Nat) (wait cnt : Int) (L : List EntW) (C : List (ByteArray × (Int × Int))) (n : Int) : Prop where
  out : ∃ L', WantAt w' x kb c cb wait cnt L' (lostC n L (L.map (·.key)) C) ∧ LostAt n L (L.map (·.key)) L' ∧ Only (footW kb c cb) w w' ∧ L'.length ≤ L.length
theorem wlost_nil (w : World) (n : Int) : Calls Try.prog 13 #[.pointer none, .int .i64 n] w fun e w' => e = .returned (.tuple #[]) ∧ Only (fun _ => False) w w' := by
  have HI := Lib.hid (wids_nil (w.alloc (.cells #[.int .i64 n] 3)))
  go_enter Try.func13, Try.ntmps13
  go_wp2_with fail
  refine HI.out.mono ?_
  rintro e w1 ⟨rfl, rfl⟩
  go_wp2_with fail
  go_loopg [10] 0 (fun g v10 wr => v10 = .int .i64 0 ∧ wr = w.alloc (.cells #[.int .i64 n] 3) ∧ g = 0)
  case atStart => exact ⟨rfl, rfl, rfl⟩
  case round =>
    obtain ⟨rfl, rfl, _⟩ := hrel
    go_wp2_with fail
    go_end0
    exact ⟨rfl, (Only.refl _ _).alloc _⟩
theorem idW_length (e : EntW) : (idW e).length = 2 := rfl
set_option maxRecDepth 100000 in
set_option maxHeartbeats 4000000 in
theorem wlost_any (w : World) (x kb c cb : Nat) (wait cnt : Int) (L : List EntW) (C : List (ByteArray × (Int × Int))) (h : WantAt w x kb c cb wait cnt L C) (hL : L.length ≤ 1000) (n : Int) :
    Calls Try.prog 13 #[.pointer (some ⟨x, 0, none⟩), .int .i64 n] w fun e w' => e = .returned (.tuple #[]) ∧ WLostPost w w' x kb c cb wait cnt L C n := by
  obtain ⟨W, hW⟩ : ∃ W, W = w.alloc (.cells #[.int .i64 n] 3) := ⟨_, rfl⟩
  have hbW : W.heap[w.heap.size]? = some (.cells #[.int .i64 n] 3 (0, 0)) := by rw [hW]; exact heap_alloc_new w _
  have hoW : Only (fun _ => False) w W := by rw [hW]; exact (Only.refl _ _).alloc _
  have hsW : W.heap.size = w.heap.size + 1 := by rw [hW]; simp
  have hW1 := h.new hoW
  have HI := Lib.hid (wids_any W x kb c cb wait cnt L C hW1 hL)
  have HFT := Lib.hid (show ∀ i, footW kb c cb i → i < w.heap.size from fun i hi => by
    rcases hi with rfl | rfl | rfl
    · exact h.keys.lt
    · exact lt_of_block h.clk.blk
    · exact h.clk.map.lt)
  have HXF := Lib.hid h.nes
  have hxl := lt_of_block h.blk
  have HH := Lib.hid h
  have HW1 := Lib.hid hW1
  have HW := Lib.hid hW
  have HOW := Lib.hid hoW
  have HBW := Lib.hid hbW
  clear h hW1 hW hoW hbW
  clear hsW
  go_enter Try.func13, Try.ntmps13
  go_upto_region 1 with (fail)
  rw [← HW.out]
  go_wp2_with fail
  refine HI.out.mono ?_
  rintro e w1 ⟨v, rfl, ho1, S, hS, hrow⟩
  have hids := Sl.cells idW_length (Sl.of_owns hrow)
  obtain ⟨sa, sc, rfl, hs1, hs2, _⟩ := hids
  unfold maxLen at hs2
  have hat := HW1.out.new ho1
  have hbn := ho1.old HBW.out id
  have how := HOW.out.trans ho1
  have hSl : S.length ≤ 1000 := by rw [hS.1.length_eq]; exact hL
  have hnod : (S.map (·.key)).Nodup := by
    rw [List.nodup_iff_pairwise_ne, List.pairwise_map]
    exact hS.2.imp (fun hab e9 => by rw [e9] at hab; exact absurd hab (List.lt_irrefl _))
  have HAT := Lib.hid hat
  have HBN := Lib.hid hbn
  have HOW1 := Lib.hid how
  have HS := Lib.hid hS
  have HROW := Lib.hid hrow
  have HND := Lib.hid hnod
  clear hat hbn how hS hrow hnod
  clear ho1 HI
  go_wp2_with fail
  go_loopg [10] S.length (fun g v10 wr => ∃ (j : Nat) (Lj : List EntW), v10 = .int .i64 j ∧ j ≤ S.length ∧ WantAt wr x kb c cb wait cnt Lj (lostC n L ((S.take j).map (·.key)) C) ∧ LostAt n L ((S.take j).map (·.key)) Lj ∧ Only (footW kb c cb) w1 wr ∧ Lj.length ≤ L.length ∧ g = S.length - j)
  case atStart => exact ⟨0, L, rfl, Nat.zero_le _, by rw [List.take_zero, List.map_nil, lostC_nil]; exact HAT.out, LostAt.start n L, Only.refl _ _, Nat.le_refl _, rfl⟩
  case round =>
    obtain ⟨j, Lj, rfl, hj, hw, hla, hof, hll, hg⟩ := hrel
    by_cases hlt : j < S.length
    · -- one
      have hlt' : (j : Int) < (S.length : Int) := by omega
      have htk : (S.take (j + 1)).map (·.key) = (S.take j).map (·.key) ++ [S[j].key] := by rw [List.take_add_one, List.getElem?_eq_getElem hlt, List.map_append]; rfl
      have hSm : S[j] ∈ L := HS.out.1.mem_iff.1 (List.getElem_mem hlt)
      have hf0 : findW L S[j].key = some S[j] := findW_mem HH.out.mid.apart hSm
      have hnot : ¬ S[j].key ∈ (S.take j).map (·.key) := fun hm => by
        have h9 : ((S.take (j + 1)).map (·.key)).Nodup := by rw [List.map_take]; exact HND.out.sublist (List.take_sublist _ _)
        rw [htk, List.nodup_append] at h9
        exact h9.2.2 _ hm _ (by simp) rfl
      have hin : inD ((S.take j).map (·.key)) S[j].key = false := by
        cases hb : inD ((S.take j).map (·.key)) S[j].key with
        | false => rfl
        | true => exact absurd ((inD_iff _ _).1 hb) hnot
      have hq := hla.out S[j].key
      rw [hin, hf0] at hq
      have hrowr := owns_only HROW.out hof (fun k hk hf => by have := HFT.out _ hf; have := HOW.out.size; omega)
      obtain ⟨a2, c2, h9, _, _, hcc⟩ := Sl.cells idW_length (Sl.of_owns hrowr)
      simp only [Value.slice.injEq] at h9
      obtain ⟨rfl, _, rfl⟩ := h9
      obtain ⟨b, off, rfl, hc⟩ := hcc.at j hlt
      have p0 := hc 0 _ rfl
      have p1 := hc 1 _ rfl
      simp only [Nat.add_zero] at p0
      clear hc hcc hrowr hin hnot hSm
      generalize S[j] = e0 at *
      obtain ⟨k, ver, has, a0, c0⟩ := e0
      obtain ⟨ej, hfj, hqj⟩ : ∃ ej, findW Lj k = some ej ∧ ej.q = (ver, has) := by
        cases hfj : findW Lj k with
        | none => rw [hfj] at hq; cases hq
        | some ej => rw [hfj] at hq; exact ⟨ej, rfl, by simpa [EntW.q] using hq⟩
      obtain ⟨hejm, hejk⟩ := findW_some hfj
      obtain ⟨kj, verj, hasj, aj, cj⟩ := ej
      simp only [EntW.q, Prod.mk.injEq] at hqj
      obtain ⟨rfl, rfl⟩ := hqj
      have hejk' : kj = k := hejk
      subst hejk'
      obtain ⟨hks, hh64, hhne⟩ := hw.small _ hejm
      have hrowj := hw.rows _ hejm
      simp only [EntW.s] at hks hh64 hhne hrowj p0 p1 htk hf0
      obtain ⟨V, hV⟩ : ∃ V, V = wr.alloc (.cells #[.string kj, .int .u64 verj] 29) := ⟨_, rfl⟩
      have hbV : V.heap[wr.heap.size]? = some (.cells #[.string kj, .int .u64 verj] 29 (0, 0)) := by rw [hV]; exact heap_alloc_new wr _
      have hoV : Only (fun _ => False) wr V := by rw [hV]; exact (Only.refl _ _).alloc _
      have hsV : V.heap.size = wr.heap.size + 1 := by rw [hV]; simp
      have hwV := hw.new hoV
      have hlk0 := fun w' (ho : Only (fun _ => False) V w') => (hwV.keys.kept ho id).look strKeyed strInj Try.underlying64 (z := Value.agg #[.int .u64 0, .slice none 0 0]) (zeroW w') (strOk hks) false
      simp only [look_prsW, hfj] at hlk0
      have hlk : ∀ w', Only (fun _ => False) V w' → (Instr.lookup 64 (.map (some kb)) (.string kj) false).run Try.prog w' = .ok (.agg #[.int .u64 verj, .slice aj hasj.length cj]) w' := hlk0
      have x0 : V.cell? ⟨x, 0, none⟩ = some (.map (some kb)) := cell_at hwV.blk 0
      have i0 : V.cell? ⟨wr.heap.size, 0, none⟩ = some (.string kj) := cell_at hbV 0
      have HCC := Lib.hid (show ∀ w', Only (fun _ => False) V w' → w'.cell? ⟨x, 0, none⟩ = some (.map (some kb)) ∧ w'.cell? ⟨wr.heap.size, 0, none⟩ = some (.string kj) ∧ (Instr.lookup 64 (.map (some kb)) (.string kj) false).run Try.prog w' = .ok (.agg #[.int .u64 verj, .slice aj hasj.length cj]) w' from fun w' ho => ⟨ho.cell x0 id, ho.cell i0 id, hlk w' ho⟩)
      have hkbl : kb < wr.heap.size := hw.keys.lt
      have hxl2 : x < wr.heap.size := lt_of_block hw.blk
      have Hg := Lib.hid hg
      have HTK := Lib.hid htk
      have HF0 := Lib.hid hf0
      have HFJ := Lib.hid hfj
      have HLA := Lib.hid hla
      have HOF := Lib.hid hof
      have HWR := Lib.hid hw
      have HOV := Lib.hid hoV
      have HBV := Lib.hid hbV
      have HROWJ := Lib.hid hrowj
      clear hg htk hf0 hfj hla hof hw hoV hbV hrowj
      clear hlk0 hwV hq hejm hejk
      go_upto_region 4 with (fail)
      rw [← hV]
      clear hV p0 p1
      generalize hI : wr.heap.size = I at *
      have HIE := Lib.hid hI
      have HSV := Lib.hid hsV
      clear hI hsV
      go_cut [6] (fun v6 wx => ∃ Q, v6 = .pointer (some ⟨Q, 0, none⟩) ∧ wx.heap[Q]? = some (.cells #[.int .u64 verj, .slice aj hasj.length cj] 70 (0, 0)) ∧ Only (fun _ => False) V wx ∧ V.heap.size ≤ Q)
      case first =>
        go_region_held3 (fun w' => Only (fun _ => False) V w' ∧ w'.cell? ⟨x, 0, none⟩ = some (.map (some kb)) ∧ w'.cell? ⟨I, 0, none⟩ = some (.string kj) ∧ (Instr.lookup 64 (.map (some kb)) (.string kj) false).run Try.prog w' = .ok (.agg #[.int .u64 verj, .slice aj hasj.length cj]) w')
          (((refine heldO HCC.out ?_); (repeat (first | (with_reducible assumption) | (with_reducible exact Only.refl _ _) | (with_reducible refine Only.drew ?_) | (with_reducible refine Only.alloc ?_ _) | (with_reducible refine onlySet ?_ (by first | (with_reducible assumption) | omega) _) | (with_reducible refine Only.trans ?_ (by with_reducible assumption))))))
          (fail)
        all_goals
          go_wp2_with fail
          go_meet
          refine ⟨_, by with_reducible rfl, ?_, ?_, ?_⟩
          · (apply Eq.trans; (case h₁ => repeat (first | (with_reducible assumption) | (with_reducible exact heap_alloc_new _ _) | (with_reducible apply blk_new; (repeat (first | (with_reducible rfl) | (with_reducible apply sz_set) | (with_reducible apply sz_alloc) | (with_reducible apply sz_drew))); done) | (with_reducible apply blk_same) | (with_reducible apply blk_ne; case hn => (first | assumption | omega)) | (with_reducible apply blk_old) | (with_reducible apply blk_drew))); (case h₂ => rfl))
          · (repeat (first | (with_reducible assumption) | (with_reducible exact Only.refl _ _) | (with_reducible refine Only.drew ?_) | (with_reducible refine Only.alloc ?_ _) | (with_reducible refine onlySet ?_ (by first | (with_reducible assumption) | omega) _) | (with_reducible refine Only.trans ?_ (by with_reducible assumption))))
          · first | omega | (simp; omega)
      case rest =>
        obtain ⟨Q, rfl, hQ, hoQ, hQs⟩ := hcut
        generalize hw4 : wc = w4 at *
        clear hw4 x0 i0 hlk HCC
        have ho4 := HOV.out.trans hoQ
        have hQl : Q < w4.heap.size := lt_of_block hQ
        have hIV : V.heap.size = I + 1 := HSV.out
        have q1 : w4.cell? ⟨Q, 1, none⟩ = some (.slice aj hasj.length cj) := cell_at hQ 1
        have hN4 : w4.cell? ⟨w.heap.size, 0, none⟩ = some (.int .i64 n) := cell_at (ho4.old (HOF.out.old HBN.out (fun hf => by have := HFT.out _ hf; omega)) id) 0
        have HCL := Lib.hid (clone_row w4 _ hasj (row_kept HROWJ.out ho4 (fun _ => False.elim)) hhne (by omega))
        have hNl : w.heap.size < w4.heap.size := World.block_lt_of_cell? _ _ hN4
        have HQ := Lib.hid hQ
        have HO4 := Lib.hid ho4
        have HOQ := Lib.hid hoQ
        clear hQ ho4 hoQ
        go_wp2_with fail
        refine HCL.out.mono ?_
        rintro e w5 ⟨v5, rfl, own5, ho5⟩
        have HDE := Lib.hid (del_ints w5 w4.heap.size w.heap.size n (ho5.cell hN4 id) v5 hasj (by omega) hhne own5 hNl)
        have HO5 := Lib.hid ho5
        clear ho5
        clear own5 HCL
        go_wp2_with fail
        refine HDE.out.mono ?_
        rintro e w6 ⟨v6, rfl, ho6, own6⟩
        have ho46 : Only (fun _ => False) w4 w6 := HO5.out.tr ho6 (fun i hi e => by have h9 : w4.heap.size ≤ i := e; omega)
        have hQ6 := ho46.old HQ.out id
        have HFE := Lib.hid (show lessN n hasj = [] ↔ (lessN n hasj).length = 0 from List.length_eq_zero_iff.symm)
        have hFl : (lessN n hasj).length ≤ 64 := Nat.le_trans (List.length_filter_le _ _) hh64
        have HKP := Lib.hid (fun h a cap => HLA.out.keep (n := n) HF0.out h a cap)
        have HGO := Lib.hid (fun h e he => HLA.out.gone (n := n) (e := e) HF0.out h he)
        have HCK := Lib.hid (fun h => lostC_keep (n := n) (D := (S.take j).map (·.key)) C HF0.out h)
        have HCG := Lib.hid (fun h => lostC_gone (n := n) (D := (S.take j).map (·.key)) C HF0.out h)
        simp only at HKP HGO HCK HCG
        generalize lessN n hasj = F at *
        obtain ⟨_, va, vc, rfl, _⟩ := Sl.of_owns own6
        have qf : ∀ i, w6.frozen? ⟨Q, i, none⟩ = false := free_at hQ6
        obtain ⟨w7, hw7⟩ : ∃ w7, w7 = w6.setCell ⟨Q, 1, none⟩ (.slice va F.length vc) := ⟨_, rfl⟩
        have t7 : Only (fun i => i = Q) w6 w7 := by rw [hw7]; exact (Only.refl _ _).setCell (S := fun i => i = Q) (p := ⟨Q, 1, none⟩) (.inr rfl) _
        have hQ7 : w7.heap[Q]? = some (.cells #[.int .u64 verj, .slice va F.length vc] 70 (0, 0)) := by rw [hw7]; exact set_at hQ6 1 _
        have hV7 : Only (fun _ => False) V w7 := (HOQ.out.trans ho46).tr t7 (fun i hi e => by omega)
        have hr7 : Only (fun _ => False) wr w7 := HOV.out.trans hV7
        have hrow7 := owns_n own6 t7 (fun k hk e => by have := (own6.lt k hk).1; omega)
        have q1' : w6.cell? ⟨Q, 1, none⟩ = some (.slice aj hasj.length cj) := cell_at hQ6 1
        have hQ6l : Q < w6.heap.size := lt_of_block hQ6
        have HR7 := Lib.hid hr7
        have HQ7 := Lib.hid hQ7
        have HV7 := Lib.hid hV7
        have HROW7 := Lib.hid hrow7
        clear hr7 hQ7 hV7 hrow7
        clear own6 ho6 ho46 hQ6 t7 q1 hN4
        go_upto_region 6 with (fail)
        rw [← hw7]
        clear hw7 q1' qf
        have hw7 := HWR.out.new HR7.out
        have hLm : (prsW Lj).length < maxLen := by unfold prsW maxLen; rw [List.length_map]; omega
        have hdr : Only (fun _ => False) w7 w7.drew := (Only.refl _ _).drew
        obtain ⟨w8, hst0, hm8, ho8⟩ := (hw7.keys.kept hdr id).store strKeyed strInj Try.underlying64 hLm (strOk hks) (Value.agg #[.int .u64 verj, .slice va F.length vc])
        have hst : (Instr.mapUpdate 64 (.map (some kb)) (.string kj) (.agg #[.int .u64 verj, .slice va F.length vc])).run Try.prog w7.drew = .ok () w8 := hst0
        have x0 : w7.cell? ⟨x, 0, none⟩ = some (.map (some kb)) := cell_at hw7.blk 0
        have i0 : w7.cell? ⟨I, 0, none⟩ = some (.string kj) := cell_at (HV7.out.old HBV.out id) 0
        have q0 : w7.cell? ⟨Q, 0, none⟩ = some (.int .u64 verj) := cell_at HQ7.out 0
        have q1 : w7.cell? ⟨Q, 1, none⟩ = some (.slice va F.length vc) := cell_at HQ7.out 1
        have HC6 := Lib.hid (show ∀ w', Only (fun i => i = kb) w7 w' → w'.cell? ⟨x, 0, none⟩ = some (.map (some kb)) ∧ w'.cell? ⟨I, 0, none⟩ = some (.string kj) ∧ w'.cell? ⟨Q, 0, none⟩ = some (.int .u64 verj) ∧ w'.cell? ⟨Q, 1, none⟩ = some (.slice va F.length vc) from fun w' ho => ⟨ho.cell x0 (fun e => HXF.out.1 (.inl e)), ho.cell i0 (fun e => by have h9 : I = kb := e; omega), ho.cell q0 (fun e => by have h9 : Q = kb := e; omega), ho.cell q1 (fun e => by have h9 : Q = kb := e; omega)⟩)
        have hwd := hw7.new hdr
        have hrowd := ownsBase (owns_only HROW7.out hdr (fun _ _ => id)) (Nat.zero_le w4.heap.size)
        have hwq := hwd.putQ ⟨kj, verj, F, va, vc⟩ _ HFJ.out ho8 hm8 hrowd ⟨hks, hFl⟩
        have ho8' : Only (fun i => i = kb) w7 w8 := (hdr.weaken (fun _ _ => False.elim)).trans ho8
        have hpl : (putW Lj ⟨kj, verj, F, va, vc⟩).length = Lj.length := by
          have := (putW_keys HWR.out.mid.apart (e := ⟨kj, verj, F, va, vc⟩) HFJ.out).length_eq
          rwa [List.length_map, List.length_map] at this
        have hsm7 : ∀ e ∈ Lj, e.has ≠ [] := fun e he => (HWR.out.small e he).2.2
        have HWQ := Lib.hid hwq
        have HO8 := Lib.hid ho8'
        have HPL := Lib.hid hpl
        have HSM := Lib.hid hsm7
        clear hwq ho8' hpl hsm7
        clear hst0 hm8 ho8 hw7 hwd hrowd hdr
        go_region_held3 (fun w' => w'.cell? ⟨x, 0, none⟩ = some (.map (some kb)) ∧ w'.cell? ⟨I, 0, none⟩ = some (.string kj) ∧ w'.cell? ⟨Q, 0, none⟩ = some (.int .u64 verj) ∧ w'.cell? ⟨Q, 1, none⟩ = some (.slice va F.length vc))
          (first | (refine HC6.out _ ?_; (repeat (first | (with_reducible assumption) | (with_reducible exact Only.refl _ _) | (with_reducible refine Only.drew ?_) | (with_reducible refine Only.alloc ?_ _) | (with_reducible refine onlySet ?_ (by first | (with_reducible assumption) | omega) _) | (with_reducible refine Only.trans ?_ (by with_reducible assumption)))); done) | exact HC6.out _ HO8.out)
          (fail)
        all_goals
          obtain ⟨_, i8, _, q8⟩ := HC6.out _ HO8.out
          have hof8 : Only (footW kb c cb) w1 w8 := (HOF.out.trans (HR7.out.weaken (fun _ _ => False.elim))).trans (HO8.out.weaken (fun i _ e => .inl e))
          have HOF8 := Lib.hid hof8
          clear hof8
          clear x0 i0 q0 q1 hst
          by_cases hF : F.length = 0
          · -- drop
            have hF' : F = [] := HFE.out.2 hF
            have HDQ := Lib.hid (wdropq_any w8 x kb c cb wait cnt _ _ kj HWQ.out.1 hks)
            have hFi : (F.length : Int) = 0 := by omega
            have HLN := Lib.hid (show LostAt n L ((S.take (j + 1)).map (·.key)) (dropW (putW Lj ⟨kj, verj, F, va, vc⟩) kj) by rw [HTK.out]; exact HGO.out hF' _ rfl)
            have HCN := Lib.hid (show lostC n L ((S.take (j + 1)).map (·.key)) C = dropL (lostC n L ((S.take j).map (·.key)) C) kj by rw [HTK.out]; exact HCG.out hF')
            clear hF'
            go_wp2_with fail
            refine HDQ.out.mono ?_
            rintro e w9 ⟨rfl, hd1, hd2⟩
            have hof9 := HOF8.out.trans hd2
            have HD1 := Lib.hid hd1
            have HOF9 := Lib.hid hof9
            clear hd1 hof9
            clear hd2
            go_wp2_with fail
            go_roundg (S.length - (j + 1))
            case measure => rw [Hg.out]; omega
            case rel => exact ⟨j + 1, _, by go_num, by omega, by rw [HCN.out]; exact HD1.out, HLN.out, HOF9.out, Nat.le_trans (List.length_filter_le _ _) (by rw [HPL.out]; exact hll), rfl⟩
          · -- keep
            have hF' : F ≠ [] := fun e => hF (HFE.out.1 e)
            have hFi : ¬ (F.length : Int) = 0 := by omega
            have HLN := Lib.hid (show LostAt n L ((S.take (j + 1)).map (·.key)) (putW Lj ⟨kj, verj, F, va, vc⟩) by rw [HTK.out]; exact HKP.out hF' va vc)
            have HCN := Lib.hid (show lostC n L ((S.take (j + 1)).map (·.key)) C = lostC n L ((S.take j).map (·.key)) C by rw [HTK.out]; exact HCK.out hF')
            have HWF := Lib.hid (HWQ.out.1.full (fun e he => by
              rcases List.mem_append.1 he with he | he
              · exact HSM.out e (List.mem_filter.1 he).1
              · obtain rfl := List.mem_singleton.1 he
                exact hF'))
            clear hF' hF
            go_wp2_with fail
            go_roundg (S.length - (j + 1))
            case measure => rw [Hg.out]; omega
            case rel => exact ⟨j + 1, _, by go_num, by omega, by rw [HCN.out]; exact HWF.out, HLN.out, HOF8.out, by rw [HPL.out]; exact hll, rfl⟩
    · -- end
      have hlt' : ¬ (j : Int) < (S.length : Int) := by omega
      rw [List.take_of_length_le (by omega)] at hw hla
      have hmem : ∀ k, k ∈ S.map (·.key) ↔ k ∈ L.map (·.key) := fun k => (HS.out.1.map (·.key)).mem_iff
      have HF := Lib.hid (show WLostPost w wr x kb c cb wait cnt L C n from ⟨Lj, by
        have e : lostC n L (L.map (·.key)) C = lostC n L (S.map (·.key)) C := by
          unfold lostC
          refine List.filter_congr (fun p _ => ?_)
          rw [inD_congr hmem]
        rw [e]; exact hw, ⟨fun k => by rw [hla.out k, inD_congr hmem]⟩, (HOW1.out.weaken (fun _ _ => False.elim)).trans hof, hll⟩)
      clear hw hla hof hmem hg
      go_wp2_with fail
      go_end0
      exact ⟨rfl, HF.out⟩
end Go.Proofs.Ytefadkmdfhjaeaa
