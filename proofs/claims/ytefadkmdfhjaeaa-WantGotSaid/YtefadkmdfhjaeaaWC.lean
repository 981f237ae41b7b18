/- What is wanted: an entry is put; what Heard does to the lists. -/
import Derived.Test.YtefadkmdfhjaeaaWB
import Derived.Test.YtefadkmdfhjaeaaWA
import Derived.Deep.CutBlock
import Derived.Test.YtefadkmdfhjaeaaIterS
import Derived.Shelf.SlIter.Nil
import Derived.Shelf.SortM.Plain
import Derived.Shelf.SortM.SortNone
import Derived.Sort.KeysCollected
import Derived.Test.YtefadkmdfhjaeaaShelf
/-! What is wanted: its block, its keys, its clock. -/
namespace Go.Proofs.Ytefadkmdfhjaeaa
open Go.Conc Go.RowKit Go.Maps

/-- A key that is wanted: its version, who has it; where that list lies. -/
structure EntW where
  key : ByteArray
  ver : Nat
  has : List Int
  a : Option Addr
  cap : Nat
def EntW.s (e : EntW) : Value := .slice e.a e.has.length e.cap
def EntW.v (e : EntW) : Value := .agg #[.int .u64 e.ver, e.s]
def prsW (L : List EntW) : List (ByteArray × Value) := L.map (fun e => (e.key, e.v))
def findW (L : List EntW) (k : ByteArray) : Option EntW := L.find? (fun e => decide (e.key = k))
def dropW (L : List EntW) (k : ByteArray) : List EntW := L.filter (fun e => !decide (e.key = k))
def putW (L : List EntW) (e : EntW) : List EntW := dropW L e.key ++ [e]
theorem look_prsW (L : List EntW) (k : ByteArray) : lookL (prsW L) k = (findW L k).map EntW.v := by
  unfold lookL prsW findW
  rw [List.find?_map, Option.map_map]
  rfl
theorem drop_prsW (L : List EntW) (k : ByteArray) : dropL (prsW L) k = prsW (dropW L k) := by
  unfold dropL prsW dropW
  rw [List.filter_map]
  rfl
theorem put_prsW (L : List EntW) (e : EntW) : putL (prsW L) e.key e.v = prsW (putW L e) := by
  unfold putL putW
  rw [drop_prsW]
  unfold prsW
  rw [List.map_append]
  rfl
theorem findW_some {L : List EntW} {k : ByteArray} {e : EntW} (h : findW L k = some e) : e ∈ L ∧ e.key = k := ⟨List.mem_of_find?_eq_some h, by simpa using List.find?_some h⟩
theorem findW_none {L : List EntW} {k : ByteArray} (h : findW L k = none) : ∀ e ∈ L, e.key ≠ k := fun e he => by
  unfold findW at h
  have := List.find?_eq_none.1 h e he
  simpa using this
abbrev WMapW (w : World) (b : Nat) (L : List EntW) : Prop := MapIs Try.prog 9 Value.string (fun v : Value => v) w b (prsW L)
theorem zeroW (w : World) : (zeroValue 70).run Try.prog w = .ok (Value.agg #[.int .u64 0, .slice none 0 0]) w := by kernel_rfl
/-- The blocks that its functions write. -/
def footW (kb c cb : Nat) (i : Nat) : Prop := i = kb ∨ i = c ∨ i = cb
structure WantAt (w : World) (x kb c cb : Nat) (wait cnt : Int) (L : List EntW) (C : List (ByteArray × (Int × Int))) : Prop where
  blk : w.heap[x]? = some (.cells #[.map (some kb), .pointer (some ⟨c, 0, none⟩), .int .i64 wait] 68 (0, 0))
  keys : WMapW w kb L
  rows : ∀ e ∈ L, w.ownsRow 0 3 1 e.s e.has.length (rowI e.has)
  clk : ClkIs w c cb 64 cnt C
  sync : (C.map (·.1)).Perm (L.map (·.key))
  ne : kb ≠ cb
  small : ∀ e ∈ L, e.key.size ≤ maxLen ∧ e.has.length ≤ 64 ∧ e.has ≠ []
theorem mapW_not {w : World} {k : TypeId} {α β : Type} {κ : α → Value} {ε : β → Value} {b : Nat} {L : List (α × β)} (h : MapIs Try.prog k κ ε w b L) : ∃ es c, w.heap[b]? = some (.map es c) := by
  obtain ⟨es, c, hb, _⟩ := h.own
  exact ⟨es, c, hb⟩
/-- A row of ints lies in no block of another kind. -/
theorem row_kept {w w' : World} {S : Nat → Prop} {v : Value} {l : List Int} (h : w.ownsRow 0 3 1 v l.length (rowI l)) (ho : Only S w w') (hn : ∀ k, S k → ∀ cs f, w.heap[k]? ≠ some (.cells cs 3 f)) : w'.ownsRow 0 3 1 v l.length (rowI l) := by
  refine ⟨h.1, ?_⟩
  rcases h.2 with h2 | ⟨g, cap, cur, rfl, hb, hg, r⟩
  · exact .inl h2
  · exact .inr ⟨g, cap, cur, rfl, hb, ho.old hg (fun hs => hn g hs _ _ hg), r⟩
theorem WantAt.foot_not {w : World} {x kb c cb : Nat} {wait cnt : Int} {L : List EntW} {C : List (ByteArray × (Int × Int))} (h : WantAt w x kb c cb wait cnt L C) : ∀ k, footW kb c cb k → ∀ cs f, w.heap[k]? ≠ some (.cells cs 3 f) := by
  intro k hk cs f e
  rcases hk with rfl | rfl | rfl
  · obtain ⟨es, c, hb⟩ := mapW_not h.keys; rw [hb] at e; cases e
  · rw [h.clk.blk] at e; cases e
  · obtain ⟨es, c, hb⟩ := mapW_not h.clk.map; rw [hb] at e; cases e
theorem WantAt.nes {w : World} {x kb c cb : Nat} {wait cnt : Int} {L : List EntW} {C : List (ByteArray × (Int × Int))} (h : WantAt w x kb c cb wait cnt L C) : ¬ footW kb c cb x ∧ kb ≠ c ∧ c ≠ cb := by
  obtain ⟨es, q, hb⟩ := mapW_not h.keys
  obtain ⟨es', q', hb'⟩ := mapW_not h.clk.map
  refine ⟨fun hk => ?_, fun e => ?_, h.clk.ne⟩
  · have hx := h.blk
    rcases hk with rfl | rfl | rfl
    · rw [hb] at hx; cases hx
    · rw [h.clk.blk] at hx; cases hx
    · rw [hb'] at hx; cases hx
  · rw [e, h.clk.blk] at hb; cases hb
theorem WantAt.new {w w' : World} {x kb c cb : Nat} {wait cnt : Int} {L : List EntW} {C : List (ByteArray × (Int × Int))} (h : WantAt w x kb c cb wait cnt L C) (ho : Only (fun _ => False) w w') : WantAt w' x kb c cb wait cnt L C :=
  ⟨ho.old h.blk id, h.keys.kept ho id, fun e he => row_kept (h.rows e he) ho (fun _ => False.elim), h.clk.kept ho id id, h.sync, h.ne, h.small⟩
end Go.Proofs.Ytefadkmdfhjaeaa
/-! What is wanted: New, later. -/
namespace Go.Proofs.Ytefadkmdfhjaeaa
open Go.Conc Go.RowKit Go.Maps

def WNewPost (w w' : World) (x kb c cb : Nat) (wait : Int) : Prop := Only (fun _ => False) w w' ∧ WantAt w' x kb c cb wait 0 [] [] ∧ w.heap.size ≤ x ∧ w.heap.size ≤ kb ∧ w.heap.size ≤ c ∧ w.heap.size ≤ cb
set_option maxRecDepth 100000 in
theorem wnew_any (w : World) (m : Int) : Calls Try.prog 7 #[.int .i64 m] w fun e w' => ∃ x kb c cb, e = .returned (.pointer (some ⟨x, 0, none⟩)) ∧ WNewPost w w' x kb c cb (min (max m 0) 1000) := by
  have hmm := @run_makeMap Try.prog
  have HN := Lib.hid (new_clk (w.alloc (.map #[] 0)) 64)
  go_enter Try.func7, Try.ntmps7
  go_wp2_with fail
  refine HN.out.mono ?_
  rintro e w2 ⟨rfl, ho2, hc2⟩
  rw [show min (max (64 : Int) 0) 64 = 64 by decide] at hc2
  have hmb : w2.heap[w.heap.size]? = some (.map #[] 0) := ho2.old (heap_alloc_new w _) id
  have hcl := lt_of_block hc2.blk
  have HO2 := Lib.hid ho2
  have HC2 := Lib.hid hc2
  have HMB := Lib.hid hmb
  clear ho2 hc2 hmb
  go_wp2_with fail
  go_ret
  have ho3 : Only (fun _ => False) w2 (w2.alloc (.cells #[.map (some w.heap.size), .pointer (some ⟨w.heap.size + 1 + 1, 0, none⟩), .int .i64 (min (max m 0) 1000)] 68)) := (Only.refl _ _).alloc _
  have hc : w2.heap.size ≤ w2.heap.size := Nat.le_refl _
  have e1 : (w.alloc (.map #[] 0)).heap.size = w.heap.size + 1 := by simp
  have hC := HC2.out
  rw [e1] at hC
  have hcl2 := lt_of_block hC.blk
  refine ⟨w2.heap.size, w.heap.size, w.heap.size + 1 + 1, w.heap.size + 1, rfl, ((Only.refl _ _).alloc _).trans (HO2.out.trans ho3), ⟨heap_alloc_new w2 _, ?_, fun e he => (by cases he), hC.kept ho3 id id, .nil, by omega, fun e he => (by cases he)⟩, by omega, by omega, by omega, by omega⟩
  exact MapIs.empty (ho3.old HMB.out id)
set_option maxRecDepth 100000 in
theorem wlater_any (w : World) (x kb c cb : Nat) (wait cnt : Int) (L : List EntW) (C : List (ByteArray × (Int × Int))) (h : WantAt w x kb c cb wait cnt L C) (now : Int) (hw0 : 0 ≤ wait) (hw : wait ≤ 1000) (hnow : -9223372036854775808 ≤ now) :
    Calls Try.prog 20 #[.pointer (some ⟨x, 0, none⟩), .int .i64 now] w fun e w' => e = .returned (.int .i64 (min now 4611686018427387904 + wait)) ∧ w = w' := by
  have c2 : w.cell? ⟨x, 2, none⟩ = some (.int .i64 wait) := cell_at h.blk 2
  have hwr : IntKind.i64.wrap (min now 4611686018427387904 + wait) = min now 4611686018427387904 + wait := by rw [IntKind.wrap_i64]; omega
  clear h
  go_enter Try.func20, Try.ntmps20
  go_wp2_with fail
  go_ret
  exact ⟨rfl, rfl⟩
/-- A key is struck out of the keys and the clock. -/
theorem WantAt.dropped {w w1 w2 : World} {x kb c cb : Nat} {wait cnt : Int} {L : List EntW} {C : List (ByteArray × (Int × Int))} (h : WantAt w x kb c cb wait cnt L C) (k : ByteArray) (ho1 : Only (fun i => i = kb) w w1) (hm : MapIs Try.prog 9 Value.string (fun v : Value => v) w1 kb (dropL (prsW L) k)) (ho2 : Only (fun i => i = cb) w1 w2) (hc : ClkIs w2 c cb 64 cnt (dropL C k)) :
    WantAt w2 x kb c cb wait cnt (dropW L k) (dropL C k) ∧ Only (footW kb c cb) w w2 := by
  obtain ⟨n1, n2, n3⟩ := h.nes
  have ho : Only (footW kb c cb) w w2 := (ho1.weaken (fun i _ e => .inl e)).trans (ho2.weaken (fun i _ e => .inr (.inr e)))
  rw [drop_prsW] at hm
  refine ⟨⟨ho.old h.blk n1, hm.kept ho2 h.ne, fun e he => row_kept (h.rows e (List.mem_filter.1 he).1) ho h.foot_not, hc, ?_, h.ne, fun e he => h.small e (List.mem_filter.1 he).1⟩, ho⟩
  have h1 := h.sync.filter (fun y => !decide (y = k))
  rw [List.filter_map, List.filter_map] at h1
  exact h1
def DropPost (w w' : World) (x kb c cb : Nat) (wait cnt : Int) (L : List EntW) (C : List (ByteArray × (Int × Int))) (k : ByteArray) : Prop := WantAt w' x kb c cb wait cnt (dropW L k) (dropL C k) ∧ Only (footW kb c cb) w w'
set_option maxRecDepth 100000 in
set_option maxHeartbeats 1000000 in
theorem wdrop_any (w : World) (x kb c cb : Nat) (wait cnt : Int) (L : List EntW) (C : List (ByteArray × (Int × Int))) (h : WantAt w x kb c cb wait cnt L C) (k : ByteArray) (hk : k.size ≤ maxLen) :
    Calls Try.prog 26 #[.pointer (some ⟨x, 0, none⟩), .string k] w fun e w' => e = .returned (.tuple #[]) ∧ DropPost w w' x kb c cb wait cnt L C k := by
  have c0 : w.cell? ⟨x, 0, none⟩ = some (.map (some kb)) := cell_at h.blk 0
  have hkb := h.keys
  have H := Lib.hid h
  have HK := Lib.hid hk
  have HNE := Lib.hid h.nes
  clear h
  go_enter Try.func26, Try.ntmps26
  go_wp2_with (first | (at_delete; refine wpList_mapDrop rfl _ _ _ rfl hkb strKeyed strInj Try.underlying64 rfl rfl (strOk hk) ?_; intro w1 hm1 ho1; have c1 : w1.cell? ⟨x, 1, none⟩ = some (.pointer (some ⟨c, 0, none⟩)) := cell_at (ho1.old H.out.blk (fun e => HNE.out.1 (.inl e))) 1) | fail)
  obtain ⟨n1, n2, n3⟩ := HNE.out
  have hc1 := H.out.clk.kept ho1 (fun e => n2 (Eq.symm e)) (fun e => H.out.ne (Eq.symm e))
  have HU := Lib.hid (unset_clk w1 c cb 64 cnt C hc1 k hk)
  have HM1 := Lib.hid hm1
  have HO1 := Lib.hid ho1
  clear hm1 ho1
  clear c0 hkb hc1 n1 n2 n3 hk
  go_wp2_with fail
  refine HU.out.mono ?_
  rintro e w2 ⟨rfl, ho2, hc2⟩
  have HO2 := Lib.hid ho2
  have HC2 := Lib.hid hc2
  clear ho2 hc2
  clear c1
  go_wp2_with fail
  go_end0
  exact ⟨rfl, H.out.dropped k HO1.out HM1.out HO2.out HC2.out⟩
end Go.Proofs.Ytefadkmdfhjaeaa
/-! What is wanted: Got. -/
namespace Go.Proofs.Ytefadkmdfhjaeaa
open Go.Conc Go.RowKit Go.Maps

/-- A look-up among the keys. -/
theorem WantAt.look {w : World} {x kb c cb : Nat} {wait cnt : Int} {L : List EntW} {C : List (ByteArray × (Int × Int))} (h : WantAt w x kb c cb wait cnt L C) (k : ByteArray) (hk : k.size ≤ maxLen) :
    ∃ (vv : Nat) (va : Option Addr) (vn vc : Nat) (ok : Bool), (∀ w1, Only (fun _ => False) w w1 → (Instr.lookup 64 (.map (some kb)) (.string k) true).run Try.prog w1 = .ok (.tuple #[.agg #[.int .u64 vv, .slice va vn vc], .bool ok]) w1) ∧
      ((ok = false ∧ findW L k = none) ∨ (ok = true ∧ ∃ e, findW L k = some e ∧ vv = e.ver ∧ va = e.a ∧ vn = e.has.length ∧ vc = e.cap)) := by
  have hlk := fun w1 (ho : Only (fun _ => False) w w1) => (h.keys.kept ho id).look strKeyed strInj Try.underlying64 (z := Value.agg #[.int .u64 0, .slice none 0 0]) (zeroW w1) (strOk hk) true
  simp only [look_prsW] at hlk
  cases hf : findW L k with
  | none =>
    rw [hf] at hlk
    exact ⟨0, none, 0, 0, false, hlk, .inl ⟨rfl, rfl⟩⟩
  | some e =>
    rw [hf] at hlk
    exact ⟨e.ver, e.a, e.has.length, e.cap, true, hlk, .inr ⟨rfl, e, rfl, rfl, rfl, rfl, rfl⟩⟩
def gotB (L : List EntW) (k : ByteArray) (ver : Nat) : Bool := match findW L k with
  | none => false
  | some e => decide (e.ver ≤ ver)
def GotPost (w w' : World) (x kb c cb : Nat) (wait cnt : Int) (L : List EntW) (C : List (ByteArray × (Int × Int))) (k : ByteArray) (b : Bool) : Prop :=
  Only (footW kb c cb) w w' ∧ WantAt w' x kb c cb wait cnt (if b then dropW L k else L) (if b then dropL C k else C)
set_option maxRecDepth 100000 in
theorem wgot_nil (w : World) (k : ByteArray) (ver : Nat) : Calls Try.prog 11 #[.pointer none, .agg #[.string k, .int .u64 ver]] w fun e w' => e = .returned (.bool false) ∧ Only (fun _ => False) w w' := by
  go_enter Try.func11, Try.ntmps11
  go_wp2_with fail
  go_ret
  exact ⟨rfl, (Only.refl _ _).alloc _⟩
set_option maxRecDepth 100000 in
set_option maxHeartbeats 4000000 in
theorem wgot_any (w : World) (x kb c cb : Nat) (wait cnt : Int) (L : List EntW) (C : List (ByteArray × (Int × Int))) (h : WantAt w x kb c cb wait cnt L C) (k : ByteArray) (hk : k.size ≤ maxLen) (ver : Nat) :
    Calls Try.prog 11 #[.pointer (some ⟨x, 0, none⟩), .agg #[.string k, .int .u64 ver]] w fun e w' => e = .returned (.bool (gotB L k ver)) ∧ GotPost w w' x kb c cb wait cnt L C k (gotB L k ver) := by
  obtain ⟨W, hW⟩ : ∃ W, W = w.alloc (.cells #[.string k, .int .u64 ver] 29) := ⟨_, rfl⟩
  have hbW : W.heap[w.heap.size]? = some (.cells #[.string k, .int .u64 ver] 29 (0, 0)) := by rw [hW]; exact heap_alloc_new w _
  have hoW : Only (fun _ => False) w W := by rw [hW]; exact (Only.refl _ _).alloc _
  have hsW : W.heap.size = w.heap.size + 1 := by rw [hW]; simp
  have hW1 := h.new hoW
  obtain ⟨vv, va, vn, vc, ok, hlk, hcase⟩ := hW1.look k hk
  have x0 : W.cell? ⟨x, 0, none⟩ = some (.map (some kb)) := cell_at hW1.blk 0
  have b0 : W.cell? ⟨w.heap.size, 0, none⟩ = some (.string k) := cell_at hbW 0
  have HCC := Lib.hid (show ∀ w', Only (fun _ => False) W w' → w'.cell? ⟨x, 0, none⟩ = some (.map (some kb)) ∧ w'.cell? ⟨w.heap.size, 0, none⟩ = some (.string k) ∧ (Instr.lookup 64 (.map (some kb)) (.string k) true).run Try.prog w' = .ok (.tuple #[.agg #[.int .u64 vv, .slice va vn vc], .bool ok]) w' from fun w' ho => ⟨ho.cell x0 id, ho.cell b0 id, hlk w' ho⟩)
  have HO := Lib.hid hoW
  have HW := Lib.hid hW
  have HB := Lib.hid hbW
  have HWA := Lib.hid hW1
  have HCS := Lib.hid hcase
  clear hoW hW hbW hW1 hcase
  clear hlk x0 b0 hsW
  go_enter Try.func11, Try.ntmps11
  go_upto_region 3 with (fail)
  rw [← HW.out]
  go_cut [5, 6] (fun v5 v6 wx => v6 = .bool ok ∧ ∃ Q, v5 = .pointer (some ⟨Q, 0, none⟩) ∧ wx.heap[Q]? = some (.cells #[.int .u64 vv, .slice va vn vc] 70 (0, 0)) ∧ Only (fun _ => False) W wx ∧ W.heap.size ≤ Q)
  case first =>
    go_region_held3 (fun w' => Only (fun _ => False) W w' ∧ w'.cell? ⟨x, 0, none⟩ = some (.map (some kb)) ∧ w'.cell? ⟨w.heap.size, 0, none⟩ = some (.string k) ∧ (Instr.lookup 64 (.map (some kb)) (.string k) true).run Try.prog w' = .ok (.tuple #[.agg #[.int .u64 vv, .slice va vn vc], .bool ok]) w')
      (((refine heldO HCC.out ?_); (repeat (first | (with_reducible assumption) | (with_reducible exact Only.refl _ _) | (with_reducible refine Only.drew ?_) | (with_reducible refine Only.alloc ?_ _) | (with_reducible refine onlySet ?_ (by first | (with_reducible assumption) | omega) _) | (with_reducible refine Only.trans ?_ (by with_reducible assumption))))))
      (fail)
    all_goals
      go_wp2_with fail
      go_meet
      refine ⟨rfl, _, by with_reducible rfl, ?_, ?_, ?_⟩
      · (apply Eq.trans; (case h₁ => repeat (first | (with_reducible assumption) | (with_reducible exact heap_alloc_new _ _) | (with_reducible apply blk_new; (repeat (first | (with_reducible rfl) | (with_reducible apply sz_set) | (with_reducible apply sz_alloc) | (with_reducible apply sz_drew))); done) | (with_reducible apply blk_same) | (with_reducible apply blk_ne; case hn => (first | assumption | omega)) | (with_reducible apply blk_old) | (with_reducible apply blk_drew))); (case h₂ => rfl))
      · (repeat (first | (with_reducible assumption) | (with_reducible exact Only.refl _ _) | (with_reducible refine Only.drew ?_) | (with_reducible refine Only.alloc ?_ _) | (with_reducible refine onlySet ?_ (by first | (with_reducible assumption) | omega) _) | (with_reducible refine Only.trans ?_ (by with_reducible assumption))))
      · first | omega | (simp; omega)
  case rest =>
    obtain ⟨rfl, Q, rfl, hQ, hoQ, hQs⟩ := hcut
    have hQw := HWA.out.new hoQ
    have hB := hoQ.old HB.out id
    have q0 : wc.cell? ⟨Q, 0, none⟩ = some (.int .u64 vv) := cell_at hQ 0
    have b0 : wc.cell? ⟨w.heap.size, 0, none⟩ = some (.string k) := cell_at hB 0
    have b1 : wc.cell? ⟨w.heap.size, 1, none⟩ = some (.int .u64 ver) := cell_at hB 1
    have hoA := HO.out.trans hoQ
    have HQW := Lib.hid hQw
    have HOA := Lib.hid hoA
    clear hQw hoA
    clear hQ hoQ hB hQs HCC
    rcases HCS.out with ⟨rfl, hf⟩ | ⟨rfl, e, hf, he1, _, _, _⟩
    · have hg : gotB L k ver = false := by unfold gotB; rw [hf]
      have HG := Lib.hid hg
      clear hf hg
      go_wp2_with fail
      go_ret
      rw [HG.out]
      exact ⟨rfl, HOA.out.weaken (fun _ _ => False.elim), HQW.out⟩
    · by_cases hv : (vv : Int) > (ver : Int)
      · have hg : gotB L k ver = false := by unfold gotB; rw [hf]; exact decide_eq_false (by omega)
        have HG := Lib.hid hg
        clear hf hg he1
        go_wp2_with fail
        go_ret
        rw [HG.out]
        exact ⟨rfl, HOA.out.weaken (fun _ _ => False.elim), HQW.out⟩
      · have hg : gotB L k ver = true := by unfold gotB; rw [hf]; exact decide_eq_true (by omega)
        have HG := Lib.hid hg
        have HD := Lib.hid (wdrop_any wc x kb c cb wait cnt L C HQW.out k hk)
        clear hf hg he1
        go_wp2_with fail
        refine HD.out.mono ?_
        rintro e w2 ⟨rfl, hd1, hd2⟩
        have HD1 := Lib.hid hd1
        have HD2 := Lib.hid hd2
        clear hd1 hd2
        clear q0 b0 b1
        go_wp2_with fail
        go_ret
        rw [HG.out]
        exact ⟨rfl, (HOA.out.weaken (fun _ _ => False.elim)).trans HD2.out, HD1.out⟩
end Go.Proofs.Ytefadkmdfhjaeaa
/-! What is wanted: Ids. -/
namespace Go.Proofs.Ytefadkmdfhjaeaa
open Go.Conc Go.RowKit Go.Maps Go.Sort Go.Shelf

theorem sortsS (m : Nat) : AnyZ.SortsIn Try.prog Try.sortedS_ren Fence.wide m :=
  ⟨fun blk off cap ss W hH hblk hsz => callsIn_wide.2 (AnyM.slices_Sort_string Try.sortS blk off cap ss W hH hblk hsz),
   fun p cap W => callsIn_wide.2 (AnyM.slices_Sort_string_none Try.sortS p cap W)⟩
theorem nkeys_any (mb : Option Nat) (W : World) : Calls Try.prog 25 #[.map mb] W fun e w' => e = .returned (.func (.func 45) #[] #[.pointer (some ⟨W.heap.size, 0, none⟩)]) ∧ w' = W.alloc (.cells #[.map mb] 64) :=
  callsIn_wide.1 (AnyZ.keys_in Try.keysN Fence.wide 5 trivial rfl mb W)
theorem nsorted_any {H : Type} (b nn : Nat) (D0 : DataW H) (R : Value → Option (DataW H × List MemPlace)) (w : World) (hown : w.ownsMap Try.prog 9 R b nn D0) (hmax : Maps.size D0 ≤ maxLen) (hbytes : Maps.size D0 * 16 ≤ 140737488355328) :
    Calls Try.prog 24 #[.func (.func 45) #[] #[.pointer (some ⟨w.heap.size, 0, none⟩)]] (w.alloc (.cells #[.map (some b)] 64)) fun e w' => ∃ (v : Value) (ss : List (List UInt8)), e = .returned v ∧ ss.Perm (strKeys D0) ∧
      w'.ownsRow (w.alloc (.cells #[.map (some b)] 64)).heap.size 9 1 v ss.length ((ss.mergeSort (fun x y => decide (x ≤ y))).map encStr) ∧ (v = .slice none 0 0 ↔ ss = []) ∧ Below (w.alloc (.cells #[.map (some b)] 64)).heap.size (w.alloc (.cells #[.map (some b)] 64)) w' := by
  have hbl := hown.lt
  have hseq : SeqGives Fence.wide 2 Try.prog 45 #[.pointer (some ⟨w.heap.size, 0, none⟩)] encStr (fun ss => ss.Perm (strKeys D0)) (Maps.size D0) (w.alloc (.cells #[.map (some b)] 64)) :=
    AnyZ.keys_gives (ρ := Try.keysN_ren) { Try.keysN with } Fence.wide _ trivial rfl (by omega) w.heap.size b nn D0 _ (by simp) (by simp) (by
      obtain ⟨es, clock, hb, Ft, hs, hD⟩ := hown
      exact ⟨es, clock, (Below.heap_alloc _ _ b hbl).trans hb, Ft, hs, hD⟩)
  exact callsIn_wide.1 (AnyZ.sorted_in Try.sortedS Fence.wide 5 trivial trivial trivial trivial rfl (by omega) (sortsS _) (enters_of Try.func44 (by kernel_rfl) rfl) 45 #[.pointer (some ⟨w.heap.size, 0, none⟩)] trivial (enters_of Try.func45 (by kernel_rfl) rfl) _ _ hmax hbytes _ hseq)
theorem strKeys_prsW {L : List EntW} (hs : ∀ e ∈ L, e.key.size ≤ maxLen) : (strKeys (mapD Try.prog 9 Value.string (fun v : Value => v) (prsW L))).Perm (L.map (fun e => e.key.data.toList)) := by
  have h1 : (((prsW L).map (entL Try.prog 9 Value.string (fun v : Value => v))).foldr DataW.insert []).Perm ((prsW L).map (entL Try.prog 9 Value.string (fun v : Value => v))) := WideShapes.sorted_perm _
  have h2 := h1.map (fun p => strOf p.1)
  refine h2.trans ?_
  unfold prsW
  rw [List.map_map, List.map_map]
  refine List.Perm.of_eq (List.map_congr_left (fun x hx => ?_))
  simp only [Function.comp_apply, entL]
  rw [keyL_of (WideMaps.keyOf_string_mk Try.underlying9 (hs x hx))]
  rfl
/-- The entries, by their keys: how a sorted list of the keys' bytes reads. -/
theorem sorted_ents (L : List EntW) (hap : L.Pairwise (fun p q => p.key ≠ q.key)) {ss : List (List UInt8)} (hp : ss.Perm (L.map (fun e => e.key.data.toList))) : ∃ S : List EntW, S.Perm L ∧ S.Pairwise (fun p q => p.key.data.toList < q.key.data.toList) ∧ ss.mergeSort (fun x y => decide (x ≤ y)) = S.map (fun e => e.key.data.toList) := by
  let le : EntW → EntW → Bool := fun p q => decide (p.key.data.toList ≤ q.key.data.toList)
  have htr : ∀ a b c : EntW, le a b = true → le b c = true → le a c = true := fun a b c h1 h2 => decide_eq_true (List.le_trans (of_decide_eq_true h1) (of_decide_eq_true h2))
  have htot : ∀ a b : EntW, (le a b || le b a) = true := fun a b => by
    rcases List.le_total a.key.data.toList b.key.data.toList with h | h
    · show (decide _ || decide _) = true
      rw [decide_eq_true h]; rfl
    · show (decide _ || decide _) = true
      rw [decide_eq_true h, Bool.or_true]
  have hS := List.mergeSort_perm L le
  have hpw := List.pairwise_mergeSort (le := le) htr htot L
  have hap2 : (L.mergeSort le).Pairwise (fun p q => p.key ≠ q.key) := (hS.pairwise_iff (fun {_ _} h => Ne.symm h)).2 hap
  refine ⟨L.mergeSort le, hS, ?_, ?_⟩
  · refine (hpw.and hap2).imp (fun {a b} h => ?_)
    have h1 : a.key.data.toList ≤ b.key.data.toList := of_decide_eq_true h.1
    have h2 : a.key.data.toList ≠ b.key.data.toList := fun e => h.2 (by
      have : a.key.data = b.key.data := Array.toList_inj.1 e
      cases ha : a.key; cases hb : b.key
      rw [ha, hb] at this
      exact congrArg ByteArray.mk this)
    show a.key.data.toList < b.key.data.toList
    rcases List.le_iff_lt_or_eq.1 h1 with h | h
    · exact h
    · exact absurd h h2
  · have h1 : (ss.mergeSort (fun x y => decide (x ≤ y))).Pairwise (fun x y => decide (x ≤ y) = true) := List.pairwise_mergeSort (le := fun x y : List UInt8 => decide (x ≤ y)) (fun a b c hab hbc => decide_eq_true (List.le_trans (of_decide_eq_true hab) (of_decide_eq_true hbc))) (fun a b => by
      rcases List.le_total a b with h | h
      · show (decide (a ≤ b) || decide (b ≤ a)) = true
        rw [decide_eq_true h]; rfl
      · show (decide (a ≤ b) || decide (b ≤ a)) = true
        rw [decide_eq_true h, Bool.or_true]) ss
    have h2 : ((L.mergeSort le).map (fun e => e.key.data.toList)).Pairwise (fun x y => decide (x ≤ y) = true) := by
      rw [List.pairwise_map]
      exact hpw
    exact (((List.mergeSort_perm ss _).trans hp).trans (hS.map _).symm).eq_of_pairwise (fun a b _ _ hab hba => List.le_antisymm (of_decide_eq_true hab) (of_decide_eq_true hba)) h1 h2
theorem infoIdW : (Try.prog.info? 29).map (fun i => (i.zero, i.size, i.bytes)) = some (some (.agg #[.string ⟨#[]⟩, .int .u64 0]), 2, 24) := by kernel_rfl
theorem fieldW0 (v : Nat) (a : Option Addr) (n c : Nat) (w : World) : (Instr.field 70 (.agg #[.int .u64 v, .slice a n c]) 0).run Try.prog w = .ok (.int .u64 v) w := by kernel_rfl
def idW (e : EntW) : List Value := [.string e.key, .int .u64 e.ver]
theorem idW_one (e : EntW) : ∀ u ∈ idW e, u.oneCell' = true := by
  intro u hu
  simp only [idW, List.mem_cons, List.not_mem_nil, or_false] at hu
  rcases hu with rfl | rfl <;> rfl
theorem wids_nil (w : World) : Calls Try.prog 10 #[.pointer none] w fun e w' => e = .returned (.slice none 0 0) ∧ w = w' := by
  go_enter Try.func10, Try.ntmps10
  go_wp2_with fail
  go_ret
  exact ⟨rfl, rfl⟩
def keyC (e : EntW) : List Value := [.string e.key]
theorem keyC_length (e : EntW) : (keyC e).length = 1 := rfl
theorem WantAt.apart {w : World} {x kb c cb : Nat} {wait cnt : Int} {L : List EntW} {C : List (ByteArray × (Int × Int))} (h : WantAt w x kb c cb wait cnt L C) : L.Pairwise (fun p q => p.key ≠ q.key) := by
  have := h.keys.apart
  unfold prsW at this
  rw [List.pairwise_map] at this
  exact this
theorem findW_mem {L : List EntW} (ha : L.Pairwise (fun p q => p.key ≠ q.key)) {e : EntW} (h : e ∈ L) : findW L e.key = some e := by
  induction L with
  | nil => cases h
  | cons p L ih =>
    obtain ⟨h1, h2⟩ := List.pairwise_cons.1 ha
    unfold findW
    rcases List.mem_cons.1 h with rfl | h
    · simp
    · rw [List.find?_cons_of_neg (by simpa using h1 e h)]
      exact ih h2 h
/-- Sorted entries. -/
def SortedW (S L : List EntW) : Prop := S.Perm L ∧ S.Pairwise (fun p q => p.key.data.toList < q.key.data.toList)
set_option maxRecDepth 100000 in
set_option maxHeartbeats 4000000 in
theorem wids_any (w : World) (x kb c cb : Nat) (wait cnt : Int) (L : List EntW) (C : List (ByteArray × (Int × Int))) (h : WantAt w x kb c cb wait cnt L C) (hL : L.length ≤ 1000) :
    Calls Try.prog 10 #[.pointer (some ⟨x, 0, none⟩)] w fun e w' => ∃ v, e = .returned v ∧ Only (fun _ => False) w w' ∧ ∃ S, SortedW S L ∧ w'.ownsRow w.heap.size 29 2 v S.length (S.flatMap idW) := by
  obtain ⟨i0, hi0, iz0, iz1, iz2⟩ := info_parts infoIdW
  have c0 : w.cell? ⟨x, 0, none⟩ = some (.map (some kb)) := cell_at h.blk 0
  have hsz : Maps.size (mapD Try.prog 9 Value.string (fun v : Value => v) (prsW L)) ≤ 1000 := by rw [size_mapD]; unfold prsW; rw [List.length_map]; exact hL
  have hsrt := nsorted_any kb _ _ _ w h.keys.own (by unfold maxLen; omega) (by omega)
  have HSK := Lib.hid (strKeys_prsW (L := L) (fun e he => (h.small e he).1))
  have HS := Lib.hid hsrt
  have HH := Lib.hid h
  clear hsrt h
  clear hsz
  go_enter Try.func10, Try.ntmps10
  go_wp2_with fail
  refine (nkeys_any (some kb) w).mono ?_
  rintro e w1 ⟨rfl, rfl⟩
  clear c0
  go_wp2_with fail
  refine HS.out.mono ?_
  rintro e w2 ⟨v, ss, rfl, hp, hrow, hnil, hb⟩
  obtain ⟨S, hS1, hS2, hS3⟩ := sorted_ents L HH.out.apart (hp.trans HSK.out)
  have ho2 : Only (fun _ => False) w w2 := ((Only.refl _ _).alloc _).trans (Only.of_below hb)
  have hlen : ss.length = S.length := by rw [← List.length_mergeSort (le := fun x y => decide (x ≤ y)) ss, hS3, List.length_map]
  rw [hS3, hlen, List.map_map] at hrow
  have hsl : Sl w2 1 v S.length (S.flatMap keyC) := by
    have h9 := Sl.of_owns hrow
    rw [show S.map (encStr ∘ fun e => e.key.data.toList) = S.flatMap keyC by rw [List.map_eq_flatMap]; rfl] at h9
    exact h9
  obtain ⟨ka, kcap, rfl, k1, k2, k3⟩ := Sl.cells keyC_length hsl
  unfold maxLen at k2
  have hSL : S.length ≤ 1000 := by rw [hS1.length_eq]; exact hL
  have hlook : ∀ e ∈ S, ∀ w', Only (fun _ => False) w2 w' → (Instr.lookup 64 (.map (some kb)) (.string e.key) false).run Try.prog w' = .ok (.agg #[.int .u64 e.ver, .slice e.a e.has.length e.cap]) w' := fun e he w' ho => by
    have hm := hS1.mem_iff.1 he
    have := (HH.out.keys.kept (ho2.trans ho) id).look strKeyed strInj Try.underlying64 (z := Value.agg #[.int .u64 0, .slice none 0 0]) (zeroW w') (strOk (HH.out.small e hm).1) false
    rw [look_prsW, findW_mem HH.out.apart hm] at this
    exact this
  have hx0 : ∀ w', Only (fun _ => False) w2 w' → w'.cell? ⟨x, 0, none⟩ = some (.map (some kb)) := fun w' ho => cell_at ((ho2.trans ho).old HH.out.blk id) 0
  have hsw : SortedW S L := ⟨hS1, hS2⟩
  have HO2 := Lib.hid ho2
  have HK := Lib.hid k3
  have HSW := Lib.hid hsw
  have HLK := Lib.hid hlook
  have HX0 := Lib.hid hx0
  have HSL := Lib.hid hSL
  clear ho2 k3 hsw hlook hx0 hSL
  clear hrow hsl hS1 hS2 hS3 hp hnil hb hlen
  go_wp2_with fail
  go_loopg [3, 15] S.length (fun g v3 v15 wr => ∃ k : Nat, v15 = .int .i64 k ∧ k ≤ S.length ∧ Only (fun _ => False) w2 wr ∧ wr.ownsRow w2.heap.size 29 2 v3 (S.take k).length ((S.take k).flatMap idW) ∧ g = S.length - k)
  case atStart => exact ⟨0, rfl, Nat.zero_le _, Only.refl _ _, World.ownsRow_nil w2 _ _ _, rfl⟩
  case round =>
    obtain ⟨k, rfl, hk, ho, hown, hg⟩ := hrel
    have Hg := Lib.hid hg
    have HO := Lib.hid ho
    have HW := Lib.hid hown
    clear hg ho hown
    by_cases hlt : k < S.length
    · obtain ⟨bb, off, ha, hcc⟩ := HK.out.at k hlt
      subst ha
      have y0 : wr.cell? ⟨bb, off + k, none⟩ = some (.string S[k].key) := by
        have h9 := HO.out.cell (hcc 0 _ rfl) id
        simpa using h9
      have htk : S.take (k + 1) = S.take k ++ [S[k]] := by rw [List.take_add_one, List.getElem?_eq_getElem hlt]; rfl
      have hln : (S.take k).length = k := by simp; omega
      have hlk := HLK.out S[k] (List.getElem_mem hlt) wr HO.out
      have x0 := HX0.out wr HO.out
      have HTK := Lib.hid htk
      have HLN := Lib.hid hln
      clear htk hln
      generalize S[k] = e at *
      obtain ⟨ky, vr, hs, sa, scp⟩ := e
      simp only at y0 hlk
      have hfl := fieldW0 vr sa hs.length scp wr
      have hlt' : (k : Int) < (S.length : Int) := by omega
      clear hcc
      go_wp2_with (at_builtin; refine Wait.mk ?_)
      refine Wait.go (wpList_append_src _ rfl (.tmp 19) (.tmp 29) 37 37 rfl w2.heap.size 29 i0 _ 2 24 Try.underlying37 hi0 iz0 iz1 iz2 rfl _ (S.take k).length ((S.take k).flatMap idW) rfl (HW.out.alloc _) _ 1 (idW ⟨ky, vr, hs, sa, scp⟩) rfl ?src4 ?m4 ?b4 ?base4 ?_)
      case src4 => exact Src.ofSlice _ Try.underlying37 _ _ _ _ rfl (news_new _ _ _) (idW_one _)
      case m4 => have := HLN.out; have := HSL.out; unfold maxLen; omega
      case b4 => have := HLN.out; have := HSL.out; omega
      case base4 => have h1 := HO.out.size; simp; omega
      intro v4 w5 own4 gr4 hv4
      have ho5 : Only (fun _ => False) w2 w5 := (HO.out.alloc _).own (HW.out.alloc _) (Nat.le_refl _) gr4
      have HO5 := Lib.hid ho5
      have HW5 := Lib.hid own4
      clear ho5 own4
      clear y0 hlk x0 hfl gr4 hv4
      go_wp2_with fail
      go_roundg (S.length - (k + 1))
      case measure => rw [Hg.out]; omega
      case rel =>
        refine ⟨k + 1, by go_num, by omega, HO5.out, ?_, rfl⟩
        rw [HTK.out, List.length_append, List.flatMap_append]
        have e1 : [EntW.mk ky vr hs sa scp].flatMap idW = idW ⟨ky, vr, hs, sa, scp⟩ := by simp
        rw [e1]
        exact HW5.out
    · have hke : k = S.length := by omega
      have hlt' : ¬ (k : Int) < (S.length : Int) := by omega
      have hW := HW.out
      rw [hke, List.take_length] at hW
      have HW2 := Lib.hid hW
      clear hW
      clear hke
      go_wp2_with fail
      go_ret
      exact ⟨_, rfl, HO2.out.trans HO.out, S, HSW.out, ownsRow_base_a HW2.out HO2.out.size⟩
end Go.Proofs.Ytefadkmdfhjaeaa
/-! Rows of ints: Contains, Clone. -/
namespace Go.Proofs.Ytefadkmdfhjaeaa
open Go.Conc Go.RowKit Go.Maps

theorem rowI_get (l : List Int) (j : Nat) (hj : j < l.length) : (rowI l)[j]? = some (.int .i64 (l.getD j 0)) := by
  unfold rowI
  rw [List.getElem?_map, List.getElem?_eq_getElem hj, List.getD_eq_getElem?_getD, List.getElem?_eq_getElem hj]
  rfl
theorem row_cells {w : World} {v : Value} {l : List Int} (h : w.ownsRow 0 3 1 v l.length (rowI l)) (hl : l ≠ []) : ∃ g cap, v = .slice (some ⟨g, 0, none⟩) l.length cap ∧ ∀ j, j < l.length → w.cell? ⟨g, 0 + j, none⟩ = some (.int .i64 (l.getD j 0)) := by
  obtain ⟨g, cap, cur, rfl, _, hg, _, _, _, ht⟩ := row_form h (fun e => hl (by unfold rowI at e; exact List.map_eq_nil_iff.1 e))
  refine ⟨g, cap, rfl, fun j hj => ?_⟩
  rw [Nat.zero_add, cell_at hg]
  have h1 := rowI_get l j hj
  rw [← ht, Nat.mul_one, List.getElem?_take_of_lt hj] at h1
  simpa using h1
theorem contains_row (w : World) (v : Value) (l : List Int) (h : w.ownsRow 0 3 1 v l.length (rowI l)) (hl : l ≠ []) (hb : l.length ≤ 1000) (x : Int) : Calls Try.prog 21 #[v, .int .i64 x] w fun e w' => e = .returned (.bool (l.contains x)) ∧ w = w' := by
  obtain ⟨g, cap, rfl, hc⟩ := row_cells h hl
  refine (Try.slices_Contains_int g 0 l.length cap l x w (Nat.le_refl _) (by omega) hc).mono ?_
  rintro e w' ⟨rfl, rfl⟩
  rw [List.take_length]
  exact ⟨rfl, rfl⟩
theorem clone_row (w : World) (v : Value) (l : List Int) (h : w.ownsRow 0 3 1 v l.length (rowI l)) (hl : l ≠ []) (hb : l.length ≤ 1000) : Calls Try.prog 22 #[v] w fun e w' => ∃ v', e = .returned v' ∧ w'.ownsRow w.heap.size 3 1 v' l.length (rowI l) ∧ Only (fun _ => False) w w' := by
  obtain ⟨g, cap, rfl, hc⟩ := row_cells h hl
  refine (Try.slices_Clone_int g 0 l.length cap l w (Nat.le_refl _) (by omega) hc).mono ?_
  rintro e w' ⟨v', rfl, h1, _, h3⟩
  rw [List.take_length] at h1
  exact ⟨v', rfl, h1, Only.of_below h3⟩
end Go.Proofs.Ytefadkmdfhjaeaa
/-! What is wanted: an entry is put; what Heard does to the lists. -/
namespace Go.Proofs.Ytefadkmdfhjaeaa
open Go.Conc Go.RowKit Go.Maps

/-- A store into a map, as one step of a region that draws. -/
theorem step_mapStore {α β : Type} [DecidableEq α] {P : Program} {k : TypeId} {κ : α → Value} {ε : β → Value} {b : Nat} {L : List (α × β)} {w : World} {ops : Array Oper} {o : Oper} {a : Act} {K : Act → World → Prop} {Q : Exit → Act → World → Prop} {E : Prop} (hg : o.guard = none) (m x v : Operand) (t : TypeId)
    (hop : o.op = Op.mapUpdate t m x v) {e : TypeId} (h : MapIs P k κ ε w b L) (Ky : Keyed P k) (hκ : ∀ a b, κ a = κ b → a = b)
    (ht : P.underlying t = some (.map k e)) (hn : L.length < maxLen) (hm : a.eval m = .map (some b)) {y : α} (hx : a.eval x = κ y) (hy : KeyOk P k κ y) {u : β} (hv : a.eval v = ε u)
    (hK : ∀ w', MapIs P k κ ε w' b (putL L y u) → Only (fun i => i = b) w w' → K (a.put o.dst undef) w') : if Region.wanted o (yielded ops a.tmps) = true then Oper.wp P o a w K Q else E := by
  have hw : Region.wanted o (yielded ops a.tmps) = true := by simp [Region.wanted, hg]
  rw [if_pos hw]
  obtain ⟨w', hrun, r1, r2⟩ := h.store Ky hκ ht hn hy u
  unfold Oper.wp
  simp [execOp, hop, hm, hx, hv, hrun, Result.andThen]
  exact hK w' r1 r2
theorem putW_keys {L : List EntW} (ha : L.Pairwise (fun p q => p.key ≠ q.key)) {e e0 : EntW} (hf : findW L e.key = some e0) : ((putW L e).map (·.key)).Perm (L.map (·.key)) := by
  obtain ⟨hm, hk⟩ := findW_some hf
  unfold putW
  rw [List.map_append]
  have h1 : L.Perm (e0 :: dropW L e.key) := by
    clear hf
    induction L with
    | nil => cases hm
    | cons p L ih =>
      obtain ⟨a1, a2⟩ := List.pairwise_cons.1 ha
      unfold dropW
      rcases List.mem_cons.1 hm with rfl | hm
      · rw [List.filter_cons_of_neg (by simpa using hk)]
        refine List.Perm.cons _ (List.Perm.of_eq ?_)
        exact (List.filter_eq_self.2 (fun q hq => by
          have := a1 q hq
          rw [hk] at this
          simpa using Ne.symm this)).symm
      · have hpk : p.key ≠ e.key := by rw [← hk]; exact a1 e0 hm
        rw [List.filter_cons_of_pos (by simpa using hpk)]
        exact (List.Perm.cons _ (ih a2 hm)).trans (List.Perm.swap _ _ _)
  refine (List.perm_append_comm).trans ?_
  have h2 := h1.map (·.key)
  rw [List.map_cons, hk] at h2
  exact h2.symm
theorem putW_new {L : List EntW} {e : EntW} (hf : findW L e.key = none) : putW L e = L ++ [e] := by
  unfold putW dropW
  rw [List.filter_eq_self.2 (fun q hq => by simpa using findW_none hf q hq)]
/-- An entry is put, the clock being as it is. -/
theorem WantAt.put {w w1 w2 : World} {x kb c cb : Nat} {wait cnt cnt' : Int} {L : List EntW} {C C' : List (ByteArray × (Int × Int))} (h : WantAt w x kb c cb wait cnt L C) (e : EntW) (ho1 : Only (fun i => i = c ∨ i = cb) w w1) (hc : ClkIs w1 c cb 64 cnt' C') (ho2 : Only (fun i => i = kb) w1 w2)
    (hm : MapIs Try.prog 9 Value.string (fun v : Value => v) w2 kb (putL (prsW L) e.key e.v)) (hrow : w1.ownsRow 0 3 1 e.s e.has.length (rowI e.has)) (hs : (C'.map (·.1)).Perm ((putW L e).map (·.key))) (hsm : e.key.size ≤ maxLen ∧ e.has.length ≤ 64 ∧ e.has ≠ []) :
    WantAt w2 x kb c cb wait cnt' (putW L e) C' ∧ Only (footW kb c cb) w w2 := by
  obtain ⟨n1, n2, n3⟩ := h.nes
  have ho : Only (footW kb c cb) w w2 := (ho1.weaken (fun i _ e => .inr e)).trans (ho2.weaken (fun i _ e => .inl e))
  rw [put_prsW] at hm
  have hkb : ∀ k, (k = kb) → ∀ cs f, w1.heap[k]? ≠ some (.cells cs 3 f) := fun k e9 cs f e => by
    obtain ⟨es, q, hb⟩ := mapW_not (h.keys.kept ho1 (fun e => by rcases e with e | e; exact n2 e; exact h.ne e))
    rw [e9, hb] at e
    cases e
  refine ⟨⟨ho.old h.blk n1, hm, fun e' he => ?_, hc.kept ho2 (fun e => n2 (Eq.symm e)) (fun e => h.ne (Eq.symm e)), hs, h.ne, fun e' he => ?_⟩, ho⟩
  · rcases List.mem_append.1 he with he | he
    · exact row_kept (h.rows e' (List.mem_filter.1 he).1) ho h.foot_not
    · obtain rfl : e' = e := by simpa using he
      exact row_kept hrow ho2 hkb
  · rcases List.mem_append.1 he with he | he
    · exact h.small e' (List.mem_filter.1 he).1
    · obtain rfl : e' = e := by simpa using he
      exact hsm
/-- Only the clock has turned. -/
theorem WantAt.clkd {w w' : World} {x kb c cb : Nat} {wait cnt cnt' : Int} {L : List EntW} {C C' : List (ByteArray × (Int × Int))} (h : WantAt w x kb c cb wait cnt L C) (ho : Only (fun i => i = c ∨ i = cb) w w') (hc : ClkIs w' c cb 64 cnt' C') (hs : (C'.map (·.1)).Perm (L.map (·.key))) : WantAt w' x kb c cb wait cnt' L C' ∧ Only (footW kb c cb) w w' := by
  obtain ⟨n1, n2, n3⟩ := h.nes
  have ho' : Only (footW kb c cb) w w' := ho.weaken (fun i _ e => .inr e)
  exact ⟨⟨ho'.old h.blk n1, h.keys.kept ho (fun e => e.elim n2 h.ne), fun e he => row_kept (h.rows e he) ho' h.foot_not, hc, hs, h.ne, h.small⟩, ho'⟩
/-- A slice of one number, just made. -/
theorem row_one {w : World} {b : Nat} {n : Int} (h : w.heap[b]? = some (.cells #[.int .i64 n] 3 (0, 0))) : w.ownsRow 0 3 1 (.slice (some ⟨b, 0, none⟩) 1 1) 1 (rowI [n]) :=
  ⟨by simp [rowI], .inr ⟨b, 1, #[.int .i64 n], rfl, Nat.zero_le _, h, Nat.le_refl _, by unfold maxLen; omega, by simp, by simp [rowI]⟩⟩
/-- What Heard does. -/
def HStep (L : List EntW) (C : List (ByteArray × (Int × Int))) (cnt : Int) (L' : List EntW) (C' : List (ByteArray × (Int × Int))) (cnt' : Int) (k : ByteArray) (ver : Nat) (from_ : Int) (at_ : Int) (b : Bool) : Prop :=
  (b = false ∧ L' = L ∧ C' = C ∧ cnt' = cnt ∧ (from_ < 1 ∨ 65535 < from_ ∨ (findW L k = none ∧ 64 ≤ C.length) ∨ ∃ e, findW L k = some e ∧ (ver < e.ver ∨ (ver = e.ver ∧ from_ ∉ e.has ∧ 64 ≤ e.has.length)))) ∨
  (b = true ∧ 1 ≤ from_ ∧ from_ ≤ 65535 ∧ ((findW L k = none ∧ C.length < 64 ∧ (∃ a cap, L' = L ++ [⟨k, ver, [from_], a, cap⟩]) ∧ C' = C ++ [(k, (at_, cnt + 1))] ∧ cnt' = cnt + 1) ∨
    (∃ e, findW L k = some e ∧ C' = C ∧ cnt' = cnt ∧ ((e.ver < ver ∧ ∃ a cap, L' = putW L ⟨k, ver, [from_], a, cap⟩) ∨ (e.ver = ver ∧ from_ ∈ e.has ∧ L' = L) ∨ (e.ver = ver ∧ from_ ∉ e.has ∧ e.has.length < 64 ∧ ∃ a cap, L' = putW L ⟨k, ver, e.has ++ [from_], a, cap⟩)))))
/-- Each entry is one that was there, or its row lies in a new block. -/
def FreshW (w : World) (L L' : List EntW) : Prop := ∀ e ∈ L', e ∈ L ∨ ∀ g, e.s.ownBlock = some g → w.heap.size ≤ g
theorem fresh_put {w : World} {L : List EntW} {e : EntW} (h : ∀ g, e.s.ownBlock = some g → w.heap.size ≤ g) : FreshW w L (putW L e) := fun e' he => by
  rcases List.mem_append.1 he with he | he
  · exact .inl (List.mem_filter.1 he).1
  · obtain rfl : e' = e := by simpa using he
    exact .inr h
structure HPost (w w' : World) (x kb c cb : Nat) (wait cnt : Int) (L : List EntW) (C : List (ByteArray × (Int × Int))) (k : ByteArray) (ver : Nat) (from_ at_ : Int) (b : Bool) : Prop where
  out : ∃ L' C' cnt', WantAt w' x kb c cb wait cnt' L' C' ∧ Only (footW kb c cb) w w' ∧ HStep L C cnt L' C' cnt' k ver from_ at_ b ∧ FreshW w L L'
theorem HPost.same {w w' : World} {x kb c cb : Nat} {wait cnt : Int} {L : List EntW} {C : List (ByteArray × (Int × Int))} {k : ByteArray} {ver : Nat} {from_ at_ : Int} {b : Bool} (h : WantAt w x kb c cb wait cnt L C) (ho : Only (fun _ => False) w w') (hs : HStep L C cnt L C cnt k ver from_ at_ b) : HPost w w' x kb c cb wait cnt L C k ver from_ at_ b :=
  ⟨L, C, cnt, h.new ho, ho.weaken (fun _ _ => False.elim), hs, fun _ he => .inl he⟩
end Go.Proofs.Ytefadkmdfhjaeaa
