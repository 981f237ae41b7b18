/- A mesh: Len, Take. -/
import Derived.Test.YtjgcbcahikemdaaMesh2
namespace Go.Proofs.Ytjgcbcahikemdaa
open Go.Conc Go.RowKit Go.Maps

theorem MeshAt.lookup {w : World} {m lb pb : Nat} {lv : List Int} {L : PMap} (h : MeshAt w m lb pb lv L) (a b : Int) (ha : (Lit.int .i64 a).wf = true) (hb : (Lit.int .i64 b).wf = true) :
    (Instr.lookup 103 (.map (some pb)) (.agg #[.int .i64 a, .int .i64 b]) false).run Try.prog w = .ok (ptrV ((lookL L (a, b)).getD none)) w :=
  h.pipes.look wayKeyed wayInj Try.underlying103 (z := none) (zeroP _) (wayOk ha hb) false
set_option maxRecDepth 100000 in
set_option maxHeartbeats 2000000 in
theorem mlen_any (w : World) (m lb pb : Nat) (lv : List Int) (L : PMap) (h : MeshAt w m lb pb lv L) (a b : Int) (ha : (Lit.int .i64 a).wf = true) (hb : (Lit.int .i64 b).wf = true) :
    Calls Try.prog 37 #[.pointer (some ⟨m, 0, none⟩), .int .i64 a, .int .i64 b] w fun e w' => e = .returned (.int .i64 (getM L a b).length) ∧ w = w' := by
  have hlk := h.lookup a b ha hb
  have c1 : w.cell? ⟨m, 1, none⟩ = some (.map (some pb)) := cell_at h.blk 1
  rcases h.look_cases (a, b) with hl | ⟨d, hl, hp, hn⟩
  · have HG := Lib.hid (show getM L a b = [] by unfold getM; rw [hl])
    rw [hl] at hlk
    have hlk' : (Instr.lookup 103 (.map (some pb)) (.agg #[.int .i64 a, .int .i64 b]) false).run Try.prog w = .ok (.pointer none) w := hlk
    have HL := Lib.hid (len_nil w)
    clear hl ha hb h hlk
    go_enter Try.func37, Try.ntmps37
    go_wp2_with fail
    refine HL.out.mono ?_
    rintro e w' ⟨rfl, rfl⟩
    go_wp2_with fail
    go_ret
    exact ⟨by rw [HG.out]; rfl, rfl⟩
  · have HG := Lib.hid (show getM L a b = d.l by unfold getM; rw [hl])
    rw [hl] at hlk
    have hlk' : (Instr.lookup 103 (.map (some pb)) (.agg #[.int .i64 a, .int .i64 b]) false).run Try.prog w = .ok (.pointer (some ⟨d.p, 0, none⟩)) w := hlk
    have HL := Lib.hid (len_n w d.p d.c (items d.l) (d.l.length : Int) hp (by unfold items; rw [List.length_map]))
    clear hl ha hb h hlk hp hn
    go_enter Try.func37, Try.ntmps37
    go_wp2_with fail
    refine HL.out.mono ?_
    rintro e w' ⟨rfl, rfl⟩
    go_wp2_with fail
    go_ret
    exact ⟨by rw [HG.out]; rfl, rfl⟩
theorem mlen_nil (w : World) (a b : Int) : Calls Try.prog 37 #[.pointer none, .int .i64 a, .int .i64 b] w fun e w' => e = .returned (.int .i64 0) ∧ w = w' := by
  go_enter Try.func37, Try.ntmps37
  go_wp2_with fail
  go_ret
  exact ⟨rfl, rfl⟩
theorem mtake_nil (w : World) (a b : Int) : Calls Try.prog 26 #[.pointer none, .int .i64 a, .int .i64 b] w fun e w' => e = .returned (.tuple #[.agg #[.bool false, .string ⟨#[]⟩], .bool false]) ∧ Only (fun _ => False) w w' := by
  go_enter Try.func26, Try.ntmps26
  go_wp2
  exact bodyPost_ret (v := .tuple #[.agg #[.bool false, .string ⟨#[]⟩], .bool false]) (by simp [results, Try.results26, go_sem]) rfl ⟨rfl, (Only.refl _ w).alloc _⟩
/-- What Take leaves. -/
def TakePost (w w' : World) (m lb pb : Nat) (lv : List Int) (L : PMap) (a b : Int) (x : Bool) (y : ByteArray) (ok : Bool) : Prop := ∃ rest, Took (getM L a b) x y ok rest ∧ MPost w w' m lb pb lv L (setG (getM L) a b rest) 0
theorem set_atM {w : World} {b : Nat} {cs : Array Value} {t : TypeId} {f : Nat × Nat} (h : w.heap[b]? = some (.cells cs t f)) (i : Nat) (v : Value) : (w.setCell ⟨b, i, none⟩ v).heap[b]? = some (.cells (cs.setIfInBounds i v) t f) := by
  have hlt := lt_of_block h
  have h' : w.heap[b] = .cells cs t f := by simpa [Array.getElem?_eq_getElem hlt] using h
  show (w.heap.modify b _)[b]? = _
  rw [Array.getElem?_eq_getElem (by simpa using hlt), Array.getElem_modify_self, h']
  rfl
/-- Two cells of a new block are written. -/
theorem TakePost.fin {w w2 w3 : World} {m lb pb : Nat} {lv : List Int} {L : PMap} {G : Ways} {a b : Int} {x : Bool} {y : ByteArray} {ok : Bool} {rest : List (Bool × ByteArray)} {v0 v1 : Value} (hb : w2.heap[w.heap.size]? = some (.cells #[.bool false, .string ⟨#[]⟩] 58 (0, 0))) (hp : MPost w w2 m lb pb lv L G 0) (hT : Took (getM L a b) x y ok rest) (hG : ∀ p q, setG (getM L) a b rest p q = G p q)
    (hw : w3 = (w2.setCell ⟨w.heap.size, 0, none⟩ v0).setCell ⟨w.heap.size, 1, none⟩ v1) : TakePost w w3 m lb pb lv L a b x y ok := by
  obtain ⟨L', k1, k2, k3, k4⟩ := hp.out
  have ho : Only (fun i => i = w.heap.size) w2 w3 := by
    rw [hw]
    exact ((Only.refl (fun i => i = w.heap.size) _).setCell (p := ⟨w.heap.size, 0, none⟩) (.inr rfl) _).setCell (p := ⟨w.heap.size, 1, none⟩) (.inr rfl) _
  have ho' : Only (foot lb pb L) w w3 := by
    rw [hw]
    exact (k2.only.setCell (p := ⟨w.heap.size, 0, none⟩) (.inl (Nat.le_refl _)) _).setCell (p := ⟨w.heap.size, 1, none⟩) (.inl (Nat.le_refl _)) _
  refine ⟨rest, hT, ⟨L', k1.kept ho (fun e => ?_) (fun k hk e => ?_) (fun e he d hd e2 => ?_), ⟨ho', k2.next⟩, fun p q => (k3 p q).trans (hG p q).symm, k4⟩⟩
  · have h9 : m = w.heap.size := e
    have := k1.blk
    rw [h9, hb] at this
    cases this
  · have h9 : k = w.heap.size := e
    subst h9
    exact k1.foot_cells hk hb
  · have h9 : d.p = w.heap.size := e2
    obtain ⟨d', hd', h1, _⟩ := k1.pipe e he
    rw [hd] at hd'
    cases hd'
    have := h1.blk
    rw [h9, hb] at this
    cases this
set_option maxRecDepth 100000 in
set_option maxHeartbeats 2000000 in
theorem mtake_any (w : World) (m lb pb : Nat) (lv : List Int) (L : PMap) (h : MeshAt w m lb pb lv L) (a b : Int) (ha : (Lit.int .i64 a).wf = true) (hb : (Lit.int .i64 b).wf = true) :
    Calls Try.prog 26 #[.pointer (some ⟨m, 0, none⟩), .int .i64 a, .int .i64 b] w fun e w' => ∃ x y ok, e = .returned (.tuple #[.agg #[.bool x, .string y], .bool ok]) ∧ TakePost w w' m lb pb lv L a b x y ok := by
  obtain ⟨W, hW⟩ : ∃ W, W = w.alloc (.cells #[.bool false, .string ⟨#[]⟩] 58) := ⟨_, rfl⟩
  have hbW : W.heap[w.heap.size]? = some (.cells #[.bool false, .string ⟨#[]⟩] 58 (0, 0)) := by rw [hW]; exact heap_alloc_new w _
  have hoW : Only (fun _ => False) w W := by rw [hW]; exact (Only.refl _ _).alloc _
  have hsW : W.heap.size = w.heap.size + 1 := by rw [hW]; simp
  have h1 := h.new hoW
  have hlk := h1.lookup a b ha hb
  have c1 : W.cell? ⟨m, 1, none⟩ = some (.map (some pb)) := cell_at h1.blk 1
  have x0 : W.cell? ⟨w.heap.size, 0, none⟩ = some (.bool false) := cell_at hbW 0
  have x1 : W.cell? ⟨w.heap.size, 1, none⟩ = some (.string ⟨#[]⟩) := cell_at hbW 1
  have HMw := Lib.hid h
  have hoW' := hoW
  have HO := Lib.hid hoW
  have HW := Lib.hid hW
  have HB := Lib.hid hbW
  clear hoW hW hbW
  rcases h.look_cases (a, b) with hl | ⟨d, hl, hp, hn⟩
  · have HG := Lib.hid (show getM L a b = [] by unfold getM; rw [hl])
    rw [hl] at hlk
    have hlk' : (Instr.lookup 103 (.map (some pb)) (.agg #[.int .i64 a, .int .i64 b]) false).run Try.prog W = .ok (.pointer none) W := hlk
    have HL := Lib.hid (take_nil W)
    clear hl ha hb h hlk h1
    go_enter Try.func26, Try.ntmps26
    go_upto_region 3 with (fail)
    rw [← HW.out]
    go_wp2_with fail
    refine HL.out.mono ?_
    rintro e w2 ⟨rfl, ho2⟩
    have hb2 := ho2.old HB.out id
    have x0 : w2.cell? ⟨w.heap.size, 0, none⟩ = some (.bool false) := cell_at hb2 0
    have x1 : w2.cell? ⟨w.heap.size, 1, none⟩ = some (.string ⟨#[]⟩) := cell_at hb2 1
    have xf : ∀ i, w2.frozen? ⟨w.heap.size, i, none⟩ = false := free_at hb2
    have HO2 := Lib.hid ho2
    have HB2 := Lib.hid hb2
    clear ho2 hb2
    clear hlk' c1
    go_wp2_with fail
    obtain ⟨w3, hw3⟩ : ∃ w3, w3 = (w2.setCell ⟨w.heap.size, 0, none⟩ (.bool false)).setCell ⟨w.heap.size, 1, none⟩ (.string ⟨#[]⟩) := ⟨_, rfl⟩
    rw [← hw3]
    have hb3 : w3.heap[w.heap.size]? = some (.cells #[.bool false, .string ⟨#[]⟩] 58 (0, 0)) := by rw [hw3]; exact set_atM (set_atM HB2.out 0 _) 1 _
    have y0 : w3.cell? ⟨w.heap.size, 0, none⟩ = some (.bool false) := cell_at hb3 0
    have y1 : w3.cell? ⟨w.heap.size, 1, none⟩ = some (.string ⟨#[]⟩) := cell_at hb3 1
    have HF := Lib.hid (TakePost.fin (w := w) HB2.out (MPost.same HMw.out (HO.out.trans HO2.out) 0) (by rw [HG.out]; exact .inr ⟨rfl, rfl, rfl, rfl, rfl⟩) (by intro x y; unfold setG; split; (rename_i e; rw [e.1, e.2, HG.out]); rfl) hw3)
    clear hw3 hb3 x0 x1 xf
    exact bodyPost_ret (v := .tuple #[.agg #[.bool false, .string ⟨#[]⟩], .bool false]) (by simp [results, Try.results26, go_sem, y0, y1]) rfl ⟨_, _, _, rfl, HF.out⟩
  · have HG := Lib.hid (show getM L a b = d.l by unfold getM; rw [hl])
    rw [hl] at hlk
    have hlk' : (Instr.lookup 103 (.map (some pb)) (.agg #[.int .i64 a, .int .i64 b]) false).run Try.prog W = .ok (.pointer (some ⟨d.p, 0, none⟩)) W := hlk
    have hbd := hp.lt
    have HL := Lib.hid (take_any W d.p d.c d.l (hp.kept hoW' id id))
    have HU := Lib.hid (fun w2 rest ho hp hn => h1.upd (w' := w2) (l := rest) hl ho hp hn)
    have HLL := Lib.hid hl
    clear ha hb h hlk h1 hp hl
    go_enter Try.func26, Try.ntmps26
    go_upto_region 3 with (fail)
    rw [← HW.out]
    go_wp2_with fail
    refine HL.out.mono ?_
    rintro e w2 ⟨x, y, ok, rest, rfl, ho2, hp2, hT⟩
    have hb2 := ho2.old HB.out (fun e => by have h9 : w.heap.size = d.c := e; omega)
    have x0 : w2.cell? ⟨w.heap.size, 0, none⟩ = some (.bool false) := cell_at hb2 0
    have x1 : w2.cell? ⟨w.heap.size, 1, none⟩ = some (.string ⟨#[]⟩) := cell_at hb2 1
    have xf : ∀ i, w2.frozen? ⟨w.heap.size, i, none⟩ = false := free_at hb2
    have hrn : rest.length ≤ 64 := by
      rcases hT with ⟨_, hT⟩ | ⟨_, _, rfl, _⟩
      · rw [hT] at hn; simp at hn; omega
      · simp
    obtain ⟨k1, k2⟩ := HU.out w2 rest ho2 hp2 hrn
    have HPO := Lib.hid (show MPost w w2 m lb pb lv L (setG (getM L) a b rest) 0 from ⟨_, k1, (Step.of HO.out).trans k2, fun x y => by rw [get_setD HLL.out rest x y]; rfl, by unfold setD; rw [List.length_map]; omega⟩)
    have HB2 := Lib.hid hb2
    have HT := Lib.hid hT
    clear hb2 hT
    clear hlk' c1 k1 k2 hrn ho2 hp2 hbd
    go_wp2_with fail
    obtain ⟨w3, hw3⟩ : ∃ w3, w3 = (w2.setCell ⟨w.heap.size, 0, none⟩ (.bool x)).setCell ⟨w.heap.size, 1, none⟩ (.string y) := ⟨_, rfl⟩
    rw [← hw3]
    have hb3 : w3.heap[w.heap.size]? = some (.cells #[.bool x, .string y] 58 (0, 0)) := by rw [hw3]; exact set_atM (set_atM HB2.out 0 _) 1 _
    have y0 : w3.cell? ⟨w.heap.size, 0, none⟩ = some (.bool x) := cell_at hb3 0
    have y1 : w3.cell? ⟨w.heap.size, 1, none⟩ = some (.string y) := cell_at hb3 1
    have HF := Lib.hid (TakePost.fin (w := w) HB2.out HPO.out (by rw [HG.out]; exact HT.out) (fun _ _ => rfl) hw3)
    clear hw3 hb3 x0 x1 xf
    exact bodyPost_ret (v := .tuple #[.agg #[.bool x, .string y], .bool ok]) (by simp [results, Try.results26, go_sem, y0, y1]) rfl ⟨_, _, _, rfl, HF.out⟩
end Go.Proofs.Ytjgcbcahikemdaa
