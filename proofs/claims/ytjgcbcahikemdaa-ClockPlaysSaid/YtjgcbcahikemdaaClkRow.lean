/- The acts on a clock, as they came in. -/
import Derived.Test.YtjgcbcahikemdaaRowS
import Derived.Test.YtjgcbcahikemdaaClk10
namespace Go.Proofs.Ytjgcbcahikemdaa
open Go.Conc Go.RowKit Go.ChangeShapes Go.WideShapes Go.ChangeAt Go.WideMaps Go.WideElems

theorem acts_of_rows : ∀ rows : List (List Value), (∀ r ∈ rows, r.length = 3 ∧ ∃ a : Int × ByteArray × Int, r = actCells a ∧ a.2.1.size ≤ maxLen ∧ (Lit.int .i64 a.1).wf = true) →
    ∃ l : List (Int × ByteArray × Int), rows.length = l.length ∧ rows.flatten = l.flatMap actCells ∧ ∀ a ∈ l, a.2.1.size ≤ maxLen ∧ (Lit.int .i64 a.1).wf = true
  | [], _ => ⟨[], rfl, rfl, by simp⟩
  | r :: rows, h => by
    obtain ⟨l, h1, h2, h3⟩ := acts_of_rows rows (fun r' h' => h r' (by simp [h']))
    obtain ⟨_, a, rfl, h4, h5⟩ := h r (by simp)
    refine ⟨a :: l, by simp [h1], by simp [h2], fun b hb => ?_⟩
    rcases List.mem_cons.1 hb with rfl | hb
    · exact ⟨h4, h5⟩
    · exact h3 b hb
set_option maxRecDepth 100000 in
theorem sl_acts {H : Type} {enc : TypeId × Value → H} {w : World} {base : Nat} {held : Bool} {v : Value} {d : DataW H} {ps : List MemPlace} (hok : Value.okWide Try.prog w .any base 22 v) (h : DataW.Trod enc Try.prog w 0 (fun _ => true) held 22 v d ps) :
    ∃ l : List (Int × ByteArray × Int), Sl w 3 v l.length (l.flatMap actCells) ∧ ∀ a ∈ l, a.2.1.size ≤ maxLen ∧ (Lit.int .i64 a.1).wf = true := by
  have hc : Try.prog.cellsOf 27 = 3 := by kernel_rfl
  have c1 : Try.prog.cellsOf 3 = 1 := by kernel_rfl
  have c2 : Try.prog.cellsOf 9 = 1 := by kernel_rfl
  have c3 : Try.prog.cellsOf 2 = 1 := by kernel_rfl
  obtain ⟨rows, h1, h2⟩ := sl_structs (Q := fun r => ∃ a : Int × ByteArray × Int, r = actCells a ∧ a.2.1.size ≤ maxLen ∧ (Lit.int .i64 a.1).wf = true) Try.underlying22 hc (by decide) hok h (fun n cs x hx => by
    obtain ⟨xs, m, _, _, hl, hlen, hel⟩ := DataW.trod_struct Try.underlying27 hx
    rw [hc] at hl
    match cs, hl with
    | [k0, k1, k2], _ =>
      match xs, hlen with
      | [y0, y1, y2], _ =>
        have e0 : DataW.trod enc Try.prog w 0 (fun _ => true) held m 3 ((([k0, k1, k2] : List Value).drop 0).take (Try.prog.cellsOf 3)) = some y0 := hel 0 _ rfl
        rw [c1] at e0
        have f0 : DataW.trod enc Try.prog w 0 (fun _ => true) held m 3 [k0] = some y0 := e0
        have e1 : DataW.trod enc Try.prog w 0 (fun _ => true) held m 9 ((([k0, k1, k2] : List Value).drop 1).take (Try.prog.cellsOf 9)) = some y1 := hel 1 _ rfl
        rw [c2] at e1
        have f1 : DataW.trod enc Try.prog w 0 (fun _ => true) held m 9 [k1] = some y1 := e1
        have e2 : DataW.trod enc Try.prog w 0 (fun _ => true) held m 2 ((([k0, k1, k2] : List Value).drop 2).take (Try.prog.cellsOf 2)) = some y2 := hel 2 _ rfl
        rw [c3] at e2
        have f2 : DataW.trod enc Try.prog w 0 (fun _ => true) held m 2 [k2] = some y2 := e2
        obtain ⟨x, g0, _, w0⟩ := DataW.trod_int Try.underlying3 f0
        obtain ⟨s, g1, _, w1⟩ := DataW.trod_string Try.underlying9 f1
        obtain ⟨z, g2, _, _⟩ := DataW.trod_int Try.underlying2 f2
        cases g0
        cases g1
        cases g2
        exact ⟨(x, s, z), rfl, w1, w0⟩)
  obtain ⟨l, e1, e2, e3⟩ := acts_of_rows rows h2
  rw [e1, e2] at h1
  exact ⟨l, h1, e3⟩
end Go.Proofs.Ytjgcbcahikemdaa
