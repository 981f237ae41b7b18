/- A slice of structs that came in (bellhoplaw08.Act), as a list. -/
import Derived.Test.YtjgcbcahikemdaaRowS
import Derived.Test.YtjgcbcahikemdaaArr
import Derived.Test.YtjgcbcahikemdaaMesh14
namespace Go.Proofs.Ytjgcbcahikemdaa
open Go.Conc Go.RowKit Go.ChangeShapes Go.WideShapes Go.ChangeAt Go.WideMaps Go.WideElems

/-- What is known of an element that came in. -/
def rowP_sl_actsD (a : ActD) : Prop := (Lit.int .i64 a.what).wf = true ∧ (Lit.int .i64 a.na).wf = true ∧ (Lit.int .i64 a.nb).wf = true ∧ a.tx.size ≤ maxLen
theorem rows_sl_actsD : ∀ rows : List (List Value), (∀ r ∈ rows, r.length = 4 ∧ ∃ a : ActD, r = actDC a ∧ rowP_sl_actsD a) →
    ∃ l : List ActD, rows.length = l.length ∧ rows.flatten = l.flatMap actDC ∧ ∀ a ∈ l, rowP_sl_actsD a
  | [], _ => ⟨[], rfl, rfl, by simp⟩
  | r :: rows, h => by
    obtain ⟨l, h1, h2, h3⟩ := rows_sl_actsD rows (fun r' h' => h r' (by simp [h']))
    obtain ⟨_, a, rfl, h4⟩ := h r (by simp)
    refine ⟨a :: l, by simp [h1], by simp [h2], fun b hb => ?_⟩
    rcases List.mem_cons.1 hb with rfl | hb
    · exact h4
    · exact h3 b hb
set_option maxRecDepth 100000 in
theorem sl_actsD {H : Type} {enc : TypeId × Value → H} {w : World} {base : Nat} {held : Bool} {v : Value} {d : DataW H} {ps : List MemPlace} (hok : Value.okWide Try.prog w .any base 49 v) (h : DataW.Trod enc Try.prog w 0 (fun _ => true) held 49 v d ps) :
    ∃ l : List ActD, Sl w 4 v l.length (l.flatMap actDC) ∧ ∀ a ∈ l, rowP_sl_actsD a := by
  have hc : Try.prog.cellsOf 55 = 4 := by kernel_rfl
  have cint : Try.prog.cellsOf 3 = 1 := by kernel_rfl
  have cstr : Try.prog.cellsOf 9 = 1 := by kernel_rfl
  obtain ⟨rows, h1, h2⟩ := sl_structs (Q := fun r => ∃ a : ActD, r = actDC a ∧ rowP_sl_actsD a) Try.underlying49 hc (by decide) hok h (fun n cs x hx => by
    obtain ⟨xs, m, _, _, hl, hlen, hel⟩ := DataW.trod_struct Try.underlying55 hx
    rw [hc] at hl
    match cs, hl with
    | [k0, k1, k2, k3], _ =>
      match xs, hlen with
      | [y0, y1, y2, y3], _ =>
        have e0 : DataW.trod enc Try.prog w 0 (fun _ => true) held m 3 ((([k0, k1, k2, k3] : List Value).drop 0).take (Try.prog.cellsOf 3)) = some y0 := hel 0 _ rfl
        rw [cint] at e0
        have f0 : DataW.trod enc Try.prog w 0 (fun _ => true) held m 3 [k0] = some y0 := e0
        have e1 : DataW.trod enc Try.prog w 0 (fun _ => true) held m 3 ((([k0, k1, k2, k3] : List Value).drop 1).take (Try.prog.cellsOf 3)) = some y1 := hel 1 _ rfl
        rw [cint] at e1
        have f1 : DataW.trod enc Try.prog w 0 (fun _ => true) held m 3 [k1] = some y1 := e1
        have e2 : DataW.trod enc Try.prog w 0 (fun _ => true) held m 3 ((([k0, k1, k2, k3] : List Value).drop 2).take (Try.prog.cellsOf 3)) = some y2 := hel 2 _ rfl
        rw [cint] at e2
        have f2 : DataW.trod enc Try.prog w 0 (fun _ => true) held m 3 [k2] = some y2 := e2
        have e3 : DataW.trod enc Try.prog w 0 (fun _ => true) held m 9 ((([k0, k1, k2, k3] : List Value).drop 3).take (Try.prog.cellsOf 9)) = some y3 := hel 3 _ rfl
        rw [cstr] at e3
        have f3 : DataW.trod enc Try.prog w 0 (fun _ => true) held m 9 [k3] = some y3 := e3
        obtain ⟨z0, g0, _, w0⟩ := DataW.trod_int Try.underlying3 f0
        obtain ⟨z1, g1, _, w1⟩ := DataW.trod_int Try.underlying3 f1
        obtain ⟨z2, g2, _, w2⟩ := DataW.trod_int Try.underlying3 f2
        obtain ⟨z3, g3, _, w3⟩ := DataW.trod_string Try.underlying9 f3
        cases g0
        cases g1
        cases g2
        cases g3
        exact ⟨⟨z0, z1, z2, z3⟩, rfl, ⟨w0, w1, w2, w3⟩⟩)
  obtain ⟨l, e1, e2, e3⟩ := rows_sl_actsD rows h2
  rw [e1, e2] at h1
  exact ⟨l, h1, e3⟩
end Go.Proofs.Ytjgcbcahikemdaa
