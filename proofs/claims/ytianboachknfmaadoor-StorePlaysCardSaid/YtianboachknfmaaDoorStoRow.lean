/- A slice of structs that came in (bellhoplaw15.Act), as a list. -/
import Derived.Test.YtianboachknfmaaDoorRowS
import Derived.Test.YtianboachknfmaaDoorArr
import Derived.Test.YtianboachknfmaaDoorSto8
namespace Go.Proofs.YtianboachknfmaaDoor
open Go.Conc Go.RowKit Go.ChangeShapes Go.WideShapes Go.ChangeAt Go.WideMaps Go.WideElems

/-- What is known of an element that came in. -/
def rowP_sl_acts15 (a : ActT) : Prop := (Lit.int .i64 a.what).wf = true ∧ (Lit.int .i64 a.org).wf = true ∧ a.nm < 256 ∧ a.life < 256 ∧ a.cnt < 256 ∧ (Lit.int .i64 a.age).wf = true
theorem rows_sl_acts15 : ∀ rows : List (List Value), (∀ r ∈ rows, r.length = 8 ∧ ∃ a : ActT, r = actC a ∧ rowP_sl_acts15 a) →
    ∃ l : List ActT, rows.length = l.length ∧ rows.flatten = l.flatMap actC ∧ ∀ a ∈ l, rowP_sl_acts15 a
  | [], _ => ⟨[], rfl, rfl, by simp⟩
  | r :: rows, h => by
    obtain ⟨l, h1, h2, h3⟩ := rows_sl_acts15 rows (fun r' h' => h r' (by simp [h']))
    obtain ⟨_, a, rfl, h4⟩ := h r (by simp)
    refine ⟨a :: l, by simp [h1], by simp [h2], fun b hb => ?_⟩
    rcases List.mem_cons.1 hb with rfl | hb
    · exact h4
    · exact h3 b hb
set_option maxRecDepth 100000 in
theorem sl_acts15 {H : Type} {enc : TypeId × Value → H} {w : World} {base : Nat} {held : Bool} {v : Value} {d : DataW H} {ps : List MemPlace} (hok : Value.okWide Tryd.prog w .any base 22 v) (h : DataW.Trod enc Tryd.prog w 0 (fun _ => true) held 22 v d ps) :
    ∃ l : List ActT, Sl w 8 v l.length (l.flatMap actC) ∧ ∀ a ∈ l, rowP_sl_acts15 a := by
  have hc : Tryd.prog.cellsOf 39 = 8 := by kernel_rfl
  have cbool : Tryd.prog.cellsOf 4 = 1 := by kernel_rfl
  have cint : Tryd.prog.cellsOf 3 = 1 := by kernel_rfl
  have cu8 : Tryd.prog.cellsOf 5 = 1 := by kernel_rfl
  obtain ⟨rows, h1, h2⟩ := sl_structs (Q := fun r => ∃ a : ActT, r = actC a ∧ rowP_sl_acts15 a) Tryd.underlying22 hc (by decide) hok h (fun n cs x hx => by
    obtain ⟨xs, m, _, _, hl, hlen, hel⟩ := DataW.trod_struct Tryd.underlying39 hx
    rw [hc] at hl
    match cs, hl with
    | [k0, k1, k2, k3, k4, k5, k6, k7], _ =>
      match xs, hlen with
      | [y0, y1, y2, y3, y4, y5, y6, y7], _ =>
        have e0 : DataW.trod enc Tryd.prog w 0 (fun _ => true) held m 3 ((([k0, k1, k2, k3, k4, k5, k6, k7] : List Value).drop 0).take (Tryd.prog.cellsOf 3)) = some y0 := hel 0 _ rfl
        rw [cint] at e0
        have f0 : DataW.trod enc Tryd.prog w 0 (fun _ => true) held m 3 [k0] = some y0 := e0
        have e1 : DataW.trod enc Tryd.prog w 0 (fun _ => true) held m 3 ((([k0, k1, k2, k3, k4, k5, k6, k7] : List Value).drop 1).take (Tryd.prog.cellsOf 3)) = some y1 := hel 1 _ rfl
        rw [cint] at e1
        have f1 : DataW.trod enc Tryd.prog w 0 (fun _ => true) held m 3 [k1] = some y1 := e1
        have e2 : DataW.trod enc Tryd.prog w 0 (fun _ => true) held m 5 ((([k0, k1, k2, k3, k4, k5, k6, k7] : List Value).drop 2).take (Tryd.prog.cellsOf 5)) = some y2 := hel 2 _ rfl
        rw [cu8] at e2
        have f2 : DataW.trod enc Tryd.prog w 0 (fun _ => true) held m 5 [k2] = some y2 := e2
        have e3 : DataW.trod enc Tryd.prog w 0 (fun _ => true) held m 5 ((([k0, k1, k2, k3, k4, k5, k6, k7] : List Value).drop 3).take (Tryd.prog.cellsOf 5)) = some y3 := hel 3 _ rfl
        rw [cu8] at e3
        have f3 : DataW.trod enc Tryd.prog w 0 (fun _ => true) held m 5 [k3] = some y3 := e3
        have e4 : DataW.trod enc Tryd.prog w 0 (fun _ => true) held m 5 ((([k0, k1, k2, k3, k4, k5, k6, k7] : List Value).drop 4).take (Tryd.prog.cellsOf 5)) = some y4 := hel 4 _ rfl
        rw [cu8] at e4
        have f4 : DataW.trod enc Tryd.prog w 0 (fun _ => true) held m 5 [k4] = some y4 := e4
        have e5 : DataW.trod enc Tryd.prog w 0 (fun _ => true) held m 3 ((([k0, k1, k2, k3, k4, k5, k6, k7] : List Value).drop 5).take (Tryd.prog.cellsOf 3)) = some y5 := hel 5 _ rfl
        rw [cint] at e5
        have f5 : DataW.trod enc Tryd.prog w 0 (fun _ => true) held m 3 [k5] = some y5 := e5
        have e6 : DataW.trod enc Tryd.prog w 0 (fun _ => true) held m 4 ((([k0, k1, k2, k3, k4, k5, k6, k7] : List Value).drop 6).take (Tryd.prog.cellsOf 4)) = some y6 := hel 6 _ rfl
        rw [cbool] at e6
        have f6 : DataW.trod enc Tryd.prog w 0 (fun _ => true) held m 4 [k6] = some y6 := e6
        have e7 : DataW.trod enc Tryd.prog w 0 (fun _ => true) held m 4 ((([k0, k1, k2, k3, k4, k5, k6, k7] : List Value).drop 7).take (Tryd.prog.cellsOf 4)) = some y7 := hel 7 _ rfl
        rw [cbool] at e7
        have f7 : DataW.trod enc Tryd.prog w 0 (fun _ => true) held m 4 [k7] = some y7 := e7
        obtain ⟨z0, g0, _, w0⟩ := DataW.trod_int Tryd.underlying3 f0
        obtain ⟨z1, g1, _, w1⟩ := DataW.trod_int Tryd.underlying3 f1
        obtain ⟨z2, g2, _, w2⟩ := DataW.trod_int Tryd.underlying5 f2
        obtain ⟨z3, g3, _, w3⟩ := DataW.trod_int Tryd.underlying5 f3
        obtain ⟨z4, g4, _, w4⟩ := DataW.trod_int Tryd.underlying5 f4
        obtain ⟨z5, g5, _, w5⟩ := DataW.trod_int Tryd.underlying3 f5
        obtain ⟨z6, g6, _⟩ := DataW.trod_bool Tryd.underlying4 f6
        obtain ⟨z7, g7, _⟩ := DataW.trod_bool Tryd.underlying4 f7
        cases g0
        cases g1
        cases g2
        cases g3
        cases g4
        cases g5
        cases g6
        cases g7
        obtain ⟨z2, rfl, q2⟩ := nat_u8 w2
        obtain ⟨z3, rfl, q3⟩ := nat_u8 w3
        obtain ⟨z4, rfl, q4⟩ := nat_u8 w4
        exact ⟨⟨z0, z1, z2, z3, z4, z5, z6, z7⟩, rfl, ⟨w0, w1, q2, q3, q4, w5⟩⟩)
  obtain ⟨l, e1, e2, e3⟩ := rows_sl_acts15 rows h2
  rw [e1, e2] at h1
  exact ⟨l, h1, e3⟩
end Go.Proofs.YtianboachknfmaaDoor
