/- A service (plain data) that came in. -/
import Derived.Test.YtfmplmchpdmbmaaDoorArr
import Derived.Laws.IdiomArrays
namespace Go.Proofs.YtfmplmchpdmbmaaDoor
open Go.Conc Go.RowKit Go.ChangeShapes Go.WideShapes Go.ChangeAt Go.WideMaps Go.WideElems

theorem list5 {α : Type} {l : List α} (h : l.length = 5) : ∃ x y z u v, l = [x, y, z, u, v] := by
  match l, h with
  | [x, y, z, u, v], _ => exact ⟨x, y, z, u, v, rfl⟩
theorem array8 {α : Type} {cs : Array α} (h : cs.size = 8) : ∃ c0 c1 c2 c3 c4 c5 c6 c7, cs = #[c0, c1, c2, c3, c4, c5, c6, c7] := by
  obtain ⟨l⟩ := cs
  match l, h with
  | [c0, c1, c2, c3, c4, c5, c6, c7], _ => exact ⟨c0, c1, c2, c3, c4, c5, c6, c7, rfl⟩
set_option maxRecDepth 100000 in
theorem svc_open {H : Type} {enc : TypeId × Value → H} {w : World} {base : Nat} {spare : Nat → Bool} {held : Bool} {v : Value} {d : DataW H} {ps : List MemPlace} (hok : Value.okWide Tryd.prog w .any base 56 v) (h : DataW.Trod enc Tryd.prog w 0 spare held 56 v d ps) :
    ∃ (nm : ByteArray) (a0 a1 a2 a3 p q r : Nat), v = .agg #[.string nm, .int .u8 a0, .int .u8 a1, .int .u8 a2, .int .u8 a3, .int .u16 p, .int .u16 q, .int .u16 r] ∧ nm.size ≤ maxLen ∧ a0 < 256 ∧ a1 < 256 ∧ a2 < 256 ∧ a3 < 256 ∧ p < 65536 ∧ q < 65536 ∧ r < 65536 := by
  have ht := Tryd.underlying56
  have hc : Tryd.prog.cellsOf 56 = 8 := by kernel_rfl
  have c1 : Tryd.prog.cellsOf 9 = 1 := by kernel_rfl
  have c2 : Tryd.prog.cellsOf 46 = 4 := by kernel_rfl
  have c3 : Tryd.prog.cellsOf 47 = 1 := by kernel_rfl
  have c4 : Tryd.prog.cellsOf 5 = 1 := by kernel_rfl
  simp only [Value.okWide, ht] at hok
  obtain ⟨cs, rfl, hsz, -⟩ := hok
  obtain ⟨fuel, hf⟩ := h
  obtain ⟨xs, m, _, _, hl, hlen, hel⟩ := DataW.trod_struct ht hf
  rw [hc] at hsz
  obtain ⟨k0, k1, k2, k3, k4, k5, k6, k7, rfl⟩ := array8 hsz
  obtain ⟨y0, y1, y2, y3, y4, rfl⟩ := list5 hlen
  have e0 : DataW.trod enc Tryd.prog w 0 spare held m 9 ((([k0, k1, k2, k3, k4, k5, k6, k7] : List Value).drop 0).take (Tryd.prog.cellsOf 9)) = some y0 := hel 0 _ rfl
  rw [c1] at e0
  have f0 : DataW.trod enc Tryd.prog w 0 spare held m 9 [k0] = some y0 := e0
  have e1 : DataW.trod enc Tryd.prog w 0 spare held m 46 ((([k0, k1, k2, k3, k4, k5, k6, k7] : List Value).drop 1).take (Tryd.prog.cellsOf 46)) = some y1 := hel 1 _ rfl
  rw [c2] at e1
  have f1 : DataW.trod enc Tryd.prog w 0 spare held m 46 [k1, k2, k3, k4] = some y1 := e1
  have e2 : DataW.trod enc Tryd.prog w 0 spare held m 47 ((([k0, k1, k2, k3, k4, k5, k6, k7] : List Value).drop 5).take (Tryd.prog.cellsOf 47)) = some y2 := hel 2 _ rfl
  rw [c3] at e2
  have f2 : DataW.trod enc Tryd.prog w 0 spare held m 47 [k5] = some y2 := e2
  have e3 : DataW.trod enc Tryd.prog w 0 spare held m 47 ((([k0, k1, k2, k3, k4, k5, k6, k7] : List Value).drop 6).take (Tryd.prog.cellsOf 47)) = some y3 := hel 3 _ rfl
  rw [c3] at e3
  have f3 : DataW.trod enc Tryd.prog w 0 spare held m 47 [k6] = some y3 := e3
  have e4 : DataW.trod enc Tryd.prog w 0 spare held m 47 ((([k0, k1, k2, k3, k4, k5, k6, k7] : List Value).drop 7).take (Tryd.prog.cellsOf 47)) = some y4 := hel 4 _ rfl
  rw [c3] at e4
  have f4 : DataW.trod enc Tryd.prog w 0 spare held m 47 [k7] = some y4 := e4
  obtain ⟨nm, h0, _, b0⟩ := DataW.trod_string Tryd.underlying9 f0
  obtain ⟨_, _, _, _, m2, _, g0, g1, g2, g3⟩ := trod_array4 Tryd.underlying46 c4 f1
  obtain ⟨z0, i0, _, w0⟩ := DataW.trod_int Tryd.underlying5 g0
  obtain ⟨z1, i1, _, w1⟩ := DataW.trod_int Tryd.underlying5 g1
  obtain ⟨z2, i2, _, w2⟩ := DataW.trod_int Tryd.underlying5 g2
  obtain ⟨z3, i3, _, w3⟩ := DataW.trod_int Tryd.underlying5 g3
  obtain ⟨z5, i5, _, w5⟩ := DataW.trod_int Tryd.underlying47 f2
  obtain ⟨z6, i6, _, w6⟩ := DataW.trod_int Tryd.underlying47 f3
  obtain ⟨z7, i7, _, w7⟩ := DataW.trod_int Tryd.underlying47 f4
  simp only [List.cons.injEq, and_true] at h0 i0 i1 i2 i3 i5 i6 i7
  obtain ⟨a0, rfl, ha0⟩ := nat_u8 w0
  obtain ⟨a1, rfl, ha1⟩ := nat_u8 w1
  obtain ⟨a2, rfl, ha2⟩ := nat_u8 w2
  obtain ⟨a3, rfl, ha3⟩ := nat_u8 w3
  obtain ⟨p, rfl, hp⟩ := nat_u16 w5
  obtain ⟨q, rfl, hq⟩ := nat_u16 w6
  obtain ⟨r, rfl, hr⟩ := nat_u16 w7
  subst h0 i0 i1 i2 i3 i5 i6 i7
  exact ⟨nm, a0, a1, a2, a3, p, q, r, rfl, b0, ha0, ha1, ha2, ha3, hp, hq, hr⟩
end Go.Proofs.YtfmplmchpdmbmaaDoor
