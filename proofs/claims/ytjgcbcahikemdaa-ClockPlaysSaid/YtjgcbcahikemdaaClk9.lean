/- bellhoplaw04.speaks. -/
import Derived.Test.YtjgcbcahikemdaaClk8
import Derived.Test.YtjgcbcahikemdaaStr
namespace Go.Proofs.Ytjgcbcahikemdaa
open Go.Conc Go.RowKit

theorem new_clk (w : World) (m : Int) : Calls Try.prog 9 #[.int .i64 m] w fun e w' => e = .returned (.pointer (some ⟨w.heap.size + 1, 0, none⟩)) ∧ Only (fun _ => False) w w' ∧ ClkIs w' (w.heap.size + 1) w.heap.size (min (max m 0) 64) 0 [] := by
  refine (newClock_any w m).mono ?_
  rintro e w' ⟨rfl, rfl⟩
  refine ⟨rfl, ((Only.refl _ _).alloc _).alloc _, ?_, ?_⟩
  · have := heap_alloc_new (w.alloc (.map #[] 0)) (.cells #[.map (some w.heap.size), .int .i64 (min (max m 0) 64), .int .i64 0] 82)
    simpa using this
  · refine MapIs.empty ?_
    exact ((Only.refl (fun _ => False) (w.alloc (.map #[] 0))).alloc _).old (heap_alloc_new w _) id
/-- What Set leaves. -/
structure SetDone (w : World) (c b : Nat) (most cnt : Int) (L : List (ByteArray × (Int × Int))) (w' : World) : Prop where
  only : Only (fun i => i = c ∨ i = b) w w'
  clk : ClkIs w' c b most cnt L
theorem set_yes {w : World} {c b : Nat} {most cnt : Int} {L : List (ByteArray × (Int × Int))} {k : ByteArray} {a : Int} {w' : World} (h : SetPost w c b most cnt L k a w') (hk : okSet most L k = true) : SetDone w c b most (cnt + 1) (putL L k (a, cnt + 1)) w' := by
  have := h.2
  rw [hk] at this
  exact ⟨h.1, this⟩
theorem set_no {w : World} {c b : Nat} {most cnt : Int} {L : List (ByteArray × (Int × Int))} {k : ByteArray} {a : Int} {w' : World} (h : SetPost w c b most cnt L k a w') (hk : okSet most L k = false) : SetDone w c b most cnt L w' := by
  have := h.2
  rw [hk] at this
  exact ⟨h.1, this⟩
theorem due_mem {L : List (ByteArray × (Int × Int))} {f : ByteArray × (Int × Int) → Bool} {out : List ByteArray} (hp : out.Perm ((L.filter f).map (·.1))) : ∀ x ∈ out, ∃ v, (x, v) ∈ L := by
  intro x hx
  obtain ⟨p, hp, e⟩ := List.mem_map.1 (hp.mem_iff.1 hx)
  exact ⟨p.2, by rw [← e]; exact (List.mem_filter.1 hp).1⟩
def sA : ByteArray := ⟨#[97]⟩
def sB : ByteArray := ⟨#[98]⟩
def sC : ByteArray := ⟨#[99]⟩
set_option maxRecDepth 100000 in
theorem speaks_any (w : World) : Calls Try.prog 8 #[] w fun e w' => e = .returned (.bool true) ∧ Only (fun _ => False) w w' := by
  go_enter Try.func8, Try.ntmps8
  go_wp2_with fail
  refine (new_clk w 2).mono ?_
  rintro e w1 ⟨rfl, ho1, hc1⟩
  rw [show min (max (2 : Int) 0) 64 = 2 by decide] at hc1
  have HO1 := Lib.hid ho1
  have HC1 := Lib.hid hc1
  clear hc1 ho1
  go_wp2_with fail
  refine (set_clk w1 (w.heap.size + 1) w.heap.size 2 0 [] HC1.out sA (by decide) 5 (by decide) (by decide) (by decide)).mono ?_
  rintro e w2 ⟨rfl, h2⟩
  have h2' := set_yes h2 (by decide)
  have H2 := Lib.hid h2'
  clear h2 h2'
  rw [show okSet 2 [] sA = true by decide]
  go_wp2_with fail
  refine (set_clk w2 (w.heap.size + 1) w.heap.size 2 1 _ H2.out.clk sB (by decide) 3 (by decide) (by decide) (by decide)).mono ?_
  rintro e w3 ⟨rfl, h3⟩
  have h3' := set_yes h3 (by decide)
  have H3 := Lib.hid h3'
  clear h3 h3'
  rw [show okSet 2 (putL [] sA (5, 0 + 1)) sB = true by decide]
  go_wp2_with fail
  refine (set_clk w3 (w.heap.size + 1) w.heap.size 2 2 _ H3.out.clk sC (by decide) 1 (by decide) (by decide) (by decide)).mono ?_
  rintro e w4 ⟨rfl, h4⟩
  have h4' := set_no h4 (by decide)
  have H4 := Lib.hid h4'
  clear h4 h4'
  rw [show okSet 2 (putL (putL [] sA (5, 0 + 1)) sB (3, 1 + 1)) sC = false by decide]
  go_wp2_with fail
  refine (due_clk w4 (w.heap.size + 1) w.heap.size 2 2 _ 5 H4.out.clk (by decide) (by decide)).mono ?_
  rintro e w5 ⟨v, out, rfl, hp, hs, hrow, hon, hcl⟩
  have hout : out = [sB, sA] := due_unique (L := putL (putL [] sA (5, 0 + 1)) sB (3, 1 + 1)) (by decide) (by unfold Orders; decide) (hp.trans (by decide)) (due_mem hp) hs (by unfold DueSorted; decide)
  subst hout
  have hsl := Sl.of_owns hrow
  obtain ⟨_, a, cap, rfl, hnc, hcm, hcells⟩ := hsl
  obtain ⟨g, off, rfl, hcc⟩ := hcells.resolve_left (by decide)
  have z0 : w5.cell? ⟨g, off, none⟩ = some (.string sB) := hcc 0 _ rfl
  have z1 : w5.cell? ⟨g, off + 1, none⟩ = some (.string sA) := hcc 1 _ rfl
  rw [show ([sB, sA] : List ByteArray).length = 2 from rfl]
  generalize hLx : List.filter _ _ = Lx at hcl
  obtain rfl : Lx = [] := by rw [← hLx]; decide
  clear hLx
  have hO := ((HO1.out.tr H2.out.only (S := fun _ => False) (T := fun i => i = w.heap.size + 1 ∨ i = w.heap.size) (fun i hi e => by omega)).tr H3.out.only (fun i hi e => by omega)).tr H4.out.only (fun i hi e => by omega) |>.tr hon (fun i hi e => by omega)
  have HO := Lib.hid hO
  clear hcells hcc hp hs hrow hon hO H2 H3 H4 HO1
  unfold sA sB at *
  go_wp2_with (first | (refine (len_clk _ _ _ _ _ _ hcl).mono ?_; rintro e w6 ⟨rfl, rfl⟩))
  go_ret
  exact ⟨rfl, HO.out⟩
end Go.Proofs.Ytjgcbcahikemdaa
