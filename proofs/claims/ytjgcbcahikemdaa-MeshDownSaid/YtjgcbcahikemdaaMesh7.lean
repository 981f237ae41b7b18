/- A mesh that a call made, through its operations. -/
import Derived.Test.YtjgcbcahikemdaaMesh6
namespace Go.Proofs.Ytjgcbcahikemdaa
open Go.Conc Go.RowKit Go.Maps

/-- A mesh made behind w: who is there, what lies on which way. -/
structure MRun (w w' : World) (m lb pb : Nat) (lv : List Int) (G : Ways) (n : Nat) : Prop where
  out : ∃ L, MeshAt w' m lb pb lv L ∧ Only (fun _ => False) w w' ∧ (∀ k, foot lb pb L k → w.heap.size ≤ k) ∧ getM L = G ∧ L.length ≤ n ∧ w.heap.size ≤ m
/-- Cells are kept. -/
def CellsKept (w w' : World) : Prop := ∀ (q : Nat) (cs : Array Value) (t : TypeId) (f : Nat × Nat), w.heap[q]? = some (.cells cs t f) → w'.heap[q]? = some (.cells cs t f)
theorem CellsKept.refl (w : World) : CellsKept w w := fun _ _ _ _ h => h
theorem MRun.new {w w1 w2 : World} {m lb pb : Nat} {lv : List Int} {G : Ways} {n : Nat} (h : MRun w w1 m lb pb lv G n) (ho : Only (fun _ => False) w1 w2) : MRun w w2 m lb pb lv G n := by
  obtain ⟨L, h1, h2, h3, h4, h5, h6⟩ := h.out
  exact ⟨L, h1.new ho, h2.trans ho, h3, h4, h5, h6⟩
theorem MRun.only {w w' : World} {m lb pb : Nat} {lv : List Int} {G : Ways} {n : Nat} (h : MRun w w' m lb pb lv G n) : Only (fun _ => False) w w' := by
  obtain ⟨L, h1, h2, h3, h4, h5, h6⟩ := h.out
  exact h2
theorem MPost.run {w w1 w2 : World} {m lb pb : Nat} {lv : List Int} {L : PMap} {G : Ways} {n k : Nat} (h1 : MeshAt w1 m lb pb lv L) (h2 : Only (fun _ => False) w w1) (h3 : ∀ k, foot lb pb L k → w.heap.size ≤ k) (h5 : L.length ≤ n) (h6 : w.heap.size ≤ m) (hp : MPost w1 w2 m lb pb lv L G k) : MRun w w2 m lb pb lv G (n + k) ∧ CellsKept w1 w2 := by
  obtain ⟨L', k1, k2, k3, k4⟩ := hp.out
  refine ⟨⟨L', k1, h2.tr k2.only (fun i hi hf => absurd (h3 i hf) (by omega)), fun i hf => ?_, funext fun x => funext fun y => k3 x y, by omega, h6⟩, fun q cs t f hq => ?_⟩
  · rcases k2.next i hf with h | h
    · exact h3 i h
    · exact Nat.le_trans h2.size h
  · exact k2.only.old hq (fun hf => h1.foot_cells hf hq)
theorem mrun_new (w : World) : Calls Try.prog 23 #[] w fun e w' => ∃ m lb pb, e = .returned (.pointer (some ⟨m, 0, none⟩)) ∧ MRun w w' m lb pb [] (fun _ _ => []) 0 := by
  refine (mnew_any w).mono ?_
  rintro e w' ⟨m, lb, pb, rfl, h1, h2, h3, h4, h5⟩
  refine ⟨m, lb, pb, rfl, [], h2, h1, fun k hk => ?_, rfl, Nat.le_refl _, h3⟩
  rcases hk with rfl | rfl | ⟨e, he, _⟩
  · exact h4
  · exact h5
  · cases he
theorem mrun_up {w w1 : World} {m lb pb : Nat} {lv : List Int} {G : Ways} {n : Nat} (h : MRun w w1 m lb pb lv G n) (a : Int) (h1 : 1 ≤ a) (h2 : a ≤ 65535) (hl : lv.length < 100000) :
    Calls Try.prog 24 #[.pointer (some ⟨m, 0, none⟩), .int .i64 a] w1 fun e w' => e = .returned (.tuple #[]) ∧ MRun w w' m lb pb (upL lv a) G n ∧ CellsKept w1 w' := by
  obtain ⟨L, k1, k2, k3, k4, k5, k6⟩ := h.out
  refine (mup_any w1 m lb pb lv L k1 a h1 h2 hl).mono ?_
  rintro e w' ⟨rfl, q1, q2⟩
  refine ⟨rfl, ⟨L, q1, k2.tr q2 (fun i hi hf => absurd (k3 i (.inl hf)) (by omega)), k3, k4, k5, k6⟩, fun q cs t f hq => q2.old hq (fun hf => k1.foot_cells (.inl hf) hq)⟩
theorem mrun_live {w w1 : World} {m lb pb : Nat} {lv : List Int} {G : Ways} {n : Nat} (h : MRun w w1 m lb pb lv G n) (a : Int) (ha : (Lit.int .i64 a).wf = true) :
    Calls Try.prog 39 #[.pointer (some ⟨m, 0, none⟩), .int .i64 a] w1 fun e w' => e = .returned (.bool (decide (a ∈ lv))) ∧ w1 = w' := by
  obtain ⟨L, k1, _⟩ := h.out
  exact mlive_any w1 m lb pb lv L k1 a ha
theorem mrun_len {w w1 : World} {m lb pb : Nat} {lv : List Int} {G : Ways} {n : Nat} (h : MRun w w1 m lb pb lv G n) (a b : Int) (ha : (Lit.int .i64 a).wf = true) (hb : (Lit.int .i64 b).wf = true) :
    Calls Try.prog 37 #[.pointer (some ⟨m, 0, none⟩), .int .i64 a, .int .i64 b] w1 fun e w' => e = .returned (.int .i64 (G a b).length) ∧ w1 = w' := by
  obtain ⟨L, k1, _, _, rfl, _⟩ := h.out
  exact mlen_any w1 m lb pb lv L k1 a b ha hb
theorem mrun_send {w w1 : World} {m lb pb : Nat} {lv : List Int} {G : Ways} {n : Nat} (h : MRun w w1 m lb pb lv G n) (a b : Int) (s : ByteArray) (ha : (Lit.int .i64 a).wf = true) (hb : (Lit.int .i64 b).wf = true) (hn : n < 900000) :
    Calls Try.prog 32 #[.pointer (some ⟨m, 0, none⟩), .int .i64 a, .int .i64 b, .string s] w1 fun e w' => e = .returned (.tuple #[]) ∧ MRun w w' m lb pb lv (sendG lv G a b s) (n + 3) ∧ CellsKept w1 w' := by
  obtain ⟨L, k1, k2, k3, rfl, k5, k6⟩ := h.out
  refine (msend_any w1 m lb pb lv L k1 a b s ha hb (by omega)).mono ?_
  rintro e w' ⟨rfl, hp⟩
  exact ⟨rfl, hp.run k1 k2 k3 k5 k6⟩
theorem mrun_break {w w1 : World} {m lb pb : Nat} {lv : List Int} {G : Ways} {n : Nat} (h : MRun w w1 m lb pb lv G n) (a b : Int) (ha : (Lit.int .i64 a).wf = true) (hb : (Lit.int .i64 b).wf = true) (hn : n < 900000) :
    Calls Try.prog 29 #[.pointer (some ⟨m, 0, none⟩), .int .i64 a, .int .i64 b] w1 fun e w' => e = .returned (.tuple #[]) ∧ MRun w w' m lb pb lv (breakG lv G a b) (n + 2) ∧ CellsKept w1 w' := by
  obtain ⟨L, k1, k2, k3, rfl, k5, k6⟩ := h.out
  refine (mbreak_any w1 m lb pb lv L k1 a b ha hb (by omega)).mono ?_
  rintro e w' ⟨rfl, hp⟩
  exact ⟨rfl, hp.run k1 k2 k3 k5 k6⟩
theorem mrun_take {w w1 : World} {m lb pb : Nat} {lv : List Int} {G : Ways} {n : Nat} (h : MRun w w1 m lb pb lv G n) (a b : Int) (ha : (Lit.int .i64 a).wf = true) (hb : (Lit.int .i64 b).wf = true) :
    Calls Try.prog 26 #[.pointer (some ⟨m, 0, none⟩), .int .i64 a, .int .i64 b] w1 fun e w' => ∃ x y ok rest, e = .returned (.tuple #[.agg #[.bool x, .string y], .bool ok]) ∧ Took (G a b) x y ok rest ∧ MRun w w' m lb pb lv (setG G a b rest) n ∧ CellsKept w1 w' := by
  obtain ⟨L, k1, k2, k3, rfl, k5, k6⟩ := h.out
  refine (mtake_any w1 m lb pb lv L k1 a b ha hb).mono ?_
  rintro e w' ⟨x, y, ok, rfl, rest, hT, hp⟩
  exact ⟨x, y, ok, rest, rfl, hT, hp.run k1 k2 k3 k5 k6⟩
theorem mrun_ways {w w1 : World} {m lb pb : Nat} {lv : List Int} {G : Ways} {n : Nat} (h : MRun w w1 m lb pb lv G n) (hG : ∀ x y, G x y = []) :
    Calls Try.prog 38 #[.pointer (some ⟨m, 0, none⟩)] w1 fun e w' => e = .returned (.slice none 0 0) ∧ Only (fun _ => False) w1 w' := by
  obtain ⟨L, k1, k2, k3, rfl, k5, k6⟩ := h.out
  exact mways_none w1 m lb pb lv L k1 hG
end Go.Proofs.Ytjgcbcahikemdaa
