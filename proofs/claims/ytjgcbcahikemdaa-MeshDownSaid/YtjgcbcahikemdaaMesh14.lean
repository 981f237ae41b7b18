/- A mesh that a call made: Down, Nodes; what MeshDown asks of it. -/
import Derived.Test.YtjgcbcahikemdaaMesh13
import Derived.Test.YtjgcbcahikemdaaMesh8
import Derived.Test.YtjgcbcahikemdaaBits
namespace Go.Proofs.Ytjgcbcahikemdaa
open Go.Conc Go.RowKit Go.Maps

theorem MPost.run2 {w w1 w2 : World} {m lb pb : Nat} {lv lv' : List Int} {L : PMap} {G : Ways} {n k : Nat} (h1 : MeshAt w1 m lb pb lv L) (h2 : Only (fun _ => False) w w1) (h3 : ∀ k, foot lb pb L k → w.heap.size ≤ k) (h5 : L.length ≤ n) (h6 : w.heap.size ≤ m) (hp : MPost w1 w2 m lb pb lv' L G k) : MRun w w2 m lb pb lv' G (n + k) ∧ CellsKept w1 w2 := by
  obtain ⟨L', k1, k2, k3, k4⟩ := hp.out
  refine ⟨⟨L', k1, h2.tr k2.only (fun i hi hf => absurd (h3 i hf) (by omega)), fun i hf => ?_, funext fun x => funext fun y => k3 x y, by omega, h6⟩, fun q cs t f hq => ?_⟩
  · rcases k2.next i hf with h | h
    · exact h3 i h
    · exact Nat.le_trans h2.size h
  · exact k2.only.old hq (fun hf => h1.foot_cells hf hq)
theorem mrun_down {w w1 : World} {m lb pb : Nat} {lv : List Int} {G : Ways} {n : Nat} (h : MRun w w1 m lb pb lv G n) (a : Int) (ha : (Lit.int .i64 a).wf = true) (hv : a ∈ lv) (hl : lv.length ≤ 1000) (hn : n < 900000) :
    Calls Try.prog 31 #[.pointer (some ⟨m, 0, none⟩), .int .i64 a] w1 fun e w' => e = .returned (.tuple #[]) ∧ MRun w w' m lb pb (outL lv a) (downG lv G a) (n + 2 * lv.length) ∧ CellsKept w1 w' := by
  obtain ⟨L, k1, k2, k3, rfl, k5, k6⟩ := h.out
  refine (mdown_any w1 m lb pb lv L k1 a ha hv hl (by omega)).mono ?_
  rintro e w' ⟨rfl, hp⟩
  exact ⟨rfl, hp.run2 k1 k2 k3 k5 k6⟩
theorem mrun_nodes {w w1 : World} {m lb pb : Nat} {lv : List Int} {G : Ways} {n : Nat} (h : MRun w w1 m lb pb lv G n) (hl : lv.length ≤ 1000000) :
    Calls Try.prog 35 #[.pointer (some ⟨m, 0, none⟩)] w1 fun e w' => ∃ a cap, e = .returned (.slice a lv.length cap) ∧ Only (fun _ => False) w1 w' := by
  obtain ⟨L, k1, _⟩ := h.out
  refine (mnodes_any w1 m lb pb lv L k1 hl).mono ?_
  rintro e w' ⟨v, ss, rfl, ho, hp, hrow⟩
  obtain ⟨_, a, cap, rfl, _⟩ := Sl.of_owns hrow
  rw [hp.length_eq]
  exact ⟨a, cap, rfl, ho⟩
def lvN : Nat → List Int
  | 0 => []
  | k + 1 => upL (lvN k) ((k : Int) + 1)
theorem lvN_four : lvN 4 = [1, 2, 3, 4] := by decide
/-- Text of a node that is not there. -/
theorem send_lost {lv : List Int} {G : Ways} {k d : Int} (s : ByteArray) (hk : k ∈ lv) (hd : d ∉ lv) (hkd : k ≠ d) (hG : G d k = [(true, ⟨#[]⟩)]) : sendG lv G k d s = G := by
  unfold sendG
  rw [if_pos ⟨hk, hkd⟩, if_neg hd]
  funext x y
  unfold brk1 setG
  split
  · rename_i e; rw [e.1, e.2, hG]
  · rfl
theorem break_lost {lv : List Int} {G : Ways} {k d : Int} (hd : d ∉ lv) : breakG lv G k d = G := if_neg (fun e => hd e.2.1)
theorem down_to (lv : List Int) (G : Ways) (d k : Int) : downG lv G d k d = [] := if_pos rfl
theorem down_from (lv : List Int) (G : Ways) (d k : Int) (hk : k ∈ lv) (hkd : k ≠ d) : downG lv G d d k = [(true, ⟨#[]⟩)] := by
  unfold downG
  rw [if_neg hkd, if_pos ⟨rfl, hk⟩]
/-- What the last round needs of the ways still to come. -/
def Fresh (G : Ways) (d : Int) (i : Nat) : Prop := ∀ k : Nat, i ≤ k → 1 ≤ k → k ≤ 4 → (k : Int) ≠ d → G d k = [(true, ⟨#[]⟩)] ∧ G k d = []
abbrev sNew : ByteArray := ⟨#[110, 101, 119]⟩
abbrev sBk : ByteArray := ⟨#[98, 97, 99, 107]⟩
abbrev sLost : ByteArray := ⟨#[108, 111, 115, 116]⟩
/-- An act that came in. -/
structure ActD where
  what : Int
  na : Int
  nb : Int
  tx : ByteArray
def actDC (a : ActD) : List Value := [.int .i64 a.what, .int .i64 a.na, .int .i64 a.nb, .string a.tx]
theorem actDC_length (a : ActD) : (actDC a).length = 4 := rfl
end Go.Proofs.Ytjgcbcahikemdaa
