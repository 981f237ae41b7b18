/- WantAsks' walk at numbers as they came in. -/
import Derived.Test.YtefadkmdfhjaeaaWnt13
import Derived.Test.YtefadkmdfhjaeaaArr
namespace Go.Proofs.Ytefadkmdfhjaeaa
open Go.Conc Go.RowKit

theorem nats_u16 : ∀ (l : List Int), (∀ z ∈ l, (Lit.int .u16 z).wf = true) → ∃ n : List Nat, l = n.map (fun k : Nat => (k : Int)) ∧ ∀ k ∈ n, k < 65536
  | [], _ => ⟨[], rfl, fun k hk => by cases hk⟩
  | z :: l, h => by
    obtain ⟨k, rfl, hk⟩ := nat_u16 (h z (by simp))
    obtain ⟨n, rfl, hn⟩ := nats_u16 l (fun z hz => h z (by simp [hz]))
    exact ⟨k :: n, rfl, fun j hj => by rcases List.mem_cons.1 hj with rfl | hj; exact hk; exact hn j hj⟩
theorem asks18_in (w : World) (v : Value) (l : List Int) (st at_ : Int) (h : Sl w 1 v l.length (l.map (.int .u16))) (hl : ∀ z ∈ l, (Lit.int .u16 z).wf = true) (hst : (Lit.int .u8 st).wf = true) (hat : (Lit.int .u32 at_).wf = true) :
    Calls Try.prog 3 #[v, .int .u8 st, .int .u32 at_] w fun e w' => e = .returned (.bool true) ∧ Only (fun _ => False) w w' := by
  obtain ⟨n, rfl, hn⟩ := nats_u16 l hl
  obtain ⟨s, rfl, hs⟩ := nat_u8 hst
  obtain ⟨a, rfl, ha⟩ := nat_u32 hat
  refine asks18_any w v n ?_ hn s hs a (by omega)
  have e : n.flatMap u16C = (n.map (fun k : Nat => (k : Int))).map (.int .u16) := by
    clear h hl hn
    induction n with
    | nil => rfl
    | cons k n ih => rw [List.flatMap_cons, ih]; rfl
  rw [e]
  simpa using h
end Go.Proofs.Ytefadkmdfhjaeaa
