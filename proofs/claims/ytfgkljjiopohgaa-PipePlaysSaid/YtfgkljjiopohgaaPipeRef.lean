/- bellhopref07.Send: the reference's list with one more at its end, or the list itself. -/
import Derived.Test.YtfgkljjiopohgaaPipe2
import Derived.Test.YtfgkljjiopohgaaSlices
namespace Go.Proofs.Ytfgkljjiopohgaa
open Go.Conc Go.RowKit

/-- The items' cells. -/
def flat (l : List (Bool × ByteArray)) : List Value := l.flatMap fun x => [.bool x.1, .string x.2]
theorem flat_length (l : List (Bool × ByteArray)) : (flat l).length = l.length * 2 := by
  induction l with
  | nil => rfl
  | cons x l ih => simp only [flat, List.flatMap_cons, List.length_append, List.length_cons, List.length_nil] at ih ⊢; omega
theorem flat_append (l m : List (Bool × ByteArray)) : flat (l ++ m) = flat l ++ flat m := by simp [flat]
theorem flat_one (l : List (Bool × ByteArray)) : ∀ u ∈ flat l, u.oneCell' = true := by
  intro u hu
  simp only [flat, List.mem_flatMap] at hu
  obtain ⟨x, _, hx⟩ := hu
  simp only [List.mem_cons, List.not_mem_nil, or_false] at hx
  rcases hx with rfl | rfl <;> rfl
theorem infoRItem : (Try.prog.info? 32).map (fun i => (i.zero, i.size, i.bytes)) = some (some (.agg #[.bool false, .string ⟨#[]⟩]), 2, 24) := by kernel_rfl

theorem rsend_full (w : World) (v : Value) (l : List (Bool × ByteArray)) (s : ByteArray) (h : Sl w 2 v l.length (flat l)) (hl : 64 ≤ l.length) :
    Calls Try.prog 11 #[v, .string s] w fun e w' => e = .returned (.tuple #[v, .bool false]) ∧ w = w' := by
  obtain ⟨_, a, cap, rfl, h3, h4, _⟩ := h
  go_enter Try.func11, Try.ntmps11
  go_wp2
  go_ret2
  exact ⟨rfl, rfl⟩
theorem rsend_room (w : World) (v : Value) (l : List (Bool × ByteArray)) (s : ByteArray) (h : Sl w 2 v l.length (flat l)) (hl : l.length < 64) :
    Calls Try.prog 11 #[v, .string s] w fun e w' => ∃ v', e = .returned (.tuple #[v', .bool true]) ∧ Only (fun _ => False) w w' ∧ Sl w' 2 v' (l.length + 1) (flat (l ++ [(false, s)])) := by
  obtain ⟨i0, hi, hz0, hz1, hz2⟩ := info_parts infoRItem
  have h0 := h
  obtain ⟨_, a, cap, rfl, h3, h4, _⟩ := h
  go_enter Try.func11, Try.ntmps11
  go_wp2_with (at_builtin; refine Wait.mk ?_)
  refine Wait.go (wpList_append_src _ rfl (.tmp 10) (.tmp 11) 27 27 rfl w.heap.size 32 i0 _ 2 24 Try.underlying27 hi hz0 hz1 hz2 rfl _ 0 [] rfl (owns_empty w 32 2) _ l.length (flat l) rfl ?src ?m ?b ?base ?_)
  case src => exact (h0.new ((Only.refl _ _).alloc _)).src Try.underlying27 (flat_one l)
  case m => unfold maxLen; omega
  case b => omega
  case base => simp
  intro v1 w1 own1 gr1 _
  simp only [Nat.zero_add, List.nil_append] at own1
  go_wp2_with (at_builtin; refine Wait.mk ?_)
  refine Wait.go (wpList_append_src _ rfl (.tmp 12) (.tmp 15) 27 27 rfl w.heap.size 32 i0 _ 2 24 Try.underlying27 hi hz0 hz1 hz2 rfl v1 l.length (flat l) rfl (own1.alloc _) _ 1 (flat [(false, s)]) rfl ?src2 ?m2 ?b2 ?base2 ?_)
  case src2 => exact Src.ofSlice _ Try.underlying27 _ _ _ _ rfl (news_new _ _ _) (flat_one _)
  case m2 => unfold maxLen; omega
  case b2 => omega
  case base2 => have := gr1.size; simp at this ⊢; omega
  intro v2 w2 own2 gr2 _
  go_wp2_with fail
  go_ret2
  refine ⟨v2, rfl, ?_, ?_⟩
  · exact ((((Only.refl (fun _ => False) w).alloc _).own (owns_empty w 32 2) (Nat.le_refl _) gr1).alloc _).own (own1.alloc _) (Nat.le_refl _) gr2
  · rw [flat_append]
    exact Sl.of_owns own2
end Go.Proofs.Ytfgkljjiopohgaa
