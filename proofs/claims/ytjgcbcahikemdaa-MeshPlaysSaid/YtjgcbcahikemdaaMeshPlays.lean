/- MeshPlays is true of every input: for any sequence of acts on a mesh, each answer, the live nodes, and what is on its way. No condition. -/
import Derived.Test.YtjgcbcahikemdaaPE
import Derived.Test.YtjgcbcahikemdaaPH
import Derived.Test.YtjgcbcahikemdaaPJ
import Derived.Test.YtjgcbcahikemdaaPK
import Derived.Test.YtjgcbcahikemdaaPL
import Derived.Test.YtjgcbcahikemdaaPM
import Derived.Test.YtjgcbcahikemdaaPN
import Derived.Test.YtjgcbcahikemdaaPO
import Derived.Test.YtjgcbcahikemdaaPA
import Derived.Test.YtjgcbcahikemdaaPC
/-! MeshPlays: the walk, joined. -/
namespace Go.Proofs.Ytjgcbcahikemdaa
open Go.Conc Go.RowKit Go.Maps

theorem plays08_arms (q : Int) : Hid (goalA q) := by
  by_cases h3 : q = 3
  · subst h3; exact Lib.hid arm3
  by_cases h4 : q = 4
  · subst h4; exact Lib.hid arm4
  by_cases h5 : q = 5
  · subst h5; exact Lib.hid arm5
  by_cases h6 : q = 6
  · subst h6; exact Lib.hid arm6
  exact Lib.hid (armS q h3 h4 h5 h6)
theorem plays08_any (w : World) (v : Value) (l : List ActD) (h : Sl w 4 v l.length (l.flatMap actDC)) (hl : ∀ a ∈ l, rowP_sl_actsD a) : Calls Try.prog 5 #[v] w fun e w' => e = .returned (.bool true) ∧ Only (fun _ => False) w w' := plays08_of (Lib.hid (plays08_rest (Lib.hid (plays08_round plays08_arms (Lib.hid plays08_check))) (Lib.hid plays08_tail))) w v l h hl
end Go.Proofs.Ytjgcbcahikemdaa
/-! MeshPlays is true of every input: for any sequence of acts on a mesh, each answer, the live nodes, and what is on its way. No condition. -/
namespace Go.Proofs.Ytjgcbcahikemdaa.playsLaw08
open Go.Conc Go.RowKit Go.ChangeShapes Go.WideShapes Go.ChangeAt

theorem own : ownKnob Try.prog.godebug = none := by kernel_rfl
theorem laidOut : laidOutB Try.prog = true := by kernel_rfl
theorem reads : ∀ t ∈ Try.f5.params.toList, Try.prog.readableRec t = true ∧ t < Try.prog.types.size := by
  intro t ht
  have h1 : ([49].all fun u => Try.prog.readableRec u && decide (u < Try.prog.types.size)) = true := by kernel_rfl
  rw [Try.params5] at ht
  have := List.all_eq_true.1 h1 t ht
  simpa using this
set_option maxRecDepth 100000 in
theorem lifted (os : Os) (started : os.Started) (H : Type) (enc : TypeId × Value → H) :
    ReturnsInHanded {} Try.checked os 5 .any (Rows.meshPlaysSpec.pre6 enc Try.prog Try.f5 Rows.meshPlaysRow.domain false) (Rows.meshPlaysSpec.post enc Try.prog Try.f5 false true false false) := by
  refine returnsInHanded_of_change (C := Try.checked) own started (by kernel_rfl) Try.func5
    (ChangeSpec.witness6 (enc := enc) (C := Try.checked) false ⟨#[], #[.slice none 0 0], []⟩ 8 (by kernel_rfl) (by kernel_rfl) (by kernel_rfl) (by kernel_rfl)) ?_
  intro W base args ds gs before hval0 hW _ _
  have hval : ∀ (j : Nat) t v, Try.f5.params[j]? = some t → args[j]? = some v → Value.okWide Try.prog W .any base t v := hval0
  have hW' := hW
  obtain ⟨p, q, hA0, hV, rfl, _, _⟩ := hW
  have hA : DataW.TrodAll enc Try.prog W 0 (fun _ => true) true Try.f5.params.toList args.toList ds p := hA0
  rw [Try.params5] at hA hval
  obtain ⟨v0, vs0, d0, ds0, p0, q0, hargs, rfl, rfl, h0, r0⟩ := trodAll_cons hA
  obtain ⟨rfl, rfl, rfl⟩ := trodAll_nil r0
  obtain rfl : args = #[v0] := by cases args; simp_all
  obtain ⟨x0, s0, b0⟩ := sl_actsD (hval 0 49 v0 rfl rfl) h0
  obtain ⟨rfl, rfl⟩ := trodVars_none hV
  refine (plays08_any W v0 x0 s0 b0).mono fun e W' ⟨he, ho⟩ => ?_
  subst he
  exact ⟨_, rfl, law_post hW' (ho.below (Nat.le_refl _) (fun _ _ => id)) laidOut reads rfl Try.underlying4 rfl rfl rfl rfl⟩

theorem holds : Rows.MeshPlaysSaid :=
  OpenClaim.holds_of_wide 5 Try.f5 rfl rfl rfl rfl rfl rfl rfl ⟨rfl, rfl, rfl, rfl, rfl⟩ rfl rfl rfl rfl rfl (by kernel_rfl) Try.func5 (by kernel_rfl)
    (of_decide_eq_true (by kernel_rfl)) (by unfold Func.isWrapper; first | (rw [if_pos (by decide +kernel)]; kernel_rfl) | (rw [if_neg (by decide +kernel)]; exact ⟨rfl, rfl⟩))
    (fun os started H enc _ => lifted os started H enc)
#print axioms holds
end Go.Proofs.Ytjgcbcahikemdaa.playsLaw08
