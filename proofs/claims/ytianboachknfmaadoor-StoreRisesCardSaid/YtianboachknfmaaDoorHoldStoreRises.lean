/- StoreRises is true of every input: through any acts the version of a present key never falls, no record is too old, and the capacity is kept; a nil store. No condition. -/
import Derived.Test.YtianboachknfmaaDoorSto13
import Derived.Test.YtianboachknfmaaDoorDoorRow
import Derived.Test.YtianboachknfmaaDoorArr
import Derived.Test.YtianboachknfmaaDoorStoRow
import Derived.ChangeMaps5
import Derived.Test.YtianboachknfmaaDoorCards
import Derived.Test.YtianboachknfmaaDoorTie
namespace Go.Proofs.YtianboachknfmaaDoor.risesLaw
open Go.Conc Go.RowKit Go.ChangeShapes Go.WideShapes Go.ChangeAt Go.ChangeMaps

theorem cellsTuint8 : Tryd.prog.cellsOf 5 = 1 := by kernel_rfl
theorem cellsTA2uint8 : Tryd.prog.cellsOf 106 = 2 := by kernel_rfl
theorem reads : ∀ t ∈ Tryd.f8.params.toList, Tryd.prog.readableRec t = true ∧ t < Tryd.prog.types.size := by
  intro t ht
  have h1 : ([106, 22].all fun u => Tryd.prog.readableRec u && decide (u < Tryd.prog.types.size)) = true := by kernel_rfl
  rw [Tryd.params8] at ht
  have := List.all_eq_true.1 h1 t ht
  simpa using this
set_option maxRecDepth 100000 in
theorem lifted (os : Os) (started : os.Started) (H : Type) (enc : TypeId × Value → H) :
    ReturnsInHanded {} Tryd.checked os 8 .any (fun w args => (Rows.storeRisesSpec.pre enc Tryd.prog Tryd.f8 Rows.storeRisesRow.domain false w args ∧ laidMetH Tryd.prog Rows.storeRisesRow.laid w) ∧ sizedMet enc Tryd.prog Tryd.f8 (OpenSpec.ofChange Rows.storeRisesSpec) false w args)
      (Rows.storeRisesSpec.post enc Tryd.prog Tryd.f8 false true false false) := by
  refine returns_laid (C := Tryd.checked) (X := fun w _ => laidMetH Tryd.prog Rows.storeRisesRow.laid w) (fun _ _ _ hh h => h.of_heap hh) ownD started (by kernel_rfl) Tryd.func8
    (ChangeSpec.witness_shaped (enc := enc) (C := Tryd.checked) (os := os) (X := fun w _ => laidMetH Tryd.prog Rows.storeRisesRow.laid w) false (World.laidAll Tryd.prog os Rows.storeRisesRow.laid) #[.agg #[.int .u8 0, .int .u8 0], .slice none 0 0] 8 (World.laidAll_os _ _ _)
      (World.shaped_of_ZipB (by kernel_rfl) (by kernel_rfl)) (by kernel_rfl) (by kernel_rfl) (by kernel_rfl)
      (by rw [MakeChecks.laidMetH_plain _ _ _ (by kernel_rfl)]; exact laidMet_laidAll _ (by kernel_rfl) (by kernel_rfl))) ?_
  intro W base args ds gs before hval0 hW _ hsh
  have hval : ∀ (j : Nat) t v, Tryd.f8.params[j]? = some t → args[j]? = some v → Value.okWide Tryd.prog W .any base t v := hval0
  have hW' := hW
  obtain ⟨m0, hm0⟩ := maxLen_cell W hsh
  obtain ⟨p, q, hA0, hV, rfl, _, _⟩ := hW
  have hA : DataW.TrodAll enc Tryd.prog W 0 (fun _ => true) true Tryd.f8.params.toList args.toList ds p := hA0
  rw [Tryd.params8] at hA hval
  obtain ⟨v0, vs0, d0, ds0, p0, q0, hargs, rfl, rfl, h0, r0⟩ := trodAll_cons hA
  obtain ⟨v1, vs1, d1, ds1, p1, q1, rfl, rfl, rfl, h1, r1⟩ := trodAll_cons r0
  obtain ⟨rfl, rfl, rfl⟩ := trodAll_nil r1
  obtain rfl : args = #[v0, v1] := by cases args; simp_all
  obtain ⟨zs0, l0, rfl, b0⟩ := arr_ints Tryd.underlying106 Tryd.underlying5 cellsTuint8 cellsTA2uint8 (hval 0 106 v0 rfl rfl) h0
  obtain ⟨z0_0, z0_1, rfl⟩ := list2 l0
  obtain ⟨n0_0, rfl, w0_0⟩ := nat_u8 (b0 z0_0 (by simp))
  obtain ⟨n0_1, rfl, w0_1⟩ := nat_u8 (b0 z0_1 (by simp))
  obtain ⟨x1, s1, b1⟩ := sl_acts15 (hval 1 22 v1 rfl rfl) h1
  obtain ⟨rfl, rfl⟩ := trodVars_none hV
  refine (rises15_any W m0 hm0 n0_0 n0_1 v1 x1 w0_0 w0_1 s1 b1).mono fun e W' ⟨he, ho⟩ => ?_
  subst he
  exact ⟨_, rfl, law_post hW' (ho.below (Nat.le_refl _) (fun _ _ => id)) laidOutD reads rfl Tryd.underlying4 rfl rfl rfl rfl⟩

theorem said : Rows.StoreRisesSaid :=
  OpenClaim.holds_of_wide 8 Tryd.f8 rfl rfl rfl rfl rfl rfl rfl ⟨rfl, rfl, rfl, rfl, rfl⟩ rfl rfl rfl rfl rfl (by kernel_rfl) Tryd.func8 (by kernel_rfl)
    (of_decide_eq_true (by kernel_rfl)) (by unfold Func.isWrapper; first | (rw [if_pos (by decide +kernel)]; kernel_rfl) | (rw [if_neg (by decide +kernel)]; exact ⟨rfl, rfl⟩))
    (fun os started H enc _ => lifted os started H enc)
theorem looks (f : FuncId) (fn : Func) (hf : Tryd.pinned.checked.prog.funcNamed "bellhop/bellhoplaw15.StoreRises" = some f) (hfn : Tryd.pinned.checked.prog.funcs[f]? = some fn) :
    true = Tryd.pinned.checked.prog.looks [] ∧ ∀ (j : Nat) t, fn.params[j]? = some t → Tryd.pinned.checked.prog.wantsStandIn t = false := by
  obtain rfl : f = 8 := Option.some.inj ((show Tryd.prog.funcNamed "bellhop/bellhoplaw15.StoreRises" = some 8 by kernel_rfl).symm.trans hf) |>.symm
  obtain rfl : fn = Tryd.f8 := (Option.some.inj (Tryd.func8.symm.trans hfn)).symm
  refine ⟨by kernel_rfl, fun j t ht => ?_⟩
  rw [Tryd.params8] at ht
  have hm : t ∈ [106, 22] := by simpa using Array.mem_of_getElem? ht
  have hall : ([106, 22].all fun u => !Tryd.prog.wantsStandIn u) = true := by kernel_rfl
  exact (show Tryd.prog.wantsStandIn t = false by simpa using List.all_eq_true.1 hall t hm)
theorem card : Rows.StoreRisesCardSaid :=
  Claim7.holds_tied_plain_at .later [] _ _ _ _ said (fun _ h => by cases h) (by kernel_rfl) (fun _ h => by cases h) storeRises_row_tie rfl ⟨rfl, rfl⟩ (by kernel_rfl) rfl looks (by kernel_rfl)
#print axioms card
end Go.Proofs.YtianboachknfmaaDoor.risesLaw
