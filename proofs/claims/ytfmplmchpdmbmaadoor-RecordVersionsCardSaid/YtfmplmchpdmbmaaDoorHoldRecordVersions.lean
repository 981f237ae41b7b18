/- RecordVersions is true of every input: versions rise as their lives do, and of one life as their counts do; each has its life and count. No condition; the package variables that it names are tied to the text. -/
import Derived.Test.YtfmplmchpdmbmaaDoorRecordVersions
import Derived.Test.YtfmplmchpdmbmaaDoorDoorRow
import Derived.Test.YtfmplmchpdmbmaaDoorArr
import Derived.ChangeMaps5
import Derived.Test.YtfmplmchpdmbmaaDoorCards
import Derived.Test.YtfmplmchpdmbmaaDoorTie
namespace Go.Proofs.YtfmplmchpdmbmaaDoor.versionsLaw
open Go.Conc Go.RowKit Go.ChangeShapes Go.WideShapes Go.ChangeAt Go.ChangeMaps

theorem cellsTuint32 : Tryd.prog.cellsOf 32 = 1 := by kernel_rfl
theorem cellsTA2uint32 : Tryd.prog.cellsOf 33 = 2 := by kernel_rfl
theorem reads : ∀ t ∈ Tryd.f4.params.toList, Tryd.prog.readableRec t = true ∧ t < Tryd.prog.types.size := by
  intro t ht
  have h1 : ([33, 33, 34].all fun u => Tryd.prog.readableRec u && decide (u < Tryd.prog.types.size)) = true := by kernel_rfl
  rw [Tryd.params4] at ht
  have := List.all_eq_true.1 h1 t ht
  simpa using this
set_option maxRecDepth 100000 in
theorem lifted (os : Os) (started : os.Started) (H : Type) (enc : TypeId × Value → H) :
    ReturnsInHanded {} Tryd.checked os 4 .any (fun w args => (Rows.recordVersionsSpec.pre enc Tryd.prog Tryd.f4 Rows.recordVersionsRow.domain false w args ∧ laidMetH Tryd.prog Rows.recordVersionsRow.laid w) ∧ sizedMet enc Tryd.prog Tryd.f4 (OpenSpec.ofChange Rows.recordVersionsSpec) false w args)
      (Rows.recordVersionsSpec.post enc Tryd.prog Tryd.f4 false true false false) := by
  refine returns_laid (C := Tryd.checked) (X := fun w _ => laidMetH Tryd.prog Rows.recordVersionsRow.laid w) (fun _ _ _ hh h => h.of_heap hh) ownD started (by kernel_rfl) Tryd.func4
    (ChangeSpec.witness_shaped (enc := enc) (C := Tryd.checked) (os := os) (X := fun w _ => laidMetH Tryd.prog Rows.recordVersionsRow.laid w) false (World.laidAll Tryd.prog os Rows.recordVersionsRow.laid) #[.agg #[.int .u32 0, .int .u32 0], .agg #[.int .u32 0, .int .u32 0], .int .u64 0] 8 (World.laidAll_os _ _ _)
      (World.shaped_of_ZipB (by kernel_rfl) (by kernel_rfl)) (by kernel_rfl) (by kernel_rfl) (by kernel_rfl)
      (by rw [MakeChecks.laidMetH_plain _ _ _ (by kernel_rfl)]; exact laidMet_laidAll _ (by kernel_rfl) (by kernel_rfl))) ?_
  intro W base args ds gs before hval0 hW _ hsh
  have hval : ∀ (j : Nat) t v, Tryd.f4.params[j]? = some t → args[j]? = some v → Value.okWide Tryd.prog W .any base t v := hval0
  have hW' := hW
  obtain ⟨m0, hm0⟩ := maxLen_cell W hsh
  obtain ⟨p, q, hA0, hV, rfl, _, _⟩ := hW
  have hA : DataW.TrodAll enc Tryd.prog W 0 (fun _ => true) true Tryd.f4.params.toList args.toList ds p := hA0
  rw [Tryd.params4] at hA hval
  obtain ⟨v0, vs0, d0, ds0, p0, q0, hargs, rfl, rfl, h0, r0⟩ := trodAll_cons hA
  obtain ⟨v1, vs1, d1, ds1, p1, q1, rfl, rfl, rfl, h1, r1⟩ := trodAll_cons r0
  obtain ⟨v2, vs2, d2, ds2, p2, q2, rfl, rfl, rfl, h2, r2⟩ := trodAll_cons r1
  obtain ⟨rfl, rfl, rfl⟩ := trodAll_nil r2
  obtain rfl : args = #[v0, v1, v2] := by cases args; simp_all
  obtain ⟨zs0, l0, rfl, b0⟩ := arr_ints Tryd.underlying33 Tryd.underlying32 cellsTuint32 cellsTA2uint32 (hval 0 33 v0 rfl rfl) h0
  obtain ⟨z0_0, z0_1, rfl⟩ := list2 l0
  obtain ⟨n0_0, rfl, w0_0⟩ := nat_u32 (b0 z0_0 (by simp))
  obtain ⟨n0_1, rfl, w0_1⟩ := nat_u32 (b0 z0_1 (by simp))
  obtain ⟨zs1, l1, rfl, b1⟩ := arr_ints Tryd.underlying33 Tryd.underlying32 cellsTuint32 cellsTA2uint32 (hval 1 33 v1 rfl rfl) h1
  obtain ⟨z1_0, z1_1, rfl⟩ := list2 l1
  obtain ⟨n1_0, rfl, w1_0⟩ := nat_u32 (b1 z1_0 (by simp))
  obtain ⟨n1_1, rfl, w1_1⟩ := nat_u32 (b1 z1_1 (by simp))
  obtain ⟨x2, rfl, rfl, rfl, b2⟩ := open_int Tryd.underlying34 (hval 2 34 v2 rfl rfl) h2
  obtain ⟨n2, rfl, w2⟩ := nat_u64 b2
  obtain ⟨rfl, rfl⟩ := trodVars_none hV
  refine (recordVersions_any W m0 hm0 n0_0 n0_1 n1_0 n1_1 n2 w0_0 w0_1 w1_0 w1_1 w2).mono fun e W' ⟨he, ho⟩ => ?_
  subst he
  exact ⟨_, rfl, law_post hW' (ho.below (Nat.le_refl _) (fun _ _ => id)) laidOutD reads rfl Tryd.underlying4 rfl rfl rfl rfl⟩

theorem said : Rows.RecordVersionsSaid :=
  OpenClaim.holds_of_wide 4 Tryd.f4 rfl rfl rfl rfl rfl rfl rfl ⟨rfl, rfl, rfl, rfl, rfl⟩ rfl rfl rfl rfl rfl (by kernel_rfl) Tryd.func4 (by kernel_rfl)
    (of_decide_eq_true (by kernel_rfl)) (by unfold Func.isWrapper; first | (rw [if_pos (by decide +kernel)]; kernel_rfl) | (rw [if_neg (by decide +kernel)]; exact ⟨rfl, rfl⟩))
    (fun os started H enc _ => lifted os started H enc)
theorem looks (f : FuncId) (fn : Func) (hf : Tryd.pinned.checked.prog.funcNamed "bellhop/bellhoplaw14.RecordVersions" = some f) (hfn : Tryd.pinned.checked.prog.funcs[f]? = some fn) :
    true = Tryd.pinned.checked.prog.looks [] ∧ ∀ (j : Nat) t, fn.params[j]? = some t → Tryd.pinned.checked.prog.wantsStandIn t = false := by
  obtain rfl : f = 4 := Option.some.inj ((show Tryd.prog.funcNamed "bellhop/bellhoplaw14.RecordVersions" = some 4 by kernel_rfl).symm.trans hf) |>.symm
  obtain rfl : fn = Tryd.f4 := (Option.some.inj (Tryd.func4.symm.trans hfn)).symm
  refine ⟨by kernel_rfl, fun j t ht => ?_⟩
  rw [Tryd.params4] at ht
  have hm : t ∈ [33, 33, 34] := by simpa using Array.mem_of_getElem? ht
  have hall : ([33, 33, 34].all fun u => !Tryd.prog.wantsStandIn u) = true := by kernel_rfl
  exact (show Tryd.prog.wantsStandIn t = false by simpa using List.all_eq_true.1 hall t hm)
theorem card : Rows.RecordVersionsCardSaid :=
  Claim7.holds_tied_plain_at .later [] _ _ _ _ said (fun _ h => by cases h) (by kernel_rfl) (fun _ h => by cases h) recordVersions_row_tie rfl ⟨rfl, rfl⟩ (by kernel_rfl) rfl looks (by kernel_rfl)
#print axioms card
end Go.Proofs.YtfmplmchpdmbmaaDoor.versionsLaw
