/- RecordGood is true of every input: which records may be; what they tell; how old they are when they are sent. No condition; the package variables that it names are tied to the text. -/
import Derived.Test.YtfmplmchpdmbmaaDoorRecordGood
import Derived.Test.YtfmplmchpdmbmaaDoorDoorRow
import Derived.Test.YtfmplmchpdmbmaaDoorArr
import Derived.ChangeMaps5
import Derived.Test.YtfmplmchpdmbmaaDoorCards
import Derived.Test.YtfmplmchpdmbmaaDoorTie
namespace Go.Proofs.YtfmplmchpdmbmaaDoor.goodLaw
open Go.Conc Go.RowKit Go.ChangeShapes Go.WideShapes Go.ChangeAt Go.ChangeMaps

theorem cellsTint : Tryd.prog.cellsOf 3 = 1 := by kernel_rfl
theorem cellsTstring : Tryd.prog.cellsOf 9 = 1 := by kernel_rfl
theorem cellsTA2string : Tryd.prog.cellsOf 39 = 2 := by kernel_rfl
theorem cellsTA3int : Tryd.prog.cellsOf 40 = 3 := by kernel_rfl
theorem reads : ∀ t ∈ Tryd.f5.params.toList, Tryd.prog.readableRec t = true ∧ t < Tryd.prog.types.size := by
  intro t ht
  have h1 : ([39, 34, 40].all fun u => Tryd.prog.readableRec u && decide (u < Tryd.prog.types.size)) = true := by kernel_rfl
  rw [Tryd.params5] at ht
  have := List.all_eq_true.1 h1 t ht
  simpa using this
set_option maxRecDepth 100000 in
theorem lifted (os : Os) (started : os.Started) (H : Type) (enc : TypeId × Value → H) :
    ReturnsInHanded {} Tryd.checked os 5 .any (fun w args => (Rows.recordGoodSpec.pre enc Tryd.prog Tryd.f5 Rows.recordGoodRow.domain false w args ∧ laidMetH Tryd.prog Rows.recordGoodRow.laid w) ∧ sizedMet enc Tryd.prog Tryd.f5 (OpenSpec.ofChange Rows.recordGoodSpec) false w args)
      (Rows.recordGoodSpec.post enc Tryd.prog Tryd.f5 false true false false) := by
  refine returns_laid (C := Tryd.checked) (X := fun w _ => laidMetH Tryd.prog Rows.recordGoodRow.laid w) (fun _ _ _ hh h => h.of_heap hh) ownD started (by kernel_rfl) Tryd.func5
    (ChangeSpec.witness_shaped (enc := enc) (C := Tryd.checked) (os := os) (X := fun w _ => laidMetH Tryd.prog Rows.recordGoodRow.laid w) false (World.laidAll Tryd.prog os Rows.recordGoodRow.laid) #[.agg #[.string ⟨#[]⟩, .string ⟨#[]⟩], .int .u64 0, .agg #[.int .i64 0, .int .i64 0, .int .i64 0]] 8 (World.laidAll_os _ _ _)
      (World.shaped_of_ZipB (by kernel_rfl) (by kernel_rfl)) (by kernel_rfl) (by kernel_rfl) (by kernel_rfl)
      (by rw [MakeChecks.laidMetH_plain _ _ _ (by kernel_rfl)]; exact laidMet_laidAll _ (by kernel_rfl) (by kernel_rfl))) ?_
  intro W base args ds gs before hval0 hW _ hsh
  have hval : ∀ (j : Nat) t v, Tryd.f5.params[j]? = some t → args[j]? = some v → Value.okWide Tryd.prog W .any base t v := hval0
  have hW' := hW
  obtain ⟨m0, hm0⟩ := maxLen_cell W hsh
  obtain ⟨p, q, hA0, hV, rfl, _, _⟩ := hW
  have hA : DataW.TrodAll enc Tryd.prog W 0 (fun _ => true) true Tryd.f5.params.toList args.toList ds p := hA0
  rw [Tryd.params5] at hA hval
  obtain ⟨v0, vs0, d0, ds0, p0, q0, hargs, rfl, rfl, h0, r0⟩ := trodAll_cons hA
  obtain ⟨v1, vs1, d1, ds1, p1, q1, rfl, rfl, rfl, h1, r1⟩ := trodAll_cons r0
  obtain ⟨v2, vs2, d2, ds2, p2, q2, rfl, rfl, rfl, h2, r2⟩ := trodAll_cons r1
  obtain ⟨rfl, rfl, rfl⟩ := trodAll_nil r2
  obtain rfl : args = #[v0, v1, v2] := by cases args; simp_all
  obtain ⟨zs0, l0, rfl, b0⟩ := arr_strs Tryd.underlying39 Tryd.underlying9 cellsTstring cellsTA2string (hval 0 39 v0 rfl rfl) h0
  obtain ⟨z0_0, z0_1, rfl⟩ := list2 l0
  obtain ⟨x1, rfl, rfl, rfl, b1⟩ := open_int Tryd.underlying34 (hval 1 34 v1 rfl rfl) h1
  obtain ⟨n1, rfl, w1⟩ := nat_u64 b1
  obtain ⟨zs2, l2, rfl, b2⟩ := arr_ints Tryd.underlying40 Tryd.underlying3 cellsTint cellsTA3int (hval 2 40 v2 rfl rfl) h2
  obtain ⟨z2_0, z2_1, z2_2, rfl⟩ := list3 l2
  obtain ⟨rfl, rfl⟩ := trodVars_none hV
  refine (recordGood_any W m0 hm0 z0_0 z0_1 n1 z2_0 z2_1 z2_2 (b0 z0_0 (by simp)) (b0 z0_1 (by simp)) w1 (b2 z2_0 (by simp)) (b2 z2_1 (by simp)) (b2 z2_2 (by simp))).mono fun e W' ⟨he, ho⟩ => ?_
  subst he
  exact ⟨_, rfl, law_post hW' (ho.below (Nat.le_refl _) (fun _ _ => id)) laidOutD reads rfl Tryd.underlying4 rfl rfl rfl rfl⟩

theorem said : Rows.RecordGoodSaid :=
  OpenClaim.holds_of_wide 5 Tryd.f5 rfl rfl rfl rfl rfl rfl rfl ⟨rfl, rfl, rfl, rfl, rfl⟩ rfl rfl rfl rfl rfl (by kernel_rfl) Tryd.func5 (by kernel_rfl)
    (of_decide_eq_true (by kernel_rfl)) (by unfold Func.isWrapper; first | (rw [if_pos (by decide +kernel)]; kernel_rfl) | (rw [if_neg (by decide +kernel)]; exact ⟨rfl, rfl⟩))
    (fun os started H enc _ => lifted os started H enc)
theorem looks (f : FuncId) (fn : Func) (hf : Tryd.pinned.checked.prog.funcNamed "bellhop/bellhoplaw14.RecordGood" = some f) (hfn : Tryd.pinned.checked.prog.funcs[f]? = some fn) :
    true = Tryd.pinned.checked.prog.looks [] ∧ ∀ (j : Nat) t, fn.params[j]? = some t → Tryd.pinned.checked.prog.wantsStandIn t = false := by
  obtain rfl : f = 5 := Option.some.inj ((show Tryd.prog.funcNamed "bellhop/bellhoplaw14.RecordGood" = some 5 by kernel_rfl).symm.trans hf) |>.symm
  obtain rfl : fn = Tryd.f5 := (Option.some.inj (Tryd.func5.symm.trans hfn)).symm
  refine ⟨by kernel_rfl, fun j t ht => ?_⟩
  rw [Tryd.params5] at ht
  have hm : t ∈ [39, 34, 40] := by simpa using Array.mem_of_getElem? ht
  have hall : ([39, 34, 40].all fun u => !Tryd.prog.wantsStandIn u) = true := by kernel_rfl
  exact (show Tryd.prog.wantsStandIn t = false by simpa using List.all_eq_true.1 hall t hm)
theorem card : Rows.RecordGoodCardSaid :=
  Claim7.holds_tied_plain_at .later [] _ _ _ _ said (fun _ h => by cases h) (by kernel_rfl) (fun _ h => by cases h) recordGood_row_tie rfl ⟨rfl, rfl⟩ (by kernel_rfl) rfl looks (by kernel_rfl)
#print axioms card
end Go.Proofs.YtfmplmchpdmbmaaDoor.goodLaw
