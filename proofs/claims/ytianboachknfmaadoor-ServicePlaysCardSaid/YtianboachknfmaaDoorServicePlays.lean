/- For any sequence of operations on a keeper of services, from any count on, each result equals the reference s; a nil keeper answers as specified. -/
import Derived.Test.YtianboachknfmaaDoorSJ
import Derived.Test.YtianboachknfmaaDoorSI
import Derived.Test.YtianboachknfmaaDoorMA
import Derived.Test.YtianboachknfmaaDoorSC
import Derived.ChangeMaps5
import Derived.Test.YtianboachknfmaaDoorCards
import Derived.Test.YtianboachknfmaaDoorTie
/-! The walk of bellhoplaw26.ServicePlays: its parts joined. -/
namespace Go.Proofs.YtianboachknfmaaDoor
open Go.Conc Go.RowKit Go.Maps

theorem plays26_any (w : World) (m : Int) (hm : w.cell? ⟨0, 0, none⟩ = some (.int .i64 m)) (self : Int) (n0 n1 n2 : Nat) (v : Value) (l : List ActV) (_hs : (Lit.int .i64 self).wf = true) (w0 : n0 < 4294967296) (w1 : n1 < 4294967296) (w2 : n2 < 4294967296) (h : Sl w 7 v l.length (l.flatMap actVC)) (hl : ∀ a ∈ l, actVOk a) :
    Calls Tryd.prog 6 #[.int .i64 self, .agg #[.int .u32 n0, .int .u32 n1, .int .u32 n2], v] w fun e w' => e = .returned (.bool true) ∧ Only (fun _ => False) w w' := plays26_of (Lib.hid plays26_part) w m hm self n0 n1 n2 v l _hs w0 w1 w2 h hl
end Go.Proofs.YtianboachknfmaaDoor
/-! For any sequence of operations on a keeper of services, from any count on, each result equals the reference s; a nil keeper answers as specified. -/
namespace Go.Proofs.YtianboachknfmaaDoor.playsLaw26
open Go.Conc Go.RowKit Go.ChangeShapes Go.WideShapes Go.ChangeAt Go.ChangeMaps

theorem cellsTuint32 : Tryd.prog.cellsOf 64 = 1 := by kernel_rfl
theorem cellsTA3uint32 : Tryd.prog.cellsOf 65 = 3 := by kernel_rfl
theorem reads : ∀ t ∈ Tryd.f6.params.toList, Tryd.prog.readableRec t = true ∧ t < Tryd.prog.types.size := by
  intro t ht
  have h1 : ([3, 65, 66].all fun u => Tryd.prog.readableRec u && decide (u < Tryd.prog.types.size)) = true := by kernel_rfl
  rw [Tryd.params6] at ht
  have := List.all_eq_true.1 h1 t ht
  simpa using this
set_option maxRecDepth 100000 in
theorem lifted (os : Os) (started : os.Started) (H : Type) (enc : TypeId × Value → H) :
    ReturnsInHanded {} Tryd.checked os 6 .any (fun w args => (Rows.servicePlaysSpec.pre enc Tryd.prog Tryd.f6 Rows.servicePlaysRow.domain false w args ∧ laidMetH Tryd.prog Rows.servicePlaysRow.laid w) ∧ sizedMet enc Tryd.prog Tryd.f6 (OpenSpec.ofChange Rows.servicePlaysSpec) false w args)
      (Rows.servicePlaysSpec.post enc Tryd.prog Tryd.f6 false true false false) := by
  refine returns_laid (C := Tryd.checked) (X := fun w _ => laidMetH Tryd.prog Rows.servicePlaysRow.laid w) (fun _ _ _ hh h => h.of_heap hh) ownD started (by kernel_rfl) Tryd.func6
    (ChangeSpec.witness_shaped (enc := enc) (C := Tryd.checked) (os := os) (X := fun w _ => laidMetH Tryd.prog Rows.servicePlaysRow.laid w) false (World.laidAll Tryd.prog os Rows.servicePlaysRow.laid) #[.int .i64 0, .agg #[.int .u32 0, .int .u32 0, .int .u32 0], .slice none 0 0] 8 (World.laidAll_os _ _ _)
      (World.shaped_of_ZipB (by kernel_rfl) (by kernel_rfl)) (by kernel_rfl) (by kernel_rfl) (by kernel_rfl)
      (by rw [MakeChecks.laidMetH_plain _ _ _ (by kernel_rfl)]; exact laidMet_laidAll _ (by kernel_rfl) (by kernel_rfl))) ?_
  intro W base args ds gs before hval0 hW _ hsh
  have hval : ∀ (j : Nat) t v, Tryd.f6.params[j]? = some t → args[j]? = some v → Value.okWide Tryd.prog W .any base t v := hval0
  have hW' := hW
  obtain ⟨m0, hm0⟩ := maxLen_cell W hsh
  obtain ⟨p, q, hA0, hV, rfl, _, _⟩ := hW
  have hA : DataW.TrodAll enc Tryd.prog W 0 (fun _ => true) true Tryd.f6.params.toList args.toList ds p := hA0
  rw [Tryd.params6] at hA hval
  obtain ⟨v0, vs0, d0, ds0, p0, q0, hargs, rfl, rfl, h0, r0⟩ := trodAll_cons hA
  obtain ⟨v1, vs1, d1, ds1, p1, q1, rfl, rfl, rfl, h1, r1⟩ := trodAll_cons r0
  obtain ⟨v2, vs2, d2, ds2, p2, q2, rfl, rfl, rfl, h2, r2⟩ := trodAll_cons r1
  obtain ⟨rfl, rfl, rfl⟩ := trodAll_nil r2
  obtain rfl : args = #[v0, v1, v2] := by cases args; simp_all
  obtain ⟨x0, rfl, rfl, rfl, b0⟩ := open_int Tryd.underlying3 (hval 0 3 v0 rfl rfl) h0
  obtain ⟨zs1, l1, rfl, b1⟩ := arr_ints Tryd.underlying65 Tryd.underlying64 cellsTuint32 cellsTA3uint32 (hval 1 65 v1 rfl rfl) h1
  obtain ⟨z1_0, z1_1, z1_2, rfl⟩ := list3 l1
  obtain ⟨n1_0, rfl, w1_0⟩ := nat_u32 (b1 z1_0 (by simp))
  obtain ⟨n1_1, rfl, w1_1⟩ := nat_u32 (b1 z1_1 (by simp))
  obtain ⟨n1_2, rfl, w1_2⟩ := nat_u32 (b1 z1_2 (by simp))
  obtain ⟨x2, s2, b2⟩ := sl_acts26 (hval 2 66 v2 rfl rfl) h2
  obtain ⟨rfl, rfl⟩ := trodVars_none hV
  refine (plays26_any W m0 hm0 x0 n1_0 n1_1 n1_2 v2 x2 b0 w1_0 w1_1 w1_2 s2 b2).mono fun e W' ⟨he, ho⟩ => ?_
  subst he
  exact ⟨_, rfl, law_post hW' (ho.below (Nat.le_refl _) (fun _ _ => id)) laidOutD reads rfl Tryd.underlying4 rfl rfl rfl rfl⟩

theorem said : Rows.ServicePlaysSaid :=
  OpenClaim.holds_of_wide 6 Tryd.f6 rfl rfl rfl rfl rfl rfl rfl ⟨rfl, rfl, rfl, rfl, rfl⟩ rfl rfl rfl rfl rfl (by kernel_rfl) Tryd.func6 (by kernel_rfl)
    (of_decide_eq_true (by kernel_rfl)) (by unfold Func.isWrapper; first | (rw [if_pos (by decide +kernel)]; kernel_rfl) | (rw [if_neg (by decide +kernel)]; exact ⟨rfl, rfl⟩))
    (fun os started H enc _ => lifted os started H enc)
theorem looks (f : FuncId) (fn : Func) (hf : Tryd.pinned.checked.prog.funcNamed "bellhop/bellhoplaw26.ServicePlays" = some f) (hfn : Tryd.pinned.checked.prog.funcs[f]? = some fn) :
    true = Tryd.pinned.checked.prog.looks [] ∧ ∀ (j : Nat) t, fn.params[j]? = some t → Tryd.pinned.checked.prog.wantsStandIn t = false := by
  obtain rfl : f = 6 := Option.some.inj ((show Tryd.prog.funcNamed "bellhop/bellhoplaw26.ServicePlays" = some 6 by kernel_rfl).symm.trans hf) |>.symm
  obtain rfl : fn = Tryd.f6 := (Option.some.inj (Tryd.func6.symm.trans hfn)).symm
  refine ⟨by kernel_rfl, fun j t ht => ?_⟩
  rw [Tryd.params6] at ht
  have hm : t ∈ [3, 65, 66] := by simpa using Array.mem_of_getElem? ht
  have hall : ([3, 65, 66].all fun u => !Tryd.prog.wantsStandIn u) = true := by kernel_rfl
  exact (show Tryd.prog.wantsStandIn t = false by simpa using List.all_eq_true.1 hall t hm)
theorem card : Rows.ServicePlaysCardSaid :=
  Claim7.holds_tied_plain_at .later [] _ _ _ _ said (fun _ h => by cases h) (by kernel_rfl) (fun _ h => by cases h) servicePlays_row_tie rfl ⟨rfl, rfl⟩ (by kernel_rfl) rfl looks (by kernel_rfl)
#print axioms card
end Go.Proofs.YtianboachknfmaaDoor.playsLaw26
