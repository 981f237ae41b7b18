/- bellhoplaw15: same; what a store's reference keeps. -/
import Derived.Test.YtianboachknfmaaDoorSto15
import Derived.Test.YtianboachknfmaaDoorSto10
namespace Go.Proofs.YtianboachknfmaaDoor
open Go.Conc Go.RowKit Go.Maps

theorem fl_head (L : List RecT) (h : 0 < L.length) : (L.flatMap recC)[0]? = some (.string (L[0]).key) := by
  have := fl_get recC_length L 0 h 0 (by omega)
  rw [Nat.zero_mul, Nat.zero_add] at this
  exact this
/-- Records are kept where only blocks may change that hold no text. -/
theorem rsl_kept {S : Nat → Prop} {w w' : World} {v : Value} {L : List RecT} (h : RSl w v L) (ho : Only S w w') (hS : ∀ g, S g → ∀ i s, w.cell? ⟨g, i, none⟩ ≠ some (.string s)) : RSl w' v L := by
  obtain ⟨h1, a, cap, h2, h3, h4, h5⟩ := h
  refine ⟨h1, a, cap, h2, h3, h4, ?_⟩
  by_cases hn : 0 < L.length
  · rcases h5 with h5 | ⟨b, off, h5, h6⟩
    · exact .inl h5
    · refine .inr ⟨b, off, h5, fun j u hu => ho.cell (h6 j u hu) (fun hs => ?_)⟩
      exact hS b hs _ _ (h6 0 _ (fl_head L hn))
  · exact .inl (by omega)
theorem no_str {w : World} {b : Nat} {cs : Array Value} {t : TypeId} {f : Nat × Nat} (h : w.heap[b]? = some (.cells cs t f)) (hn : ∀ u ∈ cs.toList, ∀ s, u ≠ .string s) : ∀ i s, w.cell? ⟨b, i, none⟩ ≠ some (.string s) := by
  intro i s e
  rw [cell_at h] at e
  have h2 : cs.toList[i]? = some (.string s) := by simpa using e
  exact hn _ (List.mem_of_getElem? h2) s rfl
theorem good_split {x : RecT} (h : goodR x = true) : 2 ≤ x.key.size ∧ x.key.size ≤ 1000000 ∧ splitS x.key = x.key.extract 2 x.key.size := by
  have h64 := good_keys h
  unfold goodR goodP at h
  simp only [Bool.and_eq_true, beq_iff_eq] at h
  obtain ⟨⟨⟨⟨⟨h1, _⟩, _⟩, _⟩, _⟩, _⟩ := h
  unfold splitE at h1
  cases hs : splitOk x.key with
  | false => rw [hs] at h1; cases h1
  | true =>
    have hs' := hs
    unfold splitOk at hs'
    simp only [Bool.and_eq_true, decide_eq_true_eq] at hs'
    refine ⟨by omega, by omega, ?_⟩
    unfold splitS
    rw [hs]
    rfl
set_option maxRecDepth 100000 in
set_option maxHeartbeats 1000000 in
theorem same15_any (w : World) (va vb : Value) (L : List RecT) (ha : RSl w va L) (hb : RSl w vb L) :
    Calls Tryd.prog 41 #[va, vb] w fun e w' => e = .returned (.bool true) ∧ Only (fun _ => False) w w' := by
  obtain ⟨a, cap, rfl, h1, h2, h3⟩ := Sl.cells recC_length ha
  obtain ⟨a', cap', rfl, k1, k2, k3⟩ := Sl.cells recC_length hb
  unfold maxLen at h2 k2
  have HA := Lib.hid h3
  have HB := Lib.hid k3
  clear h3 k3
  clear ha hb
  go_enter Tryd.func41, Tryd.ntmps41
  go_wp2_with fail
  go_loopg [5] L.length (fun g v5 wr => ∃ j : Nat, v5 = .int .i64 j ∧ j ≤ L.length ∧ Only (fun _ => False) w wr ∧ g = L.length - j)
  case atStart => exact ⟨0, rfl, Nat.zero_le _, Only.refl _ _, rfl⟩
  case round =>
    obtain ⟨j, rfl, hj, ho, hg⟩ := hrel
    have Hg := Lib.hid hg
    have HO := Lib.hid ho
    clear hg ho
    by_cases hlt : j < L.length
    · obtain ⟨b, off, he, hc⟩ := HA.out.at j hlt
      subst he
      obtain ⟨b', off', he, hd⟩ := HB.out.at j hlt
      subst he
      have hcx : ∀ i u, (recC L[j])[i]? = some u → _ := fun i u hu => HO.out.cell (hc i u hu) id
      have hcy : ∀ i u, (recC L[j])[i]? = some u → _ := fun i u hu => HO.out.cell (hd i u hu) id
      generalize L[j] = z at *
      have p0 := hcx 0 _ rfl
      have p1 := hcx 1 _ rfl
      have p2 := hcx 2 _ rfl
      have p3 := hcx 3 _ rfl
      have p4 := hcx 4 _ rfl
      have p5 := hcx 5 _ rfl
      have q0 := hcy 0 _ rfl
      have q1 := hcy 1 _ rfl
      have q2 := hcy 2 _ rfl
      have q3 := hcy 3 _ rfl
      have q4 := hcy 4 _ rfl
      have q5 := hcy 5 _ rfl
      simp only [Nat.add_zero] at p0 q0
      have hne : ∀ w, (binOp BinOp.neq 33 (.agg #[.string z.key, .int .u64 z.ver, .int .i64 z.o, .int .i64 z.age, .bool z.gone, .string z.data]) (.agg #[.string z.key, .int .u64 z.ver, .int .i64 z.o, .int .i64 z.age, .bool z.gone, .string z.data])).run Tryd.prog w = .ok (.bool false) w := fun w => by
        rw [neR]
        simp
      have hlt' : (j : Int) < (L.length : Int) := by omega
      have hj0 : (0 : Int) ≤ (j : Int) := by omega
      clear hcx hcy hc hd
      go_wp2_with fail
      go_quiet (fail)
      go_wp2_with fail
      go_roundg (L.length - (j + 1))
      case measure => rw [Hg.out]; omega
      case rel => exact ⟨j + 1, by go_num, by omega, HO.out.drewN _, rfl⟩
    · have hlt' : ¬ (j : Int) < (L.length : Int) := by omega
      go_wp2_with fail
      go_ret
      exact ⟨rfl, HO.out⟩
end Go.Proofs.YtianboachknfmaaDoor
