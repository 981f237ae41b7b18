/- A drawn region in two parts: one condition on the world till the first of its last operations, another behind it. -/
import Derived.Test.YtegechmdboccbaaGreatDoorRH
import Derived.Test.YtegechmdboccbaaGreatDoorRA
import Derived.Deep.RegionHeld3
import Derived.StillTail
/-! A mesh that a call made, through its operations. -/
namespace Go.Proofs.YtegechmdboccbaaGreatDoor
open Go.Conc Go.RowKit Go.Maps

/-- A mesh made behind w: who is there, what lies on which way. -/
structure MRun (w w' : World) (m lb pb : Nat) (lv : List Int) (G : Ways) (n : Nat) : Prop where
  out : ∃ L, MeshAt w' m lb pb lv L ∧ Only (fun _ => False) w w' ∧ (∀ k, foot lb pb L k → w.heap.size ≤ k) ∧ getM L = G ∧ L.length ≤ n ∧ w.heap.size ≤ m
/-- Cells are kept. -/
def CellsKept (w w' : World) : Prop := ∀ (q : Nat) (cs : Array Value) (t : TypeId) (f : Nat × Nat), w.heap[q]? = some (.cells cs t f) → w'.heap[q]? = some (.cells cs t f)
theorem CellsKept.refl (w : World) : CellsKept w w := fun _ _ _ _ h => h
theorem MRun.new {w w1 w2 : World} {m lb pb : Nat} {lv : List Int} {G : Ways} {n : Nat} (h : MRun w w1 m lb pb lv G n) (ho : Only (fun _ => False) w1 w2) : MRun w w2 m lb pb lv G n := by
  obtain ⟨L, h1, h2, h3, h4, h5, h6⟩ := h.out
  exact ⟨L, h1.new ho, h2.trans ho, h3, h4, h5, h6⟩
theorem MRun.only {w w' : World} {m lb pb : Nat} {lv : List Int} {G : Ways} {n : Nat} (h : MRun w w' m lb pb lv G n) : Only (fun _ => False) w w' := by
  obtain ⟨L, h1, h2, h3, h4, h5, h6⟩ := h.out
  exact h2
theorem MPost.run {w w1 w2 : World} {m lb pb : Nat} {lv : List Int} {L : PMap} {G : Ways} {n k : Nat} (h1 : MeshAt w1 m lb pb lv L) (h2 : Only (fun _ => False) w w1) (h3 : ∀ k, foot lb pb L k → w.heap.size ≤ k) (h5 : L.length ≤ n) (h6 : w.heap.size ≤ m) (hp : MPost w1 w2 m lb pb lv L G k) : MRun w w2 m lb pb lv G (n + k) ∧ CellsKept w1 w2 := by
  obtain ⟨L', k1, k2, k3, k4⟩ := hp.out
  refine ⟨⟨L', k1, h2.tr k2.only (fun i hi hf => absurd (h3 i hf) (by omega)), fun i hf => ?_, funext fun x => funext fun y => k3 x y, by omega, h6⟩, fun q cs t f hq => ?_⟩
  · rcases k2.next i hf with h | h
    · exact h3 i h
    · exact Nat.le_trans h2.size h
  · exact k2.only.old hq (fun hf => h1.foot_cells hf hq)
theorem mrun_new (w : World) : Calls Tryz.prog 28 #[] w fun e w' => ∃ m lb pb, e = .returned (.pointer (some ⟨m, 0, none⟩)) ∧ MRun w w' m lb pb [] (fun _ _ => []) 0 := by
  refine (mnew_any w).mono ?_
  rintro e w' ⟨m, lb, pb, rfl, h1, h2, h3, h4, h5⟩
  refine ⟨m, lb, pb, rfl, [], h2, h1, fun k hk => ?_, rfl, Nat.le_refl _, h3⟩
  rcases hk with rfl | rfl | ⟨e, he, _⟩
  · exact h4
  · exact h5
  · cases he
theorem mrun_up {w w1 : World} {m lb pb : Nat} {lv : List Int} {G : Ways} {n : Nat} (h : MRun w w1 m lb pb lv G n) (a : Int) (h1 : 1 ≤ a) (h2 : a ≤ 65535) (hl : lv.length < 100000) :
    Calls Tryz.prog 46 #[.pointer (some ⟨m, 0, none⟩), .int .i64 a] w1 fun e w' => e = .returned (.tuple #[]) ∧ MRun w w' m lb pb (upL lv a) G n ∧ CellsKept w1 w' := by
  obtain ⟨L, k1, k2, k3, k4, k5, k6⟩ := h.out
  refine (mup_any w1 m lb pb lv L k1 a h1 h2 hl).mono ?_
  rintro e w' ⟨rfl, q1, q2⟩
  refine ⟨rfl, ⟨L, q1, k2.tr q2 (fun i hi hf => absurd (k3 i (.inl hf)) (by omega)), k3, k4, k5, k6⟩, fun q cs t f hq => q2.old hq (fun hf => k1.foot_cells (.inl hf) hq)⟩
theorem mrun_len {w w1 : World} {m lb pb : Nat} {lv : List Int} {G : Ways} {n : Nat} (h : MRun w w1 m lb pb lv G n) (a b : Int) (ha : (Lit.int .i64 a).wf = true) (hb : (Lit.int .i64 b).wf = true) :
    Calls Tryz.prog 41 #[.pointer (some ⟨m, 0, none⟩), .int .i64 a, .int .i64 b] w1 fun e w' => e = .returned (.int .i64 (G a b).length) ∧ w1 = w' := by
  obtain ⟨L, k1, _, _, rfl, _⟩ := h.out
  exact mlen_any w1 m lb pb lv L k1 a b ha hb
theorem mrun_ways {w w1 : World} {m lb pb : Nat} {lv : List Int} {G : Ways} {n : Nat} (h : MRun w w1 m lb pb lv G n) (hG : ∀ x y, G x y = []) :
    Calls Tryz.prog 40 #[.pointer (some ⟨m, 0, none⟩)] w1 fun e w' => e = .returned (.slice none 0 0) ∧ Only (fun _ => False) w1 w' := by
  obtain ⟨L, k1, k2, k3, rfl, k5, k6⟩ := h.out
  exact mways_none w1 m lb pb lv L k1 hG
end Go.Proofs.YtegechmdboccbaaGreatDoor
/-! A drawn region in two parts: one condition on the world till the first of its last operations, another behind it. -/
namespace Go.Proofs.YtegechmdboccbaaGreatDoor
open Go

section
variable {P : Program} {ops : Array Oper} {Q : Exit → Act → World → Prop} {md : Region.Mode} {S T : World → Prop} {n : Nat}

/-- T behind operation n, S till then. -/
def Gn (n : Nat) (S T : World → Prop) (l : Array Bool) (w : World) : Prop := if l.getD n false = true then T w else S w
theorem Gn.start {l : Array Bool} {w : World} (h : l.getD n false = false) (hs : S w) : Gn n S T l w := by unfold Gn; rw [h]; exact hs
theorem Gn.tail {l : Array Bool} {w : World} (h : l.getD n false = true) (hs : T w) : Gn n S T l w := by unfold Gn; rw [if_pos h]; exact hs
theorem Gn.outS {l : Array Bool} {w : World} (h : l.getD n false = false) (hs : Gn n S T l w) : S w := by unfold Gn at hs; rw [h] at hs; exact hs
theorem Gn.congr {l l' : Array Bool} {w : World} (h : l.getD n false = l'.getD n false) (hs : Gn n S T l w) : Gn n S T l' w := by unfold Gn at *; rw [← h]; exact hs
def wpAnyG (P : Program) (md : Region.Mode) (ops : Array Oper) (Q : Exit → Act → World → Prop) (S T : World → Prop) (n : Nat) : Nat → Array Bool → Act → World → Prop
  | 0, listed, a, w => Region.ready md ops listed = [] ∧ Q .normal a w
  | fuel + 1, listed, a, w =>
    (Region.ready md ops listed = [] → Q .normal a w) ∧
    ∀ i ∈ Region.ready md ops listed, wpOp P ops Q i (fun a' w' => Gn n S T (listed.setIfInBounds i true) w' ∧ wpAnyG P md ops Q S T n fuel (listed.setIfInBounds i true) a' w') a w
theorem wpAny_of_G : ∀ (fuel : Nat) (listed : Array Bool) (a : Act) (w : World), wpAnyG P md ops Q S T n fuel listed a w → wpAny P md ops Q fuel listed a w
  | 0, _, _, _, h => h
  | fuel + 1, _, _, _, h => ⟨h.1, fun i hi => wpOp_mono (fun a' w' h' => wpAny_of_G fuel _ a' w' h'.2) (h.2 i hi)⟩
theorem wpAnyG_first {i : Nat} {oi : Oper} {v : Value} (hi : ops[i]? = some oi) (hsel : ∀ (j : Nat) (o : Oper) cs b, ops[j]? = some o → o.op ≠ .select cs b)
    (hQ : ∀ c a w, Q (.panic c) (a.put oi.dst v) w → Q (.panic c) a w) (hn : Region.waitsFor md ops n i = true) (hin : i ≠ n) :
    ∀ (fuel : Nat) (listed : Array Bool) (a : Act) (w : World),
      (∀ j oj, ops[j]? = some oj → j ≠ i → listed.getD j true = false → (∀ e ∈ oj.after, Region.binds md e = true → e.on ≠ i) → oi.apart ops oj = true) →
      i ∈ Region.ready md ops listed → listed.getD n false = false → YieldsIf P ops S oi v a → S w →
      wpAnyG P md ops Q S T n fuel (listed.setIfInBounds i true) (a.put oi.dst v) w → wpAnyG P md ops Q S T n (fuel + 1) listed a w := by
  intro fuel
  induction fuel with
  | zero =>
    intro listed a w _ hr hln hy hS H
    refine ⟨fun h => (by rw [h] at hr; cases hr), fun j hj => ?_⟩
    by_cases hji : j = i
    · subst hji; exact hy.wpOp hi hS ⟨Gn.start (by rw [getD_set_ne false hin]; exact hln) hS, H⟩
    · have := ready_mono hj hji
      rw [H.1] at this
      cases this
  | succ fuel ih =>
    intro listed a w hfree hr hln hy hS H
    refine ⟨fun h => (by rw [h] at hr; cases hr), fun j hj => ?_⟩
    by_cases hji : j = i
    · subst hji; exact hy.wpOp hi hS ⟨Gn.start (by rw [getD_set_ne false hin]; exact hln) hS, H⟩
    · have h1 := H.2 j (ready_mono hj hji)
      obtain ⟨hjun, oj, hoj, hall⟩ := mem_ready.1 hj
      have hun := (mem_ready.1 hr).1
      have hnot : ∀ e ∈ oj.after, Region.binds md e = true → e.on ≠ i := fun e he hb heq => by
        have h1 := hall e he hb
        rw [heq, getD_both hun] at h1
        cases h1
      have hjn : j ≠ n := fun e => by
        subst e
        obtain ⟨o', ho', e', he', hb', hon⟩ := Region.waitsFor_spec hn
        have : o' = oj := Option.some.inj (ho'.symm.trans hoj)
        subst this
        exact hnot e' he' hb' hon
      have h2 := wpOp_putIf hoj (hfree j oj hoj hji hjun hnot) (fun cs b => hsel i oi cs b hi) (fun cs b => hsel j oj cs b hoj) hQ hy h1
      have hfree' : ∀ k ok, ops[k]? = some ok → k ≠ i → (listed.setIfInBounds j true).getD k true = false →
          (∀ e ∈ ok.after, Region.binds md e = true → e.on ≠ i) → oi.apart ops ok = true := fun k ok hk hki hun hno => by
        refine hfree k ok hk hki ?_ hno
        by_cases hjk : j = k
        · subst hjk; exact hjun
        · rw [getD_set_ne true hjk] at hun; exact hun
      have e1 : (listed.setIfInBounds j true).getD n false = false := by rw [getD_set_ne false hjn]; exact hln
      have e2 : ((listed.setIfInBounds i true).setIfInBounds j true).getD n false = false := by rw [getD_set_ne false hjn, getD_set_ne false hin]; exact hln
      refine wpOp_mono (fun a' w' h3 => ⟨h3.2.1.congr (e2.trans e1.symm), ih (listed.setIfInBounds j true) a' w' hfree' (ready_mono hr (Ne.symm hji)) e1 h3.1 (h3.2.1.outS e2) ?_⟩) h2
      rw [Array.setIfInBounds_comm _ _ hji]
      exact h3.2.2
theorem wpAnyG_take {i : Nat} {oi : Oper} {v : Value} {fuel : Nat} {listed : Array Bool} {a : Act} {w : World} (hi : ops[i]? = some oi)
    (hs : Region.noSelect ops = true) (hf : Region.free md ops listed i = true) (hr : (Region.ready md ops listed).contains i = true) (hn : Region.waitsFor md ops n i = true) (hin : (i != n) = true) (hln : listed.getD n false = false)
    (hQ : ∀ c a w, Q (.panic c) (a.put oi.dst v) w → Q (.panic c) a w) (hy : YieldsIf P ops S oi v a) (hS : S w)
    (h : wpAnyG P md ops Q S T n fuel (listed.setIfInBounds i true) (a.put oi.dst v) w) : wpAnyG P md ops Q S T n (fuel + 1) listed a w :=
  wpAnyG_first hi (Region.noSelect_spec hs) hQ hn (by simpa using hin) fuel listed a w (Region.free_spec hi hf) (by simpa using hr) hln hy hS h
theorem wpAnyG_firstW {i : Nat} {oi : Oper} {v : Value} (hi : ops[i]? = some oi) (hsel : ∀ (j : Nat) (o : Oper) cs b, ops[j]? = some o → o.op ≠ .select cs b)
    (hQ : ∀ c a w, Q (.panic c) (a.put oi.dst v) w → Q (.panic c) a w) (hin : i ≠ n) :
    ∀ (fuel : Nat) (listed : Array Bool) (a : Act) (w : World),
      (∀ j oj, ops[j]? = some oj → j ≠ i → listed.getD j true = false → (∀ e ∈ oj.after, Region.binds md e = true → e.on ≠ i) → oi.apart ops oj = true) →
      i ∈ Region.ready md ops listed → YieldsIf P ops (fun _ => True) oi v a → Gn n S T listed w →
      wpAnyG P md ops Q S T n fuel (listed.setIfInBounds i true) (a.put oi.dst v) w → wpAnyG P md ops Q S T n (fuel + 1) listed a w := by
  intro fuel
  induction fuel with
  | zero =>
    intro listed a w _ hr hy hS H
    refine ⟨fun h => (by rw [h] at hr; cases hr), fun j hj => ?_⟩
    by_cases hji : j = i
    · subst hji; exact hy.wpOp hi trivial ⟨hS.congr (by rw [getD_set_ne false hin]), H⟩
    · have := ready_mono hj hji
      rw [H.1] at this
      cases this
  | succ fuel ih =>
    intro listed a w hfree hr hy hS H
    refine ⟨fun h => (by rw [h] at hr; cases hr), fun j hj => ?_⟩
    by_cases hji : j = i
    · subst hji; exact hy.wpOp hi trivial ⟨hS.congr (by rw [getD_set_ne false hin]), H⟩
    · have h1 := H.2 j (ready_mono hj hji)
      obtain ⟨hjun, oj, hoj, hall⟩ := mem_ready.1 hj
      have hun := (mem_ready.1 hr).1
      have hnot : ∀ e ∈ oj.after, Region.binds md e = true → e.on ≠ i := fun e he hb heq => by
        have h1 := hall e he hb
        rw [heq, getD_both hun] at h1
        cases h1
      have h2 := wpOp_putIf hoj (hfree j oj hoj hji hjun hnot) (fun cs b => hsel i oi cs b hi) (fun cs b => hsel j oj cs b hoj) hQ hy h1
      have hfree' : ∀ k ok, ops[k]? = some ok → k ≠ i → (listed.setIfInBounds j true).getD k true = false →
          (∀ e ∈ ok.after, Region.binds md e = true → e.on ≠ i) → oi.apart ops ok = true := fun k ok hk hki hun hno => by
        refine hfree k ok hk hki ?_ hno
        by_cases hjk : j = k
        · subst hjk; exact hjun
        · rw [getD_set_ne true hjk] at hun; exact hun
      refine wpOp_mono (fun a' w' h3 => ?_) h2
      have e1 : Gn n S T (listed.setIfInBounds j true) w' := h3.2.1.congr (by rw [Array.setIfInBounds_comm _ _ (Ne.symm hji), getD_set_ne false hin])
      refine ⟨e1, ih (listed.setIfInBounds j true) a' w' hfree' (ready_mono hr (Ne.symm hji)) h3.1 e1 ?_⟩
      rw [Array.setIfInBounds_comm _ _ hji]
      exact h3.2.2
/-- What yields in whatever world may be taken first, too. -/
theorem wpAnyG_takeW {i : Nat} {oi : Oper} {v : Value} {fuel : Nat} {listed : Array Bool} {a : Act} {w : World} (hi : ops[i]? = some oi)
    (hs : Region.noSelect ops = true) (hf : Region.free md ops listed i = true) (hr : (Region.ready md ops listed).contains i = true) (hin : (i != n) = true)
    (hQ : ∀ c a w, Q (.panic c) (a.put oi.dst v) w → Q (.panic c) a w) (hy : YieldsIf P ops (fun _ => True) oi v a) (hS : Gn n S T listed w)
    (h : wpAnyG P md ops Q S T n fuel (listed.setIfInBounds i true) (a.put oi.dst v) w) : wpAnyG P md ops Q S T n (fuel + 1) listed a w :=
  wpAnyG_firstW hi (Region.noSelect_spec hs) hQ (by simpa using hin) fuel listed a w (Region.free_spec hi hf) (by simpa using hr) hy hS h
theorem wpAnyG_done {listed : Array Bool} {a : Act} {w : World} (hr : Region.ready md ops listed = []) (h : Q .normal a w) :
    ∀ fuel, wpAnyG P md ops Q S T n fuel listed a w
  | 0 => ⟨hr, h⟩
  | _ + 1 => ⟨fun _ => h, by rw [hr]; simp⟩
def AllReadyG (P : Program) (md : Region.Mode) (ops : Array Oper) (Q : Exit → Act → World → Prop) (S T : World → Prop) (n fuel : Nat) (listed : Array Bool) (a : Act) (w : World) (rs : List Nat) : Prop :=
  ∀ i ∈ rs, wpOp P ops Q i (fun a' w' => Gn n S T (listed.setIfInBounds i true) w' ∧ wpAnyG P md ops Q S T n fuel (listed.setIfInBounds i true) a' w') a w
theorem AllReadyG.nil {fuel : Nat} {listed : Array Bool} {a : Act} {w : World} : AllReadyG P md ops Q S T n fuel listed a w [] := fun _ h => by cases h
theorem AllReadyG.cons {fuel : Nat} {listed : Array Bool} {a : Act} {w : World} {i : Nat} {o : Oper} {rs : List Nat} (ho : ops[i]? = some o)
    (h : ∀ K' : Act → World → Prop, Shut (∀ a w, Gn n S T (listed.setIfInBounds i true) w → (Gn n S T (listed.setIfInBounds i true) w → wpAnyG P md ops Q S T n fuel (listed.setIfInBounds i true) a w) → K' a w) → if Region.wanted o (yielded ops a.tmps) = true then Oper.wp P o a w K' Q else K' (a.put o.dst undef) w)
    (hs : AllReadyG P md ops Q S T n fuel listed a w rs) : AllReadyG P md ops Q S T n fuel listed a w (i :: rs) := fun j hj => by
  rcases List.mem_cons.1 hj with rfl | hj
  · exact wpOp_step ho (fun K' hK => h K' (fun a w hS hW => hK a w ⟨hS, hW hS⟩))
  · exact hs j hj
theorem wpAnyG_ready {rs : List Nat} {fuel : Nat} {listed : Array Bool} {a : Act} {w : World} (hr : Region.ready md ops listed = rs) (hne : rs ≠ [])
    (h : AllReadyG P md ops Q S T n fuel listed a w rs) : wpAnyG P md ops Q S T n (fuel + 1) listed a w := ⟨fun h0 => absurd (hr ▸ h0) hne, hr ▸ h⟩
theorem wp_region_G_drew {id : Nat} {a : Act} {w : World} (S T : World → Prop) (n : Nat) (hm : P.follows .mixedOrders = true) (hS : S w.drew)
    (h : S w.drew → wpAnyG P .any ops Q S T n ops.size (Array.replicate ops.size false) a w.drew) : (Code.region id ops true).wp P Q a w :=
  wp_region_any hm (wpAny_of_G _ _ _ _ (h hS))
/-- The same, the slot's number apart. -/
theorem wpAnyG_takeD {i : Nat} {oi : Oper} {v : Value} {d : Option Tmp} {fuel : Nat} {listed : Array Bool} {a : Act} {w : World} (hi : ops[i]? = some oi) (hd : oi.dst = d)
    (hs : Region.noSelect ops = true) (hf : Region.free md ops listed i = true) (hr : (Region.ready md ops listed).contains i = true) (hn : Region.waitsFor md ops n i = true) (hin : (i != n) = true) (hln : listed.getD n false = false)
    (hQ : ∀ c a w, Q (.panic c) (a.put d v) w → Q (.panic c) a w) (hy : YieldsIf P ops S oi v a) (hS : S w)
    (h : wpAnyG P md ops Q S T n fuel (listed.setIfInBounds i true) (a.put d v) w) : wpAnyG P md ops Q S T n (fuel + 1) listed a w := by subst hd; exact wpAnyG_take hi hs hf hr hn hin hln hQ hy hS h
theorem wpAnyG_takeWD {i : Nat} {oi : Oper} {v : Value} {d : Option Tmp} {fuel : Nat} {listed : Array Bool} {a : Act} {w : World} (hi : ops[i]? = some oi) (hd : oi.dst = d)
    (hs : Region.noSelect ops = true) (hf : Region.free md ops listed i = true) (hr : (Region.ready md ops listed).contains i = true) (hin : (i != n) = true)
    (hQ : ∀ c a w, Q (.panic c) (a.put d v) w → Q (.panic c) a w) (hy : YieldsIf P ops (fun _ => True) oi v a) (hS : Gn n S T listed w)
    (h : wpAnyG P md ops Q S T n fuel (listed.setIfInBounds i true) (a.put d v) w) : wpAnyG P md ops Q S T n (fuel + 1) listed a w := by subst hd; exact wpAnyG_takeW hi hs hf hr hin hQ hy hS h
/-- The frame, written out. -/
theorem wpAnyG_act {fuel : Nat} {listed : Array Bool} {a a' : Act} {w : World} (e : a = a') (h : wpAnyG P md ops Q S T n fuel listed a' w) : wpAnyG P md ops Q S T n fuel listed a w := by subst e; exact h
/-- The orders' lists and fuel, in one form. -/
theorem wpAnyG_at {fuel fuel' : Nat} {listed listed' : Array Bool} {a : Act} {w : World} (hf : fuel = fuel') (hl : listed = listed') (h : wpAnyG P md ops Q S T n fuel' listed' a w) : wpAnyG P md ops Q S T n fuel listed a w := by subst hf; subst hl; exact h
/-- What may be shown first at any world with R. -/
theorem wpAnyG_joinW {fuel : Nat} {listed : Array Bool} {a : Act} {w : World} (R : World → Prop) (hR : R w) (h : ∀ w', R w' → wpAnyG P md ops Q S T n fuel listed a w') : wpAnyG P md ops Q S T n fuel listed a w := h w hR
theorem wpAnyH_takeD {i : Nat} {oi : Oper} {v : Value} {d : Option Tmp} {fuel : Nat} {listed : Array Bool} {a : Act} {w : World} (hi : ops[i]? = some oi) (hd : oi.dst = d)
    (hs : Region.noSelect ops = true) (hf : Region.free md ops listed i = true) (hr : (Region.ready md ops listed).contains i = true)
    (hQ : ∀ c a w, Q (.panic c) (a.put d v) w → Q (.panic c) a w) (hy : YieldsIf P ops S oi v a) (hS : S w)
    (h : wpAnyH P md ops Q S fuel (listed.setIfInBounds i true) (a.put d v) w) : wpAnyH P md ops Q S (fuel + 1) listed a w := by subst hd; exact wpAnyH_take hi hs hf hr hQ hy hS h
theorem wpAnyH_act {fuel : Nat} {listed : Array Bool} {a a' : Act} {w : World} (e : a = a') (h : wpAnyH P md ops Q S fuel listed a' w) : wpAnyH P md ops Q S fuel listed a w := by subst e; exact h
end
/-- One end for all orders: J is found at the first of them. -/
theorem join_by2 {A B : Type} {F J : A → B → World → Prop} {G : Prop} (main : (∀ a b w, F a b w → J a b w) → G) (hj : ∀ a b w, F a b w → J a b w) : G := main hj
theorem join_by3 {A B C : Type} {F J : A → B → C → World → Prop} {G : Prop} (main : (∀ a b c w, F a b c w → J a b c w) → G) (hj : ∀ a b c w, F a b c w → J a b c w) : G := main hj
theorem join_by4 {A B C D : Type} {F J : A → B → C → D → World → Prop} {G : Prop} (main : (∀ a b c d w, F a b c d w → J a b c d w) → G) (hj : ∀ a b c d w, F a b c d w → J a b c d w) : G := main hj
theorem join_by5 {A B C D E : Type} {F J : A → B → C → D → E → World → Prop} {G : Prop} (main : (∀ a b c d e w, F a b c d e w → J a b c d e w) → G) (hj : ∀ a b c d e w, F a b c d e w → J a b c d e w) : G := main hj
theorem join_by6 {A B C D E I : Type} {F J : A → B → C → D → E → I → World → Prop} {G : Prop} (main : (∀ a b c d e f w, F a b c d e f w → J a b c d e f w) → G) (hj : ∀ a b c d e f w, F a b c d e f w → J a b c d e f w) : G := main hj
end Go.Proofs.YtegechmdboccbaaGreatDoor
