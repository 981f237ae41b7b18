/- A mesh: Down. -/
import Derived.Test.YtjgcbcahikemdaaMesh11
import Derived.Test.YtjgcbcahikemdaaGen
namespace Go.Proofs.Ytjgcbcahikemdaa
open Go.Conc Go.RowKit Go.Maps

/-- delete, as one step of a region that draws. -/
theorem step_mapDrop {α β : Type} [DecidableEq α] {P : Program} {k : TypeId} {κ : α → Value} {ε : β → Value} {b : Nat} {L : List (α × β)} {w : World} {ops : Array Oper} {o : Oper} {a : Act} {K : Act → World → Prop} {Q : Exit → Act → World → Prop} {E : Prop} (hg : o.guard = none) (m x : Operand) (t : TypeId)
    (hop : o.op = Op.call { callee := Callee.builtin Builtin.delete, args := #[m, x], argTypes := #[t, k] }) {e : TypeId} (h : MapIs P k κ ε w b L) (Ky : Keyed P k) (hκ : ∀ a b, κ a = κ b → a = b)
    (ht : P.underlying t = some (.map k e)) (hm : a.eval m = .map (some b)) {y : α} (hx : a.eval x = κ y) (hy : KeyOk P k κ y)
    (hK : ∀ w', MapIs P k κ ε w' b (dropL L y) → Only (fun i => i = b) w w' → K (a.put o.dst (.tuple #[])) w') : if Region.wanted o (yielded ops a.tmps) = true then Oper.wp P o a w K Q else E := by
  have hw : Region.wanted o (yielded ops a.tmps) = true := by simp [Region.wanted, hg]
  rw [if_pos hw]
  obtain ⟨w', hrun, r1, r2⟩ := h.drop Ky hκ ht hy o.type
  unfold Oper.wp
  simp [execOp, hop, resolve, invoke, builtin, hm, hx, hrun, Result.andThen]
  exact hK w' r1 r2
def outL (lv : List Int) (n : Int) : List Int := lv.filter (fun k => !decide (k = n))
def downG (lv : List Int) (G : Ways) (n : Int) : Ways := fun x y => if y = n then [] else if x = n ∧ y ∈ lv then [(true, ⟨#[]⟩)] else G x y
theorem out_drop (lv : List Int) (n : Int) : dropL (lv.map (fun k => (k, true))) n = (outL lv n).map (fun k => (k, true)) := by
  unfold dropL outL
  rw [List.filter_map]
  rfl
/-- The ways to a node are struck. -/
theorem MeshAt.strike {w w' : World} {m lb pb : Nat} {lv : List Int} {L : PMap} (h : MeshAt w m lb pb lv L) (q : (Int × Int) × Option PipeD → Bool) (ho : Only (fun i => i = pb) w w') (hm : WMap w' pb (L.filter q)) : MeshAt w' m lb pb lv (L.filter q) := by
  refine ⟨ho.old h.blk (fun e => h.m_not (.inr (.inl e))), h.live.kept ho h.ne, hm, h.ne, fun e he => ?_, h.chans.filter _, h.lives⟩
  obtain ⟨d, h1, hp, h3⟩ := h.pipe e (List.mem_filter.1 he).1
  refine ⟨d, h1, hp.kept ho (fun e => ?_) (fun e => ?_), h3⟩
  · obtain ⟨es, c, hb⟩ := map_not h.pipes
    rw [← e, hp.blk] at hb; cases hb
  · obtain ⟨es, c, hb⟩ := map_not h.pipes
    obtain ⟨s, r, hb2⟩ := hp.chan
    rw [← e, hb2] at hb; cases hb
theorem look_strike (L : PMap) (n : Int) (k : Int × Int) : lookL (L.filter (fun p => !decide (p.1.2 = n))) k = if k.2 = n then none else lookL L k := by
  by_cases hk : k.2 = n
  · rw [if_pos hk]
    refine lookL_of_none (fun p hp e => ?_)
    have := (List.mem_filter.1 hp).2
    rw [e, decide_eq_true hk] at this
    cases this
  · rw [if_neg hk]
    unfold lookL
    congr 1
    rw [List.find?_filter]
    congr 1
    funext p
    by_cases e : p.1 = k
    · rw [decide_eq_true e, e, decide_eq_false hk]; rfl
    · rw [decide_eq_false e]; simp
theorem get_strike (L : PMap) (n x y : Int) : getM (L.filter (fun p => !decide (p.1.2 = n))) x y = if y = n then [] else getM L x y := by
  unfold getM
  rw [look_strike]
  by_cases h : y = n
  · rw [if_pos h, if_pos h]
  · rw [if_neg h, if_neg h]
theorem MPost.andThen {w w1 w2 : World} {m lb pb : Nat} {lv : List Int} {L L1 : PMap} {G : Ways} {n k : Nat} (h2 : Step (foot lb pb L) (foot lb pb L1) w w1) (h3 : L1.length ≤ L.length + n) (hp : MPost w1 w2 m lb pb lv L1 G k) : MPost w w2 m lb pb lv L G (n + k) := by
  obtain ⟨L2, q1, q2, q3, q4⟩ := hp.out
  exact ⟨L2, q1, h2.trans q2, q3, by omega⟩
/-- Behind j nodes. -/
def downJ (G : Ways) (n : Int) (S : List Int) : Ways := fun x y => if y = n ∧ x ∈ S then [] else if x = n ∧ y ∈ S then [(true, ⟨#[]⟩)] else G x y
theorem downJ_nil (G : Ways) (n : Int) : downJ G n [] = G := by
  funext x y
  unfold downJ
  rw [if_neg (fun h => by cases h.2), if_neg (fun h => by cases h.2)]
theorem downJ_step (G : Ways) (n k : Int) (S : List Int) (hk : k ≠ n) (hn : n ∉ S) : brk1 (setG (downJ G n S) k n []) n k = downJ G n (S ++ [k]) := by
  funext x y
  unfold brk1 setG downJ
  simp only [List.mem_append, List.mem_singleton]
  by_cases h1 : x = n ∧ y = k
  · obtain ⟨rfl, rfl⟩ := h1
    rw [if_pos ⟨rfl, rfl⟩, if_neg (fun h => hk h.1), if_pos ⟨rfl, .inr rfl⟩]
  · rw [if_neg h1]
    by_cases h2 : x = k ∧ y = n
    · rw [if_pos h2, if_pos ⟨h2.2, .inr h2.1⟩]
    · rw [if_neg h2]
      by_cases h3 : y = n ∧ x ∈ S
      · rw [if_pos h3, if_pos ⟨h3.1, .inl h3.2⟩]
      · have h5 : ¬ (y = n ∧ (x ∈ S ∨ x = k)) := fun h => by
          rcases h.2 with e | e
          · exact h3 ⟨h.1, e⟩
          · exact h2 ⟨e, h.1⟩
        rw [if_neg h3, if_neg h5]
        by_cases h4 : x = n ∧ y ∈ S
        · rw [if_pos h4, if_pos ⟨h4.1, .inl h4.2⟩]
        · have h6 : ¬ (x = n ∧ (y ∈ S ∨ y = k)) := fun h => by
            rcases h.2 with e | e
            · exact h4 ⟨h.1, e⟩
            · exact h1 ⟨h.1, e⟩
          rw [if_neg h4, if_neg h6]
theorem down_end (G : Ways) (n : Int) (lv ss : List Int) (hp : ss.Perm (outL lv n)) (x y : Int) : (if y = n then [] else downJ G n ss x y) = downG lv G n x y := by
  unfold downJ downG
  by_cases h : y = n
  · rw [if_pos h, if_pos h]
  · rw [if_neg h, if_neg h, if_neg (fun e => h e.1)]
    have e : y ∈ ss ↔ y ∈ lv := by rw [hp.mem_iff]; unfold outL; simp [h]
    by_cases h2 : x = n ∧ y ∈ lv
    · rw [if_pos h2, if_pos ⟨h2.1, e.2 h2.2⟩]
    · rw [if_neg h2, if_neg (fun h3 => h2 ⟨h3.1, e.1 h3.2⟩)]
end Go.Proofs.Ytjgcbcahikemdaa
