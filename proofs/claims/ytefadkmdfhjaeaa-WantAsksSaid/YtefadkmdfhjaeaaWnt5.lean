/- What is wanted: an entry is put; what Heard does to the lists. -/
import Derived.Test.YtefadkmdfhjaeaaWnt4
namespace Go.Proofs.Ytefadkmdfhjaeaa
open Go.Conc Go.RowKit Go.Maps

/-- A store into a map, as one step of a region that draws. -/
theorem step_mapStore {α β : Type} [DecidableEq α] {P : Program} {k : TypeId} {κ : α → Value} {ε : β → Value} {b : Nat} {L : List (α × β)} {w : World} {ops : Array Oper} {o : Oper} {a : Act} {K : Act → World → Prop} {Q : Exit → Act → World → Prop} {E : Prop} (hg : o.guard = none) (m x v : Operand) (t : TypeId)
    (hop : o.op = Op.mapUpdate t m x v) {e : TypeId} (h : MapIs P k κ ε w b L) (Ky : Keyed P k) (hκ : ∀ a b, κ a = κ b → a = b)
    (ht : P.underlying t = some (.map k e)) (hn : L.length < maxLen) (hm : a.eval m = .map (some b)) {y : α} (hx : a.eval x = κ y) (hy : KeyOk P k κ y) {u : β} (hv : a.eval v = ε u)
    (hK : ∀ w', MapIs P k κ ε w' b (putL L y u) → Only (fun i => i = b) w w' → K (a.put o.dst undef) w') : if Region.wanted o (yielded ops a.tmps) = true then Oper.wp P o a w K Q else E := by
  have hw : Region.wanted o (yielded ops a.tmps) = true := by simp [Region.wanted, hg]
  rw [if_pos hw]
  obtain ⟨w', hrun, r1, r2⟩ := h.store Ky hκ ht hn hy u
  unfold Oper.wp
  simp [execOp, hop, hm, hx, hv, hrun, Result.andThen]
  exact hK w' r1 r2
theorem putW_keys {L : List EntW} (ha : L.Pairwise (fun p q => p.key ≠ q.key)) {e e0 : EntW} (hf : findW L e.key = some e0) : ((putW L e).map (·.key)).Perm (L.map (·.key)) := by
  obtain ⟨hm, hk⟩ := findW_some hf
  unfold putW
  rw [List.map_append]
  have h1 : L.Perm (e0 :: dropW L e.key) := by
    clear hf
    induction L with
    | nil => cases hm
    | cons p L ih =>
      obtain ⟨a1, a2⟩ := List.pairwise_cons.1 ha
      unfold dropW
      rcases List.mem_cons.1 hm with rfl | hm
      · rw [List.filter_cons_of_neg (by simpa using hk)]
        refine List.Perm.cons _ (List.Perm.of_eq ?_)
        exact (List.filter_eq_self.2 (fun q hq => by
          have := a1 q hq
          rw [hk] at this
          simpa using Ne.symm this)).symm
      · have hpk : p.key ≠ e.key := by rw [← hk]; exact a1 e0 hm
        rw [List.filter_cons_of_pos (by simpa using hpk)]
        exact (List.Perm.cons _ (ih a2 hm)).trans (List.Perm.swap _ _ _)
  refine (List.perm_append_comm).trans ?_
  have h2 := h1.map (·.key)
  rw [List.map_cons, hk] at h2
  exact h2.symm
theorem putW_new {L : List EntW} {e : EntW} (hf : findW L e.key = none) : putW L e = L ++ [e] := by
  unfold putW dropW
  rw [List.filter_eq_self.2 (fun q hq => by simpa using findW_none hf q hq)]
/-- An entry is put, the clock being as it is. -/
theorem WantAt.put {w w1 w2 : World} {x kb c cb : Nat} {wait cnt cnt' : Int} {L : List EntW} {C C' : List (ByteArray × (Int × Int))} (h : WantAt w x kb c cb wait cnt L C) (e : EntW) (ho1 : Only (fun i => i = c ∨ i = cb) w w1) (hc : ClkIs w1 c cb 64 cnt' C') (ho2 : Only (fun i => i = kb) w1 w2)
    (hm : MapIs Try.prog 9 Value.string (fun v : Value => v) w2 kb (putL (prsW L) e.key e.v)) (hrow : w1.ownsRow 0 3 1 e.s e.has.length (rowI e.has)) (hs : (C'.map (·.1)).Perm ((putW L e).map (·.key))) (hsm : e.key.size ≤ maxLen ∧ e.has.length ≤ 64 ∧ e.has ≠ []) :
    WantAt w2 x kb c cb wait cnt' (putW L e) C' ∧ Only (footW kb c cb) w w2 := by
  obtain ⟨n1, n2, n3⟩ := h.nes
  have ho : Only (footW kb c cb) w w2 := (ho1.weaken (fun i _ e => .inr e)).trans (ho2.weaken (fun i _ e => .inl e))
  rw [put_prsW] at hm
  have hkb : ∀ k, (k = kb) → ∀ cs f, w1.heap[k]? ≠ some (.cells cs 3 f) := fun k e9 cs f e => by
    obtain ⟨es, q, hb⟩ := mapW_not (h.keys.kept ho1 (fun e => by rcases e with e | e; exact n2 e; exact h.ne e))
    rw [e9, hb] at e
    cases e
  refine ⟨⟨ho.old h.blk n1, hm, fun e' he => ?_, hc.kept ho2 (fun e => n2 (Eq.symm e)) (fun e => h.ne (Eq.symm e)), hs, h.ne, fun e' he => ?_⟩, ho⟩
  · rcases List.mem_append.1 he with he | he
    · exact row_kept (h.rows e' (List.mem_filter.1 he).1) ho h.foot_not
    · obtain rfl : e' = e := by simpa using he
      exact row_kept hrow ho2 hkb
  · rcases List.mem_append.1 he with he | he
    · exact h.small e' (List.mem_filter.1 he).1
    · obtain rfl : e' = e := by simpa using he
      exact hsm
/-- Only the clock has turned. -/
theorem WantAt.clkd {w w' : World} {x kb c cb : Nat} {wait cnt cnt' : Int} {L : List EntW} {C C' : List (ByteArray × (Int × Int))} (h : WantAt w x kb c cb wait cnt L C) (ho : Only (fun i => i = c ∨ i = cb) w w') (hc : ClkIs w' c cb 64 cnt' C') (hs : (C'.map (·.1)).Perm (L.map (·.key))) : WantAt w' x kb c cb wait cnt' L C' ∧ Only (footW kb c cb) w w' := by
  obtain ⟨n1, n2, n3⟩ := h.nes
  have ho' : Only (footW kb c cb) w w' := ho.weaken (fun i _ e => .inr e)
  exact ⟨⟨ho'.old h.blk n1, h.keys.kept ho (fun e => e.elim n2 h.ne), fun e he => row_kept (h.rows e he) ho' h.foot_not, hc, hs, h.ne, h.small⟩, ho'⟩
/-- A slice of one number, just made. -/
theorem row_one {w : World} {b : Nat} {n : Int} (h : w.heap[b]? = some (.cells #[.int .i64 n] 3 (0, 0))) : w.ownsRow 0 3 1 (.slice (some ⟨b, 0, none⟩) 1 1) 1 (rowI [n]) :=
  ⟨by simp [rowI], .inr ⟨b, 1, #[.int .i64 n], rfl, Nat.zero_le _, h, Nat.le_refl _, by unfold maxLen; omega, by simp, by simp [rowI]⟩⟩
/-- What Heard does. -/
def HStep (L : List EntW) (C : List (ByteArray × (Int × Int))) (cnt : Int) (L' : List EntW) (C' : List (ByteArray × (Int × Int))) (cnt' : Int) (k : ByteArray) (ver : Nat) (from_ : Int) (at_ : Int) (b : Bool) : Prop :=
  (b = false ∧ L' = L ∧ C' = C ∧ cnt' = cnt ∧ (from_ < 1 ∨ 65535 < from_ ∨ (findW L k = none ∧ 64 ≤ C.length) ∨ ∃ e, findW L k = some e ∧ (ver < e.ver ∨ (ver = e.ver ∧ from_ ∉ e.has ∧ 64 ≤ e.has.length)))) ∨
  (b = true ∧ 1 ≤ from_ ∧ from_ ≤ 65535 ∧ ((findW L k = none ∧ C.length < 64 ∧ (∃ a cap, L' = L ++ [⟨k, ver, [from_], a, cap⟩]) ∧ C' = C ++ [(k, (at_, cnt + 1))] ∧ cnt' = cnt + 1) ∨
    (∃ e, findW L k = some e ∧ C' = C ∧ cnt' = cnt ∧ ((e.ver < ver ∧ ∃ a cap, L' = putW L ⟨k, ver, [from_], a, cap⟩) ∨ (e.ver = ver ∧ from_ ∈ e.has ∧ L' = L) ∨ (e.ver = ver ∧ from_ ∉ e.has ∧ e.has.length < 64 ∧ ∃ a cap, L' = putW L ⟨k, ver, e.has ++ [from_], a, cap⟩)))))
/-- Each entry is one that was there, or its row lies in a new block. -/
def FreshW (w : World) (L L' : List EntW) : Prop := ∀ e ∈ L', e ∈ L ∨ ∀ g, e.s.ownBlock = some g → w.heap.size ≤ g
theorem fresh_put {w : World} {L : List EntW} {e : EntW} (h : ∀ g, e.s.ownBlock = some g → w.heap.size ≤ g) : FreshW w L (putW L e) := fun e' he => by
  rcases List.mem_append.1 he with he | he
  · exact .inl (List.mem_filter.1 he).1
  · obtain rfl : e' = e := by simpa using he
    exact .inr h
structure HPost (w w' : World) (x kb c cb : Nat) (wait cnt : Int) (L : List EntW) (C : List (ByteArray × (Int × Int))) (k : ByteArray) (ver : Nat) (from_ at_ : Int) (b : Bool) : Prop where
  out : ∃ L' C' cnt', WantAt w' x kb c cb wait cnt' L' C' ∧ Only (footW kb c cb) w w' ∧ HStep L C cnt L' C' cnt' k ver from_ at_ b ∧ FreshW w L L'
theorem HPost.same {w w' : World} {x kb c cb : Nat} {wait cnt : Int} {L : List EntW} {C : List (ByteArray × (Int × Int))} {k : ByteArray} {ver : Nat} {from_ at_ : Int} {b : Bool} (h : WantAt w x kb c cb wait cnt L C) (ho : Only (fun _ => False) w w') (hs : HStep L C cnt L C cnt k ver from_ at_ b) : HPost w w' x kb c cb wait cnt L C k ver from_ at_ b :=
  ⟨L, C, cnt, h.new ho, ho.weaken (fun _ _ => False.elim), hs, fun _ he => .inl he⟩
end Go.Proofs.Ytefadkmdfhjaeaa
