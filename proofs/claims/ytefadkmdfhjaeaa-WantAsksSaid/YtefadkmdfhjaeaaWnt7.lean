/- What is wanted, while the clock has lost keys that the map still has; what Due does to the lists. -/
import Derived.Test.YtefadkmdfhjaeaaWnt6
namespace Go.Proofs.Ytefadkmdfhjaeaa
open Go.Conc Go.RowKit Go.Maps

structure WantMid (w : World) (x kb c cb : Nat) (wait cnt : Int) (L : List EntW) (C : List (ByteArray × (Int × Int))) : Prop where
  blk : w.heap[x]? = some (.cells #[.map (some kb), .pointer (some ⟨c, 0, none⟩), .int .i64 wait] 68 (0, 0))
  keys : WMapW w kb L
  rows : ∀ e ∈ L, w.ownsRow 0 3 1 e.s e.has.length (rowI e.has)
  clk : ClkIs w c cb 64 cnt C
  ne : kb ≠ cb
  small : ∀ e ∈ L, e.key.size ≤ maxLen ∧ e.has.length ≤ 64 ∧ e.has ≠ []
section
variable {w w' w1 w2 : World} {x kb c cb : Nat} {wait cnt cnt' : Int} {L : List EntW} {C C' : List (ByteArray × (Int × Int))}
theorem WantAt.mid (h : WantAt w x kb c cb wait cnt L C) : WantMid w x kb c cb wait cnt L C := ⟨h.blk, h.keys, h.rows, h.clk, h.ne, h.small⟩
theorem WantMid.full (h : WantMid w x kb c cb wait cnt L C) (hs : (C.map (·.1)).Perm (L.map (·.key))) : WantAt w x kb c cb wait cnt L C := ⟨h.blk, h.keys, h.rows, h.clk, hs, h.ne, h.small⟩
theorem WantMid.new (h : WantMid w x kb c cb wait cnt L C) (ho : Only (fun _ => False) w w') : WantMid w' x kb c cb wait cnt L C :=
  ⟨ho.old h.blk id, h.keys.kept ho id, fun e he => row_kept (h.rows e he) ho (fun _ => False.elim), h.clk.kept ho id id, h.ne, h.small⟩
theorem WantMid.foot_not (h : WantMid w x kb c cb wait cnt L C) : ∀ k, footW kb c cb k → ∀ cs f, w.heap[k]? ≠ some (.cells cs 3 f) := by
  intro k hk cs f e
  rcases hk with rfl | rfl | rfl
  · obtain ⟨es, c, hb⟩ := mapW_not h.keys; rw [hb] at e; cases e
  · rw [h.clk.blk] at e; cases e
  · obtain ⟨es, c, hb⟩ := mapW_not h.clk.map; rw [hb] at e; cases e
theorem WantMid.nes (h : WantMid w x kb c cb wait cnt L C) : ¬ footW kb c cb x ∧ kb ≠ c ∧ c ≠ cb := by
  obtain ⟨es, q, hb⟩ := mapW_not h.keys
  obtain ⟨es', q', hb'⟩ := mapW_not h.clk.map
  refine ⟨fun hk => ?_, fun e => ?_, h.clk.ne⟩
  · have hx := h.blk
    rcases hk with rfl | rfl | rfl
    · rw [hb] at hx; cases hx
    · rw [h.clk.blk] at hx; cases hx
    · rw [hb'] at hx; cases hx
  · rw [e, h.clk.blk] at hb; cases hb
theorem WantMid.noStr (h : WantMid w x kb c cb wait cnt L C) : ∀ g, footW kb c cb g → ∀ i s, w.cell? ⟨g, i, none⟩ ≠ some (.string s) := by
  intro g hg i s e
  rcases hg with rfl | rfl | rfl
  · obtain ⟨es, q, hb⟩ := mapW_not h.keys
    simp [World.cell?, hb] at e
  · rw [cell_at h.clk.blk] at e
    rcases i with _ | _ | _ | i <;> simp at e
  · obtain ⟨es, q, hb⟩ := mapW_not h.clk.map
    simp [World.cell?, hb] at e
theorem WantMid.apart (h : WantMid w x kb c cb wait cnt L C) : L.Pairwise (fun p q => p.key ≠ q.key) := by
  have := h.keys.apart
  unfold prsW at this
  rw [List.pairwise_map] at this
  exact this
/-- The clock alone has turned. -/
theorem WantMid.clkd (h : WantMid w x kb c cb wait cnt L C) (ho : Only (fun i => i = c ∨ i = cb) w w') (hc : ClkIs w' c cb 64 cnt' C') : WantMid w' x kb c cb wait cnt' L C' ∧ Only (footW kb c cb) w w' := by
  obtain ⟨n1, n2, n3⟩ := h.nes
  have ho' : Only (footW kb c cb) w w' := ho.weaken (fun i _ e => .inr e)
  exact ⟨⟨ho'.old h.blk n1, h.keys.kept ho (fun e => e.elim n2 h.ne), fun e he => row_kept (h.rows e he) ho' h.foot_not, hc, h.ne, h.small⟩, ho'⟩
/-- A key is struck out of the keys. -/
theorem WantMid.drop (h : WantMid w x kb c cb wait cnt L C) (k : ByteArray) (ho : Only (fun i => i = kb) w w') (hm : MapIs Try.prog 9 Value.string (fun v : Value => v) w' kb (dropL (prsW L) k)) : WantMid w' x kb c cb wait cnt (dropW L k) C ∧ Only (footW kb c cb) w w' := by
  obtain ⟨n1, n2, n3⟩ := h.nes
  have ho' : Only (footW kb c cb) w w' := ho.weaken (fun i _ e => .inl e)
  rw [drop_prsW] at hm
  exact ⟨⟨ho'.old h.blk n1, hm, fun e he => row_kept (h.rows e (List.mem_filter.1 he).1) ho' h.foot_not, h.clk.kept ho (fun e => n2 (Eq.symm e)) (fun e => h.ne (Eq.symm e)), h.ne, fun e he => h.small e (List.mem_filter.1 he).1⟩, ho'⟩
/-- An entry is put. -/
theorem WantMid.put (h : WantMid w x kb c cb wait cnt L C) (e : EntW) (ho : Only (fun i => i = kb) w w') (hm : MapIs Try.prog 9 Value.string (fun v : Value => v) w' kb (putL (prsW L) e.key e.v)) (hrow : w.ownsRow 0 3 1 e.s e.has.length (rowI e.has)) (hsm : e.key.size ≤ maxLen ∧ e.has.length ≤ 64 ∧ e.has ≠ []) : WantMid w' x kb c cb wait cnt (putW L e) C ∧ Only (footW kb c cb) w w' := by
  obtain ⟨n1, n2, n3⟩ := h.nes
  have ho' : Only (footW kb c cb) w w' := ho.weaken (fun i _ e => .inl e)
  rw [put_prsW] at hm
  have hf := fun j (hj : j = kb) => h.foot_not j (.inl hj)
  refine ⟨⟨ho'.old h.blk n1, hm, fun e' he => ?_, h.clk.kept ho (fun e => n2 (Eq.symm e)) (fun e => h.ne (Eq.symm e)), h.ne, fun e' he => ?_⟩, ho'⟩
  · rcases List.mem_append.1 he with he | he
    · exact row_kept (h.rows e' (List.mem_filter.1 he).1) ho' h.foot_not
    · obtain rfl : e' = e := by simpa using he
      exact row_kept hrow ho hf
  · rcases List.mem_append.1 he with he | he
    · exact h.small e' (List.mem_filter.1 he).1
    · obtain rfl : e' = e := by simpa using he
      exact hsm
end
/-- An ask: whom, for what. -/
structure AskT where
  whom : Int
  key : ByteArray
  ver : Nat
/-- What Due does, key by key. -/
inductive DRun (at_ : Int) (L : List EntW) (C : List (ByteArray × (Int × Int))) (cnt : Int) : List ByteArray → List AskT → List EntW → List (ByteArray × (Int × Int)) → Int → Prop
  | nil : DRun at_ L C cnt [] [] L C cnt
  | drop {D : List ByteArray} {A : List AskT} {L1 : List EntW} {C1 : List (ByteArray × (Int × Int))} {cnt1 : Int} {y : ByteArray} {e : EntW} {h : Int} : DRun at_ L C cnt D A L1 C1 cnt1 → findW L1 y = some e → e.has = [h] → DRun at_ L C cnt (D ++ [y]) (A ++ [⟨h, y, e.ver⟩]) (dropW L1 y) C1 cnt1
  | keep {D : List ByteArray} {A : List AskT} {L1 : List EntW} {C1 : List (ByteArray × (Int × Int))} {cnt1 : Int} {y : ByteArray} {e : EntW} {h : Int} {t : List Int} {a : Option Addr} {cap : Nat} : DRun at_ L C cnt D A L1 C1 cnt1 → findW L1 y = some e → e.has = h :: t → t ≠ [] → DRun at_ L C cnt (D ++ [y]) (A ++ [⟨h, y, e.ver⟩]) (putW L1 ⟨y, e.ver, t, a, cap⟩) (C1 ++ [(y, (at_, cnt1 + 1))]) (cnt1 + 1)
def askC (q : AskT) : List Value := [.int .i64 q.whom, .string q.key, .int .u64 q.ver]
theorem askC_one (q : AskT) : ∀ u ∈ askC q, u.oneCell' = true := by
  intro u hu
  simp only [askC, List.mem_cons, List.not_mem_nil, or_false] at hu
  rcases hu with rfl | rfl | rfl <;> rfl
end Go.Proofs.Ytefadkmdfhjaeaa
