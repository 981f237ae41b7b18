/- Appends and blocks in regions that draw. -/
import Derived.Test.YtefadkmdfhjaeaaSlices
import Derived.Deep.RegionLaw
namespace Go.Proofs.Ytefadkmdfhjaeaa
open Go.Conc Go.RowKit

/-- append onto a slice of the call's own, as one step of a region that draws. -/
theorem step_append_src {P : Program} {ops : Array Oper} {o : Oper} {a : Act} {w : World} {K : Act → World → Prop} {Q : Exit → Act → World → Prop} {E : Prop} (hgd : o.guard = none) (s x : Operand) (t tx : TypeId)
    (ho : o.op = .call { callee := .builtin .append, args := #[s, x], argTypes := #[t, tx] })
    (base : Nat) (e : TypeId) (i : TypeInfo) (z : Value) (size bytes : Nat) (ht : P.underlying t = some (.slice e)) (hi : P.info? e = some i) (hz : i.zero = some z)
    (hsize : i.size = size) (hby : i.bytes = bytes) (hzs : z.cells.size = size)
    (v : Value) (n : Nat) (xs : List Value) (hv : a.eval s = v) (hown : w.ownsRow base e size v n xs) (xv : Value) (m : Nat) (news : List Value) (hx : a.eval x = xv) (hs : Src P size tx xv m news w)
    (h63 : n + m ≤ maxLen) (hbytes : (n + m) * bytes ≤ 140737488355328) (hbase : base ≤ w.heap.size)
    (h : ∀ v' w', w'.ownsRow base e size v' (n + m) (xs ++ news) → w.grownBy w' v.ownBlock → (∀ k, v.ownBlock = some k → base ≤ k) → K (a.put o.dst v') w') :
    if Region.wanted o (yielded ops a.tmps) = true then Oper.wp P o a w K Q else E := by
  have hw : Region.wanted o (yielded ops a.tmps) = true := by simp [Region.wanted, hgd]
  rw [if_pos hw]
  obtain ⟨v', w', hr, h2, h3, h4⟩ := run_append_src (P := P) w base t tx o.type e i z size bytes ht hi hz hsize hby hzs v n xs hown xv m news hs h63 hbytes hbase
  unfold Oper.wp execOp
  simp only [ho, resolve, invoke, builtin, Sem.run_bind, Sem.run_pure, Result.andThen_ok, List.map_toArray, List.map_cons, List.map_nil, hv, hx, hr]
  exact h v' w' h2 h3 (fun k e => (hown.lt k e).1)
theorem own_at {w : World} {g : Nat} {e : TypeId} (hg : w.heap[g]? = some (.cells #[] e)) (base size : Nat) (hb : base ≤ g) : w.ownsRow base e size (.slice (some ⟨g, 0, none⟩) 0 0) 0 [] :=
  ⟨by simp, .inr ⟨g, 0, #[], rfl, hb, hg, Nat.le_refl _, Nat.zero_le _, by simp, by simp⟩⟩
theorem news_at {w : World} {g : Nat} {e : TypeId} {cs : List Value} (hg : w.heap[g]? = some (.cells cs.toArray e)) : ∀ j u, cs[j]? = some u → w.cell? ((⟨g, 0, none⟩ : Addr).add j) = some u := by
  intro j u hu
  rw [Addr.add_lit, cell_at hg]
  simpa using hu

theorem heapA (w : World) (o : Obj) (B : Nat) (hB : B = w.heap.size) : (w.alloc o).drew.heap[B]? = some o := by subst hB; exact heap_alloc_new w o
theorem heapB (w : World) (o o' : Obj) (B : Nat) (hB : B = w.heap.size) : ((w.alloc o).alloc o').drew.heap[B]? = some o := by
  subst hB
  exact (Below.heap_alloc _ _ _ (by simp)).trans (heap_alloc_new w o)
theorem heapC (w : World) (o o' : Obj) (B : Nat) (hB : B = w.heap.size + 1) : ((w.alloc o).alloc o').drew.heap[B]? = some o' := by
  have h : B = (w.alloc o).heap.size := by simp [hB]
  subst h
  exact heap_alloc_new (w.alloc o) o'
theorem news_kept {w w1 : World} {g h : Nat} {e : TypeId} {cs : List Value} {r : Option Nat} (hw : w.grownBy w1 r) (hg : w.heap[h]? = some (.cells cs.toArray e)) (hr : r = some g) (hne : h ≠ g) : w1.heap[h]? = some (.cells cs.toArray e) := by
  rw [hw.block h (lt_of_block hg) (by rw [hr]; intro e; injection e with e; exact hne (by omega))]
  exact hg
end Go.Proofs.Ytefadkmdfhjaeaa
