/- slices.DeleteFunc at rows of ints, whatever the closure. -/
import Derived.Test.YtegechmdboccbaaGreatDoorRA
import Derived.Test.YtegechmdboccbaaGreatDoorShelf
import Derived.Test.YtegechmdboccbaaGreatDoorShelfN
import Derived.Laws.Tables
import Derived.Laws.Rows
import Derived.Great.BuildSlice
import Derived.Shelf.SlSortCmp.Whole1
import Derived.Shelf.SlicesE.DeleteFunc
/-! Appends in regions: what is kept beside the row that is appended to. -/
namespace Go.Proofs.YtegechmdboccbaaGreatDoor
open Go.Conc Go.RowKit

theorem ownsDr {w : World} {base : Nat} {e : TypeId} {size n : Nat} {v : Value} {xs : List Value} (h : w.ownsRow base e size v n xs) : w.drew.ownsRow base e size v n xs := owns_only h ((Only.refl (fun _ => False) w).drew) (fun _ _ => id)
theorem ownsAl {w : World} {base : Nat} {e : TypeId} {size n : Nat} {v : Value} {xs : List Value} (h : w.ownsRow base e size v n xs) (o : Obj) : (w.alloc o).ownsRow base e size v n xs := owns_only h ((Only.refl (fun _ => False) w).alloc o) (fun _ _ => id)
/-- A block of another kind than the row's. -/
theorem blkGr {w w' : World} {b : Nat} {cs : Array Value} {e e' : TypeId} {f : Nat × Nat} {base size n : Nat} {v : Value} {xs : List Value} (hb : w.heap[b]? = some (.cells cs e f)) (hv : w.ownsRow base e' size v n xs) (hne : e' ≠ e) (hg : w.grownBy w' v.ownBlock) : w'.heap[b]? = some (.cells cs e f) := by
  rw [hg.block b (lt_of_block hb) (fun h => by
    rcases hv.2 with ⟨rfl, _⟩ | ⟨g, cap, cur, rfl, _, hgb, _⟩
    · cases h
    · simp only [Value.ownBlock, Option.some.injEq] at h
      subst h
      rw [hb] at hgb
      simp only [Option.some.injEq, Obj.cells.injEq] at hgb
      exact hne hgb.2.1.symm)]
  exact hb
/-- A block with another number than the row's. -/
theorem blkGrN {w w' : World} {b g n cap : Nat} {o : Obj} (hb : w.heap[b]? = some o) (hne : g ≠ b) (hg : w.grownBy w' (Value.slice (some ⟨g, 0, none⟩) n cap).ownBlock) : w'.heap[b]? = some o := by
  rw [hg.block b (lt_of_block hb) (fun h => hne (by simpa [Value.ownBlock, eq_comm] using h))]
  exact hb
/-- A row of another kind than the one that is appended to. -/
theorem ownsGr {w w' : World} {b' base size n base' size' n' : Nat} {e e' : TypeId} {v v' : Value} {xs xs' : List Value} (h : w.ownsRow base e size v n xs) (hv : w.ownsRow base' e' size' v' n' xs') (hne : e' ≠ e) (hg : w.grownBy w' v'.ownBlock) (hb' : b' = base) : w'.ownsRow b' e size v n xs := by
  subst hb'
  refine ⟨h.1, ?_⟩
  rcases h.2 with h2 | ⟨g, cap, cur, rfl, hb, hgb, r⟩
  · exact .inl h2
  · exact .inr ⟨g, cap, cur, rfl, hb, blkGr hgb hv hne hg, r⟩
theorem ownsBase {w : World} {base base' size n : Nat} {e : TypeId} {v : Value} {xs : List Value} (h : w.ownsRow base e size v n xs) (hb : base' ≤ base) : w.ownsRow base' e size v n xs := by
  refine ⟨h.1, ?_⟩
  rcases h.2 with h2 | ⟨g, cap, cur, rfl, hb2, r⟩
  · exact .inl h2
  · exact .inr ⟨g, cap, cur, rfl, Nat.le_trans hb hb2, r⟩
/-- A row of another kind than the blocks that turn. -/
theorem owns_ty {S : Nat → Prop} {w w' : World} {base size n : Nat} {e : TypeId} {v : Value} {xs : List Value} (h : w.ownsRow base e size v n xs) (ho : Only S w w') (hn : ∀ k, S k → ∀ cs f, w.heap[k]? ≠ some (.cells cs e f)) : w'.ownsRow base e size v n xs := by
  refine ⟨h.1, ?_⟩
  rcases h.2 with h2 | ⟨g, cap, cur, rfl, hb, hg, r⟩
  · exact .inl h2
  · exact .inr ⟨g, cap, cur, rfl, hb, ho.old hg (fun hs => hn g hs _ _ hg), r⟩
/-- A row in another block than those that turn. -/
theorem owns_n {S : Nat → Prop} {w w' : World} {base size n : Nat} {e : TypeId} {v : Value} {xs : List Value} (h : w.ownsRow base e size v n xs) (ho : Only S w w') (hn : ∀ k, v.ownBlock = some k → ¬ S k) : w'.ownsRow base e size v n xs := by
  refine ⟨h.1, ?_⟩
  rcases h.2 with h2 | ⟨g, cap, cur, rfl, hb, hg, r⟩
  · exact .inl h2
  · exact .inr ⟨g, cap, cur, rfl, hb, ho.old hg (hn g rfl), r⟩
theorem cells_not {w : World} {b : Nat} {cs : Array Value} {t e : TypeId} {f : Nat × Nat} (h : w.heap[b]? = some (.cells cs t f)) (hne : t ≠ e) : ∀ k, k = b → ∀ cs' f', w.heap[k]? ≠ some (.cells cs' e f') := by
  rintro k rfl cs' f' h2
  rw [h] at h2
  simp only [Option.some.injEq, Obj.cells.injEq] at h2
  exact hne h2.2.1
/-- append as one step of a region that draws; where the new row lies. -/
theorem stepAppend {P : Program} {ops : Array Oper} {o : Oper} {a : Act} {w : World} {K : Act → World → Prop} {Q : Exit → Act → World → Prop} {E : Prop} (hgd : o.guard = none) (s x : Operand) (t tx : TypeId)
    (ho : o.op = .call { callee := .builtin .append, args := #[s, x], argTypes := #[t, tx] })
    (base : Nat) (e : TypeId) (i : TypeInfo) (z : Value) (size bytes : Nat) (ht : P.underlying t = some (.slice e)) (hi : P.info? e = some i) (hz : i.zero = some z)
    (hsize : i.size = size) (hby : i.bytes = bytes) (hzs : z.cells.size = size)
    (v : Value) (n : Nat) (xs : List Value) (hv : a.eval s = v) (hown : w.ownsRow base e size v n xs) (xv : Value) (m : Nat) (news : List Value) (hx : a.eval x = xv) (hs : Src P size tx xv m news w)
    (h63 : n + m ≤ maxLen) (hbytes : (n + m) * bytes ≤ 140737488355328) (hbase : base ≤ w.heap.size)
    (h : ∀ v' w', w'.ownsRow base e size v' (n + m) (xs ++ news) → w.grownBy w' v.ownBlock → (∀ k, v'.ownBlock = some k → v.ownBlock = some k ∨ w.heap.size ≤ k) → K (a.put o.dst v') w') :
    if Region.wanted o (yielded ops a.tmps) = true then Oper.wp P o a w K Q else E := by
  have hw : Region.wanted o (yielded ops a.tmps) = true := by simp [Region.wanted, hgd]
  rw [if_pos hw]
  obtain ⟨v', w', hr, h2, h3, h4⟩ := run_append_src (P := P) w base t tx o.type e i z size bytes ht hi hz hsize hby hzs v n xs hown xv m news hs h63 hbytes hbase
  unfold Oper.wp execOp
  simp only [ho, resolve, invoke, builtin, Sem.run_bind, Sem.run_pure, Result.andThen_ok, List.map_toArray, List.map_cons, List.map_nil, hv, hx, hr]
  exact h v' w' h2 h3 h4
theorem ownKind {w : World} {base : Nat} {e : TypeId} {size n : Nat} {v : Value} {xs : List Value} (h : w.ownsRow base e size v n xs) {k : Nat} (hk : v.ownBlock = some k) : base ≤ k ∧ k < w.heap.size ∧ ∃ cs f, w.heap[k]? = some (.cells cs e f) := by
  rcases h.2 with ⟨h2, _⟩ | ⟨g, cap, cur, rfl, hb, hg, _⟩
  · rw [h2] at hk; cases hk
  · have : g = k := by simpa [Value.ownBlock] using hk
    subst this
    exact ⟨hb, lt_of_block hg, _, _, hg⟩
/-- The row's block is none of another kind. -/
theorem ownKind_ne {w : World} {base : Nat} {e t : TypeId} {size n : Nat} {v : Value} {xs : List Value} (h : w.ownsRow base e size v n xs) (hne : e ≠ t) : ∀ k, v.ownBlock = some k → ∀ cs f, w.heap[k]? ≠ some (.cells cs t f) := fun k hk cs f h2 => by
  obtain ⟨_, _, cs', f', h3⟩ := ownKind h hk
  rw [h3] at h2
  simp only [Option.some.injEq, Obj.cells.injEq] at h2
  exact hne h2.2.1
/-- The row's block is not one that is of another kind. -/
theorem ownKind_not {w : World} {base b : Nat} {e t : TypeId} {size n : Nat} {v : Value} {xs : List Value} {cs : Array Value} {f : Nat × Nat} (h : w.ownsRow base e size v n xs) (hb : w.heap[b]? = some (.cells cs t f)) (hne : e ≠ t) : ¬ v.ownBlock = some b := fun hk => ownKind_ne h hne b hk _ _ hb
end Go.Proofs.YtegechmdboccbaaGreatDoor
/-! Rows of ints that are read: Clone, BinarySearch, whatever they hold. -/
namespace Go.Proofs.YtegechmdboccbaaGreatDoor
open Go.Conc Go.RowKit Go.Maps

/-- A row of ints of its own (nobody writes it once it is handed on). -/
def IR (w : World) (v : Value) (l : List Int) : Prop := w.ownsRow 0 3 1 v l.length (rowI l)
theorem IR.new {w w' : World} {v : Value} {l : List Int} (h : IR w v l) (ho : Only (fun _ => False) w w') : IR w' v l := owns_only h ho (fun _ _ => id)
theorem IR.kept {S : Nat → Prop} {w w' : World} {v : Value} {l : List Int} (h : IR w v l) (ho : Only S w w') (hn : ∀ k, S k → ∀ cs f, w.heap[k]? ≠ some (.cells cs 3 f)) : IR w' v l := owns_ty h ho hn
theorem IR.of {w : World} {base : Nat} {v : Value} {l : List Int} (h : w.ownsRow base 3 1 v l.length (rowI l)) : IR w v l := ownsBase h (Nat.zero_le _)
theorem IR.nil (w : World) : IR w (.slice none 0 0) [] := World.ownsRow_nil w 0 _ 1
theorem IR.sl {w : World} {v : Value} {l : List Int} (h : IR w v l) : Sl w 1 v l.length (rowI l) := Sl.of_owns h
theorem IR.form {w : World} {v : Value} {l : List Int} (h : IR w v l) : ∃ a cap, v = .slice a l.length cap ∧ l.length ≤ cap ∧ cap ≤ maxLen ∧ IntsAt w a l := by
  have h2 := h.sl
  obtain ⟨_, a, cap, rfl, h3, h4, h5⟩ := id h2
  exact ⟨a, cap, rfl, h3, h4, (Sl.intsAt h2).2.2.2⟩
theorem IR.cells {w : World} {v : Value} {l : List Int} (h : IR w v l) (hl : l ≠ []) : ∃ g cap, v = .slice (some ⟨g, 0, none⟩) l.length cap ∧ l.length ≤ cap ∧ cap ≤ maxLen ∧ ∀ j, j < l.length → w.cell? ⟨g, 0 + j, none⟩ = some (.int .i64 (l.getD j 0)) := by
  obtain ⟨g, cap, cur, rfl, _, hg, h1, h2, _, ht⟩ := row_form h (fun e => hl (by unfold rowI at e; exact List.map_eq_nil_iff.1 e))
  refine ⟨g, cap, rfl, h1, h2, fun j hj => ?_⟩
  have h3 : (rowI l)[j]? = some (.int .i64 (l.getD j 0)) := by
    rw [rowI_at l j hj, List.getD_eq_getElem?_getD, List.getElem?_eq_getElem hj]
    rfl
  rw [Nat.zero_add, cell_at hg]
  rw [← ht, Nat.mul_one, List.getElem?_take_of_lt hj] at h3
  simpa using h3
theorem IR.empty {w : World} {v : Value} (h : IR w v []) : v = .slice none 0 0 ∨ ∃ a cap, v = .slice (some a) 0 cap := by
  rcases h.2 with ⟨h2, _⟩ | ⟨g, cap, cur, h2, _⟩
  · exact .inl h2
  · exact .inr ⟨_, cap, h2⟩
theorem IntsAt.new {w w' : World} {a : Option Addr} {l : List Int} (h : IntsAt w a l) (ho : Only (fun _ => False) w w') : IntsAt w' a l :=
  ⟨h.out.imp_right fun ⟨b, off, e, hc⟩ => ⟨b, off, e, fun k hk => ho.cell (hc k hk) id⟩⟩
theorem clone_sl (w : World) (v : Value) (l : List Int) (h : Sl w 1 v l.length (rowI l)) (hb : l.length ≤ 1000000) :
    Calls Tryz.prog 37 #[v] w fun e w' => ∃ v', e = .returned v' ∧ w'.ownsRow w.heap.size 3 1 v' l.length (rowI l) ∧ Only (fun _ => False) w w' := by
  obtain ⟨_, a, cap, rfl, _, _, h5⟩ := h
  by_cases hl : l = []
  · subst hl
    cases a with
    | none =>
      refine (Tryz.slices_Clone_int_nil 0 cap w).mono ?_
      rintro e w' ⟨rfl, rfl⟩
      exact ⟨_, rfl, World.ownsRow_nil _ _ _ _, Only.refl _ _⟩
    | some a =>
      refine (Tryz.slices_Clone_int_zero a cap w).mono ?_
      rintro e w' ⟨v', rfl, h1, _, h3⟩
      exact ⟨v', rfl, h1, Only.of_below h3⟩
  · rcases h5 with h5 | ⟨b, off, rfl, hc⟩
    · exact absurd (List.eq_nil_of_length_eq_zero h5) hl
    · refine (Tryz.slices_Clone_int b off l.length cap l w (Nat.le_refl _) (by omega) (fun j hj => hc j _ ?_)).mono ?_
      · rw [rowI_at l j hj, List.getD_eq_getElem?_getD, List.getElem?_eq_getElem hj]
        rfl
      · rintro e w' ⟨v', rfl, h1, _, h3⟩
        rw [List.take_length] at h1
        exact ⟨v', rfl, h1, Only.of_below h3⟩
theorem clone_ir (w : World) (v : Value) (l : List Int) (h : IR w v l) (hb : l.length ≤ 1000000) :
    Calls Tryz.prog 37 #[v] w fun e w' => ∃ v', e = .returned v' ∧ w'.ownsRow w.heap.size 3 1 v' l.length (rowI l) ∧ Only (fun _ => False) w w' := clone_sl w v l h.sl hb
theorem bs_ir (w : World) (v : Value) (l : List Int) (h : IR w v l) (hs : l.Pairwise (· < ·)) (hb : l.length ≤ 1000000) (x : Int) :
    Calls Tryz.prog 53 #[v, .int .i64 x] w fun e w' => e = .returned (.tuple #[.int .i64 (l.countP (· < x) : Nat), .bool (l.contains x)]) ∧ Only (fun _ => False) w w' := by
  by_cases hl : l = []
  · subst hl
    obtain ⟨a, cap, rfl, _⟩ := h.form
    refine (Tryz.slices_BinarySearch_int_empty a cap x w).mono ?_
    rintro e w' ⟨rfl, rfl⟩
    exact ⟨rfl, Only.refl _ _⟩
  · obtain ⟨g, cap, rfl, _, _, hc⟩ := h.cells hl
    refine (Tryz.slices_BinarySearch_int g 0 l.length cap l x w (Nat.le_refl _) (by omega) hc (by rw [List.take_length]; exact hs.imp (fun h => by omega))).mono ?_
    rintro e w' ⟨rfl, q, rfl⟩
    rw [List.take_length]
    exact ⟨rfl, (Only.refl _ _).drewN q⟩
end Go.Proofs.YtegechmdboccbaaGreatDoor
/-! Sets of nodes: New, All, Has. -/
namespace Go.Proofs.YtegechmdboccbaaGreatDoor
open Go.Conc Go.RowKit Go.Maps

/-- A set's value. -/
def setV (v : Value) (m : Int) : Value := .agg #[v, .int .i64 m]
/-- What a set may hold. -/
structure SetOk (m : Int) (l : List Int) : Prop where
  up : l.Pairwise (· < ·)
  node : ∀ x ∈ l, 1 ≤ x ∧ x ≤ 65535
  room : (l.length : Int) ≤ m
  most : m ≤ 64
theorem SetOk.nil (m : Int) (h0 : 0 ≤ m) (h : m ≤ 64) : SetOk m [] := ⟨List.Pairwise.nil, (fun _ h => by cases h), h0, h⟩
theorem SetOk.len {m : Int} {l : List Int} (h : SetOk m l) : l.length ≤ 64 := by have := h.room; have := h.most; omega
def capN (n : Int) : Int := min (max n 0) 64
theorem nsnew_any (w : World) (n : Int) : Calls Tryz.prog 116 #[.int .i64 n] w fun e w' => e = .returned (setV (.slice none 0 0) (capN n)) ∧ Only (fun _ => False) w w' := by
  unfold setV capN
  go_enter Tryz.func116, Tryz.ntmps116
  go_wp2_with fail
  refine bodyPost_ret (v := .agg #[.slice none 0 0, .int .i64 (min (max n 0) 64)]) (by simp [results, Tryz.results116, go_sem]) rfl ?_
  exact ⟨rfl, by (repeat (first | (with_reducible assumption) | (with_reducible exact Only.refl _ _) | (with_reducible refine Only.drew ?_) | (with_reducible refine Only.alloc ?_ _) | (with_reducible refine onlySet ?_ (by first | (with_reducible assumption) | omega) _) | (with_reducible refine Only.trans ?_ (by with_reducible assumption))))⟩
theorem nsall_any (w : World) (v : Value) (m : Int) (l : List Int) (h : IR w v l) (hb : l.length ≤ 1000000) :
    Calls Tryz.prog 18 #[setV v m] w fun e w' => ∃ v', e = .returned v' ∧ w'.ownsRow w.heap.size 3 1 v' l.length (rowI l) ∧ Only (fun _ => False) w w' := by
  unfold setV
  obtain ⟨a, cap, rfl, _, _, _⟩ := id h.form
  obtain ⟨W, hW⟩ : ∃ W, W = w.alloc (.cells #[.slice a l.length cap, .int .i64 m] 58) := ⟨_, rfl⟩
  have hbW : W.heap[w.heap.size]? = some (.cells #[.slice a l.length cap, .int .i64 m] 58 (0, 0)) := by rw [hW]; exact heap_alloc_new w _
  have hoW : Only (fun _ => False) w W := by rw [hW]; exact (Only.refl _ _).alloc _
  have hsW : W.heap.size = w.heap.size + 1 := by rw [hW]; simp
  have HC := Lib.hid (clone_ir W _ l (h.new hoW) hb)
  have HO := Lib.hid hoW
  have HS := Lib.hid hsW
  have HB := Lib.hid hbW
  clear hoW hsW hbW
  clear h
  go_enter Tryz.func18, Tryz.ntmps18
  go_upto_region 1 with (fail)
  rw [← hW]
  clear hW
  have x0 : W.cell? ⟨w.heap.size, 0, none⟩ = some (.slice a l.length cap) := cell_at HB.out 0
  go_wp2_with fail
  refine HC.out.mono ?_
  rintro e w1 ⟨v', rfl, h1, ho1⟩
  have h2 := Lib.hid (ownsBase h1 (show w.heap.size ≤ W.heap.size by rw [HS.out]; omega))
  have h3 := Lib.hid (HO.out.trans ho1)
  clear h1 ho1 x0
  go_wp2_with fail
  go_ret
  exact ⟨_, rfl, h2.out, h3.out⟩
theorem nshas_any (w : World) (v : Value) (m : Int) (l : List Int) (h : IR w v l) (hs : l.Pairwise (· < ·)) (hb : l.length ≤ 1000000) (x : Int) :
    Calls Tryz.prog 38 #[setV v m, .int .i64 x] w fun e w' => e = .returned (.bool (l.contains x)) ∧ Only (fun _ => False) w w' := by
  unfold setV
  obtain ⟨a, cap, rfl, _, _, _⟩ := id h.form
  obtain ⟨W, hW⟩ : ∃ W, W = w.alloc (.cells #[.slice a l.length cap, .int .i64 m] 58) := ⟨_, rfl⟩
  have hbW : W.heap[w.heap.size]? = some (.cells #[.slice a l.length cap, .int .i64 m] 58 (0, 0)) := by rw [hW]; exact heap_alloc_new w _
  have hoW : Only (fun _ => False) w W := by rw [hW]; exact (Only.refl _ _).alloc _
  have hsW : W.heap.size = w.heap.size + 1 := by rw [hW]; simp
  have HC := Lib.hid (bs_ir W _ l (h.new hoW) hs hb x)
  have HO := Lib.hid hoW
  have HS := Lib.hid hsW
  have HB := Lib.hid hbW
  clear hoW hsW hbW
  clear h
  generalize l.contains x = r at *
  generalize l.countP (· < x) = q at *
  go_enter Tryz.func38, Tryz.ntmps38
  go_upto_region 1 with (fail)
  rw [← hW]
  clear hW
  have x0 : W.cell? ⟨w.heap.size, 0, none⟩ = some (.slice a l.length cap) := cell_at HB.out 0
  go_wp2_with fail
  refine HC.out.mono ?_
  rintro e w1 ⟨rfl, ho1⟩
  have h3 := Lib.hid (HO.out.trans ho1)
  clear ho1 x0
  go_wp2_with fail
  go_ret
  exact ⟨rfl, h3.out⟩
end Go.Proofs.YtegechmdboccbaaGreatDoor
/-! overlay: which configs may be. -/
namespace Go.Proofs.YtegechmdboccbaaGreatDoor
open Go.Conc Go.RowKit Go.Maps Go.Shelf

def inB (n lo hi : Int) : Bool := decide (lo ≤ n ∧ n ≤ hi)
theorem oin_any (w : World) (n lo hi : Int) : Calls Tryz.prog 91 #[.int .i64 n, .int .i64 lo, .int .i64 hi] w fun e w' => e = .returned (.bool (inB n lo hi)) ∧ w = w' := by
  by_cases h1 : lo ≤ n
  · by_cases h2 : n ≤ hi
    · have h3 : inB n lo hi = true := decide_eq_true ⟨h1, h2⟩
      rw [h3]
      clear h3
      go_enter Tryz.func91, Tryz.ntmps91
      go_wp2_with fail
      go_ret
      exact ⟨rfl, rfl⟩
    · have h3 : inB n lo hi = false := decide_eq_false (fun h => h2 h.2)
      rw [h3]
      clear h3
      go_enter Tryz.func91, Tryz.ntmps91
      go_wp2_with fail
      go_ret
      exact ⟨rfl, rfl⟩
  · have h3 : inB n lo hi = false := decide_eq_false (fun h => h1 h.1)
    rw [h3]
    clear h3
    go_enter Tryz.func91, Tryz.ntmps91
    go_wp2_with fail
    go_ret
    exact ⟨rfl, rfl⟩
theorem ogoodc_any (w : World) (n : Int) : Calls Tryz.prog 114 #[.int .i64 n] w fun e w' => e = .returned (.bool (!inB n 1 65535)) ∧ w = w' := by
  have hi := oin_any w n 1 65535
  generalize inB n 1 65535 = q at *
  have HI := Lib.hid hi
  clear hi
  go_enter Tryz.func114, Tryz.ntmps114
  go_wp2_with fail
  refine HI.out.mono ?_
  rintro e w1 ⟨rfl, rfl⟩
  go_wp2_with fail
  go_ret
  exact ⟨rfl, rfl⟩
theorem enter_ogoodc : ∀ args w, (callFunc 114 args).run Tryz.prog w = .ok (.enter 114 args) w := enters_of Tryz.func114 (by kernel_rfl) rfl
/-- Some number among a slice's that is no node's. -/
theorem conf_sl (w : World) (v : Value) (l : List Int) (h : Sl w 1 v l.length (rowI l)) (hb : l.length ≤ 1000000) :
    Calls Tryz.prog 113 #[v, .func (.func 114) #[] #[]] w fun e w' => e = .returned (.bool (l.any (fun n => !inB n 1 65535))) ∧ Only (fun _ => False) w w' := by
  obtain ⟨_, a, cap, rfl, _, _, h5⟩ := h
  by_cases hl : l = []
  · subst hl
    refine (AnyE.slices_ContainsFunc_empty Tryz.conFI a cap _ w).mono ?_
    rintro e w' ⟨rfl, rfl⟩
    exact ⟨rfl, Only.refl _ _⟩
  · rcases h5 with h5 | ⟨b, off, rfl, hc⟩
    · exact absurd (List.eq_nil_of_length_eq_zero h5) hl
    · have hp : PredAt Tryz.prog 114 #[] (Value.int .i64) (fun x => !inB x 1 65535) w := by
        intro W x _
        exact (ogoodc_any W x).mono fun _ _ ⟨h1, h2⟩ => ⟨h1, 0, h2.symm⟩
      refine (AnyE.slices_ContainsFunc Tryz.conFI (Value.int .i64) (fun x => !inB x 1 65535) 114 #[] enter_ogoodc b off l.length cap l w hp (Nat.le_refl _) (by omega) (fun j hj => hc j _ ?_)).mono ?_
      · rw [rowI_at l j hj, getElem!_pos l j hj]
      · rintro e w' ⟨rfl, q, rfl⟩
        rw [List.take_length]
        exact ⟨rfl, (Only.refl _ _).drewN q⟩
/-- A config of overlays as plain numbers. -/
structure OCfgT where
  act : Int
  pas : Int
  far : Int
  near : Int
  mixA : Int
  mixP : Int
  every : Int
  seeds : List Int
def OCfgT.cells (c : OCfgT) (v : Value) : List Value := [.int .i64 c.act, .int .i64 c.pas, .int .i64 c.far, .int .i64 c.near, .int .i64 c.mixA, .int .i64 c.mixP, .int .i64 c.every, v]
def OCfgT.good (c : OCfgT) : Bool := inB c.act 2 64 && inB c.pas 1 64 && inB c.far 0 15 && inB c.near 0 15 && inB c.mixA 0 64 && inB c.mixP 0 64 && inB c.every 1 1000 && decide (c.seeds.length ≤ 64) && !c.seeds.any (fun n => !inB n 1 65535)
set_option maxRecDepth 100000 in
set_option maxHeartbeats 4000000 in
theorem ogood_any (w : World) (c : OCfgT) (v : Value) (h : Sl w 1 v c.seeds.length (rowI c.seeds)) (hb : c.seeds.length ≤ 1000000) :
    Calls Tryz.prog 90 #[.agg (c.cells v).toArray] w fun e w' => e = .returned (.bool c.good) ∧ Only (fun _ => False) w w' := by
  unfold OCfgT.cells OCfgT.good
  obtain ⟨act, pas, far, near, mixA, mixP, every, seeds⟩ := c
  simp only at *
  obtain ⟨a, cap, rfl⟩ : ∃ a cap, v = .slice a seeds.length cap := by
    obtain ⟨_, a, cap, rfl, _⟩ := h
    exact ⟨a, cap, rfl⟩
  obtain ⟨W, hW⟩ : ∃ W, W = w.alloc (.cells #[.int .i64 act, .int .i64 pas, .int .i64 far, .int .i64 near, .int .i64 mixA, .int .i64 mixP, .int .i64 every, .slice a seeds.length cap] 39) := ⟨_, rfl⟩
  have hbW : W.heap[w.heap.size]? = some (.cells #[.int .i64 act, .int .i64 pas, .int .i64 far, .int .i64 near, .int .i64 mixA, .int .i64 mixP, .int .i64 every, .slice a seeds.length cap] 39 (0, 0)) := by rw [hW]; exact heap_alloc_new w _
  have hoW : Only (fun _ => False) w W := by rw [hW]; exact (Only.refl _ _).alloc _
  have hsW : W.heap.size = w.heap.size + 1 := by rw [hW]; simp
  have hk := conf_sl W _ seeds (h.new hoW) hb
  have hn0 := oin_any W act 2 64
  have hn1 := oin_any W pas 1 64
  have hn2 := oin_any W far 0 15
  have hn3 := oin_any W near 0 15
  have hn4 := oin_any W mixA 0 64
  have hn5 := oin_any W mixP 0 64
  have hn6 := oin_any W every 1 1000
  have y0 : W.cell? ⟨w.heap.size, 0, none⟩ = some (.int .i64 act) := cell_at hbW 0
  have y1 : W.cell? ⟨w.heap.size, 1, none⟩ = some (.int .i64 pas) := cell_at hbW 1
  have y2 : W.cell? ⟨w.heap.size, 2, none⟩ = some (.int .i64 far) := cell_at hbW 2
  have y3 : W.cell? ⟨w.heap.size, 3, none⟩ = some (.int .i64 near) := cell_at hbW 3
  have y4 : W.cell? ⟨w.heap.size, 4, none⟩ = some (.int .i64 mixA) := cell_at hbW 4
  have y5 : W.cell? ⟨w.heap.size, 5, none⟩ = some (.int .i64 mixP) := cell_at hbW 5
  have y6 : W.cell? ⟨w.heap.size, 6, none⟩ = some (.int .i64 every) := cell_at hbW 6
  have y7 : W.cell? ⟨w.heap.size, 7, none⟩ = some (.slice a seeds.length cap) := cell_at hbW 7
  clear h
  generalize inB act 2 64 = b0 at *
  generalize inB pas 1 64 = b1 at *
  generalize inB far 0 15 = b2 at *
  generalize inB near 0 15 = b3 at *
  generalize inB mixA 0 64 = b4 at *
  generalize inB mixP 0 64 = b5 at *
  generalize inB every 1 1000 = b6 at *
  generalize seeds.any (fun n => !inB n 1 65535) = q at *
  generalize hln : seeds.length = ln at *
  have hl0 : (ln : Int) ≤ 64 ∨ ¬ (ln : Int) ≤ 64 := by omega
  obtain ⟨dl, hdl⟩ : ∃ dl, dl = decide (ln ≤ 64) := ⟨_, rfl⟩
  rw [← hdl]
  have HN0 := Lib.hid hn0
  have HN1 := Lib.hid hn1
  have HN2 := Lib.hid hn2
  have HN3 := Lib.hid hn3
  have HN4 := Lib.hid hn4
  have HN5 := Lib.hid hn5
  have HN6 := Lib.hid hn6
  have HK := Lib.hid hk
  have HO := Lib.hid hoW
  have HDL := Lib.hid hdl
  clear hn0 hn1 hn2 hn3 hn4 hn5 hn6 hk hoW hdl
  clear hbW hsW hln hb
  go_enter Tryz.func90, Tryz.ntmps90
  go_upto_region 1 with (fail)
  rw [← hW]
  clear hW
  go_wp2_with fail
  refine HN0.out.mono ?_
  rintro e w1 ⟨rfl, rfl⟩
  cases b0
  case false =>
    go_wp2_with fail
    go_ret
    exact ⟨rfl, HO.out⟩
  go_wp2_with fail
  refine HN1.out.mono ?_
  rintro e w1 ⟨rfl, rfl⟩
  cases b1
  case false =>
    go_wp2_with fail
    go_ret
    exact ⟨rfl, HO.out⟩
  go_wp2_with fail
  refine HN2.out.mono ?_
  rintro e w1 ⟨rfl, rfl⟩
  cases b2
  case false =>
    go_wp2_with fail
    go_ret
    exact ⟨rfl, HO.out⟩
  go_wp2_with fail
  refine HN3.out.mono ?_
  rintro e w1 ⟨rfl, rfl⟩
  cases b3
  case false =>
    go_wp2_with fail
    go_ret
    exact ⟨rfl, HO.out⟩
  go_wp2_with fail
  refine HN4.out.mono ?_
  rintro e w1 ⟨rfl, rfl⟩
  cases b4
  case false =>
    go_wp2_with fail
    go_ret
    exact ⟨rfl, HO.out⟩
  go_wp2_with fail
  refine HN5.out.mono ?_
  rintro e w1 ⟨rfl, rfl⟩
  cases b5
  case false =>
    go_wp2_with fail
    go_ret
    exact ⟨rfl, HO.out⟩
  go_wp2_with fail
  refine HN6.out.mono ?_
  rintro e w1 ⟨rfl, rfl⟩
  cases b6
  case false =>
    go_wp2_with fail
    go_ret
    exact ⟨rfl, HO.out⟩
  rcases hl0 with hl0 | hl0
  · obtain rfl : dl = true := by rw [HDL.out, decide_eq_true_eq]; omega
    go_wp2_with fail
    refine HK.out.mono ?_
    rintro e w1 ⟨rfl, ho1⟩
    have HO1 := Lib.hid (HO.out.trans ho1)
    clear ho1 y0 y1 y2 y3 y4 y5 y6 y7
    go_wp2_with fail
    go_ret
    exact ⟨rfl, HO1.out⟩
  · obtain rfl : dl = false := by rw [HDL.out, decide_eq_false_iff_not]; omega
    go_wp2_with fail
    go_ret
    exact ⟨rfl, HO.out⟩
end Go.Proofs.YtegechmdboccbaaGreatDoor
/-! Structs in memory, as whole rows. -/
namespace Go.Proofs.YtegechmdboccbaaGreatDoor
open Go.Conc Go.RowKit

theorem row_set {w : World} {b : Nat} {old : Array Value} {t : TypeId} (h : w.heap[b]? = some (.cells old t (0, 0))) (cs : Array Value) : (w.setRow b cs).heap[b]? = some (.cells cs t (0, 0)) := setRow_heap w b old cs t (0, 0) h
theorem Only.setRow {S : Nat → Prop} {a w : World} (h : Only S a w) {b : Nat} (hp : a.heap.size ≤ b ∨ S b) (cs : Array Value) : Only S a (w.setRow b cs) :=
  ⟨h.os, h.tape, h.output, by simpa using h.size, fun k hk hn => by
    rw [setRow_other _ _ _ _ (fun e => by subst e; rcases hp with hp | hp; exact absurd hk (by omega); exact hn hp)]
    exact h.block k hk hn⟩
section
variable {P : Program}
theorem results_row {fn : Func} {p : Tmp} {ty : TypeId} (h : fn.results = #[.cell p ty]) (tmps : Array Value) (w : World) (g : Nat) (t : TypeId) (cs : Array Value) (fr : Nat × Nat) (d : TypeDesc)
    (hp : tmps.getD p undef = .pointer (some ⟨g, 0, none⟩)) (hg : w.heap[g]? = some (.cells cs t fr))
    (hu : P.underlying ty = some d) (hd : (match d with | .struct _ | .array _ _ => true | _ => false) = true) (hi : (P.info? ty).map (·.size) = some cs.size) :
    (results fn tmps).run P w = .ok (.agg cs) w := results_cell_row h tmps w g t cs fr d hp hg hu hd hi
theorem results_row1 {fn : Func} {p u : Tmp} {ty : TypeId} (h : fn.results = #[.cell p ty, .tmp u]) (tmps : Array Value) (w : World) (g : Nat) (t : TypeId) (cs : Array Value) (fr : Nat × Nat) (d : TypeDesc)
    (hp : tmps.getD p undef = .pointer (some ⟨g, 0, none⟩)) (hg : w.heap[g]? = some (.cells cs t fr))
    (hu : P.underlying ty = some d) (hd : (match d with | .struct _ | .array _ _ => true | _ => false) = true) (hi : (P.info? ty).map (·.size) = some cs.size) (x : Value) (hx : tmps.getD u undef = x) :
    (results fn tmps).run P w = .ok (.tuple #[.agg cs, x]) w := by
  subst hx
  simp only [results, h]
  have hp' : tmps[p]?.getD undef = .pointer (some ⟨g, 0, none⟩) := by simpa using hp
  simp [hp', asAddr, Result.andThen, run_loadVar_row w g t ty cs fr d hg hu hd hi]
theorem results_row2 {fn : Func} {p u v : Tmp} {ty : TypeId} (h : fn.results = #[.cell p ty, .tmp u, .tmp v]) (tmps : Array Value) (w : World) (g : Nat) (t : TypeId) (cs : Array Value) (fr : Nat × Nat) (d : TypeDesc)
    (hp : tmps.getD p undef = .pointer (some ⟨g, 0, none⟩)) (hg : w.heap[g]? = some (.cells cs t fr))
    (hu : P.underlying ty = some d) (hd : (match d with | .struct _ | .array _ _ => true | _ => false) = true) (hi : (P.info? ty).map (·.size) = some cs.size) (x y : Value) (hx : tmps.getD u undef = x) (hy : tmps.getD v undef = y) :
    (results fn tmps).run P w = .ok (.tuple #[.agg cs, x, y]) w := by
  subst hx hy
  simp only [results, h]
  have hp' : tmps[p]?.getD undef = .pointer (some ⟨g, 0, none⟩) := by simpa using hp
  simp [hp', asAddr, Result.andThen, run_loadVar_row w g t ty cs fr d hg hu hd hi]
end
end Go.Proofs.YtegechmdboccbaaGreatDoor
/-! New peers, views, hands. -/
namespace Go.Proofs.YtegechmdboccbaaGreatDoor
open Go.Conc Go.RowKit Go.Maps

/-- The cells of peers, a view, a hand. -/
def peersC (e l : Value) : List Value := [e, .int .i64 64, l, .int .i64 64]
def viewC (self : Int) (a : Value) (am : Int) (p : Value) (pm : Int) : List Value := [.int .i64 self, a, .int .i64 am, p, .int .i64 pm]
def handC (self : Int) (a : Value) (am : Int) (p : Value) (pm : Int) (k : Value) : List Value := [.int .i64 self, a, .int .i64 am, p, .int .i64 pm, k, .int .i64 64]
theorem infoPeers (e l : Value) : (Tryz.prog.info? 173).map (·.size) = some (peersC e l).toArray.size := by kernel_rfl
theorem infoView (self : Int) (a : Value) (am : Int) (p : Value) (pm : Int) : (Tryz.prog.info? 60).map (·.size) = some (viewC self a am p pm).toArray.size := by kernel_rfl
theorem infoHand (self : Int) (a : Value) (am : Int) (p : Value) (pm : Int) (k : Value) : (Tryz.prog.info? 120).map (·.size) = some (handC self a am p pm k).toArray.size := by kernel_rfl
theorem one_int (k : IntKind) (n : Int) : (Value.int k n).oneCell' = true := rfl
theorem peersC_one {e l : Value} (h1 : e.oneCell' = true) (h2 : l.oneCell' = true) : (peersC e l).toArray.all (·.oneCell') = true := by
  rw [List.all_toArray]; simp [peersC, h1, h2, one_int]
theorem viewC_one {self : Int} {a : Value} {am : Int} {p : Value} {pm : Int} (h1 : a.oneCell' = true) (h2 : p.oneCell' = true) : (viewC self a am p pm).toArray.all (·.oneCell') = true := by
  rw [List.all_toArray]; simp [viewC, h1, h2, one_int]
theorem handC_one {self : Int} {a : Value} {am : Int} {p : Value} {pm : Int} {k : Value} (h1 : a.oneCell' = true) (h2 : p.oneCell' = true) (h3 : k.oneCell' = true) : (handC self a am p pm k).toArray.all (·.oneCell') = true := by
  rw [List.all_toArray]; simp [handC, h1, h2, h3, one_int]
abbrev nilS : Value := .slice none 0 0
theorem pnew_any (w : World) : Calls Tryz.prog 94 #[] w fun e w' => e = .returned (.agg (peersC nilS nilS).toArray) ∧ Only (fun _ => False) w w' := by
  have hn := fun W => nsnew_any W 64
  rw [show capN 64 = 64 from rfl] at hn
  unfold setV at hn
  obtain ⟨W, hW⟩ : ∃ W, W = w.alloc (.cells #[.slice none 0 0, .int .i64 0, .slice none 0 0, .int .i64 0] 173) := ⟨_, rfl⟩
  have hbW : W.heap[w.heap.size]? = some (.cells #[.slice none 0 0, .int .i64 0, .slice none 0 0, .int .i64 0] 173 (0, 0)) := by rw [hW]; exact heap_alloc_new w _
  have hoW : Only (fun _ => False) w W := by rw [hW]; exact (Only.refl _ _).alloc _
  have hsW : W.heap.size = w.heap.size + 1 := by rw [hW]; simp
  have HN := Lib.hid hn
  have HBW := Lib.hid hbW
  have HOW := Lib.hid hoW
  clear hn hbW hoW
  clear hsW
  go_enter Tryz.func94, Tryz.ntmps94
  go_upto_region 1 with (fail)
  rw [← hW]
  clear hW
  go_wp2_with fail
  refine (HN.out _).mono ?_
  rintro e w1 ⟨rfl, ho1⟩
  have HO1 := Lib.hid ho1
  clear ho1
  go_wp2_with fail
  refine (HN.out _).mono ?_
  rintro e w2 ⟨rfl, ho2⟩
  have HO2 := Lib.hid (HO1.out.trans ho2)
  have HB2 := Lib.hid (HO2.out.old HBW.out id)
  clear ho2
  go_wp2_with ((with_reducible refine wpList_store_row (o := ⟨none, .store 173 (.tmp 0) (.tmp 3), _, _, _, none⟩) rfl _ _ _ rfl (w.heap.size) ((peersC nilS nilS).toArray) ?_ ?_ 173 _ HB2.out (infoPeers _ _) ?_ (peersC_one rfl rfl) ?_); (· rfl); (· rfl); (· rfl))
  have hb9 := row_set HB2.out (peersC nilS nilS).toArray
  refine bodyPost_ret (results_row rfl _ _ w.heap.size 173 _ (0, 0) _ rfl hb9 Tryz.underlying173 rfl (infoPeers _ _)) rfl ?_
  exact ⟨rfl, (HOW.out.trans HO2.out).setRow (.inl (Nat.le_refl _)) _⟩
theorem vnew_any (w : World) (self a p : Int) : Calls Tryz.prog 115 #[.int .i64 self, .int .i64 a, .int .i64 p] w fun e w' => e = .returned (.agg (viewC self nilS (capN a) nilS (capN p)).toArray) ∧ Only (fun _ => False) w w' := by
  have hn := fun W => nsnew_any W a
  have hm := fun W => nsnew_any W p
  unfold setV at hn hm
  generalize capN a = ca at *
  generalize capN p = cp at *
  obtain ⟨W, hW⟩ : ∃ W, W = w.alloc (.cells #[.int .i64 0, .slice none 0 0, .int .i64 0, .slice none 0 0, .int .i64 0] 60) := ⟨_, rfl⟩
  have hbW : W.heap[w.heap.size]? = some (.cells #[.int .i64 0, .slice none 0 0, .int .i64 0, .slice none 0 0, .int .i64 0] 60 (0, 0)) := by rw [hW]; exact heap_alloc_new w _
  have hoW : Only (fun _ => False) w W := by rw [hW]; exact (Only.refl _ _).alloc _
  have hsW : W.heap.size = w.heap.size + 1 := by rw [hW]; simp
  have HN := Lib.hid hn
  have HM := Lib.hid hm
  have HBW := Lib.hid hbW
  have HOW := Lib.hid hoW
  clear hn hm hbW hoW
  clear hsW
  go_enter Tryz.func115, Tryz.ntmps115
  go_upto_region 1 with (fail)
  rw [← hW]
  clear hW
  go_wp2_with fail
  refine (HN.out _).mono ?_
  rintro e w1 ⟨rfl, ho1⟩
  have HO1 := Lib.hid ho1
  clear ho1
  go_wp2_with fail
  refine (HM.out _).mono ?_
  rintro e w2 ⟨rfl, ho2⟩
  have HO2 := Lib.hid (HO1.out.trans ho2)
  have HB2 := Lib.hid (HO2.out.old HBW.out id)
  clear ho2
  go_wp2_with ((with_reducible refine wpList_store_row (o := ⟨none, .store 60 (.tmp 6) (.tmp 12), _, _, _, none⟩) rfl _ _ _ rfl (w.heap.size) ((viewC self nilS ca nilS cp).toArray) ?_ ?_ 60 _ HB2.out (infoView _ _ _ _ _) ?_ (viewC_one rfl rfl) ?_); (· rfl); (· rfl); (· rfl))
  have hb9 := row_set HB2.out (viewC self nilS ca nilS cp).toArray
  refine bodyPost_ret (results_row rfl _ _ w.heap.size 60 _ (0, 0) _ rfl hb9 Tryz.underlying60 rfl (infoView _ _ _ _ _)) rfl ?_
  exact ⟨rfl, (HOW.out.trans HO2.out).setRow (.inl (Nat.le_refl _)) _⟩
theorem hnew_any (w : World) (self a p : Int) : Calls Tryz.prog 93 #[.int .i64 self, .int .i64 a, .int .i64 p] w fun e w' => e = .returned (.agg (handC self nilS (capN a) nilS (capN p) nilS).toArray) ∧ Only (fun _ => False) w w' := by
  have hn := fun W => nsnew_any W 64
  rw [show capN 64 = 64 from rfl] at hn
  unfold setV at hn
  have hv := fun W => vnew_any W self a p
  unfold viewC at hv
  generalize capN a = ca at *
  generalize capN p = cp at *
  obtain ⟨W, hW⟩ : ∃ W, W = w.alloc (.cells #[.int .i64 0, .slice none 0 0, .int .i64 0, .slice none 0 0, .int .i64 0, .slice none 0 0, .int .i64 0] 120) := ⟨_, rfl⟩
  have hbW : W.heap[w.heap.size]? = some (.cells #[.int .i64 0, .slice none 0 0, .int .i64 0, .slice none 0 0, .int .i64 0, .slice none 0 0, .int .i64 0] 120 (0, 0)) := by rw [hW]; exact heap_alloc_new w _
  have hoW : Only (fun _ => False) w W := by rw [hW]; exact (Only.refl _ _).alloc _
  have hsW : W.heap.size = w.heap.size + 1 := by rw [hW]; simp
  have HN := Lib.hid hn
  have HBW := Lib.hid hbW
  have HOW := Lib.hid hoW
  have HV := Lib.hid hv
  clear hn hbW hoW hv
  clear hsW
  go_enter Tryz.func93, Tryz.ntmps93
  go_upto_region 1 with (fail)
  rw [← hW]
  clear hW
  go_wp2_with fail
  refine (HV.out _).mono ?_
  rintro e w1 ⟨rfl, ho1⟩
  have HO1 := Lib.hid ho1
  clear ho1
  go_wp2_with fail
  refine (HN.out _).mono ?_
  rintro e w2 ⟨rfl, ho2⟩
  have HO2 := Lib.hid (HO1.out.trans ho2)
  have HB2 := Lib.hid (HO2.out.old HBW.out id)
  clear ho2
  go_wp2_with ((with_reducible refine wpList_store_row (o := ⟨none, .store 120 (.tmp 6) (.tmp 12), _, _, _, none⟩) rfl _ _ _ rfl (w.heap.size) ((handC self nilS ca nilS cp nilS).toArray) ?_ ?_ 120 _ HB2.out (infoHand _ _ _ _ _ _) ?_ (handC_one rfl rfl rfl) ?_); (· rfl); (· rfl); (· rfl))
  have hb9 := row_set HB2.out (handC self nilS ca nilS cp nilS).toArray
  refine bodyPost_ret (results_row rfl _ _ w.heap.size 120 _ (0, 0) _ rfl hb9 Tryz.underlying120 rfl (infoHand _ _ _ _ _ _)) rfl ?_
  exact ⟨rfl, (HOW.out.trans HO2.out).setRow (.inl (Nat.le_refl _)) _⟩
/-- The fields of a view's value. -/
theorem view_act (self : Int) (a : Value) (am : Int) (p : Value) (pm : Int) : ∀ w, (Instr.field 60 (.agg #[.int .i64 self, a, .int .i64 am, p, .int .i64 pm]) 1).run Tryz.prog w = .ok (.agg #[a, .int .i64 am]) w := fun _ => by kernel_rfl
theorem view_pas (self : Int) (a : Value) (am : Int) (p : Value) (pm : Int) : ∀ w, (Instr.field 60 (.agg #[.int .i64 self, a, .int .i64 am, p, .int .i64 pm]) 2).run Tryz.prog w = .ok (.agg #[p, .int .i64 pm]) w := fun _ => by kernel_rfl
theorem view_self (self : Int) (a : Value) (am : Int) (p : Value) (pm : Int) : ∀ w, (Instr.field 60 (.agg #[.int .i64 self, a, .int .i64 am, p, .int .i64 pm]) 0).run Tryz.prog w = .ok (.int .i64 self) w := fun _ => by kernel_rfl
end Go.Proofs.YtegechmdboccbaaGreatDoor
/-! Rows: what slices.SortFunc and slices.DeleteFunc leave, said by 'ownsRow' and 'Only'. -/
namespace Go.Proofs.YtegechmdboccbaaGreatDoor
open Go.Conc Go.RowKit Go.Sort

section
variable {α : Type} [Inhabited α] {enc : α → Value} {w : World} {base g n cap : Nat} {e : TypeId} {d : Array α}
theorem put_block (enc : α → Value) (w : World) (g : Nat) (d : Array α) {cur : Array Value} {e : TypeId} {f : Nat × Nat} (h : w.heap[g]? = some (.cells cur e f)) : (putRow enc w g 0 d).heap[g]? = some (.cells (putCells enc 0 d cur) e f) := by
  show (w.heap.modify g (onCells (putCells enc 0 d)))[g]? = _
  rw [Array.getElem?_modify, if_pos rfl, h]
  rfl
theorem put_other (enc : α → Value) (w : World) (g : Nat) (d : Array α) (k : Nat) (h : k ≠ g) : (putRow enc w g 0 d).heap[k]? = w.heap[k]? := by
  show (w.heap.modify g (onCells (putCells enc 0 d)))[k]? = _
  rw [Array.getElem?_modify, if_neg (fun e => h e.symm)]
theorem put_only (enc : α → Value) (w : World) (g : Nat) (d : Array α) : Only (fun i => i = g) w (putRow enc w g 0 d) :=
  ⟨rfl, rfl, rfl, by simp, fun k _ hn => put_other enc w g d k hn⟩
theorem grow_only (w : World) (os : Array Obj) : Only (fun _ => False) w (grow w os) :=
  ⟨rfl, rfl, rfl, by show w.heap.size ≤ (w.heap ++ os).size; simp, fun k hk _ => by
    show (w.heap ++ os)[k]? = _
    rw [Array.getElem?_append_left hk]⟩
theorem ahead_only (w : World) (q : Nat) : Only (fun _ => False) w (Sort.ahead w q) := ⟨rfl, rfl, rfl, Nat.le_refl _, fun _ _ _ => rfl⟩
theorem sortWorld_only (enc : α → Value) (w : World) (g m : Nat) (d : Array α) (os : Array Obj) : Only (fun i => i = g) w (sortWorld enc w g 0 m d os) :=
  (((ahead_only w m).weaken (fun _ _ => False.elim)).trans (put_only enc _ g d)).trans ((grow_only _ os).weaken (fun _ _ => False.elim))
theorem put_take (enc : α → Value) (d : Array α) (cur : Array Value) (h : d.size ≤ cur.size) : (putCells enc 0 d cur).toList.take d.size = d.toList.map enc := by
  apply List.ext_getElem?
  intro k
  rw [List.getElem?_take]
  by_cases hk : k < d.size
  · rw [if_pos hk, Array.getElem?_toList, putCells, Array.getElem?_mapIdx, Array.getElem?_eq_getElem (by omega), Option.map_some, if_pos ⟨by omega, by omega⟩, List.getElem?_map, Array.getElem?_toList, Array.getElem?_eq_getElem hk, Option.map_some,
      show k - 0 = k by omega, getElem!_pos d k hk]
  · rw [if_neg hk, List.getElem?_eq_none (by simp; omega)]
theorem size_putCells (enc : α → Value) (d : Array α) (cur : Array Value) : (putCells enc 0 d cur).size = cur.size := by simp [putCells]
/-- What an own row holds. -/
theorem row_holds (h : w.ownsRow base e 1 (.slice (some ⟨g, 0, none⟩) d.size cap) d.size (d.toList.map enc)) : Holds enc w g 0 d ∧ g < w.heap.size ∧ base ≤ g ∧ d.size ≤ cap ∧ cap ≤ maxLen := by
  rcases h.2 with ⟨h2, _⟩ | ⟨g', cap', cur, hv, hb, hg, hnc, hcm, hcs, ht⟩
  · cases h2
  · cases hv
    refine ⟨fun j hj => ⟨?_, free_at hg _⟩, lt_of_block hg, hb, hnc, hcm⟩
    have e1 : (d.toList.map enc)[j]? = some (enc d[j]!) := by rw [List.getElem?_map, Array.getElem?_toList, Array.getElem?_eq_getElem hj, getElem!_pos d j hj]; rfl
    rw [cell_at hg, ← Array.getElem?_toList, ← e1, ← ht, List.getElem?_take, if_pos (by omega), show 0 + j = j by omega]
theorem put_row (h : w.ownsRow base e 1 (.slice (some ⟨g, 0, none⟩) n cap) n (d.toList.map enc)) (hd : d.size = n) (d' : Array α) (hs : d'.size = d.size) (m : Nat) (hm : m ≤ d'.size) :
    (putRow enc w g 0 d').ownsRow base e 1 (.slice (some ⟨g, 0, none⟩) m cap) m ((d'.toList.take m).map enc) := by
  subst hd
  rcases h.2 with ⟨h2, _⟩ | ⟨g', cap', cur, hv, hb, hg, hnc, hcm, hcs, ht⟩
  · cases h2
  · cases hv
    refine ⟨by simp; omega, .inr ⟨g, cap, _, rfl, hb, put_block enc w g d' hg, by omega, hcm, by rw [size_putCells]; exact hcs, ?_⟩⟩
    rw [show m * 1 = m by omega]
    have := put_take enc d' cur (by omega)
    rw [List.map_take, ← this, List.take_take]
    congr 1
    omega
end
end Go.Proofs.YtegechmdboccbaaGreatDoor
/-! slices.DeleteFunc at rows of ints, whatever the closure. -/
namespace Go.Proofs.YtegechmdboccbaaGreatDoor
open Go.Conc Go.RowKit Go.Maps Go.Sort Go.Shelf

/-- What is asked of the closure: it answers p, wherever nothing but the row has changed; it turns nothing. -/
def ClosI (F : Nat) (caps : Array Value) (p : Int → Bool) (w : World) (row : Option Nat) : Prop :=
  ∀ (W : World) (x : Int), Only (fun i => row = some i) w W → Calls Tryz.prog F (#[.int .i64 x] ++ caps) W fun e w' => e = .returned (.bool (p x)) ∧ ∃ q, w' = W.drewN q
theorem del_nil (W : World) (a : Option Addr) (c : Nat) (fv : Value) : Calls Tryz.prog 25 #[.slice a 0 c, fv] W fun e w' => e = .returned (.slice a 0 c) ∧ W = w' := by
  go_enter Tryz.func25, Tryz.ntmps25
  go_wp2_with fail
  refine (AnyE.slices_IndexFunc_empty Tryz.idxFI a c fv _).mono ?_
  rintro e w' ⟨rfl, rfl⟩
  go_wp2_with fail
  go_ret
  exact ⟨rfl, rfl⟩
def keepL (p : Int → Bool) (l : List Int) : List Int := l.filter (fun x => !p x)
theorem del_row (W : World) (base : Nat) (F : Nat) (caps : Array Value) (p : Int → Bool) (eg : ∀ args w, (callFunc F args).run Tryz.prog w = .ok (.enter F args) w) (v : Value) (d : List Int) (hd : d.length < 1000000) (hrow : W.ownsRow base 3 1 v d.length (rowI d)) (hF : ClosI F caps p W v.ownBlock) :
    Calls Tryz.prog 25 #[v, .func (.func F) #[] caps] W fun e w' => ∃ v', e = .returned v' ∧ Only (fun i => v.ownBlock = some i) W w' ∧ w'.ownsRow base 3 1 v' (keepL p d).length (rowI (keepL p d)) := by
  by_cases hd0 : d = []
  · subst hd0
    rcases (IR.of hrow).empty with rfl | ⟨a, cap, rfl⟩
    · refine (del_nil W none 0 _).mono ?_
      rintro e w' ⟨rfl, rfl⟩
      exact ⟨_, rfl, Only.refl _ _, hrow⟩
    · refine (del_nil W (some a) cap _).mono ?_
      rintro e w' ⟨rfl, rfl⟩
      exact ⟨_, rfl, Only.refl _ _, hrow⟩
  · obtain ⟨g, cap, cur, rfl, hb, hg, hnc, hcm, hcs, ht⟩ := row_form hrow (fun e => hd0 (by unfold rowI at e; exact List.map_eq_nil_iff.1 e))
    have hrow2 : W.ownsRow base 3 1 (.slice (some ⟨g, 0, none⟩) d.toArray.size cap) d.toArray.size (d.toArray.toList.map (Value.int .i64)) := hrow
    obtain ⟨hH, hgl, _⟩ := row_holds hrow2
    have hp : PredAt Tryz.prog F caps (Value.int .i64) p W := fun W' x hb' => hF W' x ((Only.of_below hb').weaken (fun _ _ => False.elim))
    have hpo : PredOver Tryz.prog F caps (Value.int .i64) p g 0 d.toArray.size W := fun m os dk' x _ => hF _ x ((sortWorld_only (Value.int .i64) W g m dk' os).weaken (fun i _ e => by subst e; rfl))
    have hcon := AnyE.slices_DeleteFunc Tryz.delFI (Value.int .i64) (fun _ => rfl) p F caps eg 0 Tryz.zeroValue3 g 0 cap d.toArray W hp hpo hH (by simp at hd ⊢; omega) (by simpa using hnc)
    refine hcon.mono ?_
    rintro e w' ⟨rfl, q, rfl⟩
    refine ⟨_, rfl, ((ahead_only W q).weaken (fun _ _ => False.elim)).trans ((put_only (Value.int .i64) _ g _).weaken (fun i _ e => by subst e; rfl)), ?_⟩
    have hfl : d.toArray.toList.filter (fun x => !p x) = keepL p d := rfl
    rw [hfl]
    generalize hK : keepL p d = K
    have hKl : K.length ≤ d.length := by rw [← hK]; exact List.length_filter_le _ _
    have r1 := put_row (w := Sort.ahead W q) (enc := Value.int .i64) hrow2 rfl (K ++ List.replicate (d.length - K.length) (0 : Int)).toArray (by simp; omega) K.length (by simp)
    rw [show ((K ++ List.replicate (d.length - K.length) (0 : Int)).toArray.toList.take K.length) = K by simp] at r1
    exact r1
end Go.Proofs.YtegechmdboccbaaGreatDoor
