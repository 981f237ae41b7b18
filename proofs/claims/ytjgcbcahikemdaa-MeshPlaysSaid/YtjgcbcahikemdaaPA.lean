/- bellhopref07.Send: the reference's list with one more at its end, or the list itself. -/
import Derived.Test.YtjgcbcahikemdaaRows
import Derived.Conc.LoneCalls
import Derived.Conc.LoneSelect
import Derived.WalkKit
import Derived.WalkSpells
import Derived.WalkLawsBesides
import Derived.KernelRfl
import Derived.Lib.Hide
import Derived.Deep.QuietTactic
import Derived.BigQuiet
import Derived.Deep.DeepCutAuto
import Derived.Deep.LoopGhost
import Derived.Deep.AppendSrc
import Derived.Maps.OwnSet
import Derived.Deep.RegionHeld3
import Derived.ProofKit
import Derived.OpenShut
import Derived.JoinedCond
import Derived.SizedLaws
import Derived.Deep.Slices
import Derived.Conc.LoneSelectN
/-! Small laws on worlds: of the blocks that were there only some may have changed. -/
namespace Go.Proofs.Ytjgcbcahikemdaa
open Go.Conc Go.RowKit

/-- Of the blocks that were there only those of S may have changed. -/
structure Only (S : Nat → Prop) (w w' : World) : Prop where
  os : w'.os = w.os
  tape : w'.tape = w.tape
  output : w'.output = w.output
  size : w.heap.size ≤ w'.heap.size
  block : ∀ k, k < w.heap.size → ¬ S k → w'.heap[k]? = w.heap[k]?

theorem Only.refl (S : Nat → Prop) (w : World) : Only S w w := ⟨rfl, rfl, rfl, Nat.le_refl _, fun _ _ _ => rfl⟩
theorem Only.trans {S : Nat → Prop} {a b c : World} (h : Only S a b) (k : Only S b c) : Only S a c :=
  ⟨k.os.trans h.os, k.tape.trans h.tape, k.output.trans h.output, Nat.le_trans h.size k.size,
    fun i hi hn => (k.block i (Nat.lt_of_lt_of_le hi h.size) hn).trans (h.block i hi hn)⟩
theorem Only.weaken {S T : Nat → Prop} {a b : World} (h : Only S a b) (hs : ∀ k, k < a.heap.size → S k → T k) : Only T a b :=
  ⟨h.os, h.tape, h.output, h.size, fun i hi hn => h.block i hi (fun x => hn (hs i hi x))⟩
theorem Only.alloc {S : Nat → Prop} {a w : World} (h : Only S a w) (o : Obj) : Only S a (w.alloc o) :=
  h.trans ⟨rfl, rfl, rfl, by simp, fun k hk _ => Below.heap_alloc _ _ _ hk⟩
theorem Only.drew {S : Nat → Prop} {a w : World} (h : Only S a w) : Only S a w.drew := ⟨h.os, h.tape, h.output, h.size, h.block⟩
theorem Only.drewN {S : Nat → Prop} {a w : World} (h : Only S a w) (n : Nat) : Only S a (w.drewN n) := ⟨h.os, h.tape, h.output, h.size, h.block⟩
theorem Only.setCell {S : Nat → Prop} {a w : World} (h : Only S a w) {p : Addr} (hp : a.heap.size ≤ p.block ∨ S p.block) (u : Value) : Only S a (w.setCell p u) :=
  ⟨h.os, h.tape, h.output, by simpa using h.size, fun k hk hn => by
    rw [Below.heap_setCell _ _ _ _ (fun e => by subst e; rcases hp with hp | hp; exact absurd hk (by omega); exact hn hp)]
    exact h.block k hk hn⟩
theorem Only.setChan {S : Nat → Prop} {a w : World} (h : Only S a w) {c : Nat} (hp : a.heap.size ≤ c ∨ S c) (cap : Nat) (buf : Array Value) (cl : Bool) (s r : Nat) (tm : Bool) : Only S a (w.setChan c cap buf cl s r tm) :=
  ⟨h.os, h.tape, h.output, by simpa [World.setChan] using h.size, fun k hk hn => by
    have hc : c ≠ k := fun e => by subst e; rcases hp with hp | hp; exact absurd hk (by omega); exact hn hp
    have : (w.setChan c cap buf cl s r tm).heap[k]? = w.heap[k]? := by simp [World.setChan, Array.getElem?_setIfInBounds_ne hc]
    rw [this]
    exact h.block k hk hn⟩
theorem Only.below {S : Nat → Prop} {a b : World} (h : Only S a b) {B : Nat} (hB : B ≤ a.heap.size) (hs : ∀ k, k < B → ¬ S k) : Below B a b :=
  ⟨h.os, h.tape, h.output, h.size, fun k hk => h.block k (by omega) (hs k hk)⟩
theorem Only.of_below {S : Nat → Prop} {a b : World} (h : Below a.heap.size a b) : Only S a b :=
  ⟨h.os, h.tape, h.output, h.size, fun k hk _ => h.block k hk⟩
theorem Only.cell {S : Nat → Prop} {a b : World} (h : Only S a b) {p : Addr} {v : Value} (hc : a.cell? p = some v) (hn : ¬ S p.block) : b.cell? p = some v :=
  (World.cell?_of_block (h.block p.block (World.block_lt_of_cell? _ _ hc) hn)).trans hc

/-- A block that had just been made is still there. -/
theorem Only.new {S : Nat → Prop} {w w' : World} {o : Obj} (h : Only S (w.alloc o) w') (hn : ¬ S w.heap.size) : w'.heap[w.heap.size]? = some o :=
  (h.block _ (by simp) hn).trans (heap_alloc_new w o)
theorem cell_at {w : World} {b : Nat} {cs : Array Value} {t : TypeId} {f : Nat × Nat} (h : w.heap[b]? = some (.cells cs t f)) (i : Nat) : w.cell? ⟨b, i, none⟩ = cs[i]? := by simp [World.cell?, h]
theorem free_at {w : World} {b : Nat} {cs : Array Value} {t : TypeId} (h : w.heap[b]? = some (.cells cs t (0, 0))) (i : Nat) : w.frozen? ⟨b, i, none⟩ = false := by simp [World.frozen?, h]
theorem Only.old {S : Nat → Prop} {w w' : World} {b : Nat} {o : Obj} (h : Only S w w') (hb : w.heap[b]? = some o) (hn : ¬ S b) : w'.heap[b]? = some o :=
  (h.block _ (lt_of_block hb) hn).trans hb
/-- Two steps, the second of which may have changed blocks that the first has made. -/
theorem Only.tr {S T : Nat → Prop} {a b c : World} (h : Only S a b) (k : Only T b c) (hT : ∀ i, i < a.heap.size → T i → S i) : Only S a c :=
  ⟨k.os.trans h.os, k.tape.trans h.tape, k.output.trans h.output, Nat.le_trans h.size k.size,
    fun i hi hn => (k.block i (Nat.lt_of_lt_of_le hi h.size) (fun x => hn (hT i hi x))).trans (h.block i hi hn)⟩
theorem Only.grown {S : Nat → Prop} {a w w' : World} {row : Option Nat} (h : Only S a w) (hg : w.grownBy w' row) (hr : ∀ k, row = some k → a.heap.size ≤ k ∨ S k) : Only S a w' :=
  h.tr (T := fun k => row = some k) ⟨hg.os, hg.tape, hg.output, hg.size, fun k hk hn => hg.block k hk (fun e => hn e.symm)⟩
    (fun i hi e => (hr i e).elim (fun x => absurd hi (by omega)) id)
theorem ret_bool {a b : Bool} (h : a = b) : Ending.returned (.bool a) = .returned (.bool b) := by rw [h]
theorem ret_int {k : IntKind} {a b : Int} (h : a = b) : Ending.returned (.int k a) = .returned (.int k b) := by rw [h]
theorem ret_str {a b : ByteArray} (h : a = b) : Ending.returned (.string a) = .returned (.string b) := by rw [h]
/-- A goal at which the walk stops: 'go_wp2_with (at_builtin; refine Wait.mk ?_)' walks to the next append; 'refine Wait.go (law ..)' goes on. -/
def Wait (p : Prop) : Prop := p
theorem Wait.mk {p : Prop} (h : Wait p) : p := h
theorem Wait.go {p : Prop} (h : p) : Wait p := h
end Go.Proofs.Ytjgcbcahikemdaa
/-! Slices that are only read, and append onto a slice that the call itself made, whatever is appended: laws for the walk over any program. -/
namespace Go.Proofs.Ytjgcbcahikemdaa
open Go.Conc Go.RowKit

/-- A slice of n elements, 'size' cells each, reads as the cells xs. -/
def Sl (w : World) (size : Nat) (v : Value) (n : Nat) (xs : List Value) : Prop :=
  xs.length = n * size ∧ ∃ a cap, v = .slice a n cap ∧ n ≤ cap ∧ cap ≤ maxLen ∧
    (n = 0 ∨ ∃ b off, a = some ⟨b, off, none⟩ ∧ ∀ j u, xs[j]? = some u → w.cell? ⟨b, off + j, none⟩ = some u)

section
variable {w w' : World} {size n : Nat} {v : Value} {xs : List Value}

theorem Sl.nil (w : World) (size : Nat) : Sl w size (.slice none 0 0) 0 [] := ⟨by simp, none, 0, rfl, Nat.le_refl _, Nat.zero_le _, .inl rfl⟩
theorem Sl.kept {S : Nat → Prop} (h : Sl w size v n xs) (ho : Only S w w') (hn : ∀ a u, w.cell? a = some u → ¬ S a.block) : Sl w' size v n xs := by
  obtain ⟨h1, a, cap, h2, h3, h4, h5⟩ := h
  refine ⟨h1, a, cap, h2, h3, h4, ?_⟩
  rcases h5 with h5 | ⟨b, off, h5, h6⟩
  · exact .inl h5
  · exact .inr ⟨b, off, h5, fun j u hu => ho.cell (h6 j u hu) (hn _ _ (h6 j u hu))⟩
theorem Sl.cast {m : Nat} (h : Sl w size v n xs) (e : n = m) : Sl w size v m xs := e ▸ h
theorem Sl.new {h0 : World} (h : Sl w size v n xs) (ho : Only (fun _ => False) w h0) : Sl h0 size v n xs := h.kept ho (fun _ _ _ => id)
theorem Sl.of_owns {base : Nat} {e : TypeId} (h : w.ownsRow base e size v n xs) : Sl w size v n xs := by
  refine ⟨h.1, ?_⟩
  rcases h.2 with ⟨h2, rfl⟩ | ⟨g, cap, cur, rfl, hb, hg, hnc, hcm, hcs, ht⟩
  · exact ⟨none, 0, h2, Nat.le_refl _, Nat.zero_le _, .inl rfl⟩
  · refine ⟨_, cap, rfl, hnc, hcm, .inr ⟨g, 0, rfl, fun j u hu => ?_⟩⟩
    have := h.cells (g := g) rfl j u hu
    simpa [Addr.add_lit] using this
theorem Sl.len_le (h : Sl w size v n xs) : n ≤ maxLen := by
  obtain ⟨_, a, cap, _, h3, h4, _⟩ := h
  omega
/-- What an append takes from it. -/
theorem Sl.src {P : Program} {tx e' : TypeId} (hk : P.underlying tx = some (.slice e')) (h : Sl w size v n xs) (h1 : ∀ u ∈ xs, u.oneCell' = true) : Src P size tx v n xs w := by
  obtain ⟨hl, a, cap, rfl, _, _, h5⟩ := h
  rcases h5 with rfl | ⟨b, off, rfl, hc⟩
  · obtain rfl : xs = [] := List.eq_nil_of_length_eq_zero (by simpa using hl)
    cases a with
    | none => exact Src.ofNil w hk cap
    | some a => exact Src.ofSlice w hk a 0 cap [] (by simp) (by simp) (by simp)
  · exact Src.ofSlice w hk _ n cap xs hl (fun j u hu => by rw [Addr.add_lit]; exact hc j u hu) h1
end

/-- s[lo:] of such a slice, as the model has it. -/
theorem Sl.sliced {w : World} {size n lo : Nat} {xs : List Value} {a : Option Addr} {cap : Nat} (h : Sl w size (.slice a n cap) n xs) (hlo : lo ≤ n) :
    Sl w size (.slice (if cap = lo then a else a.map (·.add (lo * size))) (n - lo) (cap - lo)) (n - lo) (xs.drop (lo * size)) := by
  obtain ⟨hl, a', cap', he, h3, h4, h5⟩ := h
  simp only [Value.slice.injEq] at he
  obtain ⟨rfl, -, rfl⟩ := he
  refine ⟨by rw [List.length_drop, hl, Nat.sub_mul], _, _, rfl, by omega, by omega, ?_⟩
  rcases h5 with rfl | ⟨b, off, rfl, hc⟩
  · exact .inl (by omega)
  · by_cases hc' : cap = lo
    · exact .inl (by omega)
    · refine .inr ⟨b, off + lo * size, ?_, fun j u hu => ?_⟩
      · rw [if_neg hc']
        simp [Addr.add_lit]
      · rw [List.getElem?_drop] at hu
        have := hc _ _ hu
        rwa [← Nat.add_assoc] at this

section
variable {P : Program} (w : World)

theorem run_append_room_own (t tx ty e : TypeId) (i : TypeInfo) (ht : P.underlying t = some (.slice e)) (hi : P.info? e = some i)
    (g sLen sCap : Nat) (cur : Array Value) (hg : w.heap[g]? = some (.cells cur e (0, 0))) (x : Value) (m : Nat) (news : List Value) (hs : Src P i.size tx x m news w)
    (hroom : sLen + m ≤ sCap) (hfit : sLen * i.size + news.length ≤ cur.size) :
    (Builtin.append_ #[t, tx] ty #[.slice (some ⟨g, 0, none⟩) sLen sCap, x]).run P w =
      .ok (.slice (some ⟨g, 0, none⟩) (sLen + m) sCap) (w.setRow g (cur.toList.take (sLen * i.size) ++ news ++ cur.toList.drop (sLen * i.size + news.length)).toArray) := by
  have hst := run_storeCells_at P g (sLen * i.size) e news 0 cur w hg (by simpa using hfit) hs.one
  simp only [Nat.add_zero] at hst
  rcases hs.kind with ⟨e', hk⟩ | hk <;> simp [Builtin.append_, run_underlying ht, run_underlying hk, sizeOf, typeInfo, hi, hs.len, hroom, hs.cells, Addr.add_lit, hst]

/-- append onto a slice of the call's own, whatever is appended. -/
theorem run_append_src (base : Nat) (t tx ty e : TypeId) (i : TypeInfo) (z : Value) (size bytes : Nat) (ht : P.underlying t = some (.slice e)) (hi : P.info? e = some i) (hz : i.zero = some z)
    (hsize : i.size = size) (hby : i.bytes = bytes) (hzs : z.cells.size = size)
    (v : Value) (n : Nat) (xs : List Value) (hown : w.ownsRow base e size v n xs) (x : Value) (m : Nat) (news : List Value) (hs : Src P size tx x m news w)
    (h63 : n + m ≤ maxLen) (hbytes : (n + m) * bytes ≤ 140737488355328) (hbase : base ≤ w.heap.size) :
    ∃ v' w', (Builtin.append_ #[t, tx] ty #[v, x]).run P w = .ok v' w' ∧ w'.ownsRow base e size v' (n + m) (xs ++ news) ∧ w.grownBy w' v.ownBlock ∧ (∀ k, v'.ownBlock = some k → v.ownBlock = some k ∨ w.heap.size ≤ k) := by
  subst hsize
  subst hby
  have hl := hs.newsLen
  have hsmall : n + m ≤ 9223372036854775807 := by simp only [maxLen] at h63; omega
  have hlen : (xs ++ news).length = (n + m) * i.size := by rw [List.length_append, hown.1, hl, Nat.add_mul]
  have grown : ∀ (old : Nat), old < n + m → ∀ (row : Option Nat),
      (w.drew.alloc (.cells ((xs ++ news).toArray ++ Builtin.zeroCells z.cells (grownCap w (n + m) old e - (n + m))) e)).ownsRow base e i.size
        (.slice (some ⟨w.heap.size, 0, none⟩) (n + m) (grownCap w (n + m) old e)) (n + m) (xs ++ news) ∧
      w.grownBy (w.drew.alloc (.cells ((xs ++ news).toArray ++ Builtin.zeroCells z.cells (grownCap w (n + m) old e - (n + m))) e)) row := by
    intro old ho row
    have hge := grownCap_ge w (n + m) old e
    have hcm : grownCap w (n + m) old e ≤ maxLen := grownCap_le_maxLen w (n + m) old e h63
    refine ⟨⟨hlen, .inr ⟨w.heap.size, _, _, rfl, hbase, heap_alloc_new w.drew _, hge, hcm, ?_, ?_⟩⟩, ⟨rfl, rfl, rfl, by simp, fun k hk _ => Below.heap_alloc w.drew _ k hk⟩⟩
    · simp only [Array.size_append, List.size_toArray, size_zeroCells, hzs, hlen, ← Nat.add_mul]
      congr 1
      omega
    · simp only [Array.toList_append]
      rw [← hlen]
      exact List.take_left
  rcases hown.2 with ⟨rfl, rfl⟩ | ⟨g, cap, cur, rfl, hbg, hg, hnc, hcm, hcs, htake⟩
  · have hx : xs = [] := List.eq_nil_of_length_eq_zero (by simpa using hown.1)
    subst hx
    by_cases hm : m = 0
    · subst hm
      have hn : news = [] := List.eq_nil_of_length_eq_zero (by simpa using hl)
      subst hn
      refine ⟨.slice none 0 0, w, ?_, World.ownsRow_nil w base e i.size, ⟨rfl, rfl, rfl, Nat.le_refl _, fun _ _ _ => rfl⟩, fun k h => .inl h⟩
      rcases hs.kind with ⟨e', hk⟩ | hk <;> simp [Builtin.append_, run_underlying ht, run_underlying hk, sizeOf, typeInfo, hi, hs.len, hs.cells]
    · have hr := run_append_grow_src (P := P) w t tx ty e i z ht hi hz none 0 0 [] (run_firstCells_none w.drew i.size 0 0 0) x m news hs (by omega) (by omega) (growslice_fits (by omega) hbytes)
      have hgr := grown 0 (by omega) (Value.ownBlock (.slice none 0 0))
      simp only [Nat.zero_add] at hgr hr ⊢
      exact ⟨_, _, hr, hgr.1, hgr.2, fun k h => .inr (by simp [Value.ownBlock] at h; omega)⟩
  · by_cases hroom : n + m ≤ cap
    · have hfit : n * i.size + news.length ≤ cur.size := by rw [hl, hcs, ← Nat.add_mul]; exact Nat.mul_le_mul_right _ hroom
      have hr := run_append_room_own (P := P) w t tx ty e i ht hi g n cap cur hg x m news hs hroom hfit
      refine ⟨_, _, hr, ⟨hlen, .inr ⟨g, cap, _, rfl, hbg, setRow_heap w g cur _ e _ hg, hroom, hcm, ?_, ?_⟩⟩, ⟨rfl, rfl, rfl, by simp, fun k _ hk => setRow_other w g k _ (fun e => hk (by simp [Value.ownBlock, e]))⟩, fun k h => .inl h⟩
      · simp only [List.size_toArray, List.length_append, List.length_take, List.length_drop, Array.length_toList]
        omega
      · rw [htake, ← hlen]
        exact List.take_left
    · have holds : ∀ j u, xs[j]? = some u → w.cell? ((⟨g, 0, none⟩ : Addr).add j) = some u := hown.cells (g := g) rfl
      have hold := run_firstCells_some (P := P) w.drew i.size n ⟨g, 0, none⟩ n cap xs hown.1 (by simpa using holds)
      have hr := run_append_grow_src (P := P) w t tx ty e i z ht hi hz (some ⟨g, 0, none⟩) n cap xs hold x m news hs (by omega) (by omega) (growslice_fits (by omega) hbytes)
      have hgr := grown cap (by omega) (Value.ownBlock (.slice (some ⟨g, 0, none⟩) n cap))
      exact ⟨_, _, hr, hgr.1, hgr.2, fun k h => .inr (by simp [Value.ownBlock] at h; omega)⟩

/-- The same for the walk. -/
theorem wpList_append_src {ops : Array Oper} {rest : List Oper} {o : Oper} {a : Act} {Q : Exit → Act → World → Prop} (hgd : o.guard = none) (s x : Operand) (t tx : TypeId)
    (ho : o.op = .call { callee := .builtin .append, args := #[s, x], argTypes := #[t, tx] })
    (base : Nat) (e : TypeId) (i : TypeInfo) (z : Value) (size bytes : Nat) (ht : P.underlying t = some (.slice e)) (hi : P.info? e = some i) (hz : i.zero = some z)
    (hsize : i.size = size) (hby : i.bytes = bytes) (hzs : z.cells.size = size)
    (v : Value) (n : Nat) (xs : List Value) (hv : a.eval s = v) (hown : w.ownsRow base e size v n xs) (xv : Value) (m : Nat) (news : List Value) (hx : a.eval x = xv) (hs : Src P size tx xv m news w)
    (h63 : n + m ≤ maxLen) (hbytes : (n + m) * bytes ≤ 140737488355328) (hbase : base ≤ w.heap.size)
    (h : ∀ v' w', w'.ownsRow base e size v' (n + m) (xs ++ news) → w.grownBy w' v.ownBlock → (∀ k, v'.ownBlock = some k → v.ownBlock = some k ∨ w.heap.size ≤ k) → wpList P ops Q rest (a.put o.dst v') w') : wpList P ops Q (o :: rest) a w := by
  refine wpList_plain hgd fun K hK => ?_
  obtain ⟨v', w', hr, h2, h3, h4⟩ := run_append_src (P := P) w base t tx o.type e i z size bytes ht hi hz hsize hby hzs v n xs hown xv m news hs h63 hbytes hbase
  unfold Oper.wp execOp
  simp only [ho, resolve, invoke, builtin, Sem.run_bind, Sem.run_pure, Result.andThen_ok, List.map_toArray, List.map_cons, List.map_nil, hv, hx, hr]
  exact hK _ _ (h v' w' h2 h3 h4)
end
theorem Sl.take {w : World} {size n m : Nat} {xs : List Value} {a : Option Addr} {cap : Nat} (h : Sl w size (.slice a n cap) n xs) (hm : m ≤ n) : Sl w size (.slice a m cap) m (xs.take (m * size)) := by
  obtain ⟨hl, a', cap', he, h3, h4, h5⟩ := h
  simp only [Value.slice.injEq] at he
  obtain ⟨rfl, -, rfl⟩ := he
  refine ⟨?_, _, _, rfl, by omega, h4, ?_⟩
  · rw [List.length_take, hl]
    exact Nat.min_eq_left (Nat.mul_le_mul_right _ hm)
  · rcases h5 with rfl | ⟨b, off, rfl, hc⟩
    · exact .inl (by omega)
    · refine .inr ⟨b, off, rfl, fun j u hu => hc j u ?_⟩
      rw [List.getElem?_take] at hu
      split at hu
      · exact hu
      · cases hu
theorem Sl.zero (w : World) (size : Nat) (a : Option Addr) (cap : Nat) (hc : cap ≤ maxLen) : Sl w size (.slice a 0 cap) 0 [] := ⟨by simp, a, cap, rfl, Nat.zero_le _, hc, .inl rfl⟩
/-- s[lo:] where something is left. -/
theorem Sl.drop {w : World} {size n lo : Nat} {xs : List Value} {b off cap : Nat} (h : Sl w size (.slice (some ⟨b, off, none⟩) n cap) n xs) (hlo : lo ≤ n) :
    Sl w size (.slice (some ⟨b, off + lo * size, none⟩) (n - lo) (cap - lo)) (n - lo) (xs.drop (lo * size)) := by
  obtain ⟨hl, a', cap', he, h3, h4, h5⟩ := h
  simp only [Value.slice.injEq] at he
  obtain ⟨rfl, -, rfl⟩ := he
  refine ⟨by rw [List.length_drop, hl, Nat.sub_mul], _, _, rfl, by omega, by omega, ?_⟩
  rcases h5 with rfl | ⟨b, off, he, hc⟩
  · exact .inl (by omega)
  · simp only [Option.some.injEq, Addr.mk.injEq, and_true] at he
    obtain ⟨rfl, rfl⟩ := he
    refine .inr ⟨_, _, rfl, fun j u hu => ?_⟩
    rw [List.getElem?_drop] at hu
    have := hc _ _ hu
    rwa [← Nat.add_assoc] at this
/-- A slice that has just been made, empty, is the call's own. -/
theorem owns_empty' (w : World) (B : Nat) (hB : B = w.heap.size) (e : TypeId) (size : Nat) : (w.alloc (.cells #[] e)).ownsRow B e size (.slice (some ⟨B, 0, none⟩) 0 0) 0 [] := by
  subst hB
  exact World.ownsRow_made w #[] 0 (Nat.le_refl _) (Nat.zero_le _) (by simp)
/-- A slice that has just been made, empty, is the call's own. -/
theorem owns_empty (w : World) (e : TypeId) (size : Nat) : (w.alloc (.cells #[] e)).ownsRow w.heap.size e size (.slice (some ⟨w.heap.size, 0, none⟩) 0 0) 0 [] :=
  World.ownsRow_made w #[] 0 (Nat.le_refl _) (Nat.zero_le _) (by simp)
/-- Two slices of the call's own lie in different blocks. -/
def Apart (v u : Value) : Prop := ∀ k, v.ownBlock = some k → u.ownBlock ≠ some k
theorem Apart.symm {v u : Value} (h : Apart v u) : Apart u v := fun k e f => h k f e
theorem Apart.nil (u : Value) : Apart (.slice none 0 0) u := fun k e => by simp [Value.ownBlock] at e
theorem Apart.next {w : World} {v v' u : Value} {base : Nat} {e : TypeId} {size n : Nat} {xs : List Value} (h : Apart v u) (hu : w.ownsRow base e size u n xs) (hv : ∀ k, v'.ownBlock = some k → v.ownBlock = some k ∨ w.heap.size ≤ k) : Apart v' u := by
  intro k h1 h2
  rcases hv k h1 with h3 | h3
  · exact h k h3 h2
  · have := (hu.lt k h2).2
    omega
theorem Apart.kept {w w' : World} {v u : Value} {base : Nat} {e : TypeId} {size n : Nat} {xs : List Value} (h : Apart v u) (hu : w.ownsRow base e size u n xs) (hg : w.grownBy w' v.ownBlock) : w'.ownsRow base e size u n xs :=
  hu.kept hg (by cases hb : u.ownBlock with
    | none => exact .inl rfl
    | some k => exact .inr (fun e => h k e.symm hb))
theorem owns_kept {S : Nat → Prop} {w w' : World} {base : Nat} {e : TypeId} {size n : Nat} {v : Value} {xs : List Value} (h : w.ownsRow base e size v n xs) (ho : Only S w w') (hn : ∀ k, v.ownBlock = some k → ¬ S k) : w'.ownsRow base e size v n xs := by
  refine ⟨h.1, ?_⟩
  rcases h.2 with h2 | ⟨g, cap, cur, rfl, hb, hg, r⟩
  · exact .inl h2
  · exact .inr ⟨g, cap, cur, rfl, hb, ho.old hg (hn g rfl), r⟩
theorem owns_only {S : Nat → Prop} {w w' : World} {base : Nat} {e : TypeId} {size n : Nat} {v : Value} {xs : List Value} (h : w.ownsRow base e size v n xs) (ho : Only S w w') (hn : ∀ k, base ≤ k → ¬ S k) : w'.ownsRow base e size v n xs := by
  refine ⟨h.1, ?_⟩
  rcases h.2 with h2 | ⟨g, cap, cur, rfl, hb, hg, r⟩
  · exact .inl h2
  · exact .inr ⟨g, cap, cur, rfl, hb, ho.old hg (hn g hb), r⟩
/-- The cells of a block that has just been made, as an append wants them. -/
theorem news_new (w : World) (cs : List Value) (e : TypeId) : ∀ j u, cs[j]? = some u → (w.alloc (.cells cs.toArray e)).cell? ((⟨w.heap.size, 0, none⟩ : Addr).add j) = some u := by
  intro j u hu
  rw [Addr.add_lit, World.cell?_alloc_new]
  simpa using hu
/-- A slice literal. -/
theorem Sl.fresh (w : World) (cs : List Value) (e : TypeId) (n size : Nat) (h : cs.length = n * size) (hn : n ≤ maxLen) : Sl (w.alloc (.cells cs.toArray e)) size (.slice (some ⟨w.heap.size, 0, none⟩) n n) n cs :=
  ⟨h, _, n, rfl, Nat.le_refl _, hn, .inr ⟨w.heap.size, 0, rfl, fun j u hu => by
    rw [World.cell?_alloc_new]
    simpa using hu⟩⟩
theorem news_new' (w : World) (B : Nat) (hB : B = w.heap.size) (cs : List Value) (e : TypeId) : ∀ j u, cs[j]? = some u → (w.alloc (.cells cs.toArray e)).cell? ((⟨B, 0, none⟩ : Addr).add j) = some u := by
  subst hB
  exact news_new w cs e
/-- What is owned from the call's beginning on may have been written: nothing that was there has changed. -/
theorem Only.own {S : Nat → Prop} {a w w' : World} {e : TypeId} {size n base : Nat} {v : Value} {xs : List Value} (h : Only S a w) (hown : w.ownsRow base e size v n xs) (hb : a.heap.size ≤ base) (hg : w.grownBy w' v.ownBlock) : Only S a w' :=
  h.grown hg (fun k e => .inl (Nat.le_trans hb (hown.lt k e).1))
end Go.Proofs.Ytjgcbcahikemdaa
/-! Strings: the walk's forms of comparisons. -/
namespace Go.Proofs.Ytjgcbcahikemdaa
open Go.Conc Go.RowKit

theorem size_data (s : ByteArray) : s.data.toList.length = s.size := rfl
theorem empty_false {s : ByteArray} (h : s.size ≠ 0) : s.toList.isEmpty = false := by
  rw [ByteArray.toList_eq]
  cases hl : s.data.toList with
  | nil => exact absurd (by rw [← size_data, hl]; rfl) h
  | cons a r => rfl
theorem empty_true {s : ByteArray} (h : s.size = 0) : s.toList.isEmpty = true := by
  rw [ByteArray.toList_eq]
  cases hl : s.data.toList with
  | nil => rfl
  | cons a r => rw [← size_data, hl] at h; simp at h
theorem str_ext {a b : ByteArray} (h : a.data.toList = b.data.toList) : a = b := by
  cases a; cases b
  simp only [ByteArray.mk.injEq]
  exact Array.toList_inj.1 h
theorem str_ne {a b : ByteArray} (h : a ≠ b) : (a.toList == b.toList) = false := by
  rw [ByteArray.toList_eq, ByteArray.toList_eq, beq_eq_false_iff_ne]
  exact fun e => h (str_ext e)
theorem str_eq {a b : ByteArray} (h : a = b) : (a.toList == b.toList) = true := by
  subst h
  exact beq_self_eq_true _

/-- Bytes given as numbers. -/
def bytesOf (ns : List Int) : ByteArray := ⟨(ns.map fun n => UInt8.ofNat n.toNat).toArray⟩
theorem push_list (r : ByteArray) (b : UInt8) : (r.push b).data.toList = r.data.toList ++ [b] := by simp [ByteArray.push]
theorem foldl_bytes (ns : List Int) : ∀ r : ByteArray, (ns.foldl (fun r n => r.push (UInt8.ofNat n.toNat)) r).data.toList = r.data.toList ++ ns.map fun n => UInt8.ofNat n.toNat := by
  induction ns with
  | nil => intro r; simp
  | cons n ns ih =>
    intro r
    rw [List.foldl_cons, ih, push_list]
    simp
theorem foldl_bytesOf (ns : List Int) : ns.foldl (fun r n => r.push (UInt8.ofNat n.toNat)) ByteArray.empty = bytesOf ns := by
  apply str_ext
  rw [foldl_bytes]
  simp [bytesOf]
/-- string(b), b a slice of bytes. -/
theorem run_bytes_str {P : Program} {w : World} {src dst e : TypeId} {v : Value} {ns : List Int} (hs : P.underlying src = some (.slice e)) (he : P.underlying e = some (.int .u8)) (hd : P.underlying dst = some .string)
    (h : Sl w 1 v ns.length (ns.map (.int .u8))) : (convert src dst v).run P w = .ok (.string (bytesOf ns)) w := by
  obtain ⟨hl, a, cap, rfl, _, _, h5⟩ := h
  rw [run_convert_bytes_string w src dst e a ns.length cap hs he hd]
  have key : ∀ ad : Addr, (loadCells ad ns.length).run P w = .ok (ns.map (Value.int .u8)).toArray w → (Conv.bytesToString (.slice (some ad) ns.length cap)).run P w = .ok (.string (bytesOf ns)) w := by
    intro ad h
    rw [run_bytesToString w ad ns.length cap ns h, foldl_bytesOf]
  rcases h5 with h0 | ⟨b, off, rfl, hc⟩
  · obtain rfl : ns = [] := List.eq_nil_of_length_eq_zero h0
    cases a with
    | none => rfl
    | some ad => exact key ad rfl
  · refine key _ ?_
    have := run_loadCells_list (P := P) w ⟨b, off, none⟩ (ns.map (Value.int .u8)) (fun j u hu => by rw [Addr.add_lit]; exact hc j u hu)
    simpa using this
theorem run_bytes_new {P : Program} {src dst e : TypeId} (hs : P.underlying src = some (.slice e)) (he : P.underlying e = some (.int .u8)) (hd : P.underlying dst = some .string) (w : World) (B : Nat) (xs : List Int) (n : Nat) (hB : B = w.heap.size) (hn : n = xs.length) (hm : n ≤ maxLen) :
    (convert src dst (.slice (some ⟨B, 0, none⟩) n n)).run P (w.alloc (.cells (xs.map (.int .u8)).toArray e)) = .ok (.string (bytesOf xs)) (w.alloc (.cells (xs.map (.int .u8)).toArray e)) := by
  subst hB hn
  exact run_bytes_str hs he hd (Sl.fresh w _ e _ 1 (by simp) hm)
theorem run_bytes_new_drew {P : Program} {src dst e : TypeId} (hs : P.underlying src = some (.slice e)) (he : P.underlying e = some (.int .u8)) (hd : P.underlying dst = some .string) (w : World) (B : Nat) (xs : List Int) (n : Nat) (hB : B = w.heap.size) (hn : n = xs.length) (hm : n ≤ maxLen) :
    (convert src dst (.slice (some ⟨B, 0, none⟩) n n)).run P (w.alloc (.cells (xs.map (.int .u8)).toArray e)).drew = .ok (.string (bytesOf xs)) (w.alloc (.cells (xs.map (.int .u8)).toArray e)).drew := by
  subst hB hn
  exact run_bytes_str hs he hd ((Sl.fresh w _ e _ 1 (by simp) hm).new ((Only.refl _ _).drew))
end Go.Proofs.Ytjgcbcahikemdaa
/-! A row of bytes as '[]byte(s)' lays it. -/
namespace Go.Proofs.Ytjgcbcahikemdaa
open Go.Conc Go.RowKit

theorem set_at {w : World} {b : Nat} {cs : Array Value} {t : TypeId} {f : Nat × Nat} (h : w.heap[b]? = some (.cells cs t f)) (i : Nat) (u : Value) : (w.setCell ⟨b, i, none⟩ u).heap[b]? = some (.cells (cs.setIfInBounds i u) t f) := by
  have hlt := lt_of_block h
  have h' : w.heap[b] = .cells cs t f := by simpa [Array.getElem?_eq_getElem hlt] using h
  show (w.heap.modify b _)[b]? = _
  rw [Array.getElem?_eq_getElem (by simpa using hlt), Array.getElem_modify_self, h']
  rfl
/-- A row of bytes as '[]byte(s)' lays it: its first cells. -/
def Byt (w : World) (B N : Nat) (vs : List Value) : Prop :=
  ∃ cur, w.heap[B]? = some (.cells cur 5 (N, N + 1)) ∧ cur.size = N ∧ vs.length ≤ N ∧ cur.toList.take vs.length = vs
theorem Byt.cell {w : World} {B N : Nat} {vs : List Value} (h : Byt w B N vs) {j : Nat} {u : Value} (hu : vs[j]? = some u) : w.cell? ⟨B, j, none⟩ = some u := by
  obtain ⟨cur, h1, h2, h3, h4⟩ := h
  have hj : j < vs.length := (List.getElem?_eq_some_iff.1 hu).1
  rw [← h4, List.getElem?_take, if_pos hj] at hu
  rw [cell_at' h1]
  simpa using hu
where cell_at' {w : World} {b : Nat} {cs : Array Value} {t : TypeId} {f : Nat × Nat} (h : w.heap[b]? = some (.cells cs t f)) {i : Nat} : w.cell? ⟨b, i, none⟩ = cs[i]? := cell_at h i
theorem Byt.free {w : World} {B N : Nat} {vs : List Value} (h : Byt w B N vs) {j : Nat} (hj : j < vs.length) : w.frozen? ⟨B, j, none⟩ = false := by
  obtain ⟨cur, h1, h2, h3, h4⟩ := h
  simp only [World.frozen?, h1]
  have : ¬ N ≤ j := by omega
  simp [this]
theorem Byt.store {w : World} {B N : Nat} {vs : List Value} (h : Byt w B N vs) (j : Nat) (u : Value) : Byt (w.setCell ⟨B, j, none⟩ u) B N (vs.set j u) := by
  obtain ⟨cur, h1, h2, h3, h4⟩ := h
  refine ⟨_, set_at h1 _ u, by simpa using h2, by simpa using h3, ?_⟩
  rw [Array.toList_setIfInBounds, List.length_set, List.take_set, h4]
theorem Byt.kept {S : Nat → Prop} {w w' : World} {B N : Nat} {vs : List Value} (h : Byt w B N vs) (ho : Only S w w') (hn : ¬ S B) : Byt w' B N vs := by
  obtain ⟨cur, h1, h2⟩ := h
  exact ⟨cur, ho.old h1 hn, h2⟩
theorem Byt.lt {w : World} {B N : Nat} {vs : List Value} (h : Byt w B N vs) : B < w.heap.size := by
  obtain ⟨cur, h1, _⟩ := h
  exact lt_of_block h1
def byteVals (l : List UInt8) : List Value := l.map fun b => .int .u8 b.toNat
theorem Byt.new (w : World) (s : ByteArray) (cap : Nat) :
    Byt (w.alloc (.cells (bytesRow s cap) 5 ((bytesRow s cap).size, (bytesRow s cap).size + 1))).drew w.heap.size (bytesRow s cap).size (byteVals s.data.toList) := by
  have hl : (byteVals s.data.toList).length = s.size := by rw [byteVals, List.length_map]; rfl
  refine ⟨bytesRow s cap, heap_alloc_new w _, rfl, ?_, ?_⟩
  · rw [hl, bytesRow, Array.size_append, Array.size_map, Array.size_replicate]
    show s.data.size ≤ s.data.size + _
    omega
  · rw [bytesRow, Array.toList_append, Array.toList_map, List.take_append_of_le_length (Nat.le_of_eq (by simp [byteVals]))]
    rw [List.take_of_length_le (Nat.le_of_eq (by simp [byteVals]))]
    rfl
theorem Byt.sl {w : World} {B N n cap : Nat} {l : List UInt8} (h : Byt w B N (byteVals l)) (hn : n = l.length) (hc : n ≤ cap) (hm : cap ≤ maxLen) :
    Sl w 1 (.slice (some ⟨B, 0, none⟩) n cap) (l.map fun b => (b.toNat : Int)).length ((l.map fun b => (b.toNat : Int)).map (.int .u8)) := by
  subst hn
  rw [List.length_map]
  refine ⟨by simp, _, cap, rfl, hc, hm, .inr ⟨B, 0, rfl, fun j u hu => ?_⟩⟩
  rw [Nat.zero_add]
  refine h.cell ?_
  simpa [byteVals] using hu
theorem bytesOf_nat (l : List UInt8) : bytesOf (l.map fun b => (b.toNat : Int)) = ⟨l.toArray⟩ := by
  apply str_ext
  simp only [bytesOf, List.map_map]
  have e : ((fun n : Int => UInt8.ofNat n.toNat) ∘ fun b : UInt8 => (b.toNat : Int)) = id := funext fun b => by simp
  rw [e, List.map_id]

end Go.Proofs.Ytjgcbcahikemdaa
/-! Maps as lists of entries: what a block holds that is a map, whatever its keys and elements. -/
namespace Go.Proofs.Ytjgcbcahikemdaa
open Go.Conc Go.RowKit Go.Maps
open Go.ChangeMaps (notKey eq_of_perm_sorted rising_of_pairwise)

/-- How an element reads: as itself. -/
def heldE (v : Value) : Option (DataW Value × List MemPlace) := some (.held v, [])
section
variable {α β : Type}
def keyL (P : Program) (k : TypeId) (κ : α → Value) (a : α) : Lit := (keyOf P k (κ a)).getD .nil
def entL (P : Program) (k : TypeId) (κ : α → Value) (ε : β → Value) (p : α × β) : Lit × DataW Value := (keyL P k κ p.1, .held (ε p.2))
def mapD (P : Program) (k : TypeId) (κ : α → Value) (ε : β → Value) (L : List (α × β)) : DataW Value := .map ((L.map (entL P k κ ε)).foldr DataW.insert [])
/-- May a be a key? -/
def KeyOk (P : Program) (k : TypeId) (κ : α → Value) (a : α) : Prop := ∃ l, keyOf P k (κ a) = some l
/-- BLOCK b OF w IS A MAP OF JUST THESE ENTRIES (no key twice). -/
structure MapIs (P : Program) (k : TypeId) (κ : α → Value) (ε : β → Value) (w : World) (b : Nat) (L : List (α × β)) : Prop where
  own : w.ownsMap P k heldE b L.length (mapD P k κ ε L)
  apart : L.Pairwise (fun p q => p.1 ≠ q.1)
  keys : ∀ p ∈ L, KeyOk P k κ p.1
/-- What is there at a key. -/
def lookL [DecidableEq α] (L : List (α × β)) (x : α) : Option β := (L.find? (fun p => decide (p.1 = x))).map (·.2)
def dropL [DecidableEq α] (L : List (α × β)) (x : α) : List (α × β) := L.filter (fun p => !decide (p.1 = x))
def putL [DecidableEq α] (L : List (α × β)) (x : α) (v : β) : List (α × β) := dropL L x ++ [(x, v)]

theorem lookL_none [DecidableEq α] {L : List (α × β)} {x : α} (h : lookL L x = none) : ∀ p ∈ L, p.1 ≠ x := by
  intro p hp e
  simp only [lookL, Option.map_eq_none_iff, List.find?_eq_none] at h
  exact h p hp (by simpa using e)
theorem lookL_some [DecidableEq α] {L : List (α × β)} {x : α} {v : β} (h : lookL L x = some v) : (x, v) ∈ L := by
  simp only [lookL, Option.map_eq_some_iff] at h
  obtain ⟨p, hp, rfl⟩ := h
  have h1 := List.find?_some hp
  have h2 := List.mem_of_find?_eq_some hp
  obtain rfl : p.1 = x := by simpa using h1
  exact h2
theorem lookL_of_none [DecidableEq α] {L : List (α × β)} {x : α} (h : ∀ p ∈ L, p.1 ≠ x) : lookL L x = none := by
  simp only [lookL, Option.map_eq_none_iff, List.find?_eq_none]
  intro p hp
  simpa using h p hp
theorem lookL_of_mem [DecidableEq α] {L : List (α × β)} {x : α} {v : β} (ha : L.Pairwise (fun p q => p.1 ≠ q.1)) (h : (x, v) ∈ L) : lookL L x = some v := by
  induction L with
  | nil => cases h
  | cons p L ih =>
    obtain ⟨h1, h2⟩ := List.pairwise_cons.1 ha
    unfold lookL
    rcases List.mem_cons.1 h with e | h
    · rw [← e]; simp
    · have hne : p.1 ≠ x := h1 _ h
      rw [List.find?_cons_of_neg (by simpa using hne)]
      exact ih h2 h
theorem apart_perm {L L' : List (α × β)} (hp : L.Perm L') (h : L.Pairwise (fun p q => p.1 ≠ q.1)) : L'.Pairwise (fun p q => p.1 ≠ q.1) := (hp.pairwise_iff (fun {_ _} hne => Ne.symm hne)).1 h
theorem lookL_perm [DecidableEq α] {L L' : List (α × β)} (hp : L.Perm L') (ha : L.Pairwise (fun p q => p.1 ≠ q.1)) (x : α) : lookL L x = lookL L' x := by
  cases h : lookL L x with
  | none => exact (lookL_of_none (fun p hp' => lookL_none h p (hp.mem_iff.2 hp'))).symm
  | some v => exact (lookL_of_mem (apart_perm hp ha) (hp.mem_iff.1 (lookL_some h))).symm
theorem apart_drop [DecidableEq α] {L : List (α × β)} (h : L.Pairwise (fun p q => p.1 ≠ q.1)) (x : α) : (dropL L x).Pairwise (fun p q => p.1 ≠ q.1) := h.filter _
theorem mem_dropL [DecidableEq α] {L : List (α × β)} {x : α} {p : α × β} : p ∈ dropL L x ↔ p ∈ L ∧ p.1 ≠ x := by simp [dropL]
theorem apart_put [DecidableEq α] {L : List (α × β)} (h : L.Pairwise (fun p q => p.1 ≠ q.1)) (x : α) (v : β) : (putL L x v).Pairwise (fun p q => p.1 ≠ q.1) := by
  refine List.pairwise_append.2 ⟨apart_drop h x, by simp, fun p hp q hq => ?_⟩
  obtain rfl : q = (x, v) := by simpa using hq
  exact (mem_dropL.1 hp).2
theorem dropL_of_none [DecidableEq α] {L : List (α × β)} {x : α} (h : lookL L x = none) : dropL L x = L := List.filter_eq_self.2 (fun p hp => by simpa using lookL_none h p hp)
theorem length_dropL [DecidableEq α] {L : List (α × β)} {x : α} {v : β} (ha : L.Pairwise (fun p q => p.1 ≠ q.1)) (h : lookL L x = some v) : (dropL L x).length + 1 = L.length := by
  induction L with
  | nil => cases h
  | cons p L ih =>
    obtain ⟨h1, h2⟩ := List.pairwise_cons.1 ha
    by_cases e : p.1 = x
    · have hn : lookL L x = none := lookL_of_none (fun q hq => e ▸ (h1 q hq).symm)
      have := dropL_of_none hn
      simp only [dropL] at this ⊢
      rw [List.filter_cons_of_neg (by simp [e]), this]; rfl
    · have h' : lookL L x = some v := by
        unfold lookL at h ⊢
        rwa [List.find?_cons_of_neg (by simpa using e)] at h
      have := ih h2 h'
      simp only [dropL] at this ⊢
      rw [List.filter_cons_of_pos (by simpa using e)]
      simp; omega
theorem length_putL [DecidableEq α] {L : List (α × β)} (ha : L.Pairwise (fun p q => p.1 ≠ q.1)) (x : α) (v : β) : (putL L x v).length = if (lookL L x).isSome then L.length else L.length + 1 := by
  cases h : lookL L x with
  | none => simp [putL, dropL_of_none h]
  | some u => have := length_dropL ha h; simp [putL]; omega
theorem lookL_put_same [DecidableEq α] (L : List (α × β)) (x : α) (v : β) : lookL (putL L x v) x = some v := by
  have : (dropL L x).find? (fun p => decide (p.1 = x)) = none := by
    rw [List.find?_eq_none]; intro p hp; simpa using (mem_dropL.1 hp).2
  simp [lookL, putL, List.find?_append, this]
theorem find_drop [DecidableEq α] {L : List (α × β)} {x y : α} (h : y ≠ x) : (dropL L x).find? (fun p => decide (p.1 = y)) = L.find? (fun p => decide (p.1 = y)) := by
  unfold dropL
  induction L with
  | nil => rfl
  | cons p L ih =>
    by_cases e : p.1 = x
    · rw [List.filter_cons_of_neg (by simp [e]), ih, List.find?_cons_of_neg (by simp; exact fun h' => h (h'.symm.trans e))]
    · rw [List.filter_cons_of_pos (by simpa using e)]
      by_cases e' : p.1 = y
      · rw [List.find?_cons_of_pos (by simpa using e'), List.find?_cons_of_pos (by simpa using e')]
      · rw [List.find?_cons_of_neg (by simpa using e'), List.find?_cons_of_neg (by simpa using e'), ih]
theorem lookL_drop_other [DecidableEq α] (L : List (α × β)) {x y : α} (h : y ≠ x) : lookL (dropL L x) y = lookL L y := by unfold lookL; rw [find_drop h]
theorem lookL_drop_same [DecidableEq α] (L : List (α × β)) (x : α) : lookL (dropL L x) x = none := lookL_of_none (fun _ hp => (mem_dropL.1 hp).2)
theorem lookL_put_other [DecidableEq α] (L : List (α × β)) {x y : α} (h : y ≠ x) (v : β) : lookL (putL L x v) y = lookL L y := by
  unfold lookL putL
  rw [List.find?_append, find_drop h]
  have : (decide (x = y)) = false := by simpa using fun e => h e.symm
  simp [List.find?, this]

variable {P : Program} {k : TypeId} {κ : α → Value} {ε : β → Value} {w : World} {b : Nat} {L : List (α × β)}
theorem keyL_of {a : α} {l : Lit} (h : keyOf P k (κ a) = some l) : keyL P k κ a = l := by simp [keyL, h]
theorem keyL_ne (K : Keyed P k) (hκ : ∀ a b, κ a = κ b → a = b) {a c : α} (ha : KeyOk P k κ a) (hc : KeyOk P k κ c) (h : a ≠ c) : keyL P k κ a ≠ keyL P k κ c := by
  obtain ⟨l, hl⟩ := ha
  obtain ⟨m, hm⟩ := hc
  rw [keyL_of hl, keyL_of hm]
  rintro rfl
  exact h (hκ _ _ (K.inj hl hm))
theorem MapIs.ents (h : MapIs P k κ ε w b L) (K : Keyed P k) (hκ : ∀ a b, κ a = κ b → a = b) : (L.map (entL P k κ ε)).Pairwise (fun p q => p.1 ≠ q.1) := by
  rw [List.pairwise_map]
  have := h.apart
  refine List.Pairwise.imp_of_mem ?_ this
  intro p q hp hq hne
  exact keyL_ne K hκ (h.keys p hp) (h.keys q hq) hne
theorem MapIs.kinds (h : MapIs P k κ ε w b L) : Keys (KeysOf P k) (L.map (entL P k κ ε)) := by
  intro p hp
  obtain ⟨q, hq, rfl⟩ := List.mem_map.1 hp
  obtain ⟨l, hl⟩ := h.keys q hq
  exact ⟨κ q.1, by rw [hl]; exact congrArg some (keyL_of hl).symm⟩
theorem size_mapD : Maps.size (mapD P k κ ε L) = L.length := by simp [mapD, Maps.size, length_sorted]
theorem own_tight {D : DataW Value} {n : Nat} (h : w.ownsMap P k heldE b n D) : w.ownsMap P k heldE b (Maps.size D) D := by
  obtain ⟨es, clock, hb, F, _, rfl⟩ := h
  exact ⟨es, clock, hb, F, by simp [Maps.size, length_sorted], rfl⟩
theorem MapIs.made (w : World) : MapIs P k κ ε (w.alloc (.map #[] 0)) w.heap.size ([] : List (α × β)) :=
  ⟨World.ownsMap_made w P k heldE, List.Pairwise.nil, fun _ h => by cases h⟩
theorem MapIs.empty (h : w.heap[b]? = some (.map #[] 0)) : MapIs P k κ ε w b ([] : List (α × β)) :=
  ⟨⟨#[], 0, h, ⟨by simp, (World.ownsMap_made (H := Value) w P k heldE).elim fun es h2 => h2.elim fun c h3 => by
      have := h3.2.1.stamped
      have e1 : es = #[] := by
        have := h3.2.2.1
        exact Array.eq_empty_of_size_eq_zero (by omega)
      subst e1
      have e2 : c = 0 := by
        have hh := h3.1
        rw [heap_alloc_new] at hh
        cases hh; rfl
      subst e2
      exact this, by simp⟩, Nat.le_refl _, rfl⟩, List.Pairwise.nil, fun _ h => by cases h⟩
theorem MapIs.lt (h : MapIs P k κ ε w b L) : b < w.heap.size := h.own.lt
theorem MapIs.at {w' : World} (h : MapIs P k κ ε w b L) (hb : w'.heap[b]? = w.heap[b]?) : MapIs P k κ ε w' b L := by
  obtain ⟨es, clock, h1, h2⟩ := h.own
  exact ⟨⟨es, clock, hb.trans h1, h2⟩, h.apart, h.keys⟩
theorem MapIs.kept {S : Nat → Prop} {w' : World} (h : MapIs P k κ ε w b L) (ho : Only S w w') (hn : ¬ S b) : MapIs P k κ ε w' b L := h.at (ho.block b h.lt hn)
theorem MapIs.perm {L' : List (α × β)} (h : MapIs P k κ ε w b L) (K : Keyed P k) (hκ : ∀ a b, κ a = κ b → a = b) (hp : L.Perm L') : MapIs P k κ ε w b L' := by
  refine ⟨?_, apart_perm hp h.apart, fun p hp' => h.keys p (hp.mem_iff.2 hp')⟩
  have e : mapD P k κ ε L = mapD P k κ ε L' := by
    unfold mapD
    congr 1
    refine eq_of_perm_sorted ?_ (sorted_sorted K.one _ h.kinds (h.ents K hκ)) (sorted_sorted K.one _ (keys_perm (hp.map _) h.kinds) ?_)
    · exact (WideShapes.sorted_perm _).trans ((hp.map _).trans (WideShapes.sorted_perm _).symm)
    · exact ((hp.map _).pairwise_iff (fun {_ _} hne => Ne.symm hne)).1 (h.ents K hκ)
  rw [← e, ← hp.length_eq]
  exact h.own
/-- A look-up. -/
theorem MapIs.look [DecidableEq α] {t e : TypeId} (h : MapIs P k κ ε w b L) (K : Keyed P k) (hκ : ∀ a b, κ a = κ b → a = b) (ht : P.underlying t = some (.map k e)) {z : β} (hz : (zeroValue e).run P w = .ok (ε z) w) {x : α} (hx : KeyOk P k κ x) (c : Bool) :
    (Instr.lookup t (.map (some b)) (κ x) c).run P w = .ok (if c then .tuple #[ε ((lookL L x).getD z), .bool (lookL L x).isSome] else ε ((lookL L x).getD z)) w := by
  obtain ⟨kl, hkl⟩ := hx
  have hk : KeyOk P k κ x := ⟨kl, hkl⟩
  obtain ⟨es, clock, hb, F, _, hD⟩ := h.own
  have hat := WideShapes.atKey_sorted (L.map (entL P k κ ε)) (rising_of_pairwise _ (sorted_sorted K.one _ h.kinds (h.ents K hκ))) kl (K.key hkl)
  cases hl : lookL L x with
  | none =>
    have h0 := hat.1 (fun p hp => by
      obtain ⟨q, hq, rfl⟩ := List.mem_map.1 hp
      rw [← keyL_of hkl]
      exact keyL_ne K hκ (h.keys q hq) hk (lookL_none hl q hq))
    rcases Maps.fit_look c K ht hz hb F hkl with ⟨hrun, _, _⟩ | ⟨e0, y, _, _, _, hR, h1, _⟩
    · simpa using hrun
    · have e1 := h0 .nil
      have e2 := h1 .nil
      rw [← hD] at e2
      have e3 : y.1 = DataW.nil := e2.symm.trans e1
      obtain rfl : (DataW.held e0.val, ([] : List MemPlace)) = y := by simpa [heldE] using hR
      cases e3
  | some v =>
    have hm := lookL_some hl
    have h0 := hat.2 (entL P k κ ε (x, v)) (List.mem_map.2 ⟨_, hm, rfl⟩) (keyL_of hkl)
    rcases Maps.fit_look c K ht hz hb F hkl with ⟨_, _, h1⟩ | ⟨e0, y, _, _, hrun, hR, h1, _⟩
    · have e1 := h0 .nil
      have e2 := h1 .nil
      rw [← hD] at e2
      cases e2.symm.trans e1
    · have e1 := h0 .nil
      have e2 := h1 .nil
      rw [← hD] at e2
      obtain rfl : (DataW.held e0.val, ([] : List MemPlace)) = y := by simpa [heldE] using hR
      have e3 : e0.val = ε v := DataW.held.inj (e2.symm.trans e1)
      rw [e3] at hrun
      simpa using hrun
/-- A store. -/
theorem MapIs.store [DecidableEq α] {t e : TypeId} (h : MapIs P k κ ε w b L) (K : Keyed P k) (hκ : ∀ a b, κ a = κ b → a = b) (ht : P.underlying t = some (.map k e)) (hn : L.length < maxLen) {x : α} (hx : KeyOk P k κ x) (v : β) :
    ∃ w', (Instr.mapUpdate t (.map (some b)) (κ x) (ε v)).run P w = .ok () w' ∧ MapIs P k κ ε w' b (putL L x v) ∧ Only (fun i => i = b) w w' := by
  obtain ⟨kl, hkl⟩ := hx
  obtain ⟨w', h1, h2, h3⟩ := h.own.store (d := .held (ε v)) (ps := []) K ht hn hkl rfl
  have e : (mapD P k κ ε L).put kl (.held (ε v)) = mapD P k κ ε (putL L x v) := by
    unfold mapD
    rw [DataW.put_eq]
    congr 1
    refine (sorted_put K.one ⟨_, hkl⟩ h.kinds (h.ents K hκ) ?_).symm
    unfold putL
    rw [List.map_append]
    have : (dropL L x).map (entL P k κ ε) = (L.map (entL P k κ ε)).filter (notKey kl) := by
      rw [List.filter_map]
      congr 1
      refine List.filter_congr (fun p hp => ?_)
      have hi : notKey kl (entL P k κ ε p) = true ↔ keyL P k κ p.1 ≠ kl := notKey_iff (K.key hkl)
      rw [Function.comp_apply, Bool.eq_iff_iff, hi]
      constructor
      · intro hp'
        rw [← keyL_of hkl]
        exact keyL_ne K hκ (h.keys p hp) ⟨_, hkl⟩ (by simpa using hp')
      · intro hne
        have : p.1 ≠ x := by rintro e1; exact hne (by rw [e1]; exact keyL_of hkl)
        simpa using this
    rw [this]
    refine List.perm_append_comm.trans ?_
    rw [show [(x, v)].map (entL P k κ ε) = [(kl, DataW.held (ε v))] by simp [entL, keyL_of hkl]]
    exact List.Perm.refl _
  rw [e] at h2
  have hg := h3.grown
  refine ⟨w', h1, ⟨?_, apart_put h.apart x v, ?_⟩, ⟨hg.os, hg.tape, hg.output, hg.size, fun i hi hne => hg.block i hi (fun e => hne (by cases e; rfl))⟩⟩
  · have := own_tight h2; rwa [size_mapD] at this
  · intro p hp
    rcases List.mem_append.1 hp with hp | hp
    · exact h.keys p (mem_dropL.1 hp).1
    · obtain rfl : p = (x, v) := by simpa using hp
      exact ⟨_, hkl⟩
/-- A delete. -/
theorem MapIs.drop [DecidableEq α] {t e : TypeId} (h : MapIs P k κ ε w b L) (K : Keyed P k) (hκ : ∀ a b, κ a = κ b → a = b) (ht : P.underlying t = some (.map k e)) {x : α} (hx : KeyOk P k κ x) (ty : TypeId) :
    ∃ w', (Builtin.delete_ #[t, k] ty #[.map (some b), κ x]).run P w = .ok (.tuple #[]) w' ∧ MapIs P k κ ε w' b (dropL L x) ∧ Only (fun i => i = b) w w' := by
  obtain ⟨kl, hkl⟩ := hx
  obtain ⟨w', h1, h2, h3⟩ := h.own.drop K ht hkl ty
  have e : (mapD P k κ ε L).del kl = mapD P k κ ε (dropL L x) := by
    unfold mapD
    rw [DataW.del_eq]
    congr 1
    refine (sorted_del K.one h.kinds (h.ents K hκ) ?_).symm
    have : (dropL L x).map (entL P k κ ε) = (L.map (entL P k κ ε)).filter (notKey kl) := by
      rw [List.filter_map]
      congr 1
      refine List.filter_congr (fun p hp => ?_)
      have hi : notKey kl (entL P k κ ε p) = true ↔ keyL P k κ p.1 ≠ kl := notKey_iff (K.key hkl)
      rw [Function.comp_apply, Bool.eq_iff_iff, hi]
      constructor
      · intro hp'
        rw [← keyL_of hkl]
        exact keyL_ne K hκ (h.keys p hp) ⟨_, hkl⟩ (by simpa using hp')
      · intro hne
        have : p.1 ≠ x := by rintro e1; exact hne (by rw [e1]; exact keyL_of hkl)
        simpa using this
    rw [this]
  rw [e] at h2
  have hg := h3.grown
  refine ⟨w', h1, ⟨?_, apart_drop h.apart x, fun p hp => h.keys p (mem_dropL.1 hp).1⟩, ⟨hg.os, hg.tape, hg.output, hg.size, fun i hi hne => hg.block i hi (fun e => hne (by cases e; rfl))⟩⟩
  have := own_tight h2; rwa [size_mapD] at this
theorem MapIs.len {t e : TypeId} (h : MapIs P k κ ε w b L) (ht : P.underlying t = some (.map k e)) (ty : TypeId) : (Builtin.len_ #[t] ty #[.map (some b)]).run P w = .ok (.int .i64 (L.length : Nat)) w := by
  have := h.own.len ht ty
  rwa [size_mapD] at this
end

/-! at the operation, for the walk -/
section
variable {α β : Type} {P : Program} {k : TypeId} {κ : α → Value} {ε : β → Value} {b : Nat} {L : List (α × β)}
  {w : World} {ops : Array Oper} {rest : List Oper} {o : Oper} {a : Act} {Q : Exit → Act → World → Prop}
theorem wpList_mapLook [DecidableEq α] (hg : o.guard = none) (m x : Operand) (t : TypeId) (c : Bool) (hop : o.op = Op.lookup t m x c) {e : TypeId} (h : MapIs P k κ ε w b L) (K : Keyed P k) (hκ : ∀ a b, κ a = κ b → a = b) (ht : P.underlying t = some (.map k e))
    {z : β} (hz : (zeroValue e).run P w = .ok (ε z) w) (hm : a.eval m = .map (some b)) {y : α} (hx : a.eval x = κ y) (hy : KeyOk P k κ y)
    (hK : wpList P ops Q rest (a.put o.dst (if c then .tuple #[ε ((lookL L y).getD z), .bool (lookL L y).isSome] else ε ((lookL L y).getD z))) w) : wpList P ops Q (o :: rest) a w := by
  refine wpList_plain hg fun K' hK' => ?_
  have hrun := h.look K hκ ht hz hy c
  unfold Oper.wp
  generalize (if c then Value.tuple #[ε ((lookL L y).getD z), .bool (lookL L y).isSome] else ε ((lookL L y).getD z)) = r at hrun hK
  simp [execOp, hop, hm, hx, hrun, Result.andThen]
  exact hK' _ _ hK
theorem wpList_mapStore [DecidableEq α] (hg : o.guard = none) (m x v : Operand) (t : TypeId) (hop : o.op = Op.mapUpdate t m x v) {e : TypeId} (h : MapIs P k κ ε w b L) (K : Keyed P k) (hκ : ∀ a b, κ a = κ b → a = b) (ht : P.underlying t = some (.map k e))
    (hn : L.length < maxLen) (hm : a.eval m = .map (some b)) {y : α} (hx : a.eval x = κ y) (hy : KeyOk P k κ y) {u : β} (hv : a.eval v = ε u)
    (hK : ∀ w', MapIs P k κ ε w' b (putL L y u) → Only (fun i => i = b) w w' → wpList P ops Q rest (a.put o.dst undef) w') : wpList P ops Q (o :: rest) a w := by
  refine wpList_plain hg fun K' hK' => ?_
  obtain ⟨w', hrun, r1, r2⟩ := h.store K hκ ht hn hy u
  unfold Oper.wp
  simp [execOp, hop, hm, hx, hv, hrun, Result.andThen]
  exact hK' _ _ (hK w' r1 r2)
theorem wpList_mapDrop [DecidableEq α] (hg : o.guard = none) (m x : Operand) (t : TypeId) (hop : o.op = Op.call { callee := Callee.builtin Builtin.delete, args := #[m, x], argTypes := #[t, k] }) {e : TypeId} (h : MapIs P k κ ε w b L) (K : Keyed P k) (hκ : ∀ a b, κ a = κ b → a = b)
    (ht : P.underlying t = some (.map k e)) (hm : a.eval m = .map (some b)) {y : α} (hx : a.eval x = κ y) (hy : KeyOk P k κ y)
    (hK : ∀ w', MapIs P k κ ε w' b (dropL L y) → Only (fun i => i = b) w w' → wpList P ops Q rest (a.put o.dst (.tuple #[])) w') : wpList P ops Q (o :: rest) a w := by
  refine wpList_plain hg fun K' hK' => ?_
  obtain ⟨w', hrun, r1, r2⟩ := h.drop K hκ ht hy o.type
  unfold Oper.wp
  simp [execOp, hop, resolve, invoke, builtin, hm, hx, hrun, Result.andThen]
  exact hK' _ _ (hK w' r1 r2)
theorem wpList_mapLen (hg : o.guard = none) (m : Operand) (t : TypeId) (hop : o.op = Op.call { callee := Callee.builtin Builtin.len, args := #[m], argTypes := #[t] }) {e : TypeId} (h : MapIs P k κ ε w b L)
    (ht : P.underlying t = some (.map k e)) (hm : a.eval m = .map (some b))
    (hK : wpList P ops Q rest (a.put o.dst (.int .i64 (L.length : Nat))) w) : wpList P ops Q (o :: rest) a w := by
  refine wpList_plain hg fun K' hK' => ?_
  unfold Oper.wp
  simp [execOp, hop, resolve, invoke, builtin, hm, h.len ht o.type, Result.andThen]
  exact hK' _ _ hK
end
end Go.Proofs.Ytjgcbcahikemdaa
/-! Slices of structs, whatever the struct: the cells of a list of elements, each of so many cells. -/
namespace Go.Proofs.Ytjgcbcahikemdaa
open Go.Conc Go.RowKit

section
variable {α : Type} {size : Nat} {enc : α → List Value}
theorem fl_length (h : ∀ a, (enc a).length = size) (l : List α) : (l.flatMap enc).length = l.length * size := by
  induction l with
  | nil => simp
  | cons x l ih => rw [List.flatMap_cons, List.length_append, ih, h, List.length_cons, Nat.succ_mul]; omega
theorem fl_get (h : ∀ a, (enc a).length = size) (l : List α) (k : Nat) (hk : k < l.length) (i : Nat) (hi : i < size) : (l.flatMap enc)[k * size + i]? = (enc l[k])[i]? := by
  induction l generalizing k with
  | nil => exact absurd hk (by simp)
  | cons x l ih =>
    rw [List.flatMap_cons]
    cases k with
    | zero => rw [List.getElem?_append_left (by rw [h]; omega)]; simp
    | succ k =>
      rw [List.getElem?_append_right (by rw [h, Nat.succ_mul]; omega), h, show (k + 1) * size + i - size = k * size + i by rw [Nat.succ_mul]; omega]
      simpa using ih k (by simpa using hk)
theorem fl_take (h : ∀ a, (enc a).length = size) (l : List α) (k : Nat) : (l.flatMap enc).take (k * size) = (l.take k).flatMap enc := by
  induction l generalizing k with
  | nil => simp
  | cons x l ih =>
    cases k with
    | zero => simp
    | succ k =>
      rw [List.flatMap_cons, List.take_succ_cons, List.flatMap_cons, ← ih k, List.take_append, h, show (k + 1) * size - size = k * size by rw [Nat.succ_mul]; omega, List.take_of_length_le (by rw [h, Nat.succ_mul]; omega)]
theorem fl_drop (h : ∀ a, (enc a).length = size) (l : List α) (k : Nat) : (l.flatMap enc).drop (k * size) = (l.drop k).flatMap enc := by
  induction l generalizing k with
  | nil => simp
  | cons x l ih =>
    cases k with
    | zero => simp
    | succ k =>
      rw [List.flatMap_cons, List.drop_succ_cons, ← ih k, List.drop_append, h, show (k + 1) * size - size = k * size by rw [Nat.succ_mul]; omega, List.drop_of_length_le (by rw [h, Nat.succ_mul]; omega), List.nil_append]
theorem fl_one (h : ∀ a, ∀ u ∈ enc a, u.oneCell' = true) (l : List α) : ∀ u ∈ l.flatMap enc, u.oneCell' = true := by
  intro u hu
  obtain ⟨a, _, ha⟩ := List.mem_flatMap.1 hu
  exact h a u ha
/-- The cells of a slice of structs, for every index. -/
structure Cells (w : World) (size : Nat) (enc : α → List Value) (a : Option Addr) (l : List α) : Prop where
  out : l.length = 0 ∨ ∃ b off, a = some ⟨b, off, none⟩ ∧ ∀ k (hk : k < l.length), ∀ i u, (enc l[k])[i]? = some u → w.cell? ⟨b, off + k * size + i, none⟩ = some u
theorem Cells.at {w : World} {a : Option Addr} {l : List α} (h : Cells w size enc a l) (k : Nat) (hk : k < l.length) : ∃ b off, a = some ⟨b, off, none⟩ ∧ ∀ i u, (enc l[k])[i]? = some u → w.cell? ⟨b, off + k * size + i, none⟩ = some u := by
  rcases h.out with h | ⟨b, off, rfl, hc⟩
  · omega
  · exact ⟨b, off, rfl, fun i u hu => hc k hk i u hu⟩
/-- The cells of a slice of structs, for every index: its address once for all. -/
theorem Cells.once {w : World} {a : Option Addr} {l : List α} (h : Cells w size enc a l) (hl : 0 < l.length) : ∃ b off, a = some ⟨b, off, none⟩ ∧ ∀ k (hk : k < l.length), ∀ i u, (enc l[k])[i]? = some u → w.cell? ⟨b, off + k * size + i, none⟩ = some u := h.out.resolve_left (by omega)
theorem Cells.new {S : Nat → Prop} {w w' : World} {a : Option Addr} {l : List α} (h : Cells w size enc a l) (ho : Only S w w') (hn : ∀ p u, w.cell? p = some u → ¬ S p.block) : Cells w' size enc a l := by
  refine ⟨?_⟩
  rcases h.out with h | ⟨b, off, rfl, hc⟩
  · exact .inl h
  · exact .inr ⟨b, off, rfl, fun k hk i u hu => ho.cell (hc k hk i u hu) (hn _ _ (hc k hk i u hu))⟩
theorem Sl.cells {w : World} {v : Value} {l : List α} (hs : ∀ a, (enc a).length = size) (h : Sl w size v l.length (l.flatMap enc)) : ∃ a cap, v = .slice a l.length cap ∧ l.length ≤ cap ∧ cap ≤ maxLen ∧ Cells w size enc a l := by
  obtain ⟨_, a, cap, rfl, h3, h4, h5⟩ := h
  refine ⟨a, cap, rfl, h3, h4, ⟨?_⟩⟩
  rcases h5 with h5 | ⟨b, off, rfl, hc⟩
  · exact .inl h5
  · refine .inr ⟨b, off, rfl, fun k hk i u hu => ?_⟩
    have hi : i < size := by
      rw [← hs l[k]]
      exact (List.getElem?_eq_some_iff.1 hu).1
    have := hc (k * size + i) u (by rw [fl_get hs l k hk i hi]; exact hu)
    rwa [← Nat.add_assoc] at this
end
end Go.Proofs.Ytjgcbcahikemdaa
/-! x & mask, plainly. -/
namespace Go.Proofs.Ytjgcbcahikemdaa
open Go.Conc Go.RowKit

theorem and_i64 (a : Int) (m : Nat) (hm : m < 60) : bits .and .i64 a ((2 ^ m - 1 : Nat) : Int) = a % (2 ^ m : Nat) := by
  show IntKind.i64.wrap ((BitVec.ofInt 64 a &&& BitVec.ofInt 64 ((2 ^ m - 1 : Nat) : Int)).toNat : Int) = _
  have hp : 2 ^ m ≤ 2 ^ 60 := Nat.pow_le_pow_right (by omega) (by omega)
  have hp0 : 0 < 2 ^ m := Nat.two_pow_pos m
  rw [BitVec.toNat_and, BitVec.ofInt_natCast, BitVec.toNat_ofNat, Nat.mod_eq_of_lt (show 2 ^ m - 1 < 2 ^ 64 by omega), Nat.and_two_pow_sub_one_eq_mod, BitVec.toNat_ofInt]
  have h1 : ((a % ((2 ^ 64 : Nat) : Int)).toNat % 2 ^ m : Nat) < 2 ^ 60 := Nat.lt_of_lt_of_le (Nat.mod_lt _ hp0) hp
  have h2 : (((a % ((2 ^ 64 : Nat) : Int)).toNat % 2 ^ m : Nat) : Int) = a % (2 ^ m : Nat) := by
    rw [Int.natCast_emod, Int.toNat_of_nonneg (Int.emod_nonneg _ (by omega))]
    exact Int.emod_emod_of_dvd a (Int.natCast_dvd_natCast.2 (Nat.pow_dvd_pow 2 (by omega)))
  rw [← h2, IntKind.wrap_i64]
  omega
theorem and_u8 (a : Nat) (ha : a < 256) (m : Nat) (hm : m < 8) : bits .and .u8 (a : Int) ((2 ^ m - 1 : Nat) : Int) = ((a % 2 ^ m : Nat) : Int) := by
  show IntKind.u8.wrap ((BitVec.ofInt 8 (a : Int) &&& BitVec.ofInt 8 ((2 ^ m - 1 : Nat) : Int)).toNat : Int) = _
  have hp : 2 ^ m ≤ 2 ^ 7 := Nat.pow_le_pow_right (by omega) (by omega)
  have hp0 : 0 < 2 ^ m := Nat.two_pow_pos m
  rw [BitVec.toNat_and, BitVec.ofInt_natCast, BitVec.ofInt_natCast, BitVec.toNat_ofNat, BitVec.toNat_ofNat, Nat.mod_eq_of_lt (show a < 2 ^ 8 by omega), Nat.mod_eq_of_lt (show 2 ^ m - 1 < 2 ^ 8 by omega), Nat.and_two_pow_sub_one_eq_mod]
  have h1 : a % 2 ^ m < 2 ^ 7 := Nat.lt_of_lt_of_le (Nat.mod_lt _ hp0) hp
  rw [show IntKind.u8.wrap ((a % 2 ^ m : Nat) : Int) = ((a % 2 ^ m : Nat) : Int) % 256 from rfl]
  omega
theorem and3_i64 (a : Int) : bits .and .i64 a 3 = a % 4 := and_i64 a 2 (by omega)
theorem and1_u8 (a : Nat) (ha : a < 256) : bits .and .u8 (a : Int) 1 = ((a % 2 : Nat) : Int) := and_u8 a ha 1 (by omega)
theorem and3_u8 (a : Nat) (ha : a < 256) : bits .and .u8 (a : Int) 3 = ((a % 4 : Nat) : Int) := and_u8 a ha 2 (by omega)
end Go.Proofs.Ytjgcbcahikemdaa
/-! Small laws for regions that make blocks: what is kept, the block behind a chain of stores. -/
namespace Go.Proofs.Ytjgcbcahikemdaa
open Go.Conc Go.RowKit

theorem heldO {W w' : World} {C : World → Prop} (hC : ∀ w', Only (fun _ => False) W w' → C w') (h : Only (fun _ => False) W w') : Only (fun _ => False) W w' ∧ C w' := ⟨h, hC _ h⟩
theorem onlySet {W w : World} (h : Only (fun _ => False) W w) {c i : Nat} (hc : W.heap.size ≤ c) (v : Value) : Only (fun _ => False) W (w.setCell ⟨c, i, none⟩ v) := h.setCell (.inl hc) v
theorem blk_same {w : World} {b i : Nat} {cs : Array Value} {t : TypeId} {f : Nat × Nat} {v : Value} (h : w.heap[b]? = some (.cells cs t f)) : (w.setCell ⟨b, i, none⟩ v).heap[b]? = some (.cells (cs.setIfInBounds i v) t f) := set_at h i v
theorem blk_ne {w : World} {b c i : Nat} {v : Value} {x : Option Obj} (h : w.heap[b]? = x) (hn : c ≠ b) : (w.setCell ⟨c, i, none⟩ v).heap[b]? = x :=
  (Below.heap_setCell _ _ _ _ (Ne.symm hn)).trans h
theorem blk_new {w : World} {b : Nat} {o : Obj} (hb : b = w.heap.size) : (w.alloc o).heap[b]? = some o := by subst hb; exact heap_alloc_new w o
theorem blk_old {w : World} {o : Obj} {b : Nat} {x : Obj} (h : w.heap[b]? = some x) : (w.alloc o).heap[b]? = some x := (Below.heap_alloc _ _ _ (lt_of_block h)).trans h
theorem blk_drew {w : World} {b : Nat} {x : Option Obj} (h : w.heap[b]? = x) : w.drew.heap[b]? = x := h
theorem size_alloc (w : World) (o : Obj) : (w.alloc o).heap.size = w.heap.size + 1 := by simp
theorem size_set (w : World) (p : Addr) (v : Value) : (w.setCell p v).heap.size = w.heap.size := by simp
theorem size_drew (w : World) : w.drew.heap.size = w.heap.size := rfl
theorem sz_alloc {w : World} {o : Obj} {b : Nat} (h : b = w.heap.size) : b + 1 = (w.alloc o).heap.size := by rw [size_alloc, h]
theorem sz_set {w : World} {p : Addr} {v : Value} {b : Nat} (h : b = w.heap.size) : b = (w.setCell p v).heap.size := by rw [size_set, h]
theorem sz_drew {w : World} {b : Nat} (h : b = w.heap.size) : b = w.drew.heap.size := h
theorem two_new (w : World) (o o' : Obj) : ((w.alloc o).alloc o').heap[w.heap.size]? = some o ∧ ((w.alloc o).alloc o').heap[w.heap.size + 1]? = some o' := by
  refine ⟨blk_old (heap_alloc_new w o), ?_⟩
  have := heap_alloc_new (w.alloc o) o'
  simpa using this
/-- A callee that changes nothing, in a region that only reads. -/
theorem quiet_id {P : Program} {f : FuncId} {args : Array Value} {w : World} {n : Nat} {v : Value}
    (h : Calls P f args (w.drewN n) fun e w' => e = .returned v ∧ w.drewN n = w') : Calls P f args (w.drewN n) fun e w'' => e = .returned v ∧ ∃ m, w'' = w.drewN m :=
  h.mono fun _ _ ⟨he, hm⟩ => ⟨he, n, hm.symm⟩
theorem row_form {w : World} {base n size : Nat} {e : TypeId} {v : Value} {xs : List Value} (h : w.ownsRow base e size v n xs) (hn : xs ≠ []) :
    ∃ g cap cur, v = .slice (some ⟨g, 0, none⟩) n cap ∧ base ≤ g ∧ w.heap[g]? = some (.cells cur e (0, 0)) ∧ n ≤ cap ∧ cap ≤ maxLen ∧ cur.size = cap * size ∧ cur.toList.take (n * size) = xs := by
  obtain ⟨h1, h2⟩ := h
  rcases h2 with ⟨h2, rfl⟩ | ⟨g, cap, cur, hv, hb, hg, hnc, hcm, hcs, ht⟩
  · exact absurd (List.eq_nil_of_length_eq_zero (by simpa using h1)) hn
  · exact ⟨g, cap, cur, hv, hb, hg, hnc, hcm, hcs, ht⟩
end Go.Proofs.Ytjgcbcahikemdaa
/-! From a walk that returns true and touches nothing that was there to the row's post; the arguments' readings as 'Sl'. -/
namespace Go.Proofs.Ytjgcbcahikemdaa
open Go.Conc Go.RowKit Go.ChangeShapes Go.WideShapes Go.ChangeAt Go.WideMaps Go.WideElems

theorem trodAll_stays {H : Type} {enc : TypeId × Value → H} {P : Program} (hl : laidOutB P = true) {W W' : World} (hb : Below W.heap.size W W') :
    ∀ (ts : List TypeId) (vs : List Value) (ds : List (DataW H)) (ps : List MemPlace), (∀ t ∈ ts, P.readableRec t = true ∧ t < P.types.size) →
      DataW.TrodAll enc P W 0 (fun _ => true) true ts vs ds ps → (∀ x ∈ ps, x.block < W.heap.size) → DataW.TrodAll enc P W' 0 (fun b => decide (b < W.heap.size)) true ts vs ds ps
  | [], [], [], _, _, h, _ => h
  | t :: ts, v :: vs, d :: ds, _, ht, h, hlt => by
    obtain ⟨p, q, h1, h2, rfl⟩ := h
    obtain ⟨r1, r2⟩ := ht t (by simp)
    exact ⟨p, q, Below.trod hl r1 r2 h1 hb (fun x hx => hlt x (by simp [hx])), trodAll_stays hl hb ts vs ds q (fun t' h' => ht t' (by simp [h'])) h2 (fun x hx => hlt x (by simp [hx])), rfl⟩

/-- THE POST OF A LAW: it has returned true, and below the heap's old size nothing has changed. -/
theorem law_post {H : Type} {enc : TypeId × Value → H} {P : Program} {f : Func} {s : ChangeSpec} {apart fresh handsOn : Bool} {W W' : World} {args : Array Value} {ds gs : List (DataW H)} {before : List MemPlace} {tb : TypeId}
    (hW : DataW.Whole enc P f.params.toList s.vars apart W args.toList ds gs before) (hb : Below W.heap.size W W') (hl : laidOutB P = true) (hr : ∀ t ∈ f.params.toList, P.readableRec t = true ∧ t < P.types.size)
    (hrt : f.resultTypes = #[tb]) (htb : P.underlying tb = some .bool) (hv : s.vars = []) (e1 : (s.fn H (ds ++ gs)).results = [.lit (.bool true)]) (e2 : (s.fn H (ds ++ gs)).args = ds) (e3 : (s.fn H (ds ++ gs)).vars = []) :
    s.post enc P f apart fresh handsOn false W args (.bool true) W' := by
  have hW' := hW
  obtain ⟨p, q, hA, hV, rfl, _, _⟩ := hW
  rw [hv] at hV
  obtain ⟨rfl, rfl⟩ := trodVars_none hV
  simp only [List.append_nil] at hW' e1 e2 e3
  have hlt : ∀ x ∈ p, x.block < W.heap.size := fun x hx => by simpa using hW'.lt x hx
  refine ⟨ds, [], p, [], p, [], hW', ?_, ?_, ?_, hb.frame _, fun h => by cases h⟩
  · rw [List.append_nil, e1, hrt]
    exact trodAll_mk1 (shut_bool htb _)
  · rw [List.append_nil, e2]
    exact trodAll_stays hl hb _ _ _ _ hr hA hlt
  · rw [List.append_nil, e3, hv]
    rfl

theorem spot_of {w : World} {a : Addr} {u : Value} (h : w.cell? a = some u) : a.spot = none := World.cell?_spot h

section
variable {H : Type} {enc : TypeId × Value → H} {P : Program} {w : World} {base : Nat} {spare : Nat → Bool} {held : Bool} {t e : TypeId} {v : Value} {d : DataW H} {ps : List MemPlace}

theorem sl_of_row {size : Nat} {a : Addr} {len cap : Nat} {xs : List Value} (hsz : 0 < size) (hx : xs.length = len * size) (hl : len ≤ cap) (hm : cap ≤ maxLen) (hc : ∀ j u, xs[j]? = some u → w.cell? (a.add j) = some u) : Sl w size (.slice (some a) len cap) len xs := by
  refine ⟨hx, _, cap, rfl, hl, hm, ?_⟩
  by_cases h0 : len = 0
  · exact .inl h0
  · have hpos : 0 < xs.length := by rw [hx]; exact Nat.mul_pos (by omega) hsz
    have h1 := hc 0 xs[0] (by simp)
    obtain ⟨b, off, spot⟩ := a
    have hs : spot = none := by simpa [Addr.add] using World.cell?_spot h1
    subst hs
    exact .inr ⟨b, off, rfl, fun j u hu => by rw [← Addr.add_lit]; exact hc j u hu⟩

/-- A slice of integers that came in. -/
theorem sl_ints {k : IntKind} (ht : P.underlying t = some (.slice e)) (he : P.underlying e = some (.int k)) (hc : P.cellsOf e = 1) (hok : Value.okWide P w .any base t v) (h : DataW.Trod enc P w 0 (fun _ => true) held t v d ps) :
    ∃ zs : List Int, Sl w 1 v zs.length (zs.map (.int k)) ∧ ∀ z ∈ zs, (Lit.int k z).wf = true := by
  obtain ⟨a0, n0, c0, rfl⟩ := okWide_slice ht hok
  obtain ⟨fuel, hf⟩ := h
  rcases open_ints ht he hc hf with ⟨hcs, -⟩ | ⟨a, len', cap', zs, hcs, _, hl, hm, hz, -, hcell, hwz⟩
  · simp [Value.cells] at hcs
    obtain ⟨rfl, rfl, rfl⟩ := hcs
    exact ⟨[], Sl.nil _ _, by simp⟩
  · simp [Value.cells] at hcs
    obtain ⟨rfl, rfl, rfl⟩ := hcs
    simp only [if_true] at hz
    have hlen : (zs.take n0).length = n0 := by rw [List.length_take]; omega
    refine ⟨zs.take n0, ?_, fun z h => hwz z (List.mem_of_mem_take h)⟩
    refine (sl_of_row (by decide) (by simp; omega) hl hm ?_ : Sl w 1 _ n0 _).cast hlen.symm
    intro j u hu
    simp only [List.getElem?_map, Option.map_eq_some_iff] at hu
    obtain ⟨z, hz1, rfl⟩ := hu
    have hj : j < n0 := by have := (List.getElem?_eq_some_iff.1 hz1).1; omega
    rw [hcell j (by omega)]
    rw [List.getElem?_take] at hz1
    rw [if_pos hj] at hz1
    simp [List.getD, hz1]

/-- A slice of strings that came in. -/
theorem sl_strs (ht : P.underlying t = some (.slice e)) (he : P.underlying e = some .string) (hc : P.cellsOf e = 1) (hok : Value.okWide P w .any base t v) (h : DataW.Trod enc P w 0 (fun _ => true) held t v d ps) :
    ∃ ss : List ByteArray, Sl w 1 v ss.length (ss.map .string) ∧ ∀ s ∈ ss, s.size ≤ maxLen := by
  obtain ⟨a0, n0, c0, rfl⟩ := okWide_slice ht hok
  obtain ⟨fuel, hf⟩ := h
  rcases open_strings ht he hc hf with ⟨hcs, -⟩ | ⟨a, len', cap', zs, hcs, _, hl, hm, hz, -, hcell, hwz⟩
  · simp [Value.cells] at hcs
    obtain ⟨rfl, rfl, rfl⟩ := hcs
    exact ⟨[], Sl.nil _ _, by simp⟩
  · simp [Value.cells] at hcs
    obtain ⟨rfl, rfl, rfl⟩ := hcs
    simp only [if_true] at hz
    have hlen : (zs.take n0).length = n0 := by rw [List.length_take]; omega
    refine ⟨zs.take n0, ?_, fun z h => hwz z (List.mem_of_mem_take h)⟩
    refine (sl_of_row (by decide) (by simp; omega) hl hm ?_ : Sl w 1 _ n0 _).cast hlen.symm
    intro j u hu
    simp only [List.getElem?_map, Option.map_eq_some_iff] at hu
    obtain ⟨z, hz1, rfl⟩ := hu
    have hj : j < n0 := by have := (List.getElem?_eq_some_iff.1 hz1).1; omega
    rw [hcell j (by omega)]
    rw [List.getElem?_take] at hz1
    rw [if_pos hj] at hz1
    simp [List.getD, hz1]
theorem sl_strs_cell {fuel : Nat} {x : DataW H × List MemPlace} (ht : P.underlying t = some (.slice e)) (he : P.underlying e = some .string) (hc : P.cellsOf e = 1) (hf : DataW.trod enc P w 0 (fun _ => true) held fuel t [v] = some x) :
    ∃ ss : List ByteArray, Sl w 1 v ss.length (ss.map .string) ∧ ∀ s ∈ ss, s.size ≤ maxLen := by
  rcases open_strings ht he hc hf with ⟨hcs, -⟩ | ⟨a, n0, cap', zs, hcs, _, hl, hm, hz, -, hcell, hwz⟩
  · simp at hcs
    subst hcs
    exact ⟨[], Sl.nil _ _, by simp⟩
  · simp at hcs
    subst hcs
    simp only [if_true] at hz
    have hlen : (zs.take n0).length = n0 := by rw [List.length_take]; omega
    refine ⟨zs.take n0, ?_, fun z h => hwz z (List.mem_of_mem_take h)⟩
    refine (sl_of_row (by decide) (by simp; omega) hl hm ?_ : Sl w 1 _ n0 _).cast hlen.symm
    intro j u hu
    simp only [List.getElem?_map, Option.map_eq_some_iff] at hu
    obtain ⟨z, hz1, rfl⟩ := hu
    have hj : j < n0 := by have := (List.getElem?_eq_some_iff.1 hz1).1; omega
    rw [hcell j (by omega)]
    rw [List.getElem?_take] at hz1
    rw [if_pos hj] at hz1
    simp [List.getD, hz1]
/-- A slice of slices of strings that came in (they may share memory). -/
theorem sl_rows {s : TypeId} (ht : P.underlying t = some (.slice e)) (he : P.underlying e = some (.slice s)) (hs : P.underlying s = some .string) (hc : P.cellsOf e = 1) (hc2 : P.cellsOf s = 1) (hok : Value.okWide P w .any base t v) (h : DataW.Trod enc P w 0 (fun _ => true) held t v d ps) :
    ∃ xs : List Value, Sl w 1 v xs.length xs ∧ ∀ x ∈ xs, ∃ l : List ByteArray, Sl w 1 x l.length (l.map .string) ∧ ∀ s ∈ l, s.size ≤ maxLen := by
  obtain ⟨a0, n0, c0, rfl⟩ := okWide_slice ht hok
  obtain ⟨fuel, hf⟩ := h
  rcases Deep.open_slice1 ht hc hf with ⟨hcs, -⟩ | ⟨a, len', cap', m, n, V, D, Pl, hcs, _, hl, hm, hmm, -, hel⟩
  · simp [Value.cells] at hcs
    obtain ⟨rfl, rfl, rfl⟩ := hcs
    exact ⟨[], Sl.nil _ _, by simp⟩
  · simp [Value.cells] at hcs
    obtain ⟨rfl, rfl, rfl⟩ := hcs
    simp only [if_true] at hmm
    refine ⟨(List.range n0).map V, ?_, fun x hx => ?_⟩
    · refine (sl_of_row (by decide) (by simp) hl hm ?_ : Sl w 1 _ n0 _).cast (by simp)
      intro j u hu
      simp only [List.getElem?_map, Option.map_eq_some_iff] at hu
      obtain ⟨i, hi1, rfl⟩ := hu
      obtain ⟨hi2, hi3⟩ := List.getElem?_eq_some_iff.1 hi1
      simp at hi2 hi3
      subst hi3
      exact (hel j (by omega)).1
    · obtain ⟨i, hi, rfl⟩ := List.mem_map.1 hx
      have hi : i < n0 := by simpa using hi
      exact sl_strs_cell he hs hc2 (hel i (by omega)).2
/-- A slice of bools that came in. -/
theorem sl_bools (ht : P.underlying t = some (.slice e)) (he : P.underlying e = some .bool) (hc : P.cellsOf e = 1) (hok : Value.okWide P w .any base t v) (h : DataW.Trod enc P w 0 (fun _ => true) held t v d ps) :
    ∃ zs : List Bool, Sl w 1 v zs.length (zs.map .bool) := by
  obtain ⟨a0, n0, c0, rfl⟩ := okWide_slice ht hok
  obtain ⟨fuel, hf⟩ := h
  rcases Deep.open_slice1 ht hc hf with ⟨hcs, -⟩ | ⟨a, len', cap', m, n, V, D, Pl, hcs, _, hl, hm, hmm, -, hel⟩
  · simp [Value.cells] at hcs
    obtain ⟨rfl, rfl, rfl⟩ := hcs
    exact ⟨[], Sl.nil _ _⟩
  · simp [Value.cells] at hcs
    obtain ⟨rfl, rfl, rfl⟩ := hcs
    simp only [if_true] at hmm
    have each : ∀ i, i < n0 → ∃ b : Bool, w.cell? (a.add i) = some (.bool b) := by
      intro i hi
      obtain ⟨h1, h2⟩ := hel i (by omega)
      obtain ⟨b, h3, -⟩ := DataW.trod_bool he h2
      simp at h3
      exact ⟨b, by rw [h1, h3]⟩
    obtain ⟨f, hf2⟩ := Deep.choose_lt each
    refine ⟨(List.range n0).map f, ?_⟩
    refine (sl_of_row (by decide) (by simp) hl hm ?_ : Sl w 1 _ n0 _).cast (by simp)
    intro j u hu
    simp only [List.map_map, List.getElem?_map, Option.map_eq_some_iff] at hu
    obtain ⟨i, hi1, rfl⟩ := hu
    obtain ⟨hi2, hi3⟩ := List.getElem?_eq_some_iff.1 hi1
    simp at hi2 hi3
    subst hi3
    simpa using hf2 j hi2
end
end Go.Proofs.Ytjgcbcahikemdaa
/-! A slice of structs that came in, read as rows of cells. -/
namespace Go.Proofs.Ytjgcbcahikemdaa
open Go.Conc Go.RowKit Go.ChangeShapes Go.WideShapes Go.ChangeAt Go.WideMaps Go.WideElems

theorem rows_get {size : Nat} : ∀ (rows : List (List Value)), (∀ r ∈ rows, r.length = size) → ∀ (i j : Nat) (hi : i < rows.length), j < size → rows.flatten[i * size + j]? = rows[i][j]?
  | [], _, i, _, hi, _ => absurd hi (by simp)
  | r :: rows, h, i, j, hi, hj => by
    have hr : r.length = size := h r (by simp)
    rw [List.flatten_cons]
    cases i with
    | zero => rw [List.getElem?_append_left (by omega)]; simp
    | succ i =>
      rw [List.getElem?_append_right (by rw [hr, Nat.succ_mul]; omega), hr, show (i + 1) * size + j - size = i * size + j by rw [Nat.succ_mul]; omega]
      simpa using rows_get rows (fun r' h' => h r' (by simp [h'])) i j (by simpa using hi) hj
theorem rows_length {size : Nat} : ∀ (rows : List (List Value)), (∀ r ∈ rows, r.length = size) → rows.flatten.length = rows.length * size
  | [], _ => by simp
  | r :: rows, h => by
    rw [List.flatten_cons, List.length_append, rows_length rows (fun r' h' => h r' (by simp [h'])), h r (by simp), List.length_cons, Nat.succ_mul]; omega
section
variable {H : Type} {enc : TypeId × Value → H} {P : Program} {w : World} {base : Nat} {held : Bool} {t e : TypeId} {v : Value} {d : DataW H} {ps : List MemPlace}
/-- A slice of elements of some cells each that came in: what is read of each (Q). -/
theorem sl_structs {size : Nat} {Q : List Value → Prop} (ht : P.underlying t = some (.slice e)) (hc : P.cellsOf e = size) (hsz : 0 < size) (hok : Value.okWide P w .any base t v) (h : DataW.Trod enc P w 0 (fun _ => true) held t v d ps)
    (hdec : ∀ n cs x, DataW.trod enc P w 0 (fun _ => true) held n e cs = some x → Q cs) :
    ∃ rows : List (List Value), Sl w size v rows.length rows.flatten ∧ ∀ r ∈ rows, r.length = size ∧ Q r := by
  obtain ⟨a0, n0, c0, rfl⟩ := okWide_slice ht hok
  obtain ⟨fuel, hf⟩ := h
  rcases Deep.open_slice ht hf with ⟨hcs, -⟩ | ⟨a, len', cap', m, n, D, Pl, hcs, _, hl, hm, hmm, -, hel⟩
  · simp [Value.cells] at hcs
    obtain ⟨rfl, rfl, rfl⟩ := hcs
    exact ⟨[], Sl.nil _ _, by simp⟩
  · simp [Value.cells] at hcs
    obtain ⟨rfl, rfl, rfl⟩ := hcs
    simp only [if_true] at hmm
    have each : ∀ i, i < n0 → ∃ cs : List Value, cs.length = size ∧ Q cs ∧ ∀ j, j < size → w.cell? ((a.add (i * size)).add j) = cs[j]? := by
      intro i hi
      obtain ⟨cs, h1, h2⟩ := hel i (by omega)
      rw [hc] at h1
      obtain ⟨_, h3, h4⟩ := World.cells?_some h1
      exact ⟨cs, h3, hdec _ _ _ h2, h4⟩
    obtain ⟨f, hf2⟩ := Deep.choose_lt each
    refine ⟨(List.range n0).map f, ?_, fun r hr => ?_⟩
    · have hrl : ∀ r ∈ (List.range n0).map f, r.length = size := fun r hr => by
        obtain ⟨i, hi, rfl⟩ := List.mem_map.1 hr
        exact (hf2 i (by simpa using hi)).1
      have hfl := rows_length _ hrl
      rw [List.length_map, List.length_range] at hfl
      refine (sl_of_row hsz hfl hl hm ?_ : Sl w size _ n0 _).cast (by simp)
      intro j u hu
      have hj : j < n0 * size := by rw [← hfl]; exact (List.getElem?_eq_some_iff.1 hu).1
      have hq : j / size < n0 := Nat.div_lt_of_lt_mul (by rw [Nat.mul_comm]; exact hj)
      have hr : j % size < size := Nat.mod_lt _ hsz
      have hj2 : j = j / size * size + j % size := by rw [Nat.mul_comm]; exact (Nat.div_add_mod j size).symm
      have h3 := (hf2 _ hq).2.2 _ hr
      rw [Deep.add_add, ← hj2] at h3
      rw [h3, ← hu]
      have h4 := rows_get _ hrl (j / size) (j % size) (by simpa using hq) hr
      rw [← hj2] at h4
      rw [h4]
      simp
    · obtain ⟨i, hi, rfl⟩ := List.mem_map.1 hr
      have := hf2 i (by simpa using hi)
      exact ⟨this.1, this.2.1⟩
end
end Go.Proofs.Ytjgcbcahikemdaa
/-! Arrays that came in. -/
namespace Go.Proofs.Ytjgcbcahikemdaa
open Go.Conc Go.RowKit Go.ChangeShapes Go.WideShapes Go.ChangeAt Go.WideMaps Go.WideElems

section
variable {H : Type} {enc : TypeId × Value → H} {P : Program} {w : World} {base : Nat} {spare : Nat → Bool} {held : Bool} {t e : TypeId} {v : Value} {d : DataW H} {ps : List MemPlace}

theorem arr_open {n : Nat} (ht : P.underlying t = some (.array n e)) (hc : P.cellsOf e = 1) (hct : P.cellsOf t = n) (hok : Value.okWide P w .any base t v) (h : DataW.Trod enc P w 0 spare held t v d ps) :
    ∃ cs : Array Value, v = .agg cs ∧ cs.size = n ∧ ∀ (i : Nat) (u : Value), cs[i]? = some u → ∃ (m : Nat) (x : DataW H × List MemPlace), DataW.trod enc P w 0 spare held m e [u] = some x := by
  simp only [Value.okWide, ht] at hok
  obtain ⟨cs, rfl, hsz, -⟩ := hok
  obtain ⟨fuel, hf⟩ := h
  obtain ⟨xs, m, _, _, hl, hlen, hel⟩ := DataW.trod_array ht hf
  refine ⟨cs, rfl, by rw [hsz, hct], fun i u hu => ?_⟩
  have hi : i < cs.size := (Array.getElem?_eq_some_iff.1 hu).1
  have hin : i < n := by rw [hsz, hct] at hi; exact hi
  have h1 := hel i hin
  rw [hc, Nat.mul_one] at h1
  have h2 : ((Value.agg cs).cells.toList.drop i).take 1 = [u] := by
    show (cs.toList.drop i).take 1 = [u]
    have hi2 : i < cs.toList.length := by simpa using hi
    rw [List.drop_eq_getElem_cons hi2]
    have := (Array.getElem?_eq_some_iff.1 hu).2
    simp [this]
  rw [h2, List.getElem?_eq_getElem (by omega)] at h1
  exact ⟨m, _, h1⟩
theorem arr_ints {n : Nat} {k : IntKind} (ht : P.underlying t = some (.array n e)) (he : P.underlying e = some (.int k)) (hc : P.cellsOf e = 1) (hct : P.cellsOf t = n) (hok : Value.okWide P w .any base t v) (h : DataW.Trod enc P w 0 spare held t v d ps) :
    ∃ zs : List Int, zs.length = n ∧ v = .agg (zs.map (.int k)).toArray ∧ ∀ z ∈ zs, (Lit.int k z).wf = true := by
  obtain ⟨cs, rfl, hsz, hel⟩ := arr_open ht hc hct hok h
  have each : ∀ i, i < n → ∃ z : Int, cs[i]? = some (.int k z) ∧ (Lit.int k z).wf = true := by
    intro i hi
    have hi2 : i < cs.size := by omega
    obtain ⟨m, x, hx⟩ := hel i cs[i] (by simp [hi2])
    obtain ⟨z, h3, _, h4⟩ := DataW.trod_int he hx
    simp at h3
    exact ⟨z, by rw [Array.getElem?_eq_getElem hi2, h3], h4⟩
  obtain ⟨f, hf2⟩ := Deep.choose_lt each
  refine ⟨(List.range n).map f, by simp, ?_, ?_⟩
  · congr 1
    apply Array.ext
    · simp [hsz]
    · intro i h1 h2
      have := (hf2 i (by omega)).1
      rw [Array.getElem?_eq_getElem h1] at this
      simp only [Option.some.injEq] at this
      simp [this]
  · intro z hz
    obtain ⟨i, hi, rfl⟩ := List.mem_map.1 hz
    exact (hf2 i (by simpa using hi)).2
theorem arr_strs {n : Nat} (ht : P.underlying t = some (.array n e)) (he : P.underlying e = some .string) (hc : P.cellsOf e = 1) (hct : P.cellsOf t = n) (hok : Value.okWide P w .any base t v) (h : DataW.Trod enc P w 0 spare held t v d ps) :
    ∃ zs : List ByteArray, zs.length = n ∧ v = .agg (zs.map .string).toArray ∧ ∀ z ∈ zs, z.size ≤ maxLen := by
  obtain ⟨cs, rfl, hsz, hel⟩ := arr_open ht hc hct hok h
  have each : ∀ i, i < n → ∃ z : ByteArray, cs[i]? = some (.string z) ∧ z.size ≤ maxLen := by
    intro i hi
    have hi2 : i < cs.size := by omega
    obtain ⟨m, x, hx⟩ := hel i cs[i] (by simp [hi2])
    obtain ⟨z, h3, _, h4⟩ := DataW.trod_string he hx
    simp at h3
    exact ⟨z, by rw [Array.getElem?_eq_getElem hi2, h3], h4⟩
  obtain ⟨f, hf2⟩ := Deep.choose_lt each
  refine ⟨(List.range n).map f, by simp, ?_, ?_⟩
  · congr 1
    apply Array.ext
    · simp [hsz]
    · intro i h1 h2
      have := (hf2 i (by omega)).1
      rw [Array.getElem?_eq_getElem h1] at this
      simp only [Option.some.injEq] at this
      simp [this]
  · intro z hz
    obtain ⟨i, hi, rfl⟩ := List.mem_map.1 hz
    exact (hf2 i (by simpa using hi)).2
end
theorem list2 {α : Type} {l : List α} (h : l.length = 2) : ∃ x y, l = [x, y] := by
  match l, h with
  | [x, y], _ => exact ⟨x, y, rfl⟩
theorem list3 {α : Type} {l : List α} (h : l.length = 3) : ∃ x y z, l = [x, y, z] := by
  match l, h with
  | [x, y, z], _ => exact ⟨x, y, z, rfl⟩
theorem list4 {α : Type} {l : List α} (h : l.length = 4) : ∃ x y z u, l = [x, y, z, u] := by
  match l, h with
  | [x, y, z, u], _ => exact ⟨x, y, z, u, rfl⟩
theorem nat_u32 {z : Int} (h : (Lit.int .u32 z).wf = true) : ∃ n : Nat, z = (n : Int) ∧ n < 2 ^ 32 := by
  simp [Lit.wf, IntKind.min, IntKind.max, IntKind.signed, IntKind.bits] at h
  exact ⟨z.toNat, by omega, by omega⟩
theorem nat_u64 {z : Int} (h : (Lit.int .u64 z).wf = true) : ∃ n : Nat, z = (n : Int) ∧ n < 2 ^ 64 := by
  simp [Lit.wf, IntKind.min, IntKind.max, IntKind.signed, IntKind.bits] at h
  exact ⟨z.toNat, by omega, by omega⟩
theorem nat_u16 {z : Int} (h : (Lit.int .u16 z).wf = true) : ∃ n : Nat, z = (n : Int) ∧ n < 65536 := by
  simp [Lit.wf, IntKind.min, IntKind.max, IntKind.signed, IntKind.bits] at h
  exact ⟨z.toNat, by omega, by omega⟩
theorem nat_u8 {z : Int} (h : (Lit.int .u8 z).wf = true) : ∃ n : Nat, z = (n : Int) ∧ n < 256 := by
  simp [Lit.wf, IntKind.min, IntKind.max, IntKind.signed, IntKind.bits] at h
  exact ⟨z.toNat, by omega, by omega⟩
end Go.Proofs.Ytjgcbcahikemdaa
/-! Rows of ints. -/
namespace Go.Proofs.Ytjgcbcahikemdaa
open Go.Conc Go.RowKit

def rowI (l : List Int) : List Value := l.map (Value.int .i64)
theorem rowI_length (l : List Int) : (rowI l).length = l.length := by simp [rowI]
theorem rowI_append (l m : List Int) : rowI (l ++ m) = rowI l ++ rowI m := by simp [rowI]
theorem rowI_one (l : List Int) : ∀ u ∈ rowI l, u.oneCell' = true := by
  intro u hu
  obtain ⟨x, _, rfl⟩ := List.mem_map.1 hu
  rfl
theorem rowI_at (l : List Int) (k : Nat) (hk : k < l.length) : (rowI l)[k]? = some (.int .i64 l[k]) := by
  unfold rowI
  rw [List.getElem?_map, List.getElem?_eq_getElem hk]
  rfl
theorem rowI_take (l : List Int) (k : Nat) : (rowI l).take k = rowI (l.take k) := by simp [rowI, List.map_take]
theorem rowI_drop (l : List Int) (k : Nat) : (rowI l).drop k = rowI (l.drop k) := by simp [rowI, List.map_drop]
/-- A slice of ints: its cells, for every index. -/
structure IntsAt (w : World) (a : Option Addr) (l : List Int) : Prop where
  out : l.length = 0 ∨ ∃ b off, a = some ⟨b, off, none⟩ ∧ ∀ k (hk : k < l.length), w.cell? ⟨b, off + k, none⟩ = some (.int .i64 l[k])
theorem IntsAt.at {w : World} {a : Option Addr} {l : List Int} (h : IntsAt w a l) (k : Nat) (hk : k < l.length) : ∃ b off, a = some ⟨b, off, none⟩ ∧ w.cell? ⟨b, off + k, none⟩ = some (.int .i64 l[k]) := by
  rcases h.out with h | ⟨b, off, rfl, hc⟩
  · omega
  · exact ⟨b, off, rfl, hc k hk⟩
theorem Sl.intsAt {w : World} {a : Option Addr} {n cap : Nat} {l : List Int} (h : Sl w 1 (.slice a n cap) l.length (rowI l)) : n = l.length ∧ l.length ≤ cap ∧ cap ≤ maxLen ∧ IntsAt w a l := by
  obtain ⟨_, a', cap', he, h3, h4, h5⟩ := h
  simp only [Value.slice.injEq] at he
  obtain ⟨rfl, rfl, rfl⟩ := he
  refine ⟨rfl, h3, h4, ⟨?_⟩⟩
  rcases h5 with h5 | ⟨b, off, rfl, hc⟩
  · exact .inl h5
  · exact .inr ⟨b, off, rfl, fun k hk => hc k _ (rowI_at l k hk)⟩
end Go.Proofs.Ytjgcbcahikemdaa
/-! Contracts of the functions of package pipe that touch the channel: New, Len, put, Take. -/
namespace Go.Proofs.Ytjgcbcahikemdaa
open Go.Conc Go.RowKit

/-- A pipe: its pointer's block p, its channel's block c, what lies in it. -/
structure PipeAt (w : World) (p c : Nat) (buf : List Value) : Prop where
  blk : w.heap[p]? = some (.cells #[.chan (some c)] 127 (0, 0))
  chan : ∃ s r, w.heap[c]? = some (.chan 64 buf.toArray false s r false)

theorem PipeAt.cell {w : World} {p c : Nat} {buf : List Value} (h : PipeAt w p c buf) : w.cell? ⟨p, 0, none⟩ = some (.chan (some c)) := by simp [World.cell?, h.blk]
theorem PipeAt.ne {w : World} {p c : Nat} {buf : List Value} (h : PipeAt w p c buf) {a : Addr} {v : Value} (hc : w.cell? a = some v) : a.block ≠ c := by
  obtain ⟨s, r, hb⟩ := h.chan
  intro e
  simp [World.cell?, e, hb] at hc
theorem PipeAt.lt {w : World} {p c : Nat} {buf : List Value} (h : PipeAt w p c buf) : p < w.heap.size ∧ c < w.heap.size := by
  obtain ⟨s, r, hb⟩ := h.chan
  exact ⟨World.block_lt_of_cell? _ _ h.cell, lt_of_block hb⟩
theorem PipeAt.pne {w : World} {p c : Nat} {buf : List Value} (h : PipeAt w p c buf) : p ≠ c := h.ne h.cell
theorem PipeAt.kept {w w' : World} {S : Nat → Prop} {p c : Nat} {buf : List Value} (h : PipeAt w p c buf) (ho : Only S w w') (hp : ¬ S p) (hc : ¬ S c) : PipeAt w' p c buf := by
  obtain ⟨s, r, hb⟩ := h.chan
  exact ⟨ho.old h.blk hp, s, r, (ho.block c h.lt.2 hc).trans hb⟩
theorem PipeAt.set {w w' : World} {S : Nat → Prop} {p c : Nat} {buf : List Value} (h : PipeAt w p c buf) (ho : Only S w w') (hp : ¬ S p) (hc : ¬ S c) (buf' : List Value) (s r : Nat) : PipeAt (w'.setChan c 64 buf'.toArray false s r false) p c buf' := by
  have h1 := h.kept ho hp hc
  refine ⟨?_, s, r, heap_setChan _ _ _ _ _ _ _ _ h1.lt.2⟩
  have : (w'.setChan c 64 buf'.toArray false s r false).heap[p]? = w'.heap[p]? := by simp [World.setChan, Array.getElem?_setIfInBounds_ne h.pne.symm]
  exact this.trans h1.blk

theorem PipeAt.ne_own {w : World} {p c : Nat} {buf : List Value} (h : PipeAt w p c buf) {base : Nat} {e : TypeId} {size n : Nat} {v : Value} {xs : List Value} (ho : w.ownsRow base e size v n xs) (he : e ≠ 127) : v.ownBlock ≠ some p ∧ v.ownBlock ≠ some c := by
  obtain ⟨s, r, hb⟩ := h.chan
  have hb' := h.blk
  rcases ho.2 with ⟨rfl, _⟩ | ⟨g, cap, cur, rfl, _, hg, _⟩
  · simp [Value.ownBlock]
  · refine ⟨fun e1 => ?_, fun e1 => ?_⟩
    · simp only [Value.ownBlock, Option.some.injEq] at e1
      subst e1
      rw [hg] at hb'
      simp at hb'
      exact he hb'.2
    · simp only [Value.ownBlock, Option.some.injEq] at e1
      subst e1
      rw [hg] at hb
      simp at hb

theorem bytesItem : ∃ i, Try.prog.info? 58 = some i ∧ i.bytes = 24 := by
  have h : (Try.prog.info? 58).map (·.bytes) = some 24 := by kernel_rfl
  obtain ⟨i, hi, hb⟩ := Option.map_eq_some_iff.1 h
  exact ⟨i, hi, hb⟩
theorem mkchan (w : World) : (Instr.makeChan 125 (.int .i64 64)).run Try.prog w = .ok (.chan (some w.heap.size)) (w.alloc (.chan 64 #[] false 0 0 false)) := by
  obtain ⟨i, hi, hb⟩ := bytesItem
  simpa using run_makeChan (P := Try.prog) (w := w) Try.underlying125 hi .i64 64 (by omega) (by rw [hb]; omega)

/-- New: a new pipe, empty. -/
theorem new_any (w : World) : Calls Try.prog 75 #[] w fun e w' => e = .returned (.pointer (some ⟨w.heap.size + 1, 0, none⟩)) ∧
    Only (fun _ => False) w w' ∧ PipeAt w' (w.heap.size + 1) w.heap.size [] ∧ w.heap.size + 1 < w'.heap.size := by
  have hmc := mkchan
  go_enter Try.func75, Try.ntmps75
  go_wp2
  go_ret
  refine ⟨rfl, ((Only.refl _ w).alloc _).alloc _, ⟨?_, 0, 0, ?_⟩, by simp⟩
  · have := heap_alloc_new (w.alloc (.chan 64 #[] false 0 0 false)) (.cells #[.chan (some w.heap.size)] 127 (0, 0))
    simpa only [World.size_alloc] using this
  · rw [Below.heap_alloc _ _ _ (by simp)]
    exact heap_alloc_new w _

theorem len_any (w : World) (p c : Nat) (buf : List Value) (h : PipeAt w p c buf) :
    Calls Try.prog 62 #[.pointer (some ⟨p, 0, none⟩)] w fun e w' => e = .returned (.int .i64 buf.length) ∧ w = w' := by
  have hp := h.cell
  obtain ⟨_, s, r, hc⟩ := h
  have hlen := fun ty => run_len_chan (P := Try.prog) 125 ty Try.underlying125 hc
  rw [List.size_toArray] at hlen
  go_enter Try.func62, Try.ntmps62
  go_wp2
  go_ret
  exact ⟨rfl, rfl⟩
theorem len_nil (w : World) : Calls Try.prog 62 #[.pointer none] w fun e w' => e = .returned (.int .i64 0) ∧ w = w' := by
  go_enter Try.func62, Try.ntmps62
  go_wp2
  go_ret
  exact ⟨rfl, rfl⟩

set_option maxRecDepth 100000 in
theorem put_room (w : World) (p c : Nat) (buf : List Value) (x y : Value) (h : PipeAt w p c buf) (hroom : buf.length < 64) :
    Calls Try.prog 76 #[.pointer (some ⟨p, 0, none⟩), .agg #[x, y]] w fun e w' => e = .returned (.bool true) ∧ Only (· = c) w w' ∧ PipeAt w' p c (buf ++ [.agg #[x, y]]) := by
  have h0 := h
  have hp := h.cell
  obtain ⟨_, s, r, hc⟩ := h
  have hlt : p < w.heap.size := World.block_lt_of_cell? _ _ hp
  have hcl : c < w.heap.size := lt_of_block hc
  refine calls_of_loneTo fun cs => ?_
  have e : Frame.enter Try.prog 76 #[.pointer (some ⟨p, 0, none⟩), .agg #[x, y]] .normal = (base 76).at ⟨#[.pointer (some ⟨p, 0, none⟩), .agg #[x, y], undef, undef, undef, undef, undef, undef, undef, undef, undef, undef, undef], []⟩ [.code (Try.f76.body.getD .skip)] := by
    simp [Frame.enter, Frame.at, Try.func76, base, Try.f76]
  rw [e]
  refine LoneTo.goes (n := 40) ?_
  simp only [Try.f76, Option.getD_some]
  s_c stepG_seq
  s_reg
  s_op
  s_op
  s_c stepG_region_end
  s_c stepG_seq
  s_c stepG_seq
  s_reg
  s_op
  s_op
  s_op
  s_op
  s_c stepG_region_end
  s_reg
  s_op
  s_c stepG_region_end
  s_c stepG_seq
  s_reg
  s_stop
  refine LoneTo.step (step_lone_select_send_room (c := c) (v := .agg #[x, y]) (z' := .agg #[.bool false, .string ⟨#[]⟩]) (cap := 64) (buf := buf.toArray) (s := s) (r := r) (tm := false)
    (stepG_comm (cases := #[scase c (.agg #[x, y]) (.agg #[.bool false, .string ⟨#[]⟩])]) (blocking := false) (shape := .select) (w' := w.alloc (.cells #[x, y] 58)) rfl rfl (by decide) (by simp [go_sem, execOp, scase, Act.eval]))
    ((Below.heap_alloc _ _ _ hcl).trans hc) (by simpa using hroom)) ?_
  rw [Frame.finish_at]
  walk_nrm
  refine LoneTo.goes (n := 40) ?_
  s_op
  s_op
  s_c stepG_region_end
  s_c stepG_block
  s_cond true
  s_c stepG_seq
  s_reg
  s_op
  s_c stepG_region_end
  s_c stepG_ret'
  s_stop
  refine LoneTo.done ⟨.returned (.bool true), _, rfl, ⟨rfl, ((Only.refl (· = c) w).alloc _).setChan (S := (· = c)) (Or.inr rfl) _ _ _ _ _ _, ?_⟩, rfl, rfl, rfl, rfl, _, Try.func76, by simp [results, Try.f76, Frame.at]⟩
  exact h0.set (S := fun _ => False) ((Only.refl _ w).alloc _) id id _ _ _

set_option maxRecDepth 100000 in
theorem put_full (w : World) (p c : Nat) (buf : List Value) (x y : Value) (h : PipeAt w p c buf) (hroom : 64 ≤ buf.length) :
    Calls Try.prog 76 #[.pointer (some ⟨p, 0, none⟩), .agg #[x, y]] w fun e w' => e = .returned (.bool false) ∧ Only (· = c) w w' ∧ PipeAt w' p c buf := by
  have h0 := h
  have hp := h.cell
  obtain ⟨_, s, r, hc⟩ := h
  have hlt : p < w.heap.size := World.block_lt_of_cell? _ _ hp
  have hcl : c < w.heap.size := lt_of_block hc
  refine calls_of_loneTo fun cs => ?_
  have e : Frame.enter Try.prog 76 #[.pointer (some ⟨p, 0, none⟩), .agg #[x, y]] .normal = (base 76).at ⟨#[.pointer (some ⟨p, 0, none⟩), .agg #[x, y], undef, undef, undef, undef, undef, undef, undef, undef, undef, undef, undef], []⟩ [.code (Try.f76.body.getD .skip)] := by
    simp [Frame.enter, Frame.at, Try.func76, base, Try.f76]
  rw [e]
  refine LoneTo.goes (n := 40) ?_
  simp only [Try.f76, Option.getD_some]
  s_c stepG_seq
  s_reg
  s_op
  s_op
  s_c stepG_region_end
  s_c stepG_seq
  s_c stepG_seq
  s_reg
  s_op
  s_op
  s_op
  s_op
  s_c stepG_region_end
  s_reg
  s_op
  s_c stepG_region_end
  s_c stepG_seq
  s_reg
  s_stop
  refine LoneTo.step (step_lone_select_send_full (c := c) (v := .agg #[x, y]) (z' := .agg #[.bool false, .string ⟨#[]⟩]) (cap := 64) (buf := buf.toArray) (s := s) (r := r) (tm := false)
    (stepG_comm (cases := #[scase c (.agg #[x, y]) (.agg #[.bool false, .string ⟨#[]⟩])]) (blocking := false) (shape := .select) (w' := w.alloc (.cells #[x, y] 58)) rfl rfl (by decide) (by simp [go_sem, execOp, scase, Act.eval]))
    ((Below.heap_alloc _ _ _ hcl).trans hc) (by simpa using hroom)) ?_
  rw [Frame.finish_at]
  walk_nrm
  refine LoneTo.goes (n := 40) ?_
  s_op
  s_op
  s_c stepG_region_end
  s_c stepG_block
  s_cond false
  s_c stepG_seq
  s_reg
  s_op
  s_c stepG_region_end
  s_c stepG_ret'
  s_stop
  refine LoneTo.done ⟨.returned (.bool false), _, rfl, ⟨rfl, (Only.refl _ w).alloc _, h0.kept (S := fun _ => False) ((Only.refl _ w).alloc _) id id⟩, rfl, rfl, rfl, rfl, _, Try.func76, by simp [results, Try.f76, Frame.at]⟩

def zeroItem : Value := .agg #[.bool false, .string ⟨#[]⟩]
theorem take_nil (w : World) : Calls Try.prog 53 #[.pointer none] w fun e w' => e = .returned (.tuple #[.agg #[.bool false, .string ⟨#[]⟩], .bool false]) ∧ Only (fun _ => False) w w' := by
  go_enter Try.func53, Try.ntmps53
  go_wp2
  exact bodyPost_ret (v := .tuple #[.agg #[.bool false, .string ⟨#[]⟩], .bool false]) (by simp [results, Try.results53, go_sem]) rfl ⟨rfl, (Only.refl _ w).alloc _⟩

set_option maxRecDepth 100000 in
theorem take_none (w : World) (p c : Nat) (h : PipeAt w p c []) :
    Calls Try.prog 53 #[.pointer (some ⟨p, 0, none⟩)] w fun e w' => e = .returned (.tuple #[.agg #[.bool false, .string ⟨#[]⟩], .bool false]) ∧ Only (fun _ => False) w w' := by
  have h0 := h
  have hp := h.cell
  obtain ⟨_, s, r, hc⟩ := h
  have hlt : p < w.heap.size := World.block_lt_of_cell? _ _ hp
  have hcl : c < w.heap.size := lt_of_block hc
  refine calls_of_loneTo fun cs => ?_
  have e : Frame.enter Try.prog 53 #[.pointer (some ⟨p, 0, none⟩)] .normal = (base 53).at ⟨#[.pointer (some ⟨p, 0, none⟩), undef, undef, undef, undef, undef, undef, undef, undef, undef, undef, undef, undef, undef, undef, undef, undef, undef], []⟩ [.code (Try.f53.body.getD .skip)] := by
    simp [Frame.enter, Frame.at, Try.func53, base, Try.f53]
  rw [e]
  refine LoneTo.goes (n := 40) ?_
  simp only [Try.f53, Option.getD_some]
  s_c stepG_seq
  s_reg
  s_op
  s_op
  s_c stepG_region_end
  s_c stepG_seq
  s_c stepG_seq
  s_reg
  s_op
  s_op
  s_c stepG_region_end
  s_cond false
  s_c stepG_skip
  s_c stepG_seq
  s_reg
  s_op
  s_op
  s_op
  s_op
  s_c stepG_region_end
  s_c stepG_seq
  s_reg
  s_stop
  refine LoneTo.step (step_lone_select_default (c := c) (z := .agg #[.bool false, .string ⟨#[]⟩]) (cap := 64) (s := s) (r := r) (tm := false)
    (stepG_comm (cases := #[rcase c (.agg #[.bool false, .string ⟨#[]⟩])]) (blocking := false) (shape := .select) (w' := w.alloc (.cells #[.bool false, .string ⟨#[]⟩] 58)) rfl rfl (by decide) (by simp [go_sem, execOp, rcase, Act.eval]))
    ((Below.heap_alloc _ _ _ hcl).trans hc)) ?_
  rw [Frame.finish_at]
  walk_nrm
  refine LoneTo.goes (n := 40) ?_
  s_op
  s_op
  s_c stepG_region_end
  s_c stepG_block
  s_cond false
  s_c stepG_seq
  s_reg
  s_op
  s_op
  s_op
  s_c stepG_region_end
  s_c stepG_ret'
  s_stop
  refine LoneTo.done ⟨.returned (.tuple #[.agg #[.bool false, .string ⟨#[]⟩], .bool false]), _, rfl, ⟨rfl, ?_⟩, rfl, rfl, rfl, rfl, _, Try.func53, by simp [results, Try.f53, Frame.at, go_sem]⟩
  exact (Only.refl _ w).alloc _

set_option maxRecDepth 100000 in
theorem take_some (w : World) (p c : Nat) (x : Bool) (y : ByteArray) (buf : List Value) (h : PipeAt w p c (.agg #[.bool x, .string y] :: buf)) :
    Calls Try.prog 53 #[.pointer (some ⟨p, 0, none⟩)] w fun e w' => e = .returned (.tuple #[.agg #[.bool x, .string y], .bool true]) ∧ Only (· = c) w w' ∧ PipeAt w' p c buf := by
  have h0 := h
  have hp := h.cell
  obtain ⟨_, s, r, hc⟩ := h
  have hlt : p < w.heap.size := World.block_lt_of_cell? _ _ hp
  have hcl : c < w.heap.size := lt_of_block hc
  refine calls_of_loneTo fun cs => ?_
  have e : Frame.enter Try.prog 53 #[.pointer (some ⟨p, 0, none⟩)] .normal = (base 53).at ⟨#[.pointer (some ⟨p, 0, none⟩), undef, undef, undef, undef, undef, undef, undef, undef, undef, undef, undef, undef, undef, undef, undef, undef, undef], []⟩ [.code (Try.f53.body.getD .skip)] := by
    simp [Frame.enter, Frame.at, Try.func53, base, Try.f53]
  rw [e]
  refine LoneTo.goes (n := 40) ?_
  simp only [Try.f53, Option.getD_some]
  s_c stepG_seq
  s_reg
  s_op
  s_op
  s_c stepG_region_end
  s_c stepG_seq
  s_c stepG_seq
  s_reg
  s_op
  s_op
  s_c stepG_region_end
  s_cond false
  s_c stepG_skip
  s_c stepG_seq
  s_reg
  s_op
  s_op
  s_op
  s_op
  s_c stepG_region_end
  s_c stepG_seq
  s_reg
  s_stop
  refine LoneTo.step (step_lone_select_recv_buf (c := c) (z := .agg #[.bool false, .string ⟨#[]⟩]) (cap := 64) (buf := (.agg #[.bool x, .string y] :: buf).toArray) (closed := false) (s := s) (r := r) (tm := false)
    (stepG_comm (cases := #[rcase c (.agg #[.bool false, .string ⟨#[]⟩])]) (blocking := false) (shape := .select) (w' := w.alloc (.cells #[.bool false, .string ⟨#[]⟩] 58)) rfl rfl (by decide) (by simp [go_sem, execOp, rcase, Act.eval]))
    ((Below.heap_alloc _ _ _ hcl).trans hc) (by simp)) ?_
  rw [Frame.finish_at]
  have hb : (Value.agg #[.bool x, .string y] :: buf).toArray.extract 1 (Value.agg #[.bool x, .string y] :: buf).toArray.size = buf.toArray := by simp
  have hg : (Value.agg #[.bool x, .string y] :: buf).toArray.getD 0 undef = .agg #[.bool x, .string y] := by simp
  rw [hb, hg]
  walk_nrm
  generalize hW : (w.alloc (.cells #[.bool false, .string ⟨#[]⟩] 58)).setChan c 64 buf.toArray false s (r + 1) false = W
  have hs : w.heap.size < W.heap.size := by subst hW; simp [World.setChan]
  have h2 : Only (· = c) w W := by subst hW; exact ((Only.refl (· = c) w).alloc _).setChan (S := (· = c)) (Or.inr rfl) _ _ _ _ _ _
  have h3 : PipeAt W p c buf := by subst hW; exact h0.set (S := fun _ => False) ((Only.refl _ w).alloc _) id id _ _ _
  have hc0 : W.heap[w.heap.size]? = some (.cells #[.bool false, .string ⟨#[]⟩] 58 (0, 0)) := by
    subst hW
    simp only [World.setChan]
    rw [Array.getElem?_setIfInBounds_ne (by omega)]
    exact heap_alloc_new w _
  have hf0 : W.frozen? ⟨w.heap.size, 0, none⟩ = false := by simp [World.frozen?, hc0]
  have hf1 : W.frozen? ⟨w.heap.size, 0 + 1, none⟩ = false := by simp [World.frozen?, hc0]
  have hk0 : W.cell? ⟨w.heap.size, 0, none⟩ = some (.bool false) := by simp [World.cell?, hc0]
  have hk1 : W.cell? ⟨w.heap.size, 0 + 1, none⟩ = some (.string ⟨#[]⟩) := by simp [World.cell?, hc0]
  clear hW
  refine LoneTo.goes (n := 40) ?_
  s_op
  s_op
  s_c stepG_region_end
  s_c stepG_block
  s_cond true
  s_c stepG_seq
  s_reg
  s_op
  s_op
  s_op
  s_c stepG_region_end
  s_c stepG_seq
  s_reg
  s_op
  s_op
  s_op
  s_c stepG_region_end
  s_c stepG_ret'
  s_stop
  generalize hV : (W.setCell ⟨w.heap.size, 0, none⟩ (.bool x)).setCell ⟨w.heap.size, 1, none⟩ (.string y) = V
  have hv : V.heap[w.heap.size]? = some (.cells #[.bool x, .string y] 58 (0, 0)) := by
    subst hV
    simp [World.setCell, Array.getElem?_modify, hc0]
  have v1 : Only (· = c) w V := by subst hV; exact (h2.setCell (.inl (Nat.le_refl _)) _).setCell (.inl (Nat.le_refl _)) _
  have v2 : PipeAt V p c buf := by
    subst hV
    have ho : Only (· = w.heap.size) W ((W.setCell ⟨w.heap.size, 0, none⟩ (.bool x)).setCell ⟨w.heap.size, 1, none⟩ (.string y)) :=
      ((Only.refl (· = w.heap.size) W).setCell (S := (· = w.heap.size)) (p := ⟨w.heap.size, 0, none⟩) (Or.inr rfl) _).setCell (S := (· = w.heap.size)) (p := ⟨w.heap.size, 1, none⟩) (Or.inr rfl) _
    refine h3.kept ho ?_ ?_
    · show ¬ (p = w.heap.size); omega
    · show ¬ (c = w.heap.size); omega
  have hlt : w.heap.size < V.heap.size := lt_of_block hv
  have hk0 : V.cell? ⟨w.heap.size, 0, none⟩ = some (.bool x) := by simp [World.cell?, hv]
  have hk1 : V.cell? ⟨w.heap.size, 1, none⟩ = some (.string y) := by simp [World.cell?, hv]
  refine LoneTo.done ⟨.returned (.tuple #[.agg #[.bool x, .string y], .bool true]), _, rfl, ⟨rfl, v1.alloc _, ?_⟩, rfl, rfl, rfl, rfl, _, Try.func53, by simp [results, Try.f53, Frame.at, go_sem, hk0, hk1, hlt]⟩
  exact v2.kept (S := fun _ => False) ((Only.refl _ V).alloc _) id id

end Go.Proofs.Ytjgcbcahikemdaa
/-! Contracts of Send, Clear, Break. -/
namespace Go.Proofs.Ytjgcbcahikemdaa
open Go.Conc Go.RowKit

theorem send_room (w : World) (p c : Nat) (buf : List Value) (s : ByteArray) (h : PipeAt w p c buf) (hroom : buf.length < 64) :
    Calls Try.prog 59 #[.pointer (some ⟨p, 0, none⟩), .string s] w fun e w' => e = .returned (.bool true) ∧ Only (· = c) w w' ∧ PipeAt w' p c (buf ++ [.agg #[.bool false, .string s]]) := by
  go_enter Try.func59, Try.ntmps59
  go_wp2_with (go_at_call 76; refine (put_room _ p c buf _ _ h hroom).mono ?_; rintro e w' ⟨rfl, h1, h2⟩)
  go_ret
  exact ⟨rfl, h1, h2⟩
theorem send_full (w : World) (p c : Nat) (buf : List Value) (s : ByteArray) (h : PipeAt w p c buf) (hroom : 64 ≤ buf.length) :
    Calls Try.prog 59 #[.pointer (some ⟨p, 0, none⟩), .string s] w fun e w' => e = .returned (.bool false) ∧ Only (· = c) w w' ∧ PipeAt w' p c buf := by
  go_enter Try.func59, Try.ntmps59
  go_wp2_with (go_at_call 76; refine (put_full _ p c buf _ _ h hroom).mono ?_; rintro e w' ⟨rfl, h1, h2⟩)
  go_ret
  exact ⟨rfl, h1, h2⟩
theorem send_nil (w : World) (s : ByteArray) :
    Calls Try.prog 59 #[.pointer none, .string s] w fun e w' => e = .returned (.bool false) ∧ w = w' := by
  go_enter Try.func59, Try.ntmps59
  go_wp2
  go_ret
  exact ⟨rfl, rfl⟩

/-- What lies in a pipe: breaks and texts. -/
def items (l : List (Bool × ByteArray)) : List Value := l.map fun x => .agg #[.bool x.1, .string x.2]

theorem len_n (w : World) (p c : Nat) (buf : List Value) (n : Int) (h : PipeAt w p c buf) (hn : (buf.length : Int) = n) :
    Calls Try.prog 62 #[.pointer (some ⟨p, 0, none⟩)] w fun e w' => e = .returned (.int .i64 n) ∧ w = w' := by
  subst hn
  exact len_any w p c buf h

/-- What Take finds. -/
def Took (l : List (Bool × ByteArray)) (a : Bool) (b : ByteArray) (ok : Bool) (rest : List (Bool × ByteArray)) : Prop :=
  (ok = true ∧ l = (a, b) :: rest) ∨ (ok = false ∧ l = [] ∧ rest = [] ∧ a = false ∧ b = ⟨#[]⟩)

theorem take_any (w : World) (p c : Nat) (l : List (Bool × ByteArray)) (h : PipeAt w p c (items l)) :
    Calls Try.prog 53 #[.pointer (some ⟨p, 0, none⟩)] w fun e w' => ∃ a b ok rest, e = .returned (.tuple #[.agg #[.bool a, .string b], .bool ok]) ∧ Only (· = c) w w' ∧ PipeAt w' p c (items rest) ∧ Took l a b ok rest := by
  rcases l with _ | ⟨⟨a, b⟩, l⟩
  · refine (take_none w p c h).mono ?_
    rintro e w' ⟨rfl, h1⟩
    exact ⟨false, ⟨#[]⟩, false, [], rfl, h1.weaken (fun _ _ x => x.elim), h.kept h1 id id, .inr ⟨rfl, rfl, rfl, rfl, rfl⟩⟩
  · refine (take_some w p c a b (items l) h).mono ?_
    rintro e w' ⟨rfl, h1, h2⟩
    exact ⟨a, b, true, l, rfl, h1, h2, .inl ⟨rfl, rfl⟩⟩

def bn (b : Bool) : Nat := cond b 1 0

theorem clear_nil (w : World) : Calls Try.prog 56 #[.pointer none] w fun e w' => e = .returned (.tuple #[]) ∧ Only (fun _ => False) w w' := by
  go_enter Try.func56, Try.ntmps56
  go_wp2_with (go_at_call 53; refine (take_nil _).mono ?_; rintro e w' ⟨rfl, h1⟩)
  refine wp_loop_rounds 1 ?_
  rw [rounds_succ]
  go_wp2
  go_end0
  exact ⟨rfl, h1.alloc _⟩

theorem clear_any (w : World) (p c : Nat) (l : List (Bool × ByteArray)) (h : PipeAt w p c (items l)) :
    Calls Try.prog 56 #[.pointer (some ⟨p, 0, none⟩)] w fun e w' => e = .returned (.tuple #[]) ∧ Only (· = c) w w' ∧ PipeAt w' p c [] := by
  go_enter Try.func56, Try.ntmps56
  go_wp2_with (go_at_call 53; refine (take_any _ p c l h).mono ?_; rintro e w1 ⟨a, b, ok, rest, rfl, h1, h2, h3⟩)
  go_loopg [2, 3] (rest.length + bn ok) (fun k v2 v3 wr => ∃ q ok rest, v2 = .pointer (some ⟨q, 0, none⟩) ∧ v3 = .bool ok ∧ PipeAt wr p c (items rest) ∧ Only (· = c) w wr ∧
    (∃ a b, wr.heap[q]? = some (.cells #[.bool a, .string b] 58 (0, 0))) ∧ (ok = false → rest = []) ∧ k = rest.length + bn ok)
  case atStart =>
    refine ⟨_, ok, rest, rfl, rfl, h2.kept (S := fun _ => False) ((Only.refl _ _).alloc _) id id, h1.alloc _, ⟨a, b, heap_alloc_new _ _⟩, ?_, rfl⟩
    rcases h3 with ⟨rfl, _⟩ | ⟨_, _, hr, _⟩
    · intro e; cases e
    · intro _; exact hr
  case round =>
    obtain ⟨q, ok, rest, rfl, rfl, g1, g2, ⟨a, b, g3⟩, g4, g5⟩ := hrel
    cases ok with
    | false =>
      obtain rfl := g4 rfl
      clear g4 g5 h3
      go_wp2
      go_end0
      exact ⟨rfl, g2, g1⟩
    | true =>
      have hk0 : wr.cell? ⟨q, 0, none⟩ = some (.bool a) := by simp [World.cell?, g3]
      have hk1 : wr.cell? ⟨q, 1, none⟩ = some (.string b) := by simp [World.cell?, g3]
      have hq : q < wr.heap.size := lt_of_block g3
      have G5 := Lib.hid g5
      clear g3 g4 g5 h3
      go_wp2_with (go_at_call 53; refine (take_any _ p c rest (g1.kept (S := fun _ => False) ((Only.refl _ _).alloc _) id id)).mono ?_; rintro e w2 ⟨a2, b2, ok2, rest2, rfl, k1, k2, k3⟩)
      go_roundg (rest2.length + bn ok2)
      case measure =>
        rw [G5.out]
        rcases k3 with ⟨rfl, rfl⟩ | ⟨rfl, rfl, rfl, _⟩ <;> simp [bn]
      case rel =>
        refine ⟨_, ok2, rest2, rfl, rfl, k2, g2.trans ((Only.refl (· = c) wr).alloc _ |>.trans k1), ⟨a, b, ?_⟩, ?_, rfl⟩
        · rw [k1.block _ (by simp) (by show ¬ (_ = c); have := g1.lt.2; omega)]
          exact heap_alloc_new _ _
        · rcases k3 with ⟨rfl, _⟩ | ⟨_, _, hr, _⟩
          · intro e; cases e
          · intro _; exact hr

theorem break_nil (w : World) : Calls Try.prog 55 #[.pointer none] w fun e w' => e = .returned (.tuple #[]) ∧ Only (fun _ => False) w w' := by
  go_enter Try.func55, Try.ntmps55
  go_wp2_with (go_at_call 56; refine (clear_nil _).mono ?_; rintro e w' ⟨rfl, h1⟩)
  go_end0
  exact ⟨rfl, h1⟩

theorem break_any (w : World) (p c : Nat) (l : List (Bool × ByteArray)) (h : PipeAt w p c (items l)) :
    Calls Try.prog 55 #[.pointer (some ⟨p, 0, none⟩)] w fun e w' => e = .returned (.tuple #[]) ∧ Only (· = c) w w' ∧ PipeAt w' p c (items [(true, ⟨#[]⟩)]) := by
  go_enter Try.func55, Try.ntmps55
  go_wp2_with (first | (go_at_call 56; refine (clear_any _ p c l h).mono ?_; rintro e w' ⟨rfl, h1, h2⟩) | (go_at_call 76; refine (put_room _ p c [] _ _ h2 (by decide)).mono ?_; rintro e w2 ⟨rfl, h3, h4⟩))
  go_end0
  exact ⟨rfl, h1.trans h3, h4⟩
end Go.Proofs.Ytjgcbcahikemdaa
/-! bellhopref07.Send: the reference's list with one more at its end, or the list itself. -/
namespace Go.Proofs.Ytjgcbcahikemdaa
open Go.Conc Go.RowKit

/-- The items' cells. -/
def flat (l : List (Bool × ByteArray)) : List Value := l.flatMap fun x => [.bool x.1, .string x.2]
theorem flat_length (l : List (Bool × ByteArray)) : (flat l).length = l.length * 2 := by
  induction l with
  | nil => rfl
  | cons x l ih => simp only [flat, List.flatMap_cons, List.length_append, List.length_cons, List.length_nil] at ih ⊢; omega
theorem flat_append (l m : List (Bool × ByteArray)) : flat (l ++ m) = flat l ++ flat m := by simp [flat]
theorem flat_one (l : List (Bool × ByteArray)) : ∀ u ∈ flat l, u.oneCell' = true := by
  intro u hu
  simp only [flat, List.mem_flatMap] at hu
  obtain ⟨x, _, hx⟩ := hu
  simp only [List.mem_cons, List.not_mem_nil, or_false] at hx
  rcases hx with rfl | rfl <;> rfl
theorem infoRItem : (Try.prog.info? 63).map (fun i => (i.zero, i.size, i.bytes)) = some (some (.agg #[.bool false, .string ⟨#[]⟩]), 2, 24) := by kernel_rfl

set_option maxRecDepth 100000 in
theorem rsend_full (w : World) (v : Value) (l : List (Bool × ByteArray)) (s : ByteArray) (h : Sl w 2 v l.length (flat l)) (hl : 64 ≤ l.length) :
    Calls Try.prog 33 #[v, .string s] w fun e w' => e = .returned (.tuple #[v, .bool false]) ∧ w = w' := by
  obtain ⟨_, a, cap, rfl, h3, h4, _⟩ := h
  go_enter Try.func33, Try.ntmps33
  go_wp2
  go_ret2
  exact ⟨rfl, rfl⟩
set_option maxRecDepth 100000 in
theorem rsend_room (w : World) (v : Value) (l : List (Bool × ByteArray)) (s : ByteArray) (h : Sl w 2 v l.length (flat l)) (hl : l.length < 64) :
    Calls Try.prog 33 #[v, .string s] w fun e w' => ∃ v', e = .returned (.tuple #[v', .bool true]) ∧ Only (fun _ => False) w w' ∧ Sl w' 2 v' (l.length + 1) (flat (l ++ [(false, s)])) := by
  obtain ⟨i0, hi, hz0, hz1, hz2⟩ := info_parts infoRItem
  have h0 := h
  obtain ⟨_, a, cap, rfl, h3, h4, _⟩ := h
  go_enter Try.func33, Try.ntmps33
  go_wp2_with (at_builtin; refine Wait.mk ?_)
  refine Wait.go (wpList_append_src _ rfl (.tmp 10) (.tmp 11) 61 61 rfl w.heap.size 63 i0 _ 2 24 Try.underlying61 hi hz0 hz1 hz2 rfl _ 0 [] rfl (owns_empty w 63 2) _ l.length (flat l) rfl ?src ?m ?b ?base ?_)
  case src => exact (h0.new ((Only.refl _ _).alloc _)).src Try.underlying61 (flat_one l)
  case m => unfold maxLen; omega
  case b => omega
  case base => simp
  intro v1 w1 own1 gr1 _
  simp only [Nat.zero_add, List.nil_append] at own1
  go_wp2_with (at_builtin; refine Wait.mk ?_)
  refine Wait.go (wpList_append_src _ rfl (.tmp 12) (.tmp 15) 61 61 rfl w.heap.size 63 i0 _ 2 24 Try.underlying61 hi hz0 hz1 hz2 rfl v1 l.length (flat l) rfl (own1.alloc _) _ 1 (flat [(false, s)]) rfl ?src2 ?m2 ?b2 ?base2 ?_)
  case src2 => exact Src.ofSlice _ Try.underlying61 _ _ _ _ rfl (news_new _ _ _) (flat_one _)
  case m2 => unfold maxLen; omega
  case b2 => omega
  case base2 => have := gr1.size; simp at this ⊢; omega
  intro v2 w2 own2 gr2 _
  go_wp2_with fail
  go_ret2
  refine ⟨v2, rfl, ?_, ?_⟩
  · exact ((((Only.refl (fun _ => False) w).alloc _).own (owns_empty w 63 2) (Nat.le_refl _) gr1).alloc _).own (own1.alloc _) (Nat.le_refl _) gr2
  · rw [flat_append]
    exact Sl.of_owns own2
end Go.Proofs.Ytjgcbcahikemdaa
