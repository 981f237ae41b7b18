/- Small laws for regions that make blocks: what is kept, the block behind a chain of stores. -/
import Derived.Test.YtegechmdboccbaaGreatDoorRows
import Derived.Conc.LoneCalls
import Derived.Conc.LoneSelect
import Derived.WalkKit
import Derived.WalkSpells
import Derived.WalkLawsBesides
import Derived.KernelRfl
import Derived.Lib.Hide
import Derived.Deep.QuietTactic
import Derived.BigQuiet
import Derived.Deep.DeepCutAuto
import Derived.Deep.LoopGhost
import Derived.Deep.AppendSrc
import Derived.Deep.RegionLaw
import Derived.Deep.RegionHeld3
/-! Small laws on worlds: of the blocks that were there only some may have changed. -/
namespace Go.Proofs.YtegechmdboccbaaGreatDoor
open Go.Conc Go.RowKit

/-- Of the blocks that were there only those of S may have changed. -/
structure Only (S : Nat → Prop) (w w' : World) : Prop where
  os : w'.os = w.os
  tape : w'.tape = w.tape
  output : w'.output = w.output
  size : w.heap.size ≤ w'.heap.size
  block : ∀ k, k < w.heap.size → ¬ S k → w'.heap[k]? = w.heap[k]?

theorem Only.refl (S : Nat → Prop) (w : World) : Only S w w := ⟨rfl, rfl, rfl, Nat.le_refl _, fun _ _ _ => rfl⟩
theorem Only.trans {S : Nat → Prop} {a b c : World} (h : Only S a b) (k : Only S b c) : Only S a c :=
  ⟨k.os.trans h.os, k.tape.trans h.tape, k.output.trans h.output, Nat.le_trans h.size k.size,
    fun i hi hn => (k.block i (Nat.lt_of_lt_of_le hi h.size) hn).trans (h.block i hi hn)⟩
theorem Only.weaken {S T : Nat → Prop} {a b : World} (h : Only S a b) (hs : ∀ k, k < a.heap.size → S k → T k) : Only T a b :=
  ⟨h.os, h.tape, h.output, h.size, fun i hi hn => h.block i hi (fun x => hn (hs i hi x))⟩
theorem Only.alloc {S : Nat → Prop} {a w : World} (h : Only S a w) (o : Obj) : Only S a (w.alloc o) :=
  h.trans ⟨rfl, rfl, rfl, by simp, fun k hk _ => Below.heap_alloc _ _ _ hk⟩
theorem Only.drew {S : Nat → Prop} {a w : World} (h : Only S a w) : Only S a w.drew := ⟨h.os, h.tape, h.output, h.size, h.block⟩
theorem Only.drewN {S : Nat → Prop} {a w : World} (h : Only S a w) (n : Nat) : Only S a (w.drewN n) := ⟨h.os, h.tape, h.output, h.size, h.block⟩
theorem Only.setCell {S : Nat → Prop} {a w : World} (h : Only S a w) {p : Addr} (hp : a.heap.size ≤ p.block ∨ S p.block) (u : Value) : Only S a (w.setCell p u) :=
  ⟨h.os, h.tape, h.output, by simpa using h.size, fun k hk hn => by
    rw [Below.heap_setCell _ _ _ _ (fun e => by subst e; rcases hp with hp | hp; exact absurd hk (by omega); exact hn hp)]
    exact h.block k hk hn⟩
theorem Only.setChan {S : Nat → Prop} {a w : World} (h : Only S a w) {c : Nat} (hp : a.heap.size ≤ c ∨ S c) (cap : Nat) (buf : Array Value) (cl : Bool) (s r : Nat) (tm : Bool) : Only S a (w.setChan c cap buf cl s r tm) :=
  ⟨h.os, h.tape, h.output, by simpa [World.setChan] using h.size, fun k hk hn => by
    have hc : c ≠ k := fun e => by subst e; rcases hp with hp | hp; exact absurd hk (by omega); exact hn hp
    have : (w.setChan c cap buf cl s r tm).heap[k]? = w.heap[k]? := by simp [World.setChan, Array.getElem?_setIfInBounds_ne hc]
    rw [this]
    exact h.block k hk hn⟩
theorem Only.below {S : Nat → Prop} {a b : World} (h : Only S a b) {B : Nat} (hB : B ≤ a.heap.size) (hs : ∀ k, k < B → ¬ S k) : Below B a b :=
  ⟨h.os, h.tape, h.output, h.size, fun k hk => h.block k (by omega) (hs k hk)⟩
theorem Only.of_below {S : Nat → Prop} {a b : World} (h : Below a.heap.size a b) : Only S a b :=
  ⟨h.os, h.tape, h.output, h.size, fun k hk _ => h.block k hk⟩
theorem Only.cell {S : Nat → Prop} {a b : World} (h : Only S a b) {p : Addr} {v : Value} (hc : a.cell? p = some v) (hn : ¬ S p.block) : b.cell? p = some v :=
  (World.cell?_of_block (h.block p.block (World.block_lt_of_cell? _ _ hc) hn)).trans hc

/-- A block that had just been made is still there. -/
theorem Only.new {S : Nat → Prop} {w w' : World} {o : Obj} (h : Only S (w.alloc o) w') (hn : ¬ S w.heap.size) : w'.heap[w.heap.size]? = some o :=
  (h.block _ (by simp) hn).trans (heap_alloc_new w o)
theorem cell_at {w : World} {b : Nat} {cs : Array Value} {t : TypeId} {f : Nat × Nat} (h : w.heap[b]? = some (.cells cs t f)) (i : Nat) : w.cell? ⟨b, i, none⟩ = cs[i]? := by simp [World.cell?, h]
theorem free_at {w : World} {b : Nat} {cs : Array Value} {t : TypeId} (h : w.heap[b]? = some (.cells cs t (0, 0))) (i : Nat) : w.frozen? ⟨b, i, none⟩ = false := by simp [World.frozen?, h]
theorem Only.old {S : Nat → Prop} {w w' : World} {b : Nat} {o : Obj} (h : Only S w w') (hb : w.heap[b]? = some o) (hn : ¬ S b) : w'.heap[b]? = some o :=
  (h.block _ (lt_of_block hb) hn).trans hb
/-- Two steps, the second of which may have changed blocks that the first has made. -/
theorem Only.tr {S T : Nat → Prop} {a b c : World} (h : Only S a b) (k : Only T b c) (hT : ∀ i, i < a.heap.size → T i → S i) : Only S a c :=
  ⟨k.os.trans h.os, k.tape.trans h.tape, k.output.trans h.output, Nat.le_trans h.size k.size,
    fun i hi hn => (k.block i (Nat.lt_of_lt_of_le hi h.size) (fun x => hn (hT i hi x))).trans (h.block i hi hn)⟩
theorem Only.grown {S : Nat → Prop} {a w w' : World} {row : Option Nat} (h : Only S a w) (hg : w.grownBy w' row) (hr : ∀ k, row = some k → a.heap.size ≤ k ∨ S k) : Only S a w' :=
  h.tr (T := fun k => row = some k) ⟨hg.os, hg.tape, hg.output, hg.size, fun k hk hn => hg.block k hk (fun e => hn e.symm)⟩
    (fun i hi e => (hr i e).elim (fun x => absurd hi (by omega)) id)
theorem ret_bool {a b : Bool} (h : a = b) : Ending.returned (.bool a) = .returned (.bool b) := by rw [h]
theorem ret_int {k : IntKind} {a b : Int} (h : a = b) : Ending.returned (.int k a) = .returned (.int k b) := by rw [h]
theorem ret_str {a b : ByteArray} (h : a = b) : Ending.returned (.string a) = .returned (.string b) := by rw [h]
/-- A goal at which the walk stops: 'go_wp2_with (at_builtin; refine Wait.mk ?_)' walks to the next append; 'refine Wait.go (law ..)' goes on. -/
def Wait (p : Prop) : Prop := p
theorem Wait.mk {p : Prop} (h : Wait p) : p := h
theorem Wait.go {p : Prop} (h : p) : Wait p := h
end Go.Proofs.YtegechmdboccbaaGreatDoor
/-! Slices that are only read, and append onto a slice that the call itself made, whatever is appended: laws for the walk over any program. -/
namespace Go.Proofs.YtegechmdboccbaaGreatDoor
open Go.Conc Go.RowKit

/-- A slice of n elements, 'size' cells each, reads as the cells xs. -/
def Sl (w : World) (size : Nat) (v : Value) (n : Nat) (xs : List Value) : Prop :=
  xs.length = n * size ∧ ∃ a cap, v = .slice a n cap ∧ n ≤ cap ∧ cap ≤ maxLen ∧
    (n = 0 ∨ ∃ b off, a = some ⟨b, off, none⟩ ∧ ∀ j u, xs[j]? = some u → w.cell? ⟨b, off + j, none⟩ = some u)

section
variable {w w' : World} {size n : Nat} {v : Value} {xs : List Value}

theorem Sl.nil (w : World) (size : Nat) : Sl w size (.slice none 0 0) 0 [] := ⟨by simp, none, 0, rfl, Nat.le_refl _, Nat.zero_le _, .inl rfl⟩
theorem Sl.kept {S : Nat → Prop} (h : Sl w size v n xs) (ho : Only S w w') (hn : ∀ a u, w.cell? a = some u → ¬ S a.block) : Sl w' size v n xs := by
  obtain ⟨h1, a, cap, h2, h3, h4, h5⟩ := h
  refine ⟨h1, a, cap, h2, h3, h4, ?_⟩
  rcases h5 with h5 | ⟨b, off, h5, h6⟩
  · exact .inl h5
  · exact .inr ⟨b, off, h5, fun j u hu => ho.cell (h6 j u hu) (hn _ _ (h6 j u hu))⟩
theorem Sl.cast {m : Nat} (h : Sl w size v n xs) (e : n = m) : Sl w size v m xs := e ▸ h
theorem Sl.new {h0 : World} (h : Sl w size v n xs) (ho : Only (fun _ => False) w h0) : Sl h0 size v n xs := h.kept ho (fun _ _ _ => id)
theorem Sl.of_owns {base : Nat} {e : TypeId} (h : w.ownsRow base e size v n xs) : Sl w size v n xs := by
  refine ⟨h.1, ?_⟩
  rcases h.2 with ⟨h2, rfl⟩ | ⟨g, cap, cur, rfl, hb, hg, hnc, hcm, hcs, ht⟩
  · exact ⟨none, 0, h2, Nat.le_refl _, Nat.zero_le _, .inl rfl⟩
  · refine ⟨_, cap, rfl, hnc, hcm, .inr ⟨g, 0, rfl, fun j u hu => ?_⟩⟩
    have := h.cells (g := g) rfl j u hu
    simpa [Addr.add_lit] using this
theorem Sl.len_le (h : Sl w size v n xs) : n ≤ maxLen := by
  obtain ⟨_, a, cap, _, h3, h4, _⟩ := h
  omega
/-- What an append takes from it. -/
theorem Sl.src {P : Program} {tx e' : TypeId} (hk : P.underlying tx = some (.slice e')) (h : Sl w size v n xs) (h1 : ∀ u ∈ xs, u.oneCell' = true) : Src P size tx v n xs w := by
  obtain ⟨hl, a, cap, rfl, _, _, h5⟩ := h
  rcases h5 with rfl | ⟨b, off, rfl, hc⟩
  · obtain rfl : xs = [] := List.eq_nil_of_length_eq_zero (by simpa using hl)
    cases a with
    | none => exact Src.ofNil w hk cap
    | some a => exact Src.ofSlice w hk a 0 cap [] (by simp) (by simp) (by simp)
  · exact Src.ofSlice w hk _ n cap xs hl (fun j u hu => by rw [Addr.add_lit]; exact hc j u hu) h1
end

/-- s[lo:] of such a slice, as the model has it. -/
theorem Sl.sliced {w : World} {size n lo : Nat} {xs : List Value} {a : Option Addr} {cap : Nat} (h : Sl w size (.slice a n cap) n xs) (hlo : lo ≤ n) :
    Sl w size (.slice (if cap = lo then a else a.map (·.add (lo * size))) (n - lo) (cap - lo)) (n - lo) (xs.drop (lo * size)) := by
  obtain ⟨hl, a', cap', he, h3, h4, h5⟩ := h
  simp only [Value.slice.injEq] at he
  obtain ⟨rfl, -, rfl⟩ := he
  refine ⟨by rw [List.length_drop, hl, Nat.sub_mul], _, _, rfl, by omega, by omega, ?_⟩
  rcases h5 with rfl | ⟨b, off, rfl, hc⟩
  · exact .inl (by omega)
  · by_cases hc' : cap = lo
    · exact .inl (by omega)
    · refine .inr ⟨b, off + lo * size, ?_, fun j u hu => ?_⟩
      · rw [if_neg hc']
        simp [Addr.add_lit]
      · rw [List.getElem?_drop] at hu
        have := hc _ _ hu
        rwa [← Nat.add_assoc] at this

section
variable {P : Program} (w : World)

theorem run_append_room_own (t tx ty e : TypeId) (i : TypeInfo) (ht : P.underlying t = some (.slice e)) (hi : P.info? e = some i)
    (g sLen sCap : Nat) (cur : Array Value) (hg : w.heap[g]? = some (.cells cur e (0, 0))) (x : Value) (m : Nat) (news : List Value) (hs : Src P i.size tx x m news w)
    (hroom : sLen + m ≤ sCap) (hfit : sLen * i.size + news.length ≤ cur.size) :
    (Builtin.append_ #[t, tx] ty #[.slice (some ⟨g, 0, none⟩) sLen sCap, x]).run P w =
      .ok (.slice (some ⟨g, 0, none⟩) (sLen + m) sCap) (w.setRow g (cur.toList.take (sLen * i.size) ++ news ++ cur.toList.drop (sLen * i.size + news.length)).toArray) := by
  have hst := run_storeCells_at P g (sLen * i.size) e news 0 cur w hg (by simpa using hfit) hs.one
  simp only [Nat.add_zero] at hst
  rcases hs.kind with ⟨e', hk⟩ | hk <;> simp [Builtin.append_, run_underlying ht, run_underlying hk, sizeOf, typeInfo, hi, hs.len, hroom, hs.cells, Addr.add_lit, hst]

/-- append onto a slice of the call's own, whatever is appended. -/
theorem run_append_src (base : Nat) (t tx ty e : TypeId) (i : TypeInfo) (z : Value) (size bytes : Nat) (ht : P.underlying t = some (.slice e)) (hi : P.info? e = some i) (hz : i.zero = some z)
    (hsize : i.size = size) (hby : i.bytes = bytes) (hzs : z.cells.size = size)
    (v : Value) (n : Nat) (xs : List Value) (hown : w.ownsRow base e size v n xs) (x : Value) (m : Nat) (news : List Value) (hs : Src P size tx x m news w)
    (h63 : n + m ≤ maxLen) (hbytes : (n + m) * bytes ≤ 140737488355328) (hbase : base ≤ w.heap.size) :
    ∃ v' w', (Builtin.append_ #[t, tx] ty #[v, x]).run P w = .ok v' w' ∧ w'.ownsRow base e size v' (n + m) (xs ++ news) ∧ w.grownBy w' v.ownBlock ∧ (∀ k, v'.ownBlock = some k → v.ownBlock = some k ∨ w.heap.size ≤ k) := by
  subst hsize
  subst hby
  have hl := hs.newsLen
  have hsmall : n + m ≤ 9223372036854775807 := by simp only [maxLen] at h63; omega
  have hlen : (xs ++ news).length = (n + m) * i.size := by rw [List.length_append, hown.1, hl, Nat.add_mul]
  have grown : ∀ (old : Nat), old < n + m → ∀ (row : Option Nat),
      (w.drew.alloc (.cells ((xs ++ news).toArray ++ Builtin.zeroCells z.cells (grownCap w (n + m) old e - (n + m))) e)).ownsRow base e i.size
        (.slice (some ⟨w.heap.size, 0, none⟩) (n + m) (grownCap w (n + m) old e)) (n + m) (xs ++ news) ∧
      w.grownBy (w.drew.alloc (.cells ((xs ++ news).toArray ++ Builtin.zeroCells z.cells (grownCap w (n + m) old e - (n + m))) e)) row := by
    intro old ho row
    have hge := grownCap_ge w (n + m) old e
    have hcm : grownCap w (n + m) old e ≤ maxLen := grownCap_le_maxLen w (n + m) old e h63
    refine ⟨⟨hlen, .inr ⟨w.heap.size, _, _, rfl, hbase, heap_alloc_new w.drew _, hge, hcm, ?_, ?_⟩⟩, ⟨rfl, rfl, rfl, by simp, fun k hk _ => Below.heap_alloc w.drew _ k hk⟩⟩
    · simp only [Array.size_append, List.size_toArray, size_zeroCells, hzs, hlen, ← Nat.add_mul]
      congr 1
      omega
    · simp only [Array.toList_append]
      rw [← hlen]
      exact List.take_left
  rcases hown.2 with ⟨rfl, rfl⟩ | ⟨g, cap, cur, rfl, hbg, hg, hnc, hcm, hcs, htake⟩
  · have hx : xs = [] := List.eq_nil_of_length_eq_zero (by simpa using hown.1)
    subst hx
    by_cases hm : m = 0
    · subst hm
      have hn : news = [] := List.eq_nil_of_length_eq_zero (by simpa using hl)
      subst hn
      refine ⟨.slice none 0 0, w, ?_, World.ownsRow_nil w base e i.size, ⟨rfl, rfl, rfl, Nat.le_refl _, fun _ _ _ => rfl⟩, fun k h => .inl h⟩
      rcases hs.kind with ⟨e', hk⟩ | hk <;> simp [Builtin.append_, run_underlying ht, run_underlying hk, sizeOf, typeInfo, hi, hs.len, hs.cells]
    · have hr := run_append_grow_src (P := P) w t tx ty e i z ht hi hz none 0 0 [] (run_firstCells_none w.drew i.size 0 0 0) x m news hs (by omega) (by omega) (growslice_fits (by omega) hbytes)
      have hgr := grown 0 (by omega) (Value.ownBlock (.slice none 0 0))
      simp only [Nat.zero_add] at hgr hr ⊢
      exact ⟨_, _, hr, hgr.1, hgr.2, fun k h => .inr (by simp [Value.ownBlock] at h; omega)⟩
  · by_cases hroom : n + m ≤ cap
    · have hfit : n * i.size + news.length ≤ cur.size := by rw [hl, hcs, ← Nat.add_mul]; exact Nat.mul_le_mul_right _ hroom
      have hr := run_append_room_own (P := P) w t tx ty e i ht hi g n cap cur hg x m news hs hroom hfit
      refine ⟨_, _, hr, ⟨hlen, .inr ⟨g, cap, _, rfl, hbg, setRow_heap w g cur _ e _ hg, hroom, hcm, ?_, ?_⟩⟩, ⟨rfl, rfl, rfl, by simp, fun k _ hk => setRow_other w g k _ (fun e => hk (by simp [Value.ownBlock, e]))⟩, fun k h => .inl h⟩
      · simp only [List.size_toArray, List.length_append, List.length_take, List.length_drop, Array.length_toList]
        omega
      · rw [htake, ← hlen]
        exact List.take_left
    · have holds : ∀ j u, xs[j]? = some u → w.cell? ((⟨g, 0, none⟩ : Addr).add j) = some u := hown.cells (g := g) rfl
      have hold := run_firstCells_some (P := P) w.drew i.size n ⟨g, 0, none⟩ n cap xs hown.1 (by simpa using holds)
      have hr := run_append_grow_src (P := P) w t tx ty e i z ht hi hz (some ⟨g, 0, none⟩) n cap xs hold x m news hs (by omega) (by omega) (growslice_fits (by omega) hbytes)
      have hgr := grown cap (by omega) (Value.ownBlock (.slice (some ⟨g, 0, none⟩) n cap))
      exact ⟨_, _, hr, hgr.1, hgr.2, fun k h => .inr (by simp [Value.ownBlock] at h; omega)⟩

/-- The same for the walk. -/
theorem wpList_append_src {ops : Array Oper} {rest : List Oper} {o : Oper} {a : Act} {Q : Exit → Act → World → Prop} (hgd : o.guard = none) (s x : Operand) (t tx : TypeId)
    (ho : o.op = .call { callee := .builtin .append, args := #[s, x], argTypes := #[t, tx] })
    (base : Nat) (e : TypeId) (i : TypeInfo) (z : Value) (size bytes : Nat) (ht : P.underlying t = some (.slice e)) (hi : P.info? e = some i) (hz : i.zero = some z)
    (hsize : i.size = size) (hby : i.bytes = bytes) (hzs : z.cells.size = size)
    (v : Value) (n : Nat) (xs : List Value) (hv : a.eval s = v) (hown : w.ownsRow base e size v n xs) (xv : Value) (m : Nat) (news : List Value) (hx : a.eval x = xv) (hs : Src P size tx xv m news w)
    (h63 : n + m ≤ maxLen) (hbytes : (n + m) * bytes ≤ 140737488355328) (hbase : base ≤ w.heap.size)
    (h : ∀ v' w', w'.ownsRow base e size v' (n + m) (xs ++ news) → w.grownBy w' v.ownBlock → (∀ k, v'.ownBlock = some k → v.ownBlock = some k ∨ w.heap.size ≤ k) → wpList P ops Q rest (a.put o.dst v') w') : wpList P ops Q (o :: rest) a w := by
  refine wpList_plain hgd fun K hK => ?_
  obtain ⟨v', w', hr, h2, h3, h4⟩ := run_append_src (P := P) w base t tx o.type e i z size bytes ht hi hz hsize hby hzs v n xs hown xv m news hs h63 hbytes hbase
  unfold Oper.wp execOp
  simp only [ho, resolve, invoke, builtin, Sem.run_bind, Sem.run_pure, Result.andThen_ok, List.map_toArray, List.map_cons, List.map_nil, hv, hx, hr]
  exact hK _ _ (h v' w' h2 h3 h4)
end
theorem Sl.take {w : World} {size n m : Nat} {xs : List Value} {a : Option Addr} {cap : Nat} (h : Sl w size (.slice a n cap) n xs) (hm : m ≤ n) : Sl w size (.slice a m cap) m (xs.take (m * size)) := by
  obtain ⟨hl, a', cap', he, h3, h4, h5⟩ := h
  simp only [Value.slice.injEq] at he
  obtain ⟨rfl, -, rfl⟩ := he
  refine ⟨?_, _, _, rfl, by omega, h4, ?_⟩
  · rw [List.length_take, hl]
    exact Nat.min_eq_left (Nat.mul_le_mul_right _ hm)
  · rcases h5 with rfl | ⟨b, off, rfl, hc⟩
    · exact .inl (by omega)
    · refine .inr ⟨b, off, rfl, fun j u hu => hc j u ?_⟩
      rw [List.getElem?_take] at hu
      split at hu
      · exact hu
      · cases hu
theorem Sl.zero (w : World) (size : Nat) (a : Option Addr) (cap : Nat) (hc : cap ≤ maxLen) : Sl w size (.slice a 0 cap) 0 [] := ⟨by simp, a, cap, rfl, Nat.zero_le _, hc, .inl rfl⟩
/-- s[lo:] where something is left. -/
theorem Sl.drop {w : World} {size n lo : Nat} {xs : List Value} {b off cap : Nat} (h : Sl w size (.slice (some ⟨b, off, none⟩) n cap) n xs) (hlo : lo ≤ n) :
    Sl w size (.slice (some ⟨b, off + lo * size, none⟩) (n - lo) (cap - lo)) (n - lo) (xs.drop (lo * size)) := by
  obtain ⟨hl, a', cap', he, h3, h4, h5⟩ := h
  simp only [Value.slice.injEq] at he
  obtain ⟨rfl, -, rfl⟩ := he
  refine ⟨by rw [List.length_drop, hl, Nat.sub_mul], _, _, rfl, by omega, by omega, ?_⟩
  rcases h5 with rfl | ⟨b, off, he, hc⟩
  · exact .inl (by omega)
  · simp only [Option.some.injEq, Addr.mk.injEq, and_true] at he
    obtain ⟨rfl, rfl⟩ := he
    refine .inr ⟨_, _, rfl, fun j u hu => ?_⟩
    rw [List.getElem?_drop] at hu
    have := hc _ _ hu
    rwa [← Nat.add_assoc] at this
/-- A slice that has just been made, empty, is the call's own. -/
theorem owns_empty' (w : World) (B : Nat) (hB : B = w.heap.size) (e : TypeId) (size : Nat) : (w.alloc (.cells #[] e)).ownsRow B e size (.slice (some ⟨B, 0, none⟩) 0 0) 0 [] := by
  subst hB
  exact World.ownsRow_made w #[] 0 (Nat.le_refl _) (Nat.zero_le _) (by simp)
/-- A slice that has just been made, empty, is the call's own. -/
theorem owns_empty (w : World) (e : TypeId) (size : Nat) : (w.alloc (.cells #[] e)).ownsRow w.heap.size e size (.slice (some ⟨w.heap.size, 0, none⟩) 0 0) 0 [] :=
  World.ownsRow_made w #[] 0 (Nat.le_refl _) (Nat.zero_le _) (by simp)
/-- Two slices of the call's own lie in different blocks. -/
def Apart (v u : Value) : Prop := ∀ k, v.ownBlock = some k → u.ownBlock ≠ some k
theorem Apart.symm {v u : Value} (h : Apart v u) : Apart u v := fun k e f => h k f e
theorem Apart.nil (u : Value) : Apart (.slice none 0 0) u := fun k e => by simp [Value.ownBlock] at e
theorem Apart.next {w : World} {v v' u : Value} {base : Nat} {e : TypeId} {size n : Nat} {xs : List Value} (h : Apart v u) (hu : w.ownsRow base e size u n xs) (hv : ∀ k, v'.ownBlock = some k → v.ownBlock = some k ∨ w.heap.size ≤ k) : Apart v' u := by
  intro k h1 h2
  rcases hv k h1 with h3 | h3
  · exact h k h3 h2
  · have := (hu.lt k h2).2
    omega
theorem Apart.kept {w w' : World} {v u : Value} {base : Nat} {e : TypeId} {size n : Nat} {xs : List Value} (h : Apart v u) (hu : w.ownsRow base e size u n xs) (hg : w.grownBy w' v.ownBlock) : w'.ownsRow base e size u n xs :=
  hu.kept hg (by cases hb : u.ownBlock with
    | none => exact .inl rfl
    | some k => exact .inr (fun e => h k e.symm hb))
theorem owns_kept {S : Nat → Prop} {w w' : World} {base : Nat} {e : TypeId} {size n : Nat} {v : Value} {xs : List Value} (h : w.ownsRow base e size v n xs) (ho : Only S w w') (hn : ∀ k, v.ownBlock = some k → ¬ S k) : w'.ownsRow base e size v n xs := by
  refine ⟨h.1, ?_⟩
  rcases h.2 with h2 | ⟨g, cap, cur, rfl, hb, hg, r⟩
  · exact .inl h2
  · exact .inr ⟨g, cap, cur, rfl, hb, ho.old hg (hn g rfl), r⟩
theorem owns_only {S : Nat → Prop} {w w' : World} {base : Nat} {e : TypeId} {size n : Nat} {v : Value} {xs : List Value} (h : w.ownsRow base e size v n xs) (ho : Only S w w') (hn : ∀ k, base ≤ k → ¬ S k) : w'.ownsRow base e size v n xs := by
  refine ⟨h.1, ?_⟩
  rcases h.2 with h2 | ⟨g, cap, cur, rfl, hb, hg, r⟩
  · exact .inl h2
  · exact .inr ⟨g, cap, cur, rfl, hb, ho.old hg (hn g hb), r⟩
/-- The cells of a block that has just been made, as an append wants them. -/
theorem news_new (w : World) (cs : List Value) (e : TypeId) : ∀ j u, cs[j]? = some u → (w.alloc (.cells cs.toArray e)).cell? ((⟨w.heap.size, 0, none⟩ : Addr).add j) = some u := by
  intro j u hu
  rw [Addr.add_lit, World.cell?_alloc_new]
  simpa using hu
/-- A slice literal. -/
theorem Sl.fresh (w : World) (cs : List Value) (e : TypeId) (n size : Nat) (h : cs.length = n * size) (hn : n ≤ maxLen) : Sl (w.alloc (.cells cs.toArray e)) size (.slice (some ⟨w.heap.size, 0, none⟩) n n) n cs :=
  ⟨h, _, n, rfl, Nat.le_refl _, hn, .inr ⟨w.heap.size, 0, rfl, fun j u hu => by
    rw [World.cell?_alloc_new]
    simpa using hu⟩⟩
theorem news_new' (w : World) (B : Nat) (hB : B = w.heap.size) (cs : List Value) (e : TypeId) : ∀ j u, cs[j]? = some u → (w.alloc (.cells cs.toArray e)).cell? ((⟨B, 0, none⟩ : Addr).add j) = some u := by
  subst hB
  exact news_new w cs e
/-- What is owned from the call's beginning on may have been written: nothing that was there has changed. -/
theorem Only.own {S : Nat → Prop} {a w w' : World} {e : TypeId} {size n base : Nat} {v : Value} {xs : List Value} (h : Only S a w) (hown : w.ownsRow base e size v n xs) (hb : a.heap.size ≤ base) (hg : w.grownBy w' v.ownBlock) : Only S a w' :=
  h.grown hg (fun k e => .inl (Nat.le_trans hb (hown.lt k e).1))
end Go.Proofs.YtegechmdboccbaaGreatDoor
/-! Rows of ints. -/
namespace Go.Proofs.YtegechmdboccbaaGreatDoor
open Go.Conc Go.RowKit

def rowI (l : List Int) : List Value := l.map (Value.int .i64)
theorem rowI_length (l : List Int) : (rowI l).length = l.length := by simp [rowI]
theorem rowI_append (l m : List Int) : rowI (l ++ m) = rowI l ++ rowI m := by simp [rowI]
theorem rowI_one (l : List Int) : ∀ u ∈ rowI l, u.oneCell' = true := by
  intro u hu
  obtain ⟨x, _, rfl⟩ := List.mem_map.1 hu
  rfl
theorem rowI_at (l : List Int) (k : Nat) (hk : k < l.length) : (rowI l)[k]? = some (.int .i64 l[k]) := by
  unfold rowI
  rw [List.getElem?_map, List.getElem?_eq_getElem hk]
  rfl
theorem rowI_take (l : List Int) (k : Nat) : (rowI l).take k = rowI (l.take k) := by simp [rowI, List.map_take]
theorem rowI_drop (l : List Int) (k : Nat) : (rowI l).drop k = rowI (l.drop k) := by simp [rowI, List.map_drop]
/-- A slice of ints: its cells, for every index. -/
structure IntsAt (w : World) (a : Option Addr) (l : List Int) : Prop where
  out : l.length = 0 ∨ ∃ b off, a = some ⟨b, off, none⟩ ∧ ∀ k (hk : k < l.length), w.cell? ⟨b, off + k, none⟩ = some (.int .i64 l[k])
theorem IntsAt.at {w : World} {a : Option Addr} {l : List Int} (h : IntsAt w a l) (k : Nat) (hk : k < l.length) : ∃ b off, a = some ⟨b, off, none⟩ ∧ w.cell? ⟨b, off + k, none⟩ = some (.int .i64 l[k]) := by
  rcases h.out with h | ⟨b, off, rfl, hc⟩
  · omega
  · exact ⟨b, off, rfl, hc k hk⟩
theorem Sl.intsAt {w : World} {a : Option Addr} {n cap : Nat} {l : List Int} (h : Sl w 1 (.slice a n cap) l.length (rowI l)) : n = l.length ∧ l.length ≤ cap ∧ cap ≤ maxLen ∧ IntsAt w a l := by
  obtain ⟨_, a', cap', he, h3, h4, h5⟩ := h
  simp only [Value.slice.injEq] at he
  obtain ⟨rfl, rfl, rfl⟩ := he
  refine ⟨rfl, h3, h4, ⟨?_⟩⟩
  rcases h5 with h5 | ⟨b, off, rfl, hc⟩
  · exact .inl h5
  · exact .inr ⟨b, off, rfl, fun k hk => hc k _ (rowI_at l k hk)⟩
end Go.Proofs.YtegechmdboccbaaGreatDoor
/-! Appends and blocks in regions that draw. -/
namespace Go.Proofs.YtegechmdboccbaaGreatDoor
open Go.Conc Go.RowKit

/-- append onto a slice of the call's own, as one step of a region that draws. -/
theorem step_append_src {P : Program} {ops : Array Oper} {o : Oper} {a : Act} {w : World} {K : Act → World → Prop} {Q : Exit → Act → World → Prop} {E : Prop} (hgd : o.guard = none) (s x : Operand) (t tx : TypeId)
    (ho : o.op = .call { callee := .builtin .append, args := #[s, x], argTypes := #[t, tx] })
    (base : Nat) (e : TypeId) (i : TypeInfo) (z : Value) (size bytes : Nat) (ht : P.underlying t = some (.slice e)) (hi : P.info? e = some i) (hz : i.zero = some z)
    (hsize : i.size = size) (hby : i.bytes = bytes) (hzs : z.cells.size = size)
    (v : Value) (n : Nat) (xs : List Value) (hv : a.eval s = v) (hown : w.ownsRow base e size v n xs) (xv : Value) (m : Nat) (news : List Value) (hx : a.eval x = xv) (hs : Src P size tx xv m news w)
    (h63 : n + m ≤ maxLen) (hbytes : (n + m) * bytes ≤ 140737488355328) (hbase : base ≤ w.heap.size)
    (h : ∀ v' w', w'.ownsRow base e size v' (n + m) (xs ++ news) → w.grownBy w' v.ownBlock → (∀ k, v.ownBlock = some k → base ≤ k) → K (a.put o.dst v') w') :
    if Region.wanted o (yielded ops a.tmps) = true then Oper.wp P o a w K Q else E := by
  have hw : Region.wanted o (yielded ops a.tmps) = true := by simp [Region.wanted, hgd]
  rw [if_pos hw]
  obtain ⟨v', w', hr, h2, h3, h4⟩ := run_append_src (P := P) w base t tx o.type e i z size bytes ht hi hz hsize hby hzs v n xs hown xv m news hs h63 hbytes hbase
  unfold Oper.wp execOp
  simp only [ho, resolve, invoke, builtin, Sem.run_bind, Sem.run_pure, Result.andThen_ok, List.map_toArray, List.map_cons, List.map_nil, hv, hx, hr]
  exact h v' w' h2 h3 (fun k e => (hown.lt k e).1)
theorem own_at {w : World} {g : Nat} {e : TypeId} (hg : w.heap[g]? = some (.cells #[] e)) (base size : Nat) (hb : base ≤ g) : w.ownsRow base e size (.slice (some ⟨g, 0, none⟩) 0 0) 0 [] :=
  ⟨by simp, .inr ⟨g, 0, #[], rfl, hb, hg, Nat.le_refl _, Nat.zero_le _, by simp, by simp⟩⟩
theorem news_at {w : World} {g : Nat} {e : TypeId} {cs : List Value} (hg : w.heap[g]? = some (.cells cs.toArray e)) : ∀ j u, cs[j]? = some u → w.cell? ((⟨g, 0, none⟩ : Addr).add j) = some u := by
  intro j u hu
  rw [Addr.add_lit, cell_at hg]
  simpa using hu

theorem heapA (w : World) (o : Obj) (B : Nat) (hB : B = w.heap.size) : (w.alloc o).drew.heap[B]? = some o := by subst hB; exact heap_alloc_new w o
theorem heapB (w : World) (o o' : Obj) (B : Nat) (hB : B = w.heap.size) : ((w.alloc o).alloc o').drew.heap[B]? = some o := by
  subst hB
  exact (Below.heap_alloc _ _ _ (by simp)).trans (heap_alloc_new w o)
theorem heapC (w : World) (o o' : Obj) (B : Nat) (hB : B = w.heap.size + 1) : ((w.alloc o).alloc o').drew.heap[B]? = some o' := by
  have h : B = (w.alloc o).heap.size := by simp [hB]
  subst h
  exact heap_alloc_new (w.alloc o) o'
theorem news_kept {w w1 : World} {g h : Nat} {e : TypeId} {cs : List Value} {r : Option Nat} (hw : w.grownBy w1 r) (hg : w.heap[h]? = some (.cells cs.toArray e)) (hr : r = some g) (hne : h ≠ g) : w1.heap[h]? = some (.cells cs.toArray e) := by
  rw [hw.block h (lt_of_block hg) (by rw [hr]; intro e; injection e with e; exact hne (by omega))]
  exact hg
end Go.Proofs.YtegechmdboccbaaGreatDoor
/-! Strings: the walk's forms of comparisons. -/
namespace Go.Proofs.YtegechmdboccbaaGreatDoor
open Go.Conc Go.RowKit

theorem size_data (s : ByteArray) : s.data.toList.length = s.size := rfl
theorem empty_false {s : ByteArray} (h : s.size ≠ 0) : s.toList.isEmpty = false := by
  rw [ByteArray.toList_eq]
  cases hl : s.data.toList with
  | nil => exact absurd (by rw [← size_data, hl]; rfl) h
  | cons a r => rfl
theorem empty_true {s : ByteArray} (h : s.size = 0) : s.toList.isEmpty = true := by
  rw [ByteArray.toList_eq]
  cases hl : s.data.toList with
  | nil => rfl
  | cons a r => rw [← size_data, hl] at h; simp at h
theorem str_ext {a b : ByteArray} (h : a.data.toList = b.data.toList) : a = b := by
  cases a; cases b
  simp only [ByteArray.mk.injEq]
  exact Array.toList_inj.1 h
theorem str_ne {a b : ByteArray} (h : a ≠ b) : (a.toList == b.toList) = false := by
  rw [ByteArray.toList_eq, ByteArray.toList_eq, beq_eq_false_iff_ne]
  exact fun e => h (str_ext e)
theorem str_eq {a b : ByteArray} (h : a = b) : (a.toList == b.toList) = true := by
  subst h
  exact beq_self_eq_true _

/-- Bytes given as numbers. -/
def bytesOf (ns : List Int) : ByteArray := ⟨(ns.map fun n => UInt8.ofNat n.toNat).toArray⟩
theorem push_list (r : ByteArray) (b : UInt8) : (r.push b).data.toList = r.data.toList ++ [b] := by simp [ByteArray.push]
theorem foldl_bytes (ns : List Int) : ∀ r : ByteArray, (ns.foldl (fun r n => r.push (UInt8.ofNat n.toNat)) r).data.toList = r.data.toList ++ ns.map fun n => UInt8.ofNat n.toNat := by
  induction ns with
  | nil => intro r; simp
  | cons n ns ih =>
    intro r
    rw [List.foldl_cons, ih, push_list]
    simp
theorem foldl_bytesOf (ns : List Int) : ns.foldl (fun r n => r.push (UInt8.ofNat n.toNat)) ByteArray.empty = bytesOf ns := by
  apply str_ext
  rw [foldl_bytes]
  simp [bytesOf]
/-- string(b), b a slice of bytes. -/
theorem run_bytes_str {P : Program} {w : World} {src dst e : TypeId} {v : Value} {ns : List Int} (hs : P.underlying src = some (.slice e)) (he : P.underlying e = some (.int .u8)) (hd : P.underlying dst = some .string)
    (h : Sl w 1 v ns.length (ns.map (.int .u8))) : (convert src dst v).run P w = .ok (.string (bytesOf ns)) w := by
  obtain ⟨hl, a, cap, rfl, _, _, h5⟩ := h
  rw [run_convert_bytes_string w src dst e a ns.length cap hs he hd]
  have key : ∀ ad : Addr, (loadCells ad ns.length).run P w = .ok (ns.map (Value.int .u8)).toArray w → (Conv.bytesToString (.slice (some ad) ns.length cap)).run P w = .ok (.string (bytesOf ns)) w := by
    intro ad h
    rw [run_bytesToString w ad ns.length cap ns h, foldl_bytesOf]
  rcases h5 with h0 | ⟨b, off, rfl, hc⟩
  · obtain rfl : ns = [] := List.eq_nil_of_length_eq_zero h0
    cases a with
    | none => rfl
    | some ad => exact key ad rfl
  · refine key _ ?_
    have := run_loadCells_list (P := P) w ⟨b, off, none⟩ (ns.map (Value.int .u8)) (fun j u hu => by rw [Addr.add_lit]; exact hc j u hu)
    simpa using this
theorem run_bytes_new {P : Program} {src dst e : TypeId} (hs : P.underlying src = some (.slice e)) (he : P.underlying e = some (.int .u8)) (hd : P.underlying dst = some .string) (w : World) (B : Nat) (xs : List Int) (n : Nat) (hB : B = w.heap.size) (hn : n = xs.length) (hm : n ≤ maxLen) :
    (convert src dst (.slice (some ⟨B, 0, none⟩) n n)).run P (w.alloc (.cells (xs.map (.int .u8)).toArray e)) = .ok (.string (bytesOf xs)) (w.alloc (.cells (xs.map (.int .u8)).toArray e)) := by
  subst hB hn
  exact run_bytes_str hs he hd (Sl.fresh w _ e _ 1 (by simp) hm)
theorem run_bytes_new_drew {P : Program} {src dst e : TypeId} (hs : P.underlying src = some (.slice e)) (he : P.underlying e = some (.int .u8)) (hd : P.underlying dst = some .string) (w : World) (B : Nat) (xs : List Int) (n : Nat) (hB : B = w.heap.size) (hn : n = xs.length) (hm : n ≤ maxLen) :
    (convert src dst (.slice (some ⟨B, 0, none⟩) n n)).run P (w.alloc (.cells (xs.map (.int .u8)).toArray e)).drew = .ok (.string (bytesOf xs)) (w.alloc (.cells (xs.map (.int .u8)).toArray e)).drew := by
  subst hB hn
  exact run_bytes_str hs he hd ((Sl.fresh w _ e _ 1 (by simp) hm).new ((Only.refl _ _).drew))
end Go.Proofs.YtegechmdboccbaaGreatDoor
/-! A row of bytes as '[]byte(s)' lays it. -/
namespace Go.Proofs.YtegechmdboccbaaGreatDoor
open Go.Conc Go.RowKit

theorem set_at {w : World} {b : Nat} {cs : Array Value} {t : TypeId} {f : Nat × Nat} (h : w.heap[b]? = some (.cells cs t f)) (i : Nat) (u : Value) : (w.setCell ⟨b, i, none⟩ u).heap[b]? = some (.cells (cs.setIfInBounds i u) t f) := by
  have hlt := lt_of_block h
  have h' : w.heap[b] = .cells cs t f := by simpa [Array.getElem?_eq_getElem hlt] using h
  show (w.heap.modify b _)[b]? = _
  rw [Array.getElem?_eq_getElem (by simpa using hlt), Array.getElem_modify_self, h']
  rfl
/-- A row of bytes as '[]byte(s)' lays it: its first cells. -/
def Byt (w : World) (B N : Nat) (vs : List Value) : Prop :=
  ∃ cur, w.heap[B]? = some (.cells cur 5 (N, N + 1)) ∧ cur.size = N ∧ vs.length ≤ N ∧ cur.toList.take vs.length = vs
theorem Byt.cell {w : World} {B N : Nat} {vs : List Value} (h : Byt w B N vs) {j : Nat} {u : Value} (hu : vs[j]? = some u) : w.cell? ⟨B, j, none⟩ = some u := by
  obtain ⟨cur, h1, h2, h3, h4⟩ := h
  have hj : j < vs.length := (List.getElem?_eq_some_iff.1 hu).1
  rw [← h4, List.getElem?_take, if_pos hj] at hu
  rw [cell_at' h1]
  simpa using hu
where cell_at' {w : World} {b : Nat} {cs : Array Value} {t : TypeId} {f : Nat × Nat} (h : w.heap[b]? = some (.cells cs t f)) {i : Nat} : w.cell? ⟨b, i, none⟩ = cs[i]? := cell_at h i
theorem Byt.free {w : World} {B N : Nat} {vs : List Value} (h : Byt w B N vs) {j : Nat} (hj : j < vs.length) : w.frozen? ⟨B, j, none⟩ = false := by
  obtain ⟨cur, h1, h2, h3, h4⟩ := h
  simp only [World.frozen?, h1]
  have : ¬ N ≤ j := by omega
  simp [this]
theorem Byt.store {w : World} {B N : Nat} {vs : List Value} (h : Byt w B N vs) (j : Nat) (u : Value) : Byt (w.setCell ⟨B, j, none⟩ u) B N (vs.set j u) := by
  obtain ⟨cur, h1, h2, h3, h4⟩ := h
  refine ⟨_, set_at h1 _ u, by simpa using h2, by simpa using h3, ?_⟩
  rw [Array.toList_setIfInBounds, List.length_set, List.take_set, h4]
theorem Byt.kept {S : Nat → Prop} {w w' : World} {B N : Nat} {vs : List Value} (h : Byt w B N vs) (ho : Only S w w') (hn : ¬ S B) : Byt w' B N vs := by
  obtain ⟨cur, h1, h2⟩ := h
  exact ⟨cur, ho.old h1 hn, h2⟩
theorem Byt.lt {w : World} {B N : Nat} {vs : List Value} (h : Byt w B N vs) : B < w.heap.size := by
  obtain ⟨cur, h1, _⟩ := h
  exact lt_of_block h1
def byteVals (l : List UInt8) : List Value := l.map fun b => .int .u8 b.toNat
theorem Byt.new (w : World) (s : ByteArray) (cap : Nat) :
    Byt (w.alloc (.cells (bytesRow s cap) 5 ((bytesRow s cap).size, (bytesRow s cap).size + 1))).drew w.heap.size (bytesRow s cap).size (byteVals s.data.toList) := by
  have hl : (byteVals s.data.toList).length = s.size := by rw [byteVals, List.length_map]; rfl
  refine ⟨bytesRow s cap, heap_alloc_new w _, rfl, ?_, ?_⟩
  · rw [hl, bytesRow, Array.size_append, Array.size_map, Array.size_replicate]
    show s.data.size ≤ s.data.size + _
    omega
  · rw [bytesRow, Array.toList_append, Array.toList_map, List.take_append_of_le_length (Nat.le_of_eq (by simp [byteVals]))]
    rw [List.take_of_length_le (Nat.le_of_eq (by simp [byteVals]))]
    rfl
theorem Byt.sl {w : World} {B N n cap : Nat} {l : List UInt8} (h : Byt w B N (byteVals l)) (hn : n = l.length) (hc : n ≤ cap) (hm : cap ≤ maxLen) :
    Sl w 1 (.slice (some ⟨B, 0, none⟩) n cap) (l.map fun b => (b.toNat : Int)).length ((l.map fun b => (b.toNat : Int)).map (.int .u8)) := by
  subst hn
  rw [List.length_map]
  refine ⟨by simp, _, cap, rfl, hc, hm, .inr ⟨B, 0, rfl, fun j u hu => ?_⟩⟩
  rw [Nat.zero_add]
  refine h.cell ?_
  simpa [byteVals] using hu
theorem bytesOf_nat (l : List UInt8) : bytesOf (l.map fun b => (b.toNat : Int)) = ⟨l.toArray⟩ := by
  apply str_ext
  simp only [bytesOf, List.map_map]
  have e : ((fun n : Int => UInt8.ofNat n.toNat) ∘ fun b : UInt8 => (b.toNat : Int)) = id := funext fun b => by simp
  rw [e, List.map_id]

end Go.Proofs.YtegechmdboccbaaGreatDoor
/-! Small laws for regions that make blocks: what is kept, the block behind a chain of stores. -/
namespace Go.Proofs.YtegechmdboccbaaGreatDoor
open Go.Conc Go.RowKit

theorem heldO {W w' : World} {C : World → Prop} (hC : ∀ w', Only (fun _ => False) W w' → C w') (h : Only (fun _ => False) W w') : Only (fun _ => False) W w' ∧ C w' := ⟨h, hC _ h⟩
theorem onlySet {W w : World} (h : Only (fun _ => False) W w) {c i : Nat} (hc : W.heap.size ≤ c) (v : Value) : Only (fun _ => False) W (w.setCell ⟨c, i, none⟩ v) := h.setCell (.inl hc) v
theorem blk_same {w : World} {b i : Nat} {cs : Array Value} {t : TypeId} {f : Nat × Nat} {v : Value} (h : w.heap[b]? = some (.cells cs t f)) : (w.setCell ⟨b, i, none⟩ v).heap[b]? = some (.cells (cs.setIfInBounds i v) t f) := set_at h i v
theorem blk_ne {w : World} {b c i : Nat} {v : Value} {x : Option Obj} (h : w.heap[b]? = x) (hn : c ≠ b) : (w.setCell ⟨c, i, none⟩ v).heap[b]? = x :=
  (Below.heap_setCell _ _ _ _ (Ne.symm hn)).trans h
theorem blk_new {w : World} {b : Nat} {o : Obj} (hb : b = w.heap.size) : (w.alloc o).heap[b]? = some o := by subst hb; exact heap_alloc_new w o
theorem blk_old {w : World} {o : Obj} {b : Nat} {x : Obj} (h : w.heap[b]? = some x) : (w.alloc o).heap[b]? = some x := (Below.heap_alloc _ _ _ (lt_of_block h)).trans h
theorem blk_drew {w : World} {b : Nat} {x : Option Obj} (h : w.heap[b]? = x) : w.drew.heap[b]? = x := h
theorem size_alloc (w : World) (o : Obj) : (w.alloc o).heap.size = w.heap.size + 1 := by simp
theorem size_set (w : World) (p : Addr) (v : Value) : (w.setCell p v).heap.size = w.heap.size := by simp
theorem size_drew (w : World) : w.drew.heap.size = w.heap.size := rfl
theorem sz_alloc {w : World} {o : Obj} {b : Nat} (h : b = w.heap.size) : b + 1 = (w.alloc o).heap.size := by rw [size_alloc, h]
theorem sz_set {w : World} {p : Addr} {v : Value} {b : Nat} (h : b = w.heap.size) : b = (w.setCell p v).heap.size := by rw [size_set, h]
theorem sz_drew {w : World} {b : Nat} (h : b = w.heap.size) : b = w.drew.heap.size := h
theorem two_new (w : World) (o o' : Obj) : ((w.alloc o).alloc o').heap[w.heap.size]? = some o ∧ ((w.alloc o).alloc o').heap[w.heap.size + 1]? = some o' := by
  refine ⟨blk_old (heap_alloc_new w o), ?_⟩
  have := heap_alloc_new (w.alloc o) o'
  simpa using this
/-- A callee that changes nothing, in a region that only reads. -/
theorem quiet_id {P : Program} {f : FuncId} {args : Array Value} {w : World} {n : Nat} {v : Value}
    (h : Calls P f args (w.drewN n) fun e w' => e = .returned v ∧ w.drewN n = w') : Calls P f args (w.drewN n) fun e w'' => e = .returned v ∧ ∃ m, w'' = w.drewN m :=
  h.mono fun _ _ ⟨he, hm⟩ => ⟨he, n, hm.symm⟩
theorem row_form {w : World} {base n size : Nat} {e : TypeId} {v : Value} {xs : List Value} (h : w.ownsRow base e size v n xs) (hn : xs ≠ []) :
    ∃ g cap cur, v = .slice (some ⟨g, 0, none⟩) n cap ∧ base ≤ g ∧ w.heap[g]? = some (.cells cur e (0, 0)) ∧ n ≤ cap ∧ cap ≤ maxLen ∧ cur.size = cap * size ∧ cur.toList.take (n * size) = xs := by
  obtain ⟨h1, h2⟩ := h
  rcases h2 with ⟨h2, rfl⟩ | ⟨g, cap, cur, hv, hb, hg, hnc, hcm, hcs, ht⟩
  · exact absurd (List.eq_nil_of_length_eq_zero (by simpa using h1)) hn
  · exact ⟨g, cap, cur, hv, hb, hg, hnc, hcm, hcs, ht⟩
end Go.Proofs.YtegechmdboccbaaGreatDoor
