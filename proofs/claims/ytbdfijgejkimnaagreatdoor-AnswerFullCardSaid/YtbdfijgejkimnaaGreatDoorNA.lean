/- A table's map as a function; place and note. -/
import Derived.Test.YtbdfijgejkimnaaGreatDoorRows
import Derived.Conc.LoneCalls
import Derived.Conc.LoneSelect
import Derived.WalkKit
import Derived.WalkSpells
import Derived.WalkLawsBesides
import Derived.KernelRfl
import Derived.Lib.Hide
import Derived.Deep.QuietTactic
import Derived.BigQuiet
import Derived.Deep.DeepCutAuto
import Derived.Deep.LoopGhost
import Derived.Deep.AppendSrc
import Derived.Test.YtbdfijgejkimnaaGreatDoorShelf
import Derived.Lib.SplitLaws
import Derived.Maps.OwnSet
import Derived.Maps.OwnOps
import Derived.Maps.Views
/-! Small laws on worlds: of the blocks that were there only some may have changed. -/
namespace Go.Proofs.YtbdfijgejkimnaaGreatDoor
open Go.Conc Go.RowKit

/-- Of the blocks that were there only those of S may have changed. -/
structure Only (S : Nat → Prop) (w w' : World) : Prop where
  os : w'.os = w.os
  tape : w'.tape = w.tape
  output : w'.output = w.output
  size : w.heap.size ≤ w'.heap.size
  block : ∀ k, k < w.heap.size → ¬ S k → w'.heap[k]? = w.heap[k]?

theorem Only.refl (S : Nat → Prop) (w : World) : Only S w w := ⟨rfl, rfl, rfl, Nat.le_refl _, fun _ _ _ => rfl⟩
theorem Only.trans {S : Nat → Prop} {a b c : World} (h : Only S a b) (k : Only S b c) : Only S a c :=
  ⟨k.os.trans h.os, k.tape.trans h.tape, k.output.trans h.output, Nat.le_trans h.size k.size,
    fun i hi hn => (k.block i (Nat.lt_of_lt_of_le hi h.size) hn).trans (h.block i hi hn)⟩
theorem Only.weaken {S T : Nat → Prop} {a b : World} (h : Only S a b) (hs : ∀ k, k < a.heap.size → S k → T k) : Only T a b :=
  ⟨h.os, h.tape, h.output, h.size, fun i hi hn => h.block i hi (fun x => hn (hs i hi x))⟩
theorem Only.alloc {S : Nat → Prop} {a w : World} (h : Only S a w) (o : Obj) : Only S a (w.alloc o) :=
  h.trans ⟨rfl, rfl, rfl, by simp, fun k hk _ => Below.heap_alloc _ _ _ hk⟩
theorem Only.drew {S : Nat → Prop} {a w : World} (h : Only S a w) : Only S a w.drew := ⟨h.os, h.tape, h.output, h.size, h.block⟩
theorem Only.drewN {S : Nat → Prop} {a w : World} (h : Only S a w) (n : Nat) : Only S a (w.drewN n) := ⟨h.os, h.tape, h.output, h.size, h.block⟩
theorem Only.setCell {S : Nat → Prop} {a w : World} (h : Only S a w) {p : Addr} (hp : a.heap.size ≤ p.block ∨ S p.block) (u : Value) : Only S a (w.setCell p u) :=
  ⟨h.os, h.tape, h.output, by simpa using h.size, fun k hk hn => by
    rw [Below.heap_setCell _ _ _ _ (fun e => by subst e; rcases hp with hp | hp; exact absurd hk (by omega); exact hn hp)]
    exact h.block k hk hn⟩
theorem Only.setChan {S : Nat → Prop} {a w : World} (h : Only S a w) {c : Nat} (hp : a.heap.size ≤ c ∨ S c) (cap : Nat) (buf : Array Value) (cl : Bool) (s r : Nat) (tm : Bool) : Only S a (w.setChan c cap buf cl s r tm) :=
  ⟨h.os, h.tape, h.output, by simpa [World.setChan] using h.size, fun k hk hn => by
    have hc : c ≠ k := fun e => by subst e; rcases hp with hp | hp; exact absurd hk (by omega); exact hn hp
    have : (w.setChan c cap buf cl s r tm).heap[k]? = w.heap[k]? := by simp [World.setChan, Array.getElem?_setIfInBounds_ne hc]
    rw [this]
    exact h.block k hk hn⟩
theorem Only.below {S : Nat → Prop} {a b : World} (h : Only S a b) {B : Nat} (hB : B ≤ a.heap.size) (hs : ∀ k, k < B → ¬ S k) : Below B a b :=
  ⟨h.os, h.tape, h.output, h.size, fun k hk => h.block k (by omega) (hs k hk)⟩
theorem Only.of_below {S : Nat → Prop} {a b : World} (h : Below a.heap.size a b) : Only S a b :=
  ⟨h.os, h.tape, h.output, h.size, fun k hk _ => h.block k hk⟩
theorem Only.cell {S : Nat → Prop} {a b : World} (h : Only S a b) {p : Addr} {v : Value} (hc : a.cell? p = some v) (hn : ¬ S p.block) : b.cell? p = some v :=
  (World.cell?_of_block (h.block p.block (World.block_lt_of_cell? _ _ hc) hn)).trans hc

/-- A block that had just been made is still there. -/
theorem Only.new {S : Nat → Prop} {w w' : World} {o : Obj} (h : Only S (w.alloc o) w') (hn : ¬ S w.heap.size) : w'.heap[w.heap.size]? = some o :=
  (h.block _ (by simp) hn).trans (heap_alloc_new w o)
theorem cell_at {w : World} {b : Nat} {cs : Array Value} {t : TypeId} {f : Nat × Nat} (h : w.heap[b]? = some (.cells cs t f)) (i : Nat) : w.cell? ⟨b, i, none⟩ = cs[i]? := by simp [World.cell?, h]
theorem free_at {w : World} {b : Nat} {cs : Array Value} {t : TypeId} (h : w.heap[b]? = some (.cells cs t (0, 0))) (i : Nat) : w.frozen? ⟨b, i, none⟩ = false := by simp [World.frozen?, h]
theorem Only.old {S : Nat → Prop} {w w' : World} {b : Nat} {o : Obj} (h : Only S w w') (hb : w.heap[b]? = some o) (hn : ¬ S b) : w'.heap[b]? = some o :=
  (h.block _ (lt_of_block hb) hn).trans hb
/-- Two steps, the second of which may have changed blocks that the first has made. -/
theorem Only.tr {S T : Nat → Prop} {a b c : World} (h : Only S a b) (k : Only T b c) (hT : ∀ i, i < a.heap.size → T i → S i) : Only S a c :=
  ⟨k.os.trans h.os, k.tape.trans h.tape, k.output.trans h.output, Nat.le_trans h.size k.size,
    fun i hi hn => (k.block i (Nat.lt_of_lt_of_le hi h.size) (fun x => hn (hT i hi x))).trans (h.block i hi hn)⟩
theorem Only.grown {S : Nat → Prop} {a w w' : World} {row : Option Nat} (h : Only S a w) (hg : w.grownBy w' row) (hr : ∀ k, row = some k → a.heap.size ≤ k ∨ S k) : Only S a w' :=
  h.tr (T := fun k => row = some k) ⟨hg.os, hg.tape, hg.output, hg.size, fun k hk hn => hg.block k hk (fun e => hn e.symm)⟩
    (fun i hi e => (hr i e).elim (fun x => absurd hi (by omega)) id)
theorem ret_bool {a b : Bool} (h : a = b) : Ending.returned (.bool a) = .returned (.bool b) := by rw [h]
theorem ret_int {k : IntKind} {a b : Int} (h : a = b) : Ending.returned (.int k a) = .returned (.int k b) := by rw [h]
theorem ret_str {a b : ByteArray} (h : a = b) : Ending.returned (.string a) = .returned (.string b) := by rw [h]
/-- A goal at which the walk stops: 'go_wp2_with (at_builtin; refine Wait.mk ?_)' walks to the next append; 'refine Wait.go (law ..)' goes on. -/
def Wait (p : Prop) : Prop := p
theorem Wait.mk {p : Prop} (h : Wait p) : p := h
theorem Wait.go {p : Prop} (h : p) : Wait p := h
end Go.Proofs.YtbdfijgejkimnaaGreatDoor
/-! Slices that are only read, and append onto a slice that the call itself made, whatever is appended: laws for the walk over any program. -/
namespace Go.Proofs.YtbdfijgejkimnaaGreatDoor
open Go.Conc Go.RowKit

/-- A slice of n elements, 'size' cells each, reads as the cells xs. -/
def Sl (w : World) (size : Nat) (v : Value) (n : Nat) (xs : List Value) : Prop :=
  xs.length = n * size ∧ ∃ a cap, v = .slice a n cap ∧ n ≤ cap ∧ cap ≤ maxLen ∧
    (n = 0 ∨ ∃ b off, a = some ⟨b, off, none⟩ ∧ ∀ j u, xs[j]? = some u → w.cell? ⟨b, off + j, none⟩ = some u)

section
variable {w w' : World} {size n : Nat} {v : Value} {xs : List Value}

theorem Sl.nil (w : World) (size : Nat) : Sl w size (.slice none 0 0) 0 [] := ⟨by simp, none, 0, rfl, Nat.le_refl _, Nat.zero_le _, .inl rfl⟩
theorem Sl.kept {S : Nat → Prop} (h : Sl w size v n xs) (ho : Only S w w') (hn : ∀ a u, w.cell? a = some u → ¬ S a.block) : Sl w' size v n xs := by
  obtain ⟨h1, a, cap, h2, h3, h4, h5⟩ := h
  refine ⟨h1, a, cap, h2, h3, h4, ?_⟩
  rcases h5 with h5 | ⟨b, off, h5, h6⟩
  · exact .inl h5
  · exact .inr ⟨b, off, h5, fun j u hu => ho.cell (h6 j u hu) (hn _ _ (h6 j u hu))⟩
theorem Sl.cast {m : Nat} (h : Sl w size v n xs) (e : n = m) : Sl w size v m xs := e ▸ h
theorem Sl.new {h0 : World} (h : Sl w size v n xs) (ho : Only (fun _ => False) w h0) : Sl h0 size v n xs := h.kept ho (fun _ _ _ => id)
theorem Sl.of_owns {base : Nat} {e : TypeId} (h : w.ownsRow base e size v n xs) : Sl w size v n xs := by
  refine ⟨h.1, ?_⟩
  rcases h.2 with ⟨h2, rfl⟩ | ⟨g, cap, cur, rfl, hb, hg, hnc, hcm, hcs, ht⟩
  · exact ⟨none, 0, h2, Nat.le_refl _, Nat.zero_le _, .inl rfl⟩
  · refine ⟨_, cap, rfl, hnc, hcm, .inr ⟨g, 0, rfl, fun j u hu => ?_⟩⟩
    have := h.cells (g := g) rfl j u hu
    simpa [Addr.add_lit] using this
theorem Sl.len_le (h : Sl w size v n xs) : n ≤ maxLen := by
  obtain ⟨_, a, cap, _, h3, h4, _⟩ := h
  omega
/-- What an append takes from it. -/
theorem Sl.src {P : Program} {tx e' : TypeId} (hk : P.underlying tx = some (.slice e')) (h : Sl w size v n xs) (h1 : ∀ u ∈ xs, u.oneCell' = true) : Src P size tx v n xs w := by
  obtain ⟨hl, a, cap, rfl, _, _, h5⟩ := h
  rcases h5 with rfl | ⟨b, off, rfl, hc⟩
  · obtain rfl : xs = [] := List.eq_nil_of_length_eq_zero (by simpa using hl)
    cases a with
    | none => exact Src.ofNil w hk cap
    | some a => exact Src.ofSlice w hk a 0 cap [] (by simp) (by simp) (by simp)
  · exact Src.ofSlice w hk _ n cap xs hl (fun j u hu => by rw [Addr.add_lit]; exact hc j u hu) h1
end

/-- s[lo:] of such a slice, as the model has it. -/
theorem Sl.sliced {w : World} {size n lo : Nat} {xs : List Value} {a : Option Addr} {cap : Nat} (h : Sl w size (.slice a n cap) n xs) (hlo : lo ≤ n) :
    Sl w size (.slice (if cap = lo then a else a.map (·.add (lo * size))) (n - lo) (cap - lo)) (n - lo) (xs.drop (lo * size)) := by
  obtain ⟨hl, a', cap', he, h3, h4, h5⟩ := h
  simp only [Value.slice.injEq] at he
  obtain ⟨rfl, -, rfl⟩ := he
  refine ⟨by rw [List.length_drop, hl, Nat.sub_mul], _, _, rfl, by omega, by omega, ?_⟩
  rcases h5 with rfl | ⟨b, off, rfl, hc⟩
  · exact .inl (by omega)
  · by_cases hc' : cap = lo
    · exact .inl (by omega)
    · refine .inr ⟨b, off + lo * size, ?_, fun j u hu => ?_⟩
      · rw [if_neg hc']
        simp [Addr.add_lit]
      · rw [List.getElem?_drop] at hu
        have := hc _ _ hu
        rwa [← Nat.add_assoc] at this

section
variable {P : Program} (w : World)

theorem run_append_room_own (t tx ty e : TypeId) (i : TypeInfo) (ht : P.underlying t = some (.slice e)) (hi : P.info? e = some i)
    (g sLen sCap : Nat) (cur : Array Value) (hg : w.heap[g]? = some (.cells cur e (0, 0))) (x : Value) (m : Nat) (news : List Value) (hs : Src P i.size tx x m news w)
    (hroom : sLen + m ≤ sCap) (hfit : sLen * i.size + news.length ≤ cur.size) :
    (Builtin.append_ #[t, tx] ty #[.slice (some ⟨g, 0, none⟩) sLen sCap, x]).run P w =
      .ok (.slice (some ⟨g, 0, none⟩) (sLen + m) sCap) (w.setRow g (cur.toList.take (sLen * i.size) ++ news ++ cur.toList.drop (sLen * i.size + news.length)).toArray) := by
  have hst := run_storeCells_at P g (sLen * i.size) e news 0 cur w hg (by simpa using hfit) hs.one
  simp only [Nat.add_zero] at hst
  rcases hs.kind with ⟨e', hk⟩ | hk <;> simp [Builtin.append_, run_underlying ht, run_underlying hk, sizeOf, typeInfo, hi, hs.len, hroom, hs.cells, Addr.add_lit, hst]

/-- append onto a slice of the call's own, whatever is appended. -/
theorem run_append_src (base : Nat) (t tx ty e : TypeId) (i : TypeInfo) (z : Value) (size bytes : Nat) (ht : P.underlying t = some (.slice e)) (hi : P.info? e = some i) (hz : i.zero = some z)
    (hsize : i.size = size) (hby : i.bytes = bytes) (hzs : z.cells.size = size)
    (v : Value) (n : Nat) (xs : List Value) (hown : w.ownsRow base e size v n xs) (x : Value) (m : Nat) (news : List Value) (hs : Src P size tx x m news w)
    (h63 : n + m ≤ maxLen) (hbytes : (n + m) * bytes ≤ 140737488355328) (hbase : base ≤ w.heap.size) :
    ∃ v' w', (Builtin.append_ #[t, tx] ty #[v, x]).run P w = .ok v' w' ∧ w'.ownsRow base e size v' (n + m) (xs ++ news) ∧ w.grownBy w' v.ownBlock ∧ (∀ k, v'.ownBlock = some k → v.ownBlock = some k ∨ w.heap.size ≤ k) := by
  subst hsize
  subst hby
  have hl := hs.newsLen
  have hsmall : n + m ≤ 9223372036854775807 := by simp only [maxLen] at h63; omega
  have hlen : (xs ++ news).length = (n + m) * i.size := by rw [List.length_append, hown.1, hl, Nat.add_mul]
  have grown : ∀ (old : Nat), old < n + m → ∀ (row : Option Nat),
      (w.drew.alloc (.cells ((xs ++ news).toArray ++ Builtin.zeroCells z.cells (grownCap w (n + m) old e - (n + m))) e)).ownsRow base e i.size
        (.slice (some ⟨w.heap.size, 0, none⟩) (n + m) (grownCap w (n + m) old e)) (n + m) (xs ++ news) ∧
      w.grownBy (w.drew.alloc (.cells ((xs ++ news).toArray ++ Builtin.zeroCells z.cells (grownCap w (n + m) old e - (n + m))) e)) row := by
    intro old ho row
    have hge := grownCap_ge w (n + m) old e
    have hcm : grownCap w (n + m) old e ≤ maxLen := grownCap_le_maxLen w (n + m) old e h63
    refine ⟨⟨hlen, .inr ⟨w.heap.size, _, _, rfl, hbase, heap_alloc_new w.drew _, hge, hcm, ?_, ?_⟩⟩, ⟨rfl, rfl, rfl, by simp, fun k hk _ => Below.heap_alloc w.drew _ k hk⟩⟩
    · simp only [Array.size_append, List.size_toArray, size_zeroCells, hzs, hlen, ← Nat.add_mul]
      congr 1
      omega
    · simp only [Array.toList_append]
      rw [← hlen]
      exact List.take_left
  rcases hown.2 with ⟨rfl, rfl⟩ | ⟨g, cap, cur, rfl, hbg, hg, hnc, hcm, hcs, htake⟩
  · have hx : xs = [] := List.eq_nil_of_length_eq_zero (by simpa using hown.1)
    subst hx
    by_cases hm : m = 0
    · subst hm
      have hn : news = [] := List.eq_nil_of_length_eq_zero (by simpa using hl)
      subst hn
      refine ⟨.slice none 0 0, w, ?_, World.ownsRow_nil w base e i.size, ⟨rfl, rfl, rfl, Nat.le_refl _, fun _ _ _ => rfl⟩, fun k h => .inl h⟩
      rcases hs.kind with ⟨e', hk⟩ | hk <;> simp [Builtin.append_, run_underlying ht, run_underlying hk, sizeOf, typeInfo, hi, hs.len, hs.cells]
    · have hr := run_append_grow_src (P := P) w t tx ty e i z ht hi hz none 0 0 [] (run_firstCells_none w.drew i.size 0 0 0) x m news hs (by omega) (by omega) (growslice_fits (by omega) hbytes)
      have hgr := grown 0 (by omega) (Value.ownBlock (.slice none 0 0))
      simp only [Nat.zero_add] at hgr hr ⊢
      exact ⟨_, _, hr, hgr.1, hgr.2, fun k h => .inr (by simp [Value.ownBlock] at h; omega)⟩
  · by_cases hroom : n + m ≤ cap
    · have hfit : n * i.size + news.length ≤ cur.size := by rw [hl, hcs, ← Nat.add_mul]; exact Nat.mul_le_mul_right _ hroom
      have hr := run_append_room_own (P := P) w t tx ty e i ht hi g n cap cur hg x m news hs hroom hfit
      refine ⟨_, _, hr, ⟨hlen, .inr ⟨g, cap, _, rfl, hbg, setRow_heap w g cur _ e _ hg, hroom, hcm, ?_, ?_⟩⟩, ⟨rfl, rfl, rfl, by simp, fun k _ hk => setRow_other w g k _ (fun e => hk (by simp [Value.ownBlock, e]))⟩, fun k h => .inl h⟩
      · simp only [List.size_toArray, List.length_append, List.length_take, List.length_drop, Array.length_toList]
        omega
      · rw [htake, ← hlen]
        exact List.take_left
    · have holds : ∀ j u, xs[j]? = some u → w.cell? ((⟨g, 0, none⟩ : Addr).add j) = some u := hown.cells (g := g) rfl
      have hold := run_firstCells_some (P := P) w.drew i.size n ⟨g, 0, none⟩ n cap xs hown.1 (by simpa using holds)
      have hr := run_append_grow_src (P := P) w t tx ty e i z ht hi hz (some ⟨g, 0, none⟩) n cap xs hold x m news hs (by omega) (by omega) (growslice_fits (by omega) hbytes)
      have hgr := grown cap (by omega) (Value.ownBlock (.slice (some ⟨g, 0, none⟩) n cap))
      exact ⟨_, _, hr, hgr.1, hgr.2, fun k h => .inr (by simp [Value.ownBlock] at h; omega)⟩

/-- The same for the walk. -/
theorem wpList_append_src {ops : Array Oper} {rest : List Oper} {o : Oper} {a : Act} {Q : Exit → Act → World → Prop} (hgd : o.guard = none) (s x : Operand) (t tx : TypeId)
    (ho : o.op = .call { callee := .builtin .append, args := #[s, x], argTypes := #[t, tx] })
    (base : Nat) (e : TypeId) (i : TypeInfo) (z : Value) (size bytes : Nat) (ht : P.underlying t = some (.slice e)) (hi : P.info? e = some i) (hz : i.zero = some z)
    (hsize : i.size = size) (hby : i.bytes = bytes) (hzs : z.cells.size = size)
    (v : Value) (n : Nat) (xs : List Value) (hv : a.eval s = v) (hown : w.ownsRow base e size v n xs) (xv : Value) (m : Nat) (news : List Value) (hx : a.eval x = xv) (hs : Src P size tx xv m news w)
    (h63 : n + m ≤ maxLen) (hbytes : (n + m) * bytes ≤ 140737488355328) (hbase : base ≤ w.heap.size)
    (h : ∀ v' w', w'.ownsRow base e size v' (n + m) (xs ++ news) → w.grownBy w' v.ownBlock → (∀ k, v'.ownBlock = some k → v.ownBlock = some k ∨ w.heap.size ≤ k) → wpList P ops Q rest (a.put o.dst v') w') : wpList P ops Q (o :: rest) a w := by
  refine wpList_plain hgd fun K hK => ?_
  obtain ⟨v', w', hr, h2, h3, h4⟩ := run_append_src (P := P) w base t tx o.type e i z size bytes ht hi hz hsize hby hzs v n xs hown xv m news hs h63 hbytes hbase
  unfold Oper.wp execOp
  simp only [ho, resolve, invoke, builtin, Sem.run_bind, Sem.run_pure, Result.andThen_ok, List.map_toArray, List.map_cons, List.map_nil, hv, hx, hr]
  exact hK _ _ (h v' w' h2 h3 h4)
end
theorem Sl.take {w : World} {size n m : Nat} {xs : List Value} {a : Option Addr} {cap : Nat} (h : Sl w size (.slice a n cap) n xs) (hm : m ≤ n) : Sl w size (.slice a m cap) m (xs.take (m * size)) := by
  obtain ⟨hl, a', cap', he, h3, h4, h5⟩ := h
  simp only [Value.slice.injEq] at he
  obtain ⟨rfl, -, rfl⟩ := he
  refine ⟨?_, _, _, rfl, by omega, h4, ?_⟩
  · rw [List.length_take, hl]
    exact Nat.min_eq_left (Nat.mul_le_mul_right _ hm)
  · rcases h5 with rfl | ⟨b, off, rfl, hc⟩
    · exact .inl (by omega)
    · refine .inr ⟨b, off, rfl, fun j u hu => hc j u ?_⟩
      rw [List.getElem?_take] at hu
      split at hu
      · exact hu
      · cases hu
theorem Sl.zero (w : World) (size : Nat) (a : Option Addr) (cap : Nat) (hc : cap ≤ maxLen) : Sl w size (.slice a 0 cap) 0 [] := ⟨by simp, a, cap, rfl, Nat.zero_le _, hc, .inl rfl⟩
/-- s[lo:] where something is left. -/
theorem Sl.drop {w : World} {size n lo : Nat} {xs : List Value} {b off cap : Nat} (h : Sl w size (.slice (some ⟨b, off, none⟩) n cap) n xs) (hlo : lo ≤ n) :
    Sl w size (.slice (some ⟨b, off + lo * size, none⟩) (n - lo) (cap - lo)) (n - lo) (xs.drop (lo * size)) := by
  obtain ⟨hl, a', cap', he, h3, h4, h5⟩ := h
  simp only [Value.slice.injEq] at he
  obtain ⟨rfl, -, rfl⟩ := he
  refine ⟨by rw [List.length_drop, hl, Nat.sub_mul], _, _, rfl, by omega, by omega, ?_⟩
  rcases h5 with rfl | ⟨b, off, he, hc⟩
  · exact .inl (by omega)
  · simp only [Option.some.injEq, Addr.mk.injEq, and_true] at he
    obtain ⟨rfl, rfl⟩ := he
    refine .inr ⟨_, _, rfl, fun j u hu => ?_⟩
    rw [List.getElem?_drop] at hu
    have := hc _ _ hu
    rwa [← Nat.add_assoc] at this
/-- A slice that has just been made, empty, is the call's own. -/
theorem owns_empty' (w : World) (B : Nat) (hB : B = w.heap.size) (e : TypeId) (size : Nat) : (w.alloc (.cells #[] e)).ownsRow B e size (.slice (some ⟨B, 0, none⟩) 0 0) 0 [] := by
  subst hB
  exact World.ownsRow_made w #[] 0 (Nat.le_refl _) (Nat.zero_le _) (by simp)
/-- A slice that has just been made, empty, is the call's own. -/
theorem owns_empty (w : World) (e : TypeId) (size : Nat) : (w.alloc (.cells #[] e)).ownsRow w.heap.size e size (.slice (some ⟨w.heap.size, 0, none⟩) 0 0) 0 [] :=
  World.ownsRow_made w #[] 0 (Nat.le_refl _) (Nat.zero_le _) (by simp)
/-- Two slices of the call's own lie in different blocks. -/
def Apart (v u : Value) : Prop := ∀ k, v.ownBlock = some k → u.ownBlock ≠ some k
theorem Apart.symm {v u : Value} (h : Apart v u) : Apart u v := fun k e f => h k f e
theorem Apart.nil (u : Value) : Apart (.slice none 0 0) u := fun k e => by simp [Value.ownBlock] at e
theorem Apart.next {w : World} {v v' u : Value} {base : Nat} {e : TypeId} {size n : Nat} {xs : List Value} (h : Apart v u) (hu : w.ownsRow base e size u n xs) (hv : ∀ k, v'.ownBlock = some k → v.ownBlock = some k ∨ w.heap.size ≤ k) : Apart v' u := by
  intro k h1 h2
  rcases hv k h1 with h3 | h3
  · exact h k h3 h2
  · have := (hu.lt k h2).2
    omega
theorem Apart.kept {w w' : World} {v u : Value} {base : Nat} {e : TypeId} {size n : Nat} {xs : List Value} (h : Apart v u) (hu : w.ownsRow base e size u n xs) (hg : w.grownBy w' v.ownBlock) : w'.ownsRow base e size u n xs :=
  hu.kept hg (by cases hb : u.ownBlock with
    | none => exact .inl rfl
    | some k => exact .inr (fun e => h k e.symm hb))
theorem owns_kept {S : Nat → Prop} {w w' : World} {base : Nat} {e : TypeId} {size n : Nat} {v : Value} {xs : List Value} (h : w.ownsRow base e size v n xs) (ho : Only S w w') (hn : ∀ k, v.ownBlock = some k → ¬ S k) : w'.ownsRow base e size v n xs := by
  refine ⟨h.1, ?_⟩
  rcases h.2 with h2 | ⟨g, cap, cur, rfl, hb, hg, r⟩
  · exact .inl h2
  · exact .inr ⟨g, cap, cur, rfl, hb, ho.old hg (hn g rfl), r⟩
theorem owns_only {S : Nat → Prop} {w w' : World} {base : Nat} {e : TypeId} {size n : Nat} {v : Value} {xs : List Value} (h : w.ownsRow base e size v n xs) (ho : Only S w w') (hn : ∀ k, base ≤ k → ¬ S k) : w'.ownsRow base e size v n xs := by
  refine ⟨h.1, ?_⟩
  rcases h.2 with h2 | ⟨g, cap, cur, rfl, hb, hg, r⟩
  · exact .inl h2
  · exact .inr ⟨g, cap, cur, rfl, hb, ho.old hg (hn g hb), r⟩
/-- The cells of a block that has just been made, as an append wants them. -/
theorem news_new (w : World) (cs : List Value) (e : TypeId) : ∀ j u, cs[j]? = some u → (w.alloc (.cells cs.toArray e)).cell? ((⟨w.heap.size, 0, none⟩ : Addr).add j) = some u := by
  intro j u hu
  rw [Addr.add_lit, World.cell?_alloc_new]
  simpa using hu
/-- A slice literal. -/
theorem Sl.fresh (w : World) (cs : List Value) (e : TypeId) (n size : Nat) (h : cs.length = n * size) (hn : n ≤ maxLen) : Sl (w.alloc (.cells cs.toArray e)) size (.slice (some ⟨w.heap.size, 0, none⟩) n n) n cs :=
  ⟨h, _, n, rfl, Nat.le_refl _, hn, .inr ⟨w.heap.size, 0, rfl, fun j u hu => by
    rw [World.cell?_alloc_new]
    simpa using hu⟩⟩
theorem news_new' (w : World) (B : Nat) (hB : B = w.heap.size) (cs : List Value) (e : TypeId) : ∀ j u, cs[j]? = some u → (w.alloc (.cells cs.toArray e)).cell? ((⟨B, 0, none⟩ : Addr).add j) = some u := by
  subst hB
  exact news_new w cs e
/-- What is owned from the call's beginning on may have been written: nothing that was there has changed. -/
theorem Only.own {S : Nat → Prop} {a w w' : World} {e : TypeId} {size n base : Nat} {v : Value} {xs : List Value} (h : Only S a w) (hown : w.ownsRow base e size v n xs) (hb : a.heap.size ≤ base) (hg : w.grownBy w' v.ownBlock) : Only S a w' :=
  h.grown hg (fun k e => .inl (Nat.le_trans hb (hown.lt k e).1))
end Go.Proofs.YtbdfijgejkimnaaGreatDoor
/-! Strings: the walk's forms of comparisons. -/
namespace Go.Proofs.YtbdfijgejkimnaaGreatDoor
open Go.Conc Go.RowKit

theorem size_data (s : ByteArray) : s.data.toList.length = s.size := rfl
theorem empty_false {s : ByteArray} (h : s.size ≠ 0) : s.toList.isEmpty = false := by
  rw [ByteArray.toList_eq]
  cases hl : s.data.toList with
  | nil => exact absurd (by rw [← size_data, hl]; rfl) h
  | cons a r => rfl
theorem empty_true {s : ByteArray} (h : s.size = 0) : s.toList.isEmpty = true := by
  rw [ByteArray.toList_eq]
  cases hl : s.data.toList with
  | nil => rfl
  | cons a r => rw [← size_data, hl] at h; simp at h
theorem str_ext {a b : ByteArray} (h : a.data.toList = b.data.toList) : a = b := by
  cases a; cases b
  simp only [ByteArray.mk.injEq]
  exact Array.toList_inj.1 h
theorem str_ne {a b : ByteArray} (h : a ≠ b) : (a.toList == b.toList) = false := by
  rw [ByteArray.toList_eq, ByteArray.toList_eq, beq_eq_false_iff_ne]
  exact fun e => h (str_ext e)
theorem str_eq {a b : ByteArray} (h : a = b) : (a.toList == b.toList) = true := by
  subst h
  exact beq_self_eq_true _

/-- Bytes given as numbers. -/
def bytesOf (ns : List Int) : ByteArray := ⟨(ns.map fun n => UInt8.ofNat n.toNat).toArray⟩
theorem push_list (r : ByteArray) (b : UInt8) : (r.push b).data.toList = r.data.toList ++ [b] := by simp [ByteArray.push]
theorem foldl_bytes (ns : List Int) : ∀ r : ByteArray, (ns.foldl (fun r n => r.push (UInt8.ofNat n.toNat)) r).data.toList = r.data.toList ++ ns.map fun n => UInt8.ofNat n.toNat := by
  induction ns with
  | nil => intro r; simp
  | cons n ns ih =>
    intro r
    rw [List.foldl_cons, ih, push_list]
    simp
theorem foldl_bytesOf (ns : List Int) : ns.foldl (fun r n => r.push (UInt8.ofNat n.toNat)) ByteArray.empty = bytesOf ns := by
  apply str_ext
  rw [foldl_bytes]
  simp [bytesOf]
/-- string(b), b a slice of bytes. -/
theorem run_bytes_str {P : Program} {w : World} {src dst e : TypeId} {v : Value} {ns : List Int} (hs : P.underlying src = some (.slice e)) (he : P.underlying e = some (.int .u8)) (hd : P.underlying dst = some .string)
    (h : Sl w 1 v ns.length (ns.map (.int .u8))) : (convert src dst v).run P w = .ok (.string (bytesOf ns)) w := by
  obtain ⟨hl, a, cap, rfl, _, _, h5⟩ := h
  rw [run_convert_bytes_string w src dst e a ns.length cap hs he hd]
  have key : ∀ ad : Addr, (loadCells ad ns.length).run P w = .ok (ns.map (Value.int .u8)).toArray w → (Conv.bytesToString (.slice (some ad) ns.length cap)).run P w = .ok (.string (bytesOf ns)) w := by
    intro ad h
    rw [run_bytesToString w ad ns.length cap ns h, foldl_bytesOf]
  rcases h5 with h0 | ⟨b, off, rfl, hc⟩
  · obtain rfl : ns = [] := List.eq_nil_of_length_eq_zero h0
    cases a with
    | none => rfl
    | some ad => exact key ad rfl
  · refine key _ ?_
    have := run_loadCells_list (P := P) w ⟨b, off, none⟩ (ns.map (Value.int .u8)) (fun j u hu => by rw [Addr.add_lit]; exact hc j u hu)
    simpa using this
theorem run_bytes_new {P : Program} {src dst e : TypeId} (hs : P.underlying src = some (.slice e)) (he : P.underlying e = some (.int .u8)) (hd : P.underlying dst = some .string) (w : World) (B : Nat) (xs : List Int) (n : Nat) (hB : B = w.heap.size) (hn : n = xs.length) (hm : n ≤ maxLen) :
    (convert src dst (.slice (some ⟨B, 0, none⟩) n n)).run P (w.alloc (.cells (xs.map (.int .u8)).toArray e)) = .ok (.string (bytesOf xs)) (w.alloc (.cells (xs.map (.int .u8)).toArray e)) := by
  subst hB hn
  exact run_bytes_str hs he hd (Sl.fresh w _ e _ 1 (by simp) hm)
theorem run_bytes_new_drew {P : Program} {src dst e : TypeId} (hs : P.underlying src = some (.slice e)) (he : P.underlying e = some (.int .u8)) (hd : P.underlying dst = some .string) (w : World) (B : Nat) (xs : List Int) (n : Nat) (hB : B = w.heap.size) (hn : n = xs.length) (hm : n ≤ maxLen) :
    (convert src dst (.slice (some ⟨B, 0, none⟩) n n)).run P (w.alloc (.cells (xs.map (.int .u8)).toArray e)).drew = .ok (.string (bytesOf xs)) (w.alloc (.cells (xs.map (.int .u8)).toArray e)).drew := by
  subst hB hn
  exact run_bytes_str hs he hd ((Sl.fresh w _ e _ 1 (by simp) hm).new ((Only.refl _ _).drew))
end Go.Proofs.YtbdfijgejkimnaaGreatDoor
/-! strings.Split at the full stop, by the library's contract; in plain. -/
namespace Go.Proofs.YtbdfijgejkimnaaGreatDoor
open Go.Conc Go.RowKit

def dot : ByteArray := ⟨#[46]⟩
/-- What stands between the full stops. -/
def splitL (s : ByteArray) : List ByteArray := Lib.splitB dot 0 (Lib.countB s dot) s
theorem splitL_length (s : ByteArray) : (splitL s).length = Lib.countB s dot + 1 := Lib.splitB_all dot (by decide) 0 _ s rfl
theorem countB_small (s : ByteArray) : Lib.countB s dot ≤ s.size := Lib.countB_le dot (by decide) _ s (Nat.le_refl _)
theorem splitL_size (s : ByteArray) : ∀ x ∈ splitL s, x.size ≤ s.size := by
  unfold splitL
  generalize Lib.countB s dot = k
  induction k generalizing s with
  | zero => intro x hx; simp [Lib.splitB] at hx; subst hx; exact Nat.le_refl _
  | succ k ih =>
    intro x hx
    unfold Lib.splitB at hx
    split at hx
    · simp at hx; subst hx; exact Nat.le_refl _
    · rcases List.mem_cons.1 hx with rfl | hx
      · rw [ByteArray.size_extract]; omega
      · have := ih _ x hx
        rw [ByteArray.size_extract] at this
        omega

/-- The world behind strings.Split. -/
theorem lsplit_any (w : World) (s : ByteArray) (m : Int) (hs : s.size ≤ 1000) (hm : w.cell? ⟨0, 0, none⟩ = some (.int .i64 m)) :
    Calls Tryz.prog 112 #[.string s, .string ⟨#[46]⟩] w fun e w' => ∃ v, e = .returned v ∧ Only (fun _ => False) w w' ∧ Sl w' 1 v (splitL s).length ((splitL s).map .string) := by
  refine (Tryz.strings_Split s ⟨#[46]⟩ m w (by omega) hm (by decide)).mono ?_
  rintro e w' ⟨rfl, rfl⟩
  refine ⟨_, rfl, (Only.refl _ _).alloc _, ?_⟩
  have h1 := Sl.fresh w ((splitL s).map Value.string) 9 (splitL s).length 1 (by simp) (by rw [splitL_length]; have := countB_small s; unfold maxLen; omega)
  rw [splitL_length] at h1 ⊢
  exact h1

def spl : List UInt8 → List UInt8 → List (List UInt8)
  | cur, [] => [cur]
  | cur, b :: l => if b = 46 then cur :: spl [] l else spl (cur ++ [b]) l
def ph (c : List UInt8) : List (List UInt8) → List (List UInt8)
  | [] => [c]
  | x :: r => (c ++ x) :: r
theorem spl_app (c : List UInt8) : ∀ (l cur : List UInt8), spl (c ++ cur) l = ph c (spl cur l) := by
  intro l
  induction l with
  | nil => intro cur; rfl
  | cons b l ih =>
    intro cur
    unfold spl
    by_cases hb : b = 46
    · rw [if_pos hb, if_pos hb]; rfl
    · rw [if_neg hb, if_neg hb, List.append_assoc, ih]
theorem splitK_ne (b : UInt8) (hb : b ≠ 46) (l : List UInt8) : ∀ k, Lib.splitK [46] 0 k (b :: l) = ph [b] (Lib.splitK [46] 0 k l) := by
  intro k
  cases k with
  | zero => rfl
  | succ k =>
    have hi : Lib.index (b :: l) [46] = if Lib.index l [46] == -1 then -1 else Lib.index l [46] + 1 := by
      rw [Lib.index]
      have : ([46] : List UInt8).isPrefixOf (b :: l) = false := by simp [List.isPrefixOf]; exact fun e => hb e.symm
      rw [if_neg (by simp [this])]
    unfold Lib.splitK
    rw [hi]
    have hge := Lib.index_ge l [46]
    by_cases h : Lib.index l [46] = -1
    · rw [if_pos (by simp [h]), if_pos (by simp [h])]; rfl
    · obtain ⟨i, hi2⟩ := Int.eq_ofNat_of_zero_le (show 0 ≤ Lib.index l [46] by omega)
      rw [if_neg (by simp [hi2]; omega), hi2, if_neg (by simp), if_neg (by simp)]
      have e1 : ((i : Int) + 1).toNat = i + 1 := by omega
      rw [e1]
      simp [ph]
theorem splitK_spl : ∀ l : List UInt8, Lib.splitK [46] 0 (Lib.count l [46]) l = spl [] l := by
  intro l
  induction l with
  | nil => rfl
  | cons b l ih =>
    by_cases hb : b = 46
    · subst hb
      rw [Lib.count_cons_eq, Nat.add_comm]
      unfold Lib.splitK
      have hi : Lib.index (46 :: l) [46] = 0 := by
        rw [Lib.index]
        simp [List.isPrefixOf]
      rw [hi]
      simp only [spl]
      rw [if_neg (by decide)]
      simp [ih]
    · rw [Lib.count_cons_ne b 46 l hb, splitK_ne b hb, ih, spl, if_neg hb, show ([] : List UInt8) ++ [b] = [b] ++ [] by simp, spl_app]
theorem splitL_data (s : ByteArray) : (splitL s).map (·.data.toList) = spl [] s.data.toList := by
  unfold splitL
  rw [Lib.splitB_data]
  exact splitK_spl _
end Go.Proofs.YtbdfijgejkimnaaGreatDoor
/-! Names of services in plain: what the reference scans is what stands between the full stops. -/
namespace Go.Proofs.YtbdfijgejkimnaaGreatDoor
open Go.Conc Go.RowKit

/-- May a byte stand in a label? -/
def letterB (c : UInt8) : Bool := (decide (97 ≤ c.toNat) && decide (c.toNat ≤ 122)) || (decide (48 ≤ c.toNat) && decide (c.toNat ≤ 57)) || decide (c.toNat = 45) || decide (c.toNat = 95)
def labelOk (x : List UInt8) : Bool := !x.isEmpty && x.all letterB
/-- A text whose byte ahead was (or was taken for) a full stop or was none. -/
def good : Bool → List UInt8 → Bool
  | p, [] => !p
  | p, b :: l => if b = 46 then !p && good true l else letterB b && good false l
theorem spl_good : ∀ (l cur : List UInt8), (spl cur l).all labelOk = (cur.all letterB && good cur.isEmpty l) := by
  intro l
  induction l with
  | nil => intro cur; simp [spl, labelOk, good, Bool.and_comm]
  | cons b l ih =>
    intro cur
    rw [spl, good]
    by_cases hb : b = 46
    · rw [if_pos hb, if_pos hb, List.all_cons, ih]
      simp only [labelOk, List.all_nil, List.isEmpty_nil]
      cases cur.all letterB <;> cases cur.isEmpty <;> simp
    · rw [if_neg hb, if_neg hb, ih]
      have e : (cur ++ [b]).isEmpty = false := by cases cur <;> rfl
      rw [e, List.all_append]
      simp [Bool.and_assoc]
/-- Is a text a name? -/
def namedP (s : ByteArray) : Bool := decide (1 ≤ s.size) && decide (s.size ≤ 62) && good true s.data.toList
theorem named_split (s : ByteArray) : good true s.data.toList = (splitL s).all fun x => labelOk x.data.toList := by
  have h := spl_good s.data.toList []
  rw [← splitL_data, List.all_map] at h
  have h2 := h.symm
  simp only [List.all_nil, Bool.true_and, List.isEmpty_nil] at h2
  exact h2
end Go.Proofs.YtbdfijgejkimnaaGreatDoor
/-! Labels: which may be (the program's and the reference's), whether two lists are the same, a label's bytes. -/
namespace Go.Proofs.YtbdfijgejkimnaaGreatDoor
open Go.Conc Go.RowKit

/-- May labels be, behind n bytes? -/
def mayGo : Nat → List ByteArray → Bool
  | n, [] => decide (n ≤ 254)
  | n, s :: r => if s.size = 0 ∨ 63 < s.size ∨ 254 < n then false else mayGo (n + 1 + s.size) r
theorem mayGo_step {n : Nat} {s : ByteArray} {r : List ByteArray} (h0 : s.size ≠ 0) (h1 : s.size ≤ 63) (h2 : n ≤ 254) : mayGo n (s :: r) = mayGo (n + 1 + s.size) r := by
  rw [mayGo, if_neg (by omega)]
theorem mayGo_bad {n : Nat} {s : ByteArray} {r : List ByteArray} (h : s.size = 0 ∨ 63 < s.size ∨ 254 < n) : mayGo n (s :: r) = false := by
  rw [mayGo, if_pos h]
theorem mayGo_full {n : Nat} {r : List ByteArray} (h : 254 < n) : mayGo n r = false := by
  cases r with
  | nil => simp [mayGo]; omega
  | cons s r => exact mayGo_bad (.inr (.inr h))

theorem strs_cell {w : World} {b off k : Nat} {l : List ByteArray} (hc : ∀ j u, (l.map Value.string)[j]? = some u → w.cell? ⟨b, off + j, none⟩ = some u) (hk : k < l.length) : w.cell? ⟨b, off + k, none⟩ = some (.string l[k]) := hc k _ (by simp [hk])

set_option maxRecDepth 100000 in
theorem may_any (w : World) (v : Value) (l : List ByteArray) (h : Sl w 1 v l.length (l.map .string)) (hs : ∀ s ∈ l, s.size ≤ maxLen) :
    Calls Tryz.prog 121 #[v] w fun e w' => e = .returned (.bool (mayGo 0 l)) ∧ w = w' := by
  obtain ⟨_, a, cap, rfl, h3, h4, h5⟩ := h
  unfold maxLen at h4
  have Hs := Lib.hid hs
  clear hs
  go_enter Tryz.func121, Tryz.ntmps121
  go_wp2_with fail
  go_loopg [3, 5, 8] l.length (fun g v3 v5 v8 wx => ∃ k n : Nat, v3 = .int .i64 n ∧ v8 = .int .i64 k ∧ k ≤ l.length ∧ n ≤ 400 ∧ w = wx ∧ mayGo 0 l = mayGo n (l.drop k) ∧ g = l.length - k)
  case atStart => exact ⟨0, 0, rfl, rfl, Nat.zero_le _, by omega, rfl, rfl, rfl⟩
  case round =>
    obtain ⟨k, n, rfl, rfl, hk, hn, rfl, hm, hg⟩ := hrel
    have Hm := Lib.hid hm
    have Hg := Lib.hid hg
    clear hm hg
    by_cases hlt : k < l.length
    · obtain ⟨b, off, ha, hc⟩ := h5.resolve_left (by omega)
      subst ha
      have hz := strs_cell hc hlt
      have hd : l.drop k = l[k] :: l.drop (k + 1) := List.drop_eq_getElem_cons hlt
      have hsz : l[k].size ≤ maxLen := Hs.out _ (List.getElem_mem hlt)
      generalize l[k] = s at *
      have Hd := Lib.hid hd
      unfold maxLen at hsz
      clear hd hc h5
      by_cases h0 : s.size = 0
      · have e0 := empty_true h0
        have hb := mayGo_bad (n := n) (r := l.drop (k + 1)) (.inl h0)
        have Hb := Lib.hid hb
        clear h0 hb
        go_wp2_with fail
        go_ret
        exact ⟨ret_bool (by rw [Hm.out, Hd.out, Hb.out]), rfl⟩
      · have e0 := empty_false h0
        by_cases h1 : 63 < s.size
        · have e1 : decide ((63 : Int) < (s.size : Int)) = true := by simp; omega
          have hb := mayGo_bad (n := n) (r := l.drop (k + 1)) (.inr (.inl h1))
          have Hb := Lib.hid hb
          clear hb
          go_wp2_with fail
          go_ret
          exact ⟨ret_bool (by rw [Hm.out, Hd.out, Hb.out]), rfl⟩
        · have e1 : decide ((63 : Int) < (s.size : Int)) = false := by simp; omega
          by_cases h2 : 254 < n
          · have e2 : decide ((254 : Int) < (n : Int)) = true := by simp; omega
            have hb := mayGo_bad (s := s) (r := l.drop (k + 1)) (.inr (.inr h2))
            have Hb := Lib.hid hb
            clear hb
            go_wp2_with fail
            go_ret
            exact ⟨ret_bool (by rw [Hm.out, Hd.out, Hb.out]), rfl⟩
          · have e2 : decide ((254 : Int) < (n : Int)) = false := by simp; omega
            have hb := mayGo_step (n := n) (r := l.drop (k + 1)) h0 (by omega) (by omega)
            have Hb := Lib.hid hb
            clear hb
            go_wp2_with fail
            go_roundg (l.length - (k + 1))
            case measure => rw [Hg.out]; omega
            case rel => exact ⟨k + 1, n + 1 + s.size, by go_num, by go_num, by omega, by omega, rfl, by rw [Hm.out, Hd.out, Hb.out], rfl⟩
    · have hd : l.drop k = [] := List.drop_eq_nil_of_le (by omega)
      have Hd := Lib.hid hd
      clear hd h5
      by_cases h2 : n ≤ 254
      · have e2 : decide ((n : Int) ≤ 254) = true := by simp; omega
        have hb : mayGo n [] = true := by simp [mayGo, h2]
        have Hb := Lib.hid hb
        clear hb
        go_wp2_with fail
        go_ret
        exact ⟨ret_bool (by rw [Hm.out, Hd.out, Hb.out]), rfl⟩
      · have e2 : decide ((n : Int) ≤ 254) = false := by simp; omega
        have hb : mayGo n [] = false := by simp [mayGo, h2]
        have Hb := Lib.hid hb
        clear hb
        go_wp2_with fail
        go_ret
        exact ⟨ret_bool (by rw [Hm.out, Hd.out, Hb.out]), rfl⟩

set_option maxRecDepth 100000 in
theorem rmay_any (w : World) (v : Value) (l : List ByteArray) (h : Sl w 1 v l.length (l.map .string)) (hs : ∀ s ∈ l, s.size ≤ maxLen) :
    Calls Tryz.prog 63 #[v] w fun e w' => e = .returned (.bool (mayGo 0 l)) ∧ w = w' := by
  obtain ⟨_, a, cap, rfl, h3, h4, h5⟩ := h
  unfold maxLen at h4
  have Hs := Lib.hid hs
  clear hs
  go_enter Tryz.func63, Tryz.ntmps63
  go_wp2_with fail
  go_loopg [3, 4] l.length (fun g v3 v4 wx => ∃ k n : Nat, v3 = .int .i64 n ∧ v4 = .int .i64 k ∧ k ≤ l.length ∧ n ≤ 400 ∧ w = wx ∧ mayGo 0 l = mayGo n (l.drop k) ∧ g = l.length - k)
  case atStart => exact ⟨0, 0, rfl, rfl, Nat.zero_le _, by omega, rfl, rfl, rfl⟩
  case round =>
    obtain ⟨k, n, rfl, rfl, hk, hn, rfl, hm, hg⟩ := hrel
    have Hm := Lib.hid hm
    have Hg := Lib.hid hg
    clear hm hg
    by_cases h2 : n ≤ 254
    · have e2 : decide ((n : Int) ≤ 254) = true := by simp; omega
      by_cases hlt : k < l.length
      · obtain ⟨b, off, ha, hc⟩ := h5.resolve_left (by omega)
        subst ha
        have hz := strs_cell hc hlt
        have hd : l.drop k = l[k] :: l.drop (k + 1) := List.drop_eq_getElem_cons hlt
        have hsz : l[k].size ≤ maxLen := Hs.out _ (List.getElem_mem hlt)
        generalize l[k] = s at *
        have Hd := Lib.hid hd
        unfold maxLen at hsz
        clear hd hc h5
        by_cases h0 : s.size = 0
        · have e0 : decide ((s.size : Int) < 1) = true := by simp; omega
          have hb := mayGo_bad (n := n) (r := l.drop (k + 1)) (.inl h0)
          have Hb := Lib.hid hb
          clear h0 hb
          go_wp2_with fail
          go_ret
          exact ⟨ret_bool (by rw [Hm.out, Hd.out, Hb.out]), rfl⟩
        · have e0 : decide ((s.size : Int) < 1) = false := by simp; omega
          by_cases h1 : 63 < s.size
          · have e1 : decide ((63 : Int) < (s.size : Int)) = true := by simp; omega
            have hb := mayGo_bad (n := n) (r := l.drop (k + 1)) (.inr (.inl h1))
            have Hb := Lib.hid hb
            clear hb
            go_wp2_with fail
            go_ret
            exact ⟨ret_bool (by rw [Hm.out, Hd.out, Hb.out]), rfl⟩
          · have e1 : decide ((63 : Int) < (s.size : Int)) = false := by simp; omega
            have hb := mayGo_step (n := n) (r := l.drop (k + 1)) h0 (by omega) (by omega)
            have Hb := Lib.hid hb
            clear hb
            go_wp2_with fail
            go_roundg (l.length - (k + 1))
            case measure => rw [Hg.out]; omega
            case rel => exact ⟨k + 1, n + 1 + s.size, by go_num, by go_num, by omega, by omega, rfl, by rw [Hm.out, Hd.out, Hb.out], rfl⟩
      · have hd : l.drop k = [] := List.drop_eq_nil_of_le (by omega)
        have hb : mayGo n [] = true := by simp [mayGo, h2]
        have Hd := Lib.hid hd
        have Hb := Lib.hid hb
        clear hd h5 hb
        go_wp2_with fail
        go_ret
        exact ⟨ret_bool (by rw [Hm.out, Hd.out, Hb.out]), rfl⟩
    · have e2 : decide ((n : Int) ≤ 254) = false := by simp; omega
      have hb := mayGo_full (n := n) (r := l.drop k) (by omega)
      have Hb := Lib.hid hb
      clear hb h5
      by_cases hlt : k < l.length
      · go_wp2_with fail
        go_ret
        exact ⟨ret_bool (by rw [Hm.out, Hb.out]), rfl⟩
      · go_wp2_with fail
        go_ret
        exact ⟨ret_bool (by rw [Hm.out, Hb.out]), rfl⟩
end Go.Proofs.YtbdfijgejkimnaaGreatDoor
/-! Same, a label's bytes, the reference's Bytes. -/
namespace Go.Proofs.YtbdfijgejkimnaaGreatDoor
open Go.Conc Go.RowKit

theorem drop_eq {α : Type} (l m : List α) (k : Nat) (h1 : k < l.length) (h2 : k < m.length) (he : l[k] = m[k]) : (l.drop k = m.drop k ↔ l.drop (k + 1) = m.drop (k + 1)) := by
  rw [List.drop_eq_getElem_cons h1, List.drop_eq_getElem_cons h2, he]
  exact ⟨fun e => (List.cons.inj e).2, fun e => by rw [e]⟩

set_option maxRecDepth 100000 in
theorem same_any (w : World) (v u : Value) (l m : List ByteArray) (h : Sl w 1 v l.length (l.map .string)) (g : Sl w 1 u m.length (m.map .string)) :
    Calls Tryz.prog 15 #[v, u] w fun e w' => e = .returned (.bool (decide (l = m))) ∧ Only (fun _ => False) w w' := by
  obtain ⟨_, a, cap, rfl, h3, h4, h5⟩ := h
  obtain ⟨_, a2, cap2, rfl, g3, g4, g5⟩ := g
  unfold maxLen at h4 g4
  by_cases hlen : l.length = m.length
  · have HL := Lib.hid hlen
    rw [← hlen] at g5
    have hc2 : l.length ≤ cap2 := by omega
    have e0 : ((l.length : Int) != (m.length : Int)) = false := by simp; omega
    clear hlen
    go_enter Tryz.func15, Tryz.ntmps15
    go_wp2_with fail
    go_loopg [5] l.length (fun g v5 wx => ∃ k : Nat, v5 = .int .i64 k ∧ k ≤ l.length ∧ Only (fun _ => False) w wx ∧ (decide (l = m) = decide (l.drop k = m.drop k)) ∧ g = l.length - k)
    case atStart => exact ⟨0, rfl, Nat.zero_le _, Only.refl _ _, rfl, rfl⟩
    case round =>
      obtain ⟨k, rfl, hk, ho, hm, hg⟩ := hrel
      have Hm := Lib.hid hm
      have Hg := Lib.hid hg
      clear hm hg
      by_cases hlt : k < l.length
      · obtain ⟨b, off, ha, hc⟩ := h5.resolve_left (by omega)
        obtain ⟨b2, off2, ha2, hcc⟩ := g5.resolve_left (by omega)
        subst ha ha2
        have hlt2 : k < m.length := by have := HL.out; omega
        have hz := ho.cell (strs_cell hc hlt) id
        have hz2 := ho.cell (strs_cell hcc hlt2) id
        have hde := drop_eq l m k hlt hlt2
        have hdl : l.drop k = l[k] :: l.drop (k + 1) := List.drop_eq_getElem_cons hlt
        have hdm : m.drop k = m[k] :: m.drop (k + 1) := List.drop_eq_getElem_cons hlt2
        generalize l[k] = s at *
        generalize m[k] = t at *
        have Hde := Lib.hid hde
        have Hdl := Lib.hid hdl
        have Hdm := Lib.hid hdm
        clear hc hcc h5 g5 hde hdl hdm
        by_cases hst : s = t
        · have hst2 := str_eq hst
          have Hst := Lib.hid hst
          clear hst
          go_wp2_with fail
          go_quiet (fail)
          go_wp2_with fail
          go_roundg (l.length - (k + 1))
          case measure => rw [Hg.out]; omega
          case rel => exact ⟨k + 1, by go_num, by omega, ho.drewN _, by rw [Hm.out]; exact decide_eq_decide.2 (Hde.out Hst.out), rfl⟩
        · have hst2 := str_ne hst
          have Hst := Lib.hid hst
          clear hst
          go_wp2_with fail
          go_quiet (fail)
          go_wp2_with fail
          go_ret
          refine ⟨ret_bool ?_, ho.drewN _⟩
          rw [Hm.out, Hdl.out, Hdm.out]
          symm
          rw [decide_eq_false_iff_not]
          intro e
          exact Hst.out (List.cons.inj e).1
      · have hd : decide (l.drop k = m.drop k) = true := by
          rw [decide_eq_true_eq, List.drop_eq_nil_of_le (by omega), List.drop_eq_nil_of_le (by have := HL.out; omega)]
        have Hd := Lib.hid hd
        clear hd h5 g5
        go_wp2_with fail
        go_ret
        exact ⟨ret_bool (by rw [Hm.out, Hd.out]), ho⟩
  · have e0 : ((l.length : Int) != (m.length : Int)) = true := by simp; omega
    have hd : decide (l = m) = false := by
      rw [decide_eq_false_iff_not]
      intro e
      exact hlen (by rw [e])
    have Hd := Lib.hid hd
    clear hd h5 g5 hlen
    go_enter Tryz.func15, Tryz.ntmps15
    go_wp2_with fail
    go_ret
    exact ⟨ret_bool (by rw [Hd.out]), Only.refl _ _⟩

/-- string([]byte{x}), string([]byte{x, y}). -/
theorem conv1 (w : World) (B : Nat) (x : Int) (hB : B = w.heap.size) : (convert 61 9 (.slice (some ⟨B, 0, none⟩) 1 1)).run Tryz.prog (w.alloc (.cells #[.int .u8 x] 5)) = .ok (.string (bytesOf [x])) (w.alloc (.cells #[.int .u8 x] 5)) :=
  run_bytes_new Tryz.underlying61 Tryz.underlying5 Tryz.underlying9 w B [x] 1 hB rfl (by unfold maxLen; omega)
theorem conv2 (w : World) (B : Nat) (x y : Int) (hB : B = w.heap.size) : (convert 61 9 (.slice (some ⟨B, 0, none⟩) 2 2)).run Tryz.prog (w.alloc (.cells #[.int .u8 x, .int .u8 y] 5)) = .ok (.string (bytesOf [x, y])) (w.alloc (.cells #[.int .u8 x, .int .u8 y] 5)) :=
  run_bytes_new Tryz.underlying61 Tryz.underlying5 Tryz.underlying9 w B [x, y] 2 hB rfl (by unfold maxLen; omega)

theorem conv1d (w : World) (B : Nat) (x : Int) (hB : B = w.heap.size) : (convert 61 9 (.slice (some ⟨B, 0, none⟩) 1 1)).run Tryz.prog (w.alloc (.cells #[.int .u8 x] 5)).drew = .ok (.string (bytesOf [x])) (w.alloc (.cells #[.int .u8 x] 5)).drew :=
  run_bytes_new_drew Tryz.underlying61 Tryz.underlying5 Tryz.underlying9 w B [x] 1 hB rfl (by unfold maxLen; omega)
theorem conv2d (w : World) (B : Nat) (x y : Int) (hB : B = w.heap.size) : (convert 61 9 (.slice (some ⟨B, 0, none⟩) 2 2)).run Tryz.prog (w.alloc (.cells #[.int .u8 x, .int .u8 y] 5)).drew = .ok (.string (bytesOf [x, y])) (w.alloc (.cells #[.int .u8 x, .int .u8 y] 5)).drew :=
  run_bytes_new_drew Tryz.underlying61 Tryz.underlying5 Tryz.underlying9 w B [x, y] 2 hB rfl (by unfold maxLen; omega)

/-- A label's bytes. -/
def labelB (s : ByteArray) : ByteArray := bytesOf [(s.size : Int)] ++ s

set_option maxRecDepth 100000 in
theorem label_any (w : World) (s : ByteArray) (hs : s.size ≤ 63) :
    Calls Tryz.prog 123 #[.string s] w fun e w' => e = .returned (.string (labelB s)) ∧ Only (fun _ => False) w w' := by
  have hc1 := conv1
  have e1 : ∀ x : Int, (bytesOf [x]).size = 1 := fun _ => rfl
  go_enter Tryz.func123, Tryz.ntmps123
  go_wp2_with fail
  go_ret
  exact ⟨rfl, (Only.refl _ _).alloc _⟩

/-- Labels' bytes, without the byte 0. -/
def bytesL (l : List ByteArray) : ByteArray := l.foldl (fun r s => r ++ labelB s) ⟨#[]⟩

set_option maxRecDepth 100000 in
theorem bytes_any (w : World) (v : Value) (l : List ByteArray) (h : Sl w 1 v l.length (l.map .string)) (hs : ∀ s ∈ l, s.size ≤ 70) (hl : l.length ≤ 200) :
    Calls Tryz.prog 64 #[v] w fun e w' => e = .returned (.string (bytesL l)) ∧ Only (fun _ => False) w w' := by
  obtain ⟨_, a, cap, rfl, h3, h4, h5⟩ := h
  unfold maxLen at h4
  have Hs := Lib.hid hs
  have hc1 := conv1d
  have e1 : ∀ x : Int, (bytesOf [x]).size = 1 := fun _ => rfl
  clear hs
  go_enter Tryz.func64, Tryz.ntmps64
  go_wp2_with fail
  go_loopg [3, 4] l.length (fun g v3 v4 wx => ∃ (k : Nat) (r : ByteArray), v3 = .string r ∧ v4 = .int .i64 k ∧ k ≤ l.length ∧ r.size ≤ 71 * k ∧ Only (fun _ => False) w wx ∧ bytesL l = (l.drop k).foldl (fun r s => r ++ labelB s) r ∧ g = l.length - k)
  case atStart => exact ⟨0, ⟨#[]⟩, rfl, rfl, Nat.zero_le _, Nat.le_refl _, Only.refl _ _, rfl, rfl⟩
  case round =>
    obtain ⟨k, r, rfl, rfl, hk, hr, ho, hm, hg⟩ := hrel
    have Hm := Lib.hid hm
    have Hg := Lib.hid hg
    clear hm hg
    by_cases hlt : k < l.length
    · obtain ⟨b, off, ha, hc⟩ := h5.resolve_left (by omega)
      subst ha
      have hz := ho.cell (strs_cell hc hlt) id
      have hblt := World.block_lt_of_cell? _ _ hz
      have hd : l.drop k = l[k] :: l.drop (k + 1) := List.drop_eq_getElem_cons hlt
      have hsz := Hs.out _ (List.getElem_mem hlt)
      generalize l[k] = s at *
      have Hd := Lib.hid hd
      clear hd hc h5
      go_wp2_with fail
      go_region
      go_wp2_with fail
      go_roundg (l.length - (k + 1))
      case measure => rw [Hg.out]; omega
      case rel =>
        refine ⟨k + 1, r ++ labelB s, rfl, by go_num, by omega, ?_, (ho.alloc _).drew, by rw [Hm.out, Hd.out]; rfl, rfl⟩
        rw [ByteArray.size_append, labelB, ByteArray.size_append, e1]
        omega
    · have hd : l.drop k = [] := List.drop_eq_nil_of_le (by omega)
      have Hd := Lib.hid hd
      clear hd h5
      go_wp2_with fail
      go_ret
      exact ⟨ret_str (by rw [Hm.out, Hd.out]; rfl), ho⟩
end Go.Proofs.YtbdfijgejkimnaaGreatDoor
/-! name.Split and name.Join, by the library's contracts. -/
namespace Go.Proofs.YtbdfijgejkimnaaGreatDoor
open Go.Conc Go.RowKit
/-- Labels put together. -/
def joinL (l : List ByteArray) : ByteArray := ⟨(Lib.join (l.map (·.data.toList)) [46]).toArray⟩
set_option maxRecDepth 100000 in
theorem join_any (w : World) (v : Value) (l : List ByteArray) (h : Sl w 1 v l.length (l.map .string)) (hl : (Lib.join (l.map (·.data.toList)) [46]).length ≤ 100000) (hn : l.length ≤ 1000) :
    Calls Tryz.prog 73 #[v] w fun e w' => e = .returned (.string (joinL l)) ∧ Only (fun _ => False) w w' := by
  have HL := Lib.hid hl
  clear hl
  obtain ⟨_, a, cap, rfl, h3, h4, h5⟩ := h
  by_cases h0 : l.length = 0
  · obtain rfl : l = [] := List.eq_nil_of_length_eq_zero h0
    clear h5
    go_enter Tryz.func73, Tryz.ntmps73
    go_wp2_with fail
    refine (Tryz.strings_Join_none a cap ⟨#[46]⟩ w).mono ?_
    rintro e w1 ⟨rfl, rfl⟩
    go_wp2_with fail
    go_ret
    exact ⟨rfl, Only.refl _ _⟩
  · obtain ⟨b, off, ha, hc⟩ := h5.resolve_left h0
    subst ha
    have hc2 : ∀ (j : Nat) x, l[j]? = some x → w.cell? ⟨b, off + j, none⟩ = some (.string x) := fun j x hx => hc j _ (by simp [hx])
    have hb : b < w.heap.size := World.block_lt_of_cell? _ _ (hc2 0 l[0] (by simp))
    have Hc := Lib.hid hc2
    clear hc hc2 h5
    go_enter Tryz.func73, Tryz.ntmps73
    go_wp2_with fail
    refine (Tryz.strings_Join b off cap l ⟨#[46]⟩ w Hc.out hb (by omega) h3 (Nat.le_trans HL.out (by omega))).mono ?_
    rintro e w1 ⟨rfl, hw⟩
    go_wp2_with fail
    go_ret
    exact ⟨rfl, Only.of_below hw⟩
end Go.Proofs.YtbdfijgejkimnaaGreatDoor
/-! A table's map as a function; place and note. -/
namespace Go.Proofs.YtbdfijgejkimnaaGreatDoor
open Go.Conc Go.RowKit

theorem keyLit (k : List UInt8) : WideAt.IsKeyLit (.string k) := by simp [WideAt.IsKeyLit]
/-- A map from strings to ints reads as this function. -/
def Reps (D : DataW Unit) (f : List UInt8 → Option Int) : Prop :=
  Maps.IsMap D ∧ ∀ k, Maps.has D (.string k) = (f k).isSome ∧ ∀ c, f k = some c → D.atKey (.string k) (.lit (.int .i64 0)) = .lit (.int .i64 c)
def upd (f : List UInt8 → Option Int) (k : List UInt8) (c : Int) : List UInt8 → Option Int := fun x => if x = k then some c else f x
theorem Reps.empty : Reps (.map []) (fun _ => none) := ⟨Maps.isMap_empty, fun _ => ⟨rfl, fun _ h => by cases h⟩⟩
theorem Reps.put {D : DataW Unit} {f : List UInt8 → Option Int} (h : Reps D f) (k : List UInt8) (c : Int) : Reps (D.put (.string k) (.lit (.int .i64 c))) (upd f k c) := by
  refine ⟨h.1.put _ _, fun x => ?_⟩
  unfold upd
  by_cases hx : x = k
  · subst hx
    rw [if_pos rfl]
    refine ⟨Maps.has_put_same h.1 (keyLit _) _, fun c' hc => ?_⟩
    simp only [Option.some.injEq] at hc
    subst hc
    exact Maps.atKey_put_same h.1 (keyLit _) _ _
  · rw [if_neg hx]
    have hne : Lit.string x ≠ Lit.string k := fun e => hx (by injection e)
    refine ⟨by rw [Maps.has_put_other hne]; exact (h.2 x).1, fun c' hc => ?_⟩
    rw [Maps.atKey_put_other hne]
    exact (h.2 x).2 c' hc

def TabMap (w : World) (m : Value) (bm : Option Nat) (n : Nat) (f : List UInt8 → Option Int) : Prop :=
  (m = .map none ∧ bm = none ∧ f = fun _ => none) ∨ ∃ b D, m = .map (some b) ∧ bm = some b ∧ w.ownsMap Tryz.prog 9 (plainElem Tryz.prog 3) b n D ∧ Reps D f
/-- A table: its block t, its map's block, a bound on its entries, what it says. -/
structure TabAt (w : World) (t : Nat) (bm : Option Nat) (n : Nat) (f : List UInt8 → Option Int) : Prop where
  ex : ∃ m, w.heap[t]? = some (.cells #[m] 210 (0, 0)) ∧ TabMap w m bm n f
theorem ownsMap_only {S : Nat → Prop} {P : Program} {k : TypeId} {R : Value → Option (DataW Unit × List MemPlace)} {b n : Nat} {D : DataW Unit} {w w' : World} (h : w.ownsMap P k R b n D) (ho : Only S w w') (hn : ¬ S b) : w'.ownsMap P k R b n D := by
  have hlt := h.lt
  obtain ⟨es, clock, hb, F, hs, hD⟩ := h
  exact ⟨es, clock, (ho.block b hlt hn).trans hb, F, hs, hD⟩
theorem TabAt.kept {S : Nat → Prop} {w w' : World} {t : Nat} {bm : Option Nat} {n : Nat} {f : List UInt8 → Option Int} (h : TabAt w t bm n f) (ho : Only S w w') (ht : ¬ S t) (hb : ∀ b, bm = some b → ¬ S b) : TabAt w' t bm n f := by
  obtain ⟨m, h1, h2⟩ := h
  refine ⟨m, ho.old h1 ht, ?_⟩
  rcases h2 with h2 | ⟨b, D, e1, e2, h3, h4⟩
  · exact .inl h2
  · exact .inr ⟨b, D, e1, e2, ownsMap_only h3 ho (hb b e2), h4⟩
theorem TabAt.lt {w : World} {t : Nat} {bm : Option Nat} {n : Nat} {f : List UInt8 → Option Int} (h : TabAt w t bm n f) : t < w.heap.size ∧ ∀ b, bm = some b → b < w.heap.size := by
  obtain ⟨m, h1, h2⟩ := h
  refine ⟨lt_of_block h1, fun b hb => ?_⟩
  rcases h2 with ⟨_, h3, _⟩ | ⟨b', D, _, e2, h3, _⟩
  · rw [h3] at hb; cases hb
  · rw [e2] at hb; cases hb; exact h3.lt

theorem TabAt.more {w : World} {t : Nat} {bm : Option Nat} {n n' : Nat} {f : List UInt8 → Option Int} (h : TabAt w t bm n f) (hn : n ≤ n') : TabAt w t bm n' f := by
  obtain ⟨m, h1, h2⟩ := h
  refine ⟨m, h1, ?_⟩
  rcases h2 with h2 | ⟨b, D, e1, e2, h3, h4⟩
  · exact .inl h2
  · exact .inr ⟨b, D, e1, e2, h3.mono hn, h4⟩
theorem zeroInt (w : World) : (zeroValue 3).run Tryz.prog w = .ok (.int .i64 0) w := by kernel_rfl
theorem strKeyed : Maps.Keyed Tryz.prog 9 := Maps.string_keyed Tryz.underlying9

theorem place_none (w : World) (k : ByteArray) : Calls Tryz.prog 124 #[.pointer none, .string k] w fun e w' => e = .returned (.tuple #[.int .i64 0, .bool false]) ∧ w = w' := by
  go_enter Tryz.func124, Tryz.ntmps124
  go_wp2_with fail
  go_ret2
  exact ⟨rfl, rfl⟩
theorem place_empty (w : World) (t : Nat) (k : ByteArray) (h : k.size = 0) : Calls Tryz.prog 124 #[.pointer (some ⟨t, 0, none⟩), .string k] w fun e w' => e = .returned (.tuple #[.int .i64 0, .bool false]) ∧ w = w' := by
  have e0 := empty_true h
  clear h
  go_enter Tryz.func124, Tryz.ntmps124
  go_wp2_with fail
  go_ret2
  exact ⟨rfl, rfl⟩

set_option maxRecDepth 100000 in
theorem place_any (w : World) (t : Nat) (bm : Option Nat) (n : Nat) (f : List UInt8 → Option Int) (k : ByteArray) (h : TabAt w t bm n f) (h0 : k.size ≠ 0) (hk : k.size ≤ maxLen) :
    Calls Tryz.prog 124 #[.pointer (some ⟨t, 0, none⟩), .string k] w fun e w' => ∃ c, e = .returned (.tuple #[.int .i64 c, .bool (f k.data.toList).isSome]) ∧ w = w' ∧ (∀ c', f k.data.toList = some c' → c = c') := by
  have e0 := empty_false h0
  obtain ⟨m, h1, h2⟩ := h
  have hc := cell_at h1 0
  have hcc : w.cell? ⟨t, 0, none⟩ = some m := hc
  clear hc h0
  rcases h2 with ⟨rfl, rfl, hf⟩ | ⟨b, D, rfl, rfl, hown, hr⟩
  · have hfk : f k.data.toList = none := by rw [hf]
    have Hf := Lib.hid hfk
    clear hf hfk
    have hnil := fun w : World => Maps.look_nil (w := w) true strKeyed Tryz.underlying208 (zeroInt w) (WideMaps.keyOf_string_mk Tryz.underlying9 hk)
    go_enter Tryz.func124, Tryz.ntmps124
    go_wp2_with fail
    go_ret2
    exact ⟨0, by rw [Hf.out]; rfl, rfl, fun c' h => by rw [Hf.out] at h; cases h⟩
  · have Hr := Lib.hid hr
    have hkey := WideMaps.keyOf_string_mk Tryz.underlying9 hk
    clear hr
    go_enter Tryz.func124, Tryz.ntmps124
    go_wp2_with (at_lookup; refine Wait.mk ?_)
    refine Wait.go (wpList_lookup_own_ok_int _ rfl (.tmp 18) (.tmp 19) 208 rfl 9 3 .i64 strKeyed Tryz.underlying208 Tryz.underlying3 (zeroInt _) b n D rfl hown _ _ rfl hkey ?_)
    intro c hat hwc
    have Hat := Lib.hid hat
    clear hat
    have hh := (Hr.out.2 k.data.toList).1
    rw [hh]
    go_wp2_with fail
    go_ret2
    refine ⟨c, rfl, rfl, fun c' hc => ?_⟩
    have := (Hr.out.2 k.data.toList).2 c' hc
    rw [Hat.out] at this
    injection this with e1
    injection e1

theorem note_none (w : World) (k : ByteArray) (c : Int) : Calls Tryz.prog 125 #[.pointer none, .string k, .int .i64 c] w fun e w' => e = .returned (.tuple #[]) ∧ w = w' := by
  go_enter Tryz.func125, Tryz.ntmps125
  go_wp2_with fail
  refine (place_none _ _).mono ?_
  rintro e w' ⟨rfl, rfl⟩
  go_wp2_with fail
  refine bodyPost_ret (results_none rfl _ _ _) rfl ?_
  exact ⟨rfl, rfl⟩

/-- What a table says behind note. -/
def noted (f : List UInt8 → Option Int) (k : List UInt8) (c : Int) : List UInt8 → Option Int := if (f k).isSome = true ∨ 16384 ≤ c then f else upd f k c

def NotePost (w w' : World) (t : Nat) (bm : Option Nat) (n : Nat) (f : List UInt8 → Option Int) : Prop :=
  ∃ bm', Only (fun x => x = t ∨ bm = some x) w w' ∧ TabAt w' t bm' n f ∧ ∀ b, bm' = some b → bm = some b ∨ w.heap.size ≤ b
set_option maxRecDepth 100000 in
theorem note_any (w : World) (t : Nat) (bm : Option Nat) (n : Nat) (f : List UInt8 → Option Int) (k : ByteArray) (c : Int) (h : TabAt w t bm n f) (h0 : k.size ≠ 0) (hk : k.size ≤ maxLen) (hn : n < 100000) (c0 : 0 ≤ c) (c1 : c ≤ 1000000) :
    Calls Tryz.prog 125 #[.pointer (some ⟨t, 0, none⟩), .string k, .int .i64 c] w fun e w' => e = .returned (.tuple #[]) ∧ NotePost w w' t bm (n + 1) (noted f k.data.toList c) := by
  have hkk := WideMaps.keyOf_string_mk Tryz.underlying9 hk
  go_enter Tryz.func125, Tryz.ntmps125
  go_wp2_with fail
  refine (place_any _ t bm n f k h h0 hk).mono ?_
  rintro e w' ⟨c2, rfl, rfl, hc2⟩
  have Hc2 := Lib.hid hc2
  clear hc2
  generalize hfs : (f k.data.toList).isSome = b at *
  have Hfs := Lib.hid hfs
  have H := h
  clear hfs h0
  cases b with
  | true =>
    go_wp2_with fail
    refine bodyPost_ret (results_none rfl _ _ _) rfl ?_
    refine ⟨rfl, bm, Only.refl _ _, ?_, fun b hb => .inl hb⟩
    rw [noted, if_pos (.inl Hfs.out)]
    exact H.more (by omega)
  | false =>
    by_cases hbig : 16384 ≤ c
    · have e1 : decide ((16384 : Int) ≤ c) = true := by simp; omega
      go_wp2_with fail
      refine bodyPost_ret (results_none rfl _ _ _) rfl ?_
      refine ⟨rfl, bm, Only.refl _ _, ?_, fun b hb => .inl hb⟩
      rw [noted, if_pos (.inr hbig)]
      exact H.more (by omega)
    · have e1 : decide ((16384 : Int) ≤ c) = false := by simp; omega
      obtain ⟨m, h1, h2⟩ := h
      have hcc : w.cell? ⟨t, 0, none⟩ = some m := cell_at h1 0
      have hff := free_at h1 0
      have htl := lt_of_block h1
      have hval := plainElem_int (H := Unit) Tryz.underlying3 (q := .i64) (a := c) (by simp [Lit.wf, IntKind.min, IntKind.max, IntKind.signed, IntKind.bits]; omega)
      have hq := fun (w : World) (r : Option Nat) => run_eql_map_nil (P := Tryz.prog) w 208 _ _ r Tryz.underlying208
      rcases h2 with ⟨rfl, rfl, hf⟩ | ⟨b, D, rfl, rfl, hown, hr⟩
      · have Hf := Lib.hid hf
        have hmm := @run_makeMap Tryz.prog
        clear hf
        go_wp2_with (at_mapUpdate; refine Wait.mk ?_)
        have hmade := World.ownsMap_made (w.setCell ⟨t, 0, none⟩ (.map (some w.heap.size))) Tryz.prog 9 (plainElem (H := Unit) Tryz.prog 3)
        rw [World.size_setCell] at hmade
        refine Wait.go (wpList_mapUpdate_own _ rfl (.tmp 35) (.tmp 36) (.tmp 37) 208 rfl 9 3 strKeyed Tryz.underlying208 (plainElem (H := Unit) Tryz.prog 3) w.heap.size 0 (.map []) rfl hmade (by unfold maxLen; omega) _ _ _ rfl rfl hkk _ [] hval ?_)
        intro w1 hown1 hgr1
        have ho : Only (· = t) w ((w.setCell ⟨t, 0, none⟩ (.map (some w.heap.size))).alloc (.map #[] 0)) := ((Only.refl (· = t) w).setCell (S := (· = t)) (p := ⟨t, 0, none⟩) (Or.inr rfl) _).alloc _
        have ho1 : Only (· = t) w w1 := ho.grown hgr1 (fun k e => .inl (by injection e with e; omega))
        have hblk : w1.heap[t]? = some (.cells #[.map (some w.heap.size)] 210 (0, 0)) := by
          rw [hgr1.block t (by simp; omega) (by simp; omega), Below.heap_alloc _ _ _ (by simp; exact htl)]
          exact one_setCell h1
        go_wp2_with fail
        go_end0
        refine ⟨rfl, some w.heap.size, ho1.weaken (fun k _ e => .inl e), ⟨_, hblk, .inr ⟨w.heap.size, _, rfl, rfl, hown1.mono (by omega), ?_⟩⟩, fun b e => .inr (by injection e with e; omega)⟩
        rw [noted, if_neg (by rw [Hfs.out]; simp; omega), Hf.out]
        exact Reps.empty.put _ _
      · have Hr := Lib.hid hr
        clear hr
        go_wp2_with (at_mapUpdate; refine Wait.mk ?_)
        refine Wait.go (wpList_mapUpdate_own _ rfl (.tmp 35) (.tmp 36) (.tmp 37) 208 rfl 9 3 strKeyed Tryz.underlying208 (plainElem (H := Unit) Tryz.prog 3) b n D rfl hown (by unfold maxLen; omega) _ _ _ rfl rfl hkk _ [] hval ?_)
        intro w1 hown1 hgr1
        have hne : t ≠ b := by
          obtain ⟨es, clock, hb, _⟩ := hown
          intro e
          subst e
          rw [h1] at hb
          simp at hb
        have ho1 : Only (· = b) w w1 := (Only.refl (· = b) w).grown hgr1 (fun k e => .inr (by injection e with e; exact e.symm))
        have hblk := ho1.old h1 hne
        go_wp2_with fail
        go_end0
        refine ⟨rfl, some b, ho1.weaken (fun k _ e => .inr (by rw [e])), ⟨_, hblk, .inr ⟨b, _, rfl, rfl, hown1, ?_⟩⟩, fun b' e => .inl e⟩
        rw [noted, if_neg (by rw [Hfs.out]; simp; omega)]
        exact Hr.out.put _ _
end Go.Proofs.YtbdfijgejkimnaaGreatDoor
