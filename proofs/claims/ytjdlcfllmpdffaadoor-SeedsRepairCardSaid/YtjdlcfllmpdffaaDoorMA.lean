/- The step from a walk to a row that lists tables, with the world's shape at hand. -/
import Derived.Test.YtjdlcfllmpdffaaDoorRows
import Derived.Conc.LoneCalls
import Derived.Conc.LoneSelect
import Derived.WalkKit
import Derived.WalkSpells
import Derived.WalkLawsBesides
import Derived.KernelRfl
import Derived.Lib.Hide
import Derived.Deep.QuietTactic
import Derived.BigQuiet
import Derived.Deep.DeepCutAuto
import Derived.Deep.LoopGhost
import Derived.Deep.AppendSrc
import Derived.Maps.OwnSet
import Derived.Laws.IdiomCopy
import Derived.Deep.RegionLaw
import Derived.Deep.RegionHeld3
import Derived.ProofKit
import Derived.OpenShut
import Derived.JoinedCond
import Derived.SizedLaws
import Derived.Deep.Slices
import Derived.Test.YtjdlcfllmpdffaaDoorShelf
import Derived.LaidMore
import Derived.Lay
import Derived.Stop.Joined
import Derived.HandedShaped
/-! Small laws on worlds: of the blocks that were there only some may have changed. -/
namespace Go.Proofs.YtjdlcfllmpdffaaDoor
open Go.Conc Go.RowKit

/-- Of the blocks that were there only those of S may have changed. -/
structure Only (S : Nat → Prop) (w w' : World) : Prop where
  os : w'.os = w.os
  tape : w'.tape = w.tape
  output : w'.output = w.output
  size : w.heap.size ≤ w'.heap.size
  block : ∀ k, k < w.heap.size → ¬ S k → w'.heap[k]? = w.heap[k]?

theorem Only.refl (S : Nat → Prop) (w : World) : Only S w w := ⟨rfl, rfl, rfl, Nat.le_refl _, fun _ _ _ => rfl⟩
theorem Only.trans {S : Nat → Prop} {a b c : World} (h : Only S a b) (k : Only S b c) : Only S a c :=
  ⟨k.os.trans h.os, k.tape.trans h.tape, k.output.trans h.output, Nat.le_trans h.size k.size,
    fun i hi hn => (k.block i (Nat.lt_of_lt_of_le hi h.size) hn).trans (h.block i hi hn)⟩
theorem Only.weaken {S T : Nat → Prop} {a b : World} (h : Only S a b) (hs : ∀ k, k < a.heap.size → S k → T k) : Only T a b :=
  ⟨h.os, h.tape, h.output, h.size, fun i hi hn => h.block i hi (fun x => hn (hs i hi x))⟩
theorem Only.alloc {S : Nat → Prop} {a w : World} (h : Only S a w) (o : Obj) : Only S a (w.alloc o) :=
  h.trans ⟨rfl, rfl, rfl, by simp, fun k hk _ => Below.heap_alloc _ _ _ hk⟩
theorem Only.drew {S : Nat → Prop} {a w : World} (h : Only S a w) : Only S a w.drew := ⟨h.os, h.tape, h.output, h.size, h.block⟩
theorem Only.drewN {S : Nat → Prop} {a w : World} (h : Only S a w) (n : Nat) : Only S a (w.drewN n) := ⟨h.os, h.tape, h.output, h.size, h.block⟩
theorem Only.setCell {S : Nat → Prop} {a w : World} (h : Only S a w) {p : Addr} (hp : a.heap.size ≤ p.block ∨ S p.block) (u : Value) : Only S a (w.setCell p u) :=
  ⟨h.os, h.tape, h.output, by simpa using h.size, fun k hk hn => by
    rw [Below.heap_setCell _ _ _ _ (fun e => by subst e; rcases hp with hp | hp; exact absurd hk (by omega); exact hn hp)]
    exact h.block k hk hn⟩
theorem Only.setChan {S : Nat → Prop} {a w : World} (h : Only S a w) {c : Nat} (hp : a.heap.size ≤ c ∨ S c) (cap : Nat) (buf : Array Value) (cl : Bool) (s r : Nat) (tm : Bool) : Only S a (w.setChan c cap buf cl s r tm) :=
  ⟨h.os, h.tape, h.output, by simpa [World.setChan] using h.size, fun k hk hn => by
    have hc : c ≠ k := fun e => by subst e; rcases hp with hp | hp; exact absurd hk (by omega); exact hn hp
    have : (w.setChan c cap buf cl s r tm).heap[k]? = w.heap[k]? := by simp [World.setChan, Array.getElem?_setIfInBounds_ne hc]
    rw [this]
    exact h.block k hk hn⟩
theorem Only.below {S : Nat → Prop} {a b : World} (h : Only S a b) {B : Nat} (hB : B ≤ a.heap.size) (hs : ∀ k, k < B → ¬ S k) : Below B a b :=
  ⟨h.os, h.tape, h.output, h.size, fun k hk => h.block k (by omega) (hs k hk)⟩
theorem Only.of_below {S : Nat → Prop} {a b : World} (h : Below a.heap.size a b) : Only S a b :=
  ⟨h.os, h.tape, h.output, h.size, fun k hk _ => h.block k hk⟩
theorem Only.cell {S : Nat → Prop} {a b : World} (h : Only S a b) {p : Addr} {v : Value} (hc : a.cell? p = some v) (hn : ¬ S p.block) : b.cell? p = some v :=
  (World.cell?_of_block (h.block p.block (World.block_lt_of_cell? _ _ hc) hn)).trans hc

/-- A block that had just been made is still there. -/
theorem Only.new {S : Nat → Prop} {w w' : World} {o : Obj} (h : Only S (w.alloc o) w') (hn : ¬ S w.heap.size) : w'.heap[w.heap.size]? = some o :=
  (h.block _ (by simp) hn).trans (heap_alloc_new w o)
theorem cell_at {w : World} {b : Nat} {cs : Array Value} {t : TypeId} {f : Nat × Nat} (h : w.heap[b]? = some (.cells cs t f)) (i : Nat) : w.cell? ⟨b, i, none⟩ = cs[i]? := by simp [World.cell?, h]
theorem free_at {w : World} {b : Nat} {cs : Array Value} {t : TypeId} (h : w.heap[b]? = some (.cells cs t (0, 0))) (i : Nat) : w.frozen? ⟨b, i, none⟩ = false := by simp [World.frozen?, h]
theorem Only.old {S : Nat → Prop} {w w' : World} {b : Nat} {o : Obj} (h : Only S w w') (hb : w.heap[b]? = some o) (hn : ¬ S b) : w'.heap[b]? = some o :=
  (h.block _ (lt_of_block hb) hn).trans hb
/-- Two steps, the second of which may have changed blocks that the first has made. -/
theorem Only.tr {S T : Nat → Prop} {a b c : World} (h : Only S a b) (k : Only T b c) (hT : ∀ i, i < a.heap.size → T i → S i) : Only S a c :=
  ⟨k.os.trans h.os, k.tape.trans h.tape, k.output.trans h.output, Nat.le_trans h.size k.size,
    fun i hi hn => (k.block i (Nat.lt_of_lt_of_le hi h.size) (fun x => hn (hT i hi x))).trans (h.block i hi hn)⟩
theorem Only.grown {S : Nat → Prop} {a w w' : World} {row : Option Nat} (h : Only S a w) (hg : w.grownBy w' row) (hr : ∀ k, row = some k → a.heap.size ≤ k ∨ S k) : Only S a w' :=
  h.tr (T := fun k => row = some k) ⟨hg.os, hg.tape, hg.output, hg.size, fun k hk hn => hg.block k hk (fun e => hn e.symm)⟩
    (fun i hi e => (hr i e).elim (fun x => absurd hi (by omega)) id)
theorem ret_bool {a b : Bool} (h : a = b) : Ending.returned (.bool a) = .returned (.bool b) := by rw [h]
theorem ret_int {k : IntKind} {a b : Int} (h : a = b) : Ending.returned (.int k a) = .returned (.int k b) := by rw [h]
theorem ret_str {a b : ByteArray} (h : a = b) : Ending.returned (.string a) = .returned (.string b) := by rw [h]
/-- A goal at which the walk stops: 'go_wp2_with (at_builtin; refine Wait.mk ?_)' walks to the next append; 'refine Wait.go (law ..)' goes on. -/
def Wait (p : Prop) : Prop := p
theorem Wait.mk {p : Prop} (h : Wait p) : p := h
theorem Wait.go {p : Prop} (h : p) : Wait p := h
end Go.Proofs.YtjdlcfllmpdffaaDoor
/-! Slices that are only read, and append onto a slice that the call itself made, whatever is appended: laws for the walk over any program. -/
namespace Go.Proofs.YtjdlcfllmpdffaaDoor
open Go.Conc Go.RowKit

/-- A slice of n elements, 'size' cells each, reads as the cells xs. -/
def Sl (w : World) (size : Nat) (v : Value) (n : Nat) (xs : List Value) : Prop :=
  xs.length = n * size ∧ ∃ a cap, v = .slice a n cap ∧ n ≤ cap ∧ cap ≤ maxLen ∧
    (n = 0 ∨ ∃ b off, a = some ⟨b, off, none⟩ ∧ ∀ j u, xs[j]? = some u → w.cell? ⟨b, off + j, none⟩ = some u)

section
variable {w w' : World} {size n : Nat} {v : Value} {xs : List Value}

theorem Sl.nil (w : World) (size : Nat) : Sl w size (.slice none 0 0) 0 [] := ⟨by simp, none, 0, rfl, Nat.le_refl _, Nat.zero_le _, .inl rfl⟩
theorem Sl.kept {S : Nat → Prop} (h : Sl w size v n xs) (ho : Only S w w') (hn : ∀ a u, w.cell? a = some u → ¬ S a.block) : Sl w' size v n xs := by
  obtain ⟨h1, a, cap, h2, h3, h4, h5⟩ := h
  refine ⟨h1, a, cap, h2, h3, h4, ?_⟩
  rcases h5 with h5 | ⟨b, off, h5, h6⟩
  · exact .inl h5
  · exact .inr ⟨b, off, h5, fun j u hu => ho.cell (h6 j u hu) (hn _ _ (h6 j u hu))⟩
theorem Sl.cast {m : Nat} (h : Sl w size v n xs) (e : n = m) : Sl w size v m xs := e ▸ h
theorem Sl.new {h0 : World} (h : Sl w size v n xs) (ho : Only (fun _ => False) w h0) : Sl h0 size v n xs := h.kept ho (fun _ _ _ => id)
theorem Sl.of_owns {base : Nat} {e : TypeId} (h : w.ownsRow base e size v n xs) : Sl w size v n xs := by
  refine ⟨h.1, ?_⟩
  rcases h.2 with ⟨h2, rfl⟩ | ⟨g, cap, cur, rfl, hb, hg, hnc, hcm, hcs, ht⟩
  · exact ⟨none, 0, h2, Nat.le_refl _, Nat.zero_le _, .inl rfl⟩
  · refine ⟨_, cap, rfl, hnc, hcm, .inr ⟨g, 0, rfl, fun j u hu => ?_⟩⟩
    have := h.cells (g := g) rfl j u hu
    simpa [Addr.add_lit] using this
theorem Sl.len_le (h : Sl w size v n xs) : n ≤ maxLen := by
  obtain ⟨_, a, cap, _, h3, h4, _⟩ := h
  omega
/-- What an append takes from it. -/
theorem Sl.src {P : Program} {tx e' : TypeId} (hk : P.underlying tx = some (.slice e')) (h : Sl w size v n xs) (h1 : ∀ u ∈ xs, u.oneCell' = true) : Src P size tx v n xs w := by
  obtain ⟨hl, a, cap, rfl, _, _, h5⟩ := h
  rcases h5 with rfl | ⟨b, off, rfl, hc⟩
  · obtain rfl : xs = [] := List.eq_nil_of_length_eq_zero (by simpa using hl)
    cases a with
    | none => exact Src.ofNil w hk cap
    | some a => exact Src.ofSlice w hk a 0 cap [] (by simp) (by simp) (by simp)
  · exact Src.ofSlice w hk _ n cap xs hl (fun j u hu => by rw [Addr.add_lit]; exact hc j u hu) h1
end

/-- s[lo:] of such a slice, as the model has it. -/
theorem Sl.sliced {w : World} {size n lo : Nat} {xs : List Value} {a : Option Addr} {cap : Nat} (h : Sl w size (.slice a n cap) n xs) (hlo : lo ≤ n) :
    Sl w size (.slice (if cap = lo then a else a.map (·.add (lo * size))) (n - lo) (cap - lo)) (n - lo) (xs.drop (lo * size)) := by
  obtain ⟨hl, a', cap', he, h3, h4, h5⟩ := h
  simp only [Value.slice.injEq] at he
  obtain ⟨rfl, -, rfl⟩ := he
  refine ⟨by rw [List.length_drop, hl, Nat.sub_mul], _, _, rfl, by omega, by omega, ?_⟩
  rcases h5 with rfl | ⟨b, off, rfl, hc⟩
  · exact .inl (by omega)
  · by_cases hc' : cap = lo
    · exact .inl (by omega)
    · refine .inr ⟨b, off + lo * size, ?_, fun j u hu => ?_⟩
      · rw [if_neg hc']
        simp [Addr.add_lit]
      · rw [List.getElem?_drop] at hu
        have := hc _ _ hu
        rwa [← Nat.add_assoc] at this

section
variable {P : Program} (w : World)

theorem run_append_room_own (t tx ty e : TypeId) (i : TypeInfo) (ht : P.underlying t = some (.slice e)) (hi : P.info? e = some i)
    (g sLen sCap : Nat) (cur : Array Value) (hg : w.heap[g]? = some (.cells cur e (0, 0))) (x : Value) (m : Nat) (news : List Value) (hs : Src P i.size tx x m news w)
    (hroom : sLen + m ≤ sCap) (hfit : sLen * i.size + news.length ≤ cur.size) :
    (Builtin.append_ #[t, tx] ty #[.slice (some ⟨g, 0, none⟩) sLen sCap, x]).run P w =
      .ok (.slice (some ⟨g, 0, none⟩) (sLen + m) sCap) (w.setRow g (cur.toList.take (sLen * i.size) ++ news ++ cur.toList.drop (sLen * i.size + news.length)).toArray) := by
  have hst := run_storeCells_at P g (sLen * i.size) e news 0 cur w hg (by simpa using hfit) hs.one
  simp only [Nat.add_zero] at hst
  rcases hs.kind with ⟨e', hk⟩ | hk <;> simp [Builtin.append_, run_underlying ht, run_underlying hk, sizeOf, typeInfo, hi, hs.len, hroom, hs.cells, Addr.add_lit, hst]

/-- append onto a slice of the call's own, whatever is appended. -/
theorem run_append_src (base : Nat) (t tx ty e : TypeId) (i : TypeInfo) (z : Value) (size bytes : Nat) (ht : P.underlying t = some (.slice e)) (hi : P.info? e = some i) (hz : i.zero = some z)
    (hsize : i.size = size) (hby : i.bytes = bytes) (hzs : z.cells.size = size)
    (v : Value) (n : Nat) (xs : List Value) (hown : w.ownsRow base e size v n xs) (x : Value) (m : Nat) (news : List Value) (hs : Src P size tx x m news w)
    (h63 : n + m ≤ maxLen) (hbytes : (n + m) * bytes ≤ 140737488355328) (hbase : base ≤ w.heap.size) :
    ∃ v' w', (Builtin.append_ #[t, tx] ty #[v, x]).run P w = .ok v' w' ∧ w'.ownsRow base e size v' (n + m) (xs ++ news) ∧ w.grownBy w' v.ownBlock ∧ (∀ k, v'.ownBlock = some k → v.ownBlock = some k ∨ w.heap.size ≤ k) := by
  subst hsize
  subst hby
  have hl := hs.newsLen
  have hsmall : n + m ≤ 9223372036854775807 := by simp only [maxLen] at h63; omega
  have hlen : (xs ++ news).length = (n + m) * i.size := by rw [List.length_append, hown.1, hl, Nat.add_mul]
  have grown : ∀ (old : Nat), old < n + m → ∀ (row : Option Nat),
      (w.drew.alloc (.cells ((xs ++ news).toArray ++ Builtin.zeroCells z.cells (grownCap w (n + m) old e - (n + m))) e)).ownsRow base e i.size
        (.slice (some ⟨w.heap.size, 0, none⟩) (n + m) (grownCap w (n + m) old e)) (n + m) (xs ++ news) ∧
      w.grownBy (w.drew.alloc (.cells ((xs ++ news).toArray ++ Builtin.zeroCells z.cells (grownCap w (n + m) old e - (n + m))) e)) row := by
    intro old ho row
    have hge := grownCap_ge w (n + m) old e
    have hcm : grownCap w (n + m) old e ≤ maxLen := grownCap_le_maxLen w (n + m) old e h63
    refine ⟨⟨hlen, .inr ⟨w.heap.size, _, _, rfl, hbase, heap_alloc_new w.drew _, hge, hcm, ?_, ?_⟩⟩, ⟨rfl, rfl, rfl, by simp, fun k hk _ => Below.heap_alloc w.drew _ k hk⟩⟩
    · simp only [Array.size_append, List.size_toArray, size_zeroCells, hzs, hlen, ← Nat.add_mul]
      congr 1
      omega
    · simp only [Array.toList_append]
      rw [← hlen]
      exact List.take_left
  rcases hown.2 with ⟨rfl, rfl⟩ | ⟨g, cap, cur, rfl, hbg, hg, hnc, hcm, hcs, htake⟩
  · have hx : xs = [] := List.eq_nil_of_length_eq_zero (by simpa using hown.1)
    subst hx
    by_cases hm : m = 0
    · subst hm
      have hn : news = [] := List.eq_nil_of_length_eq_zero (by simpa using hl)
      subst hn
      refine ⟨.slice none 0 0, w, ?_, World.ownsRow_nil w base e i.size, ⟨rfl, rfl, rfl, Nat.le_refl _, fun _ _ _ => rfl⟩, fun k h => .inl h⟩
      rcases hs.kind with ⟨e', hk⟩ | hk <;> simp [Builtin.append_, run_underlying ht, run_underlying hk, sizeOf, typeInfo, hi, hs.len, hs.cells]
    · have hr := run_append_grow_src (P := P) w t tx ty e i z ht hi hz none 0 0 [] (run_firstCells_none w.drew i.size 0 0 0) x m news hs (by omega) (by omega) (growslice_fits (by omega) hbytes)
      have hgr := grown 0 (by omega) (Value.ownBlock (.slice none 0 0))
      simp only [Nat.zero_add] at hgr hr ⊢
      exact ⟨_, _, hr, hgr.1, hgr.2, fun k h => .inr (by simp [Value.ownBlock] at h; omega)⟩
  · by_cases hroom : n + m ≤ cap
    · have hfit : n * i.size + news.length ≤ cur.size := by rw [hl, hcs, ← Nat.add_mul]; exact Nat.mul_le_mul_right _ hroom
      have hr := run_append_room_own (P := P) w t tx ty e i ht hi g n cap cur hg x m news hs hroom hfit
      refine ⟨_, _, hr, ⟨hlen, .inr ⟨g, cap, _, rfl, hbg, setRow_heap w g cur _ e _ hg, hroom, hcm, ?_, ?_⟩⟩, ⟨rfl, rfl, rfl, by simp, fun k _ hk => setRow_other w g k _ (fun e => hk (by simp [Value.ownBlock, e]))⟩, fun k h => .inl h⟩
      · simp only [List.size_toArray, List.length_append, List.length_take, List.length_drop, Array.length_toList]
        omega
      · rw [htake, ← hlen]
        exact List.take_left
    · have holds : ∀ j u, xs[j]? = some u → w.cell? ((⟨g, 0, none⟩ : Addr).add j) = some u := hown.cells (g := g) rfl
      have hold := run_firstCells_some (P := P) w.drew i.size n ⟨g, 0, none⟩ n cap xs hown.1 (by simpa using holds)
      have hr := run_append_grow_src (P := P) w t tx ty e i z ht hi hz (some ⟨g, 0, none⟩) n cap xs hold x m news hs (by omega) (by omega) (growslice_fits (by omega) hbytes)
      have hgr := grown cap (by omega) (Value.ownBlock (.slice (some ⟨g, 0, none⟩) n cap))
      exact ⟨_, _, hr, hgr.1, hgr.2, fun k h => .inr (by simp [Value.ownBlock] at h; omega)⟩

/-- The same for the walk. -/
theorem wpList_append_src {ops : Array Oper} {rest : List Oper} {o : Oper} {a : Act} {Q : Exit → Act → World → Prop} (hgd : o.guard = none) (s x : Operand) (t tx : TypeId)
    (ho : o.op = .call { callee := .builtin .append, args := #[s, x], argTypes := #[t, tx] })
    (base : Nat) (e : TypeId) (i : TypeInfo) (z : Value) (size bytes : Nat) (ht : P.underlying t = some (.slice e)) (hi : P.info? e = some i) (hz : i.zero = some z)
    (hsize : i.size = size) (hby : i.bytes = bytes) (hzs : z.cells.size = size)
    (v : Value) (n : Nat) (xs : List Value) (hv : a.eval s = v) (hown : w.ownsRow base e size v n xs) (xv : Value) (m : Nat) (news : List Value) (hx : a.eval x = xv) (hs : Src P size tx xv m news w)
    (h63 : n + m ≤ maxLen) (hbytes : (n + m) * bytes ≤ 140737488355328) (hbase : base ≤ w.heap.size)
    (h : ∀ v' w', w'.ownsRow base e size v' (n + m) (xs ++ news) → w.grownBy w' v.ownBlock → (∀ k, v'.ownBlock = some k → v.ownBlock = some k ∨ w.heap.size ≤ k) → wpList P ops Q rest (a.put o.dst v') w') : wpList P ops Q (o :: rest) a w := by
  refine wpList_plain hgd fun K hK => ?_
  obtain ⟨v', w', hr, h2, h3, h4⟩ := run_append_src (P := P) w base t tx o.type e i z size bytes ht hi hz hsize hby hzs v n xs hown xv m news hs h63 hbytes hbase
  unfold Oper.wp execOp
  simp only [ho, resolve, invoke, builtin, Sem.run_bind, Sem.run_pure, Result.andThen_ok, List.map_toArray, List.map_cons, List.map_nil, hv, hx, hr]
  exact hK _ _ (h v' w' h2 h3 h4)
end
theorem Sl.take {w : World} {size n m : Nat} {xs : List Value} {a : Option Addr} {cap : Nat} (h : Sl w size (.slice a n cap) n xs) (hm : m ≤ n) : Sl w size (.slice a m cap) m (xs.take (m * size)) := by
  obtain ⟨hl, a', cap', he, h3, h4, h5⟩ := h
  simp only [Value.slice.injEq] at he
  obtain ⟨rfl, -, rfl⟩ := he
  refine ⟨?_, _, _, rfl, by omega, h4, ?_⟩
  · rw [List.length_take, hl]
    exact Nat.min_eq_left (Nat.mul_le_mul_right _ hm)
  · rcases h5 with rfl | ⟨b, off, rfl, hc⟩
    · exact .inl (by omega)
    · refine .inr ⟨b, off, rfl, fun j u hu => hc j u ?_⟩
      rw [List.getElem?_take] at hu
      split at hu
      · exact hu
      · cases hu
theorem Sl.zero (w : World) (size : Nat) (a : Option Addr) (cap : Nat) (hc : cap ≤ maxLen) : Sl w size (.slice a 0 cap) 0 [] := ⟨by simp, a, cap, rfl, Nat.zero_le _, hc, .inl rfl⟩
/-- s[lo:] where something is left. -/
theorem Sl.drop {w : World} {size n lo : Nat} {xs : List Value} {b off cap : Nat} (h : Sl w size (.slice (some ⟨b, off, none⟩) n cap) n xs) (hlo : lo ≤ n) :
    Sl w size (.slice (some ⟨b, off + lo * size, none⟩) (n - lo) (cap - lo)) (n - lo) (xs.drop (lo * size)) := by
  obtain ⟨hl, a', cap', he, h3, h4, h5⟩ := h
  simp only [Value.slice.injEq] at he
  obtain ⟨rfl, -, rfl⟩ := he
  refine ⟨by rw [List.length_drop, hl, Nat.sub_mul], _, _, rfl, by omega, by omega, ?_⟩
  rcases h5 with rfl | ⟨b, off, he, hc⟩
  · exact .inl (by omega)
  · simp only [Option.some.injEq, Addr.mk.injEq, and_true] at he
    obtain ⟨rfl, rfl⟩ := he
    refine .inr ⟨_, _, rfl, fun j u hu => ?_⟩
    rw [List.getElem?_drop] at hu
    have := hc _ _ hu
    rwa [← Nat.add_assoc] at this
/-- A slice that has just been made, empty, is the call's own. -/
theorem owns_empty' (w : World) (B : Nat) (hB : B = w.heap.size) (e : TypeId) (size : Nat) : (w.alloc (.cells #[] e)).ownsRow B e size (.slice (some ⟨B, 0, none⟩) 0 0) 0 [] := by
  subst hB
  exact World.ownsRow_made w #[] 0 (Nat.le_refl _) (Nat.zero_le _) (by simp)
/-- A slice that has just been made, empty, is the call's own. -/
theorem owns_empty (w : World) (e : TypeId) (size : Nat) : (w.alloc (.cells #[] e)).ownsRow w.heap.size e size (.slice (some ⟨w.heap.size, 0, none⟩) 0 0) 0 [] :=
  World.ownsRow_made w #[] 0 (Nat.le_refl _) (Nat.zero_le _) (by simp)
/-- Two slices of the call's own lie in different blocks. -/
def Apart (v u : Value) : Prop := ∀ k, v.ownBlock = some k → u.ownBlock ≠ some k
theorem Apart.symm {v u : Value} (h : Apart v u) : Apart u v := fun k e f => h k f e
theorem Apart.nil (u : Value) : Apart (.slice none 0 0) u := fun k e => by simp [Value.ownBlock] at e
theorem Apart.next {w : World} {v v' u : Value} {base : Nat} {e : TypeId} {size n : Nat} {xs : List Value} (h : Apart v u) (hu : w.ownsRow base e size u n xs) (hv : ∀ k, v'.ownBlock = some k → v.ownBlock = some k ∨ w.heap.size ≤ k) : Apart v' u := by
  intro k h1 h2
  rcases hv k h1 with h3 | h3
  · exact h k h3 h2
  · have := (hu.lt k h2).2
    omega
theorem Apart.kept {w w' : World} {v u : Value} {base : Nat} {e : TypeId} {size n : Nat} {xs : List Value} (h : Apart v u) (hu : w.ownsRow base e size u n xs) (hg : w.grownBy w' v.ownBlock) : w'.ownsRow base e size u n xs :=
  hu.kept hg (by cases hb : u.ownBlock with
    | none => exact .inl rfl
    | some k => exact .inr (fun e => h k e.symm hb))
theorem owns_kept {S : Nat → Prop} {w w' : World} {base : Nat} {e : TypeId} {size n : Nat} {v : Value} {xs : List Value} (h : w.ownsRow base e size v n xs) (ho : Only S w w') (hn : ∀ k, v.ownBlock = some k → ¬ S k) : w'.ownsRow base e size v n xs := by
  refine ⟨h.1, ?_⟩
  rcases h.2 with h2 | ⟨g, cap, cur, rfl, hb, hg, r⟩
  · exact .inl h2
  · exact .inr ⟨g, cap, cur, rfl, hb, ho.old hg (hn g rfl), r⟩
theorem owns_only {S : Nat → Prop} {w w' : World} {base : Nat} {e : TypeId} {size n : Nat} {v : Value} {xs : List Value} (h : w.ownsRow base e size v n xs) (ho : Only S w w') (hn : ∀ k, base ≤ k → ¬ S k) : w'.ownsRow base e size v n xs := by
  refine ⟨h.1, ?_⟩
  rcases h.2 with h2 | ⟨g, cap, cur, rfl, hb, hg, r⟩
  · exact .inl h2
  · exact .inr ⟨g, cap, cur, rfl, hb, ho.old hg (hn g hb), r⟩
/-- The cells of a block that has just been made, as an append wants them. -/
theorem news_new (w : World) (cs : List Value) (e : TypeId) : ∀ j u, cs[j]? = some u → (w.alloc (.cells cs.toArray e)).cell? ((⟨w.heap.size, 0, none⟩ : Addr).add j) = some u := by
  intro j u hu
  rw [Addr.add_lit, World.cell?_alloc_new]
  simpa using hu
/-- A slice literal. -/
theorem Sl.fresh (w : World) (cs : List Value) (e : TypeId) (n size : Nat) (h : cs.length = n * size) (hn : n ≤ maxLen) : Sl (w.alloc (.cells cs.toArray e)) size (.slice (some ⟨w.heap.size, 0, none⟩) n n) n cs :=
  ⟨h, _, n, rfl, Nat.le_refl _, hn, .inr ⟨w.heap.size, 0, rfl, fun j u hu => by
    rw [World.cell?_alloc_new]
    simpa using hu⟩⟩
theorem news_new' (w : World) (B : Nat) (hB : B = w.heap.size) (cs : List Value) (e : TypeId) : ∀ j u, cs[j]? = some u → (w.alloc (.cells cs.toArray e)).cell? ((⟨B, 0, none⟩ : Addr).add j) = some u := by
  subst hB
  exact news_new w cs e
/-- What is owned from the call's beginning on may have been written: nothing that was there has changed. -/
theorem Only.own {S : Nat → Prop} {a w w' : World} {e : TypeId} {size n base : Nat} {v : Value} {xs : List Value} (h : Only S a w) (hown : w.ownsRow base e size v n xs) (hb : a.heap.size ≤ base) (hg : w.grownBy w' v.ownBlock) : Only S a w' :=
  h.grown hg (fun k e => .inl (Nat.le_trans hb (hown.lt k e).1))
end Go.Proofs.YtjdlcfllmpdffaaDoor
/-! Strings: the walk's forms of comparisons. -/
namespace Go.Proofs.YtjdlcfllmpdffaaDoor
open Go.Conc Go.RowKit

theorem size_data (s : ByteArray) : s.data.toList.length = s.size := rfl
theorem empty_false {s : ByteArray} (h : s.size ≠ 0) : s.toList.isEmpty = false := by
  rw [ByteArray.toList_eq]
  cases hl : s.data.toList with
  | nil => exact absurd (by rw [← size_data, hl]; rfl) h
  | cons a r => rfl
theorem empty_true {s : ByteArray} (h : s.size = 0) : s.toList.isEmpty = true := by
  rw [ByteArray.toList_eq]
  cases hl : s.data.toList with
  | nil => rfl
  | cons a r => rw [← size_data, hl] at h; simp at h
theorem str_ext {a b : ByteArray} (h : a.data.toList = b.data.toList) : a = b := by
  cases a; cases b
  simp only [ByteArray.mk.injEq]
  exact Array.toList_inj.1 h
theorem str_ne {a b : ByteArray} (h : a ≠ b) : (a.toList == b.toList) = false := by
  rw [ByteArray.toList_eq, ByteArray.toList_eq, beq_eq_false_iff_ne]
  exact fun e => h (str_ext e)
theorem str_eq {a b : ByteArray} (h : a = b) : (a.toList == b.toList) = true := by
  subst h
  exact beq_self_eq_true _

/-- Bytes given as numbers. -/
def bytesOf (ns : List Int) : ByteArray := ⟨(ns.map fun n => UInt8.ofNat n.toNat).toArray⟩
theorem push_list (r : ByteArray) (b : UInt8) : (r.push b).data.toList = r.data.toList ++ [b] := by simp [ByteArray.push]
theorem foldl_bytes (ns : List Int) : ∀ r : ByteArray, (ns.foldl (fun r n => r.push (UInt8.ofNat n.toNat)) r).data.toList = r.data.toList ++ ns.map fun n => UInt8.ofNat n.toNat := by
  induction ns with
  | nil => intro r; simp
  | cons n ns ih =>
    intro r
    rw [List.foldl_cons, ih, push_list]
    simp
theorem foldl_bytesOf (ns : List Int) : ns.foldl (fun r n => r.push (UInt8.ofNat n.toNat)) ByteArray.empty = bytesOf ns := by
  apply str_ext
  rw [foldl_bytes]
  simp [bytesOf]
/-- string(b), b a slice of bytes. -/
theorem run_bytes_str {P : Program} {w : World} {src dst e : TypeId} {v : Value} {ns : List Int} (hs : P.underlying src = some (.slice e)) (he : P.underlying e = some (.int .u8)) (hd : P.underlying dst = some .string)
    (h : Sl w 1 v ns.length (ns.map (.int .u8))) : (convert src dst v).run P w = .ok (.string (bytesOf ns)) w := by
  obtain ⟨hl, a, cap, rfl, _, _, h5⟩ := h
  rw [run_convert_bytes_string w src dst e a ns.length cap hs he hd]
  have key : ∀ ad : Addr, (loadCells ad ns.length).run P w = .ok (ns.map (Value.int .u8)).toArray w → (Conv.bytesToString (.slice (some ad) ns.length cap)).run P w = .ok (.string (bytesOf ns)) w := by
    intro ad h
    rw [run_bytesToString w ad ns.length cap ns h, foldl_bytesOf]
  rcases h5 with h0 | ⟨b, off, rfl, hc⟩
  · obtain rfl : ns = [] := List.eq_nil_of_length_eq_zero h0
    cases a with
    | none => rfl
    | some ad => exact key ad rfl
  · refine key _ ?_
    have := run_loadCells_list (P := P) w ⟨b, off, none⟩ (ns.map (Value.int .u8)) (fun j u hu => by rw [Addr.add_lit]; exact hc j u hu)
    simpa using this
theorem run_bytes_new {P : Program} {src dst e : TypeId} (hs : P.underlying src = some (.slice e)) (he : P.underlying e = some (.int .u8)) (hd : P.underlying dst = some .string) (w : World) (B : Nat) (xs : List Int) (n : Nat) (hB : B = w.heap.size) (hn : n = xs.length) (hm : n ≤ maxLen) :
    (convert src dst (.slice (some ⟨B, 0, none⟩) n n)).run P (w.alloc (.cells (xs.map (.int .u8)).toArray e)) = .ok (.string (bytesOf xs)) (w.alloc (.cells (xs.map (.int .u8)).toArray e)) := by
  subst hB hn
  exact run_bytes_str hs he hd (Sl.fresh w _ e _ 1 (by simp) hm)
theorem run_bytes_new_drew {P : Program} {src dst e : TypeId} (hs : P.underlying src = some (.slice e)) (he : P.underlying e = some (.int .u8)) (hd : P.underlying dst = some .string) (w : World) (B : Nat) (xs : List Int) (n : Nat) (hB : B = w.heap.size) (hn : n = xs.length) (hm : n ≤ maxLen) :
    (convert src dst (.slice (some ⟨B, 0, none⟩) n n)).run P (w.alloc (.cells (xs.map (.int .u8)).toArray e)).drew = .ok (.string (bytesOf xs)) (w.alloc (.cells (xs.map (.int .u8)).toArray e)).drew := by
  subst hB hn
  exact run_bytes_str hs he hd ((Sl.fresh w _ e _ 1 (by simp) hm).new ((Only.refl _ _).drew))
end Go.Proofs.YtjdlcfllmpdffaaDoor
/-! A row of bytes as '[]byte(s)' lays it. -/
namespace Go.Proofs.YtjdlcfllmpdffaaDoor
open Go.Conc Go.RowKit

theorem set_at {w : World} {b : Nat} {cs : Array Value} {t : TypeId} {f : Nat × Nat} (h : w.heap[b]? = some (.cells cs t f)) (i : Nat) (u : Value) : (w.setCell ⟨b, i, none⟩ u).heap[b]? = some (.cells (cs.setIfInBounds i u) t f) := by
  have hlt := lt_of_block h
  have h' : w.heap[b] = .cells cs t f := by simpa [Array.getElem?_eq_getElem hlt] using h
  show (w.heap.modify b _)[b]? = _
  rw [Array.getElem?_eq_getElem (by simpa using hlt), Array.getElem_modify_self, h']
  rfl
/-- A row of bytes as '[]byte(s)' lays it: its first cells. -/
def Byt (w : World) (B N : Nat) (vs : List Value) : Prop :=
  ∃ cur, w.heap[B]? = some (.cells cur 5 (N, N + 1)) ∧ cur.size = N ∧ vs.length ≤ N ∧ cur.toList.take vs.length = vs
theorem Byt.cell {w : World} {B N : Nat} {vs : List Value} (h : Byt w B N vs) {j : Nat} {u : Value} (hu : vs[j]? = some u) : w.cell? ⟨B, j, none⟩ = some u := by
  obtain ⟨cur, h1, h2, h3, h4⟩ := h
  have hj : j < vs.length := (List.getElem?_eq_some_iff.1 hu).1
  rw [← h4, List.getElem?_take, if_pos hj] at hu
  rw [cell_at' h1]
  simpa using hu
where cell_at' {w : World} {b : Nat} {cs : Array Value} {t : TypeId} {f : Nat × Nat} (h : w.heap[b]? = some (.cells cs t f)) {i : Nat} : w.cell? ⟨b, i, none⟩ = cs[i]? := cell_at h i
theorem Byt.free {w : World} {B N : Nat} {vs : List Value} (h : Byt w B N vs) {j : Nat} (hj : j < vs.length) : w.frozen? ⟨B, j, none⟩ = false := by
  obtain ⟨cur, h1, h2, h3, h4⟩ := h
  simp only [World.frozen?, h1]
  have : ¬ N ≤ j := by omega
  simp [this]
theorem Byt.store {w : World} {B N : Nat} {vs : List Value} (h : Byt w B N vs) (j : Nat) (u : Value) : Byt (w.setCell ⟨B, j, none⟩ u) B N (vs.set j u) := by
  obtain ⟨cur, h1, h2, h3, h4⟩ := h
  refine ⟨_, set_at h1 _ u, by simpa using h2, by simpa using h3, ?_⟩
  rw [Array.toList_setIfInBounds, List.length_set, List.take_set, h4]
theorem Byt.kept {S : Nat → Prop} {w w' : World} {B N : Nat} {vs : List Value} (h : Byt w B N vs) (ho : Only S w w') (hn : ¬ S B) : Byt w' B N vs := by
  obtain ⟨cur, h1, h2⟩ := h
  exact ⟨cur, ho.old h1 hn, h2⟩
theorem Byt.lt {w : World} {B N : Nat} {vs : List Value} (h : Byt w B N vs) : B < w.heap.size := by
  obtain ⟨cur, h1, _⟩ := h
  exact lt_of_block h1
def byteVals (l : List UInt8) : List Value := l.map fun b => .int .u8 b.toNat
theorem Byt.new (w : World) (s : ByteArray) (cap : Nat) :
    Byt (w.alloc (.cells (bytesRow s cap) 5 ((bytesRow s cap).size, (bytesRow s cap).size + 1))).drew w.heap.size (bytesRow s cap).size (byteVals s.data.toList) := by
  have hl : (byteVals s.data.toList).length = s.size := by rw [byteVals, List.length_map]; rfl
  refine ⟨bytesRow s cap, heap_alloc_new w _, rfl, ?_, ?_⟩
  · rw [hl, bytesRow, Array.size_append, Array.size_map, Array.size_replicate]
    show s.data.size ≤ s.data.size + _
    omega
  · rw [bytesRow, Array.toList_append, Array.toList_map, List.take_append_of_le_length (Nat.le_of_eq (by simp [byteVals]))]
    rw [List.take_of_length_le (Nat.le_of_eq (by simp [byteVals]))]
    rfl
theorem Byt.sl {w : World} {B N n cap : Nat} {l : List UInt8} (h : Byt w B N (byteVals l)) (hn : n = l.length) (hc : n ≤ cap) (hm : cap ≤ maxLen) :
    Sl w 1 (.slice (some ⟨B, 0, none⟩) n cap) (l.map fun b => (b.toNat : Int)).length ((l.map fun b => (b.toNat : Int)).map (.int .u8)) := by
  subst hn
  rw [List.length_map]
  refine ⟨by simp, _, cap, rfl, hc, hm, .inr ⟨B, 0, rfl, fun j u hu => ?_⟩⟩
  rw [Nat.zero_add]
  refine h.cell ?_
  simpa [byteVals] using hu
theorem bytesOf_nat (l : List UInt8) : bytesOf (l.map fun b => (b.toNat : Int)) = ⟨l.toArray⟩ := by
  apply str_ext
  simp only [bytesOf, List.map_map]
  have e : ((fun n : Int => UInt8.ofNat n.toNat) ∘ fun b : UInt8 => (b.toNat : Int)) = id := funext fun b => by simp
  rw [e, List.map_id]

end Go.Proofs.YtjdlcfllmpdffaaDoor
/-! Maps as lists of entries: what a block holds that is a map, whatever its keys and elements. -/
namespace Go.Proofs.YtjdlcfllmpdffaaDoor
open Go.Conc Go.RowKit Go.Maps
open Go.ChangeMaps (notKey eq_of_perm_sorted rising_of_pairwise)

/-- How an element reads: as itself. -/
def heldE (v : Value) : Option (DataW Value × List MemPlace) := some (.held v, [])
section
variable {α β : Type}
def keyL (P : Program) (k : TypeId) (κ : α → Value) (a : α) : Lit := (keyOf P k (κ a)).getD .nil
def entL (P : Program) (k : TypeId) (κ : α → Value) (ε : β → Value) (p : α × β) : Lit × DataW Value := (keyL P k κ p.1, .held (ε p.2))
def mapD (P : Program) (k : TypeId) (κ : α → Value) (ε : β → Value) (L : List (α × β)) : DataW Value := .map ((L.map (entL P k κ ε)).foldr DataW.insert [])
/-- May a be a key? -/
def KeyOk (P : Program) (k : TypeId) (κ : α → Value) (a : α) : Prop := ∃ l, keyOf P k (κ a) = some l
/-- BLOCK b OF w IS A MAP OF JUST THESE ENTRIES (no key twice). -/
structure MapIs (P : Program) (k : TypeId) (κ : α → Value) (ε : β → Value) (w : World) (b : Nat) (L : List (α × β)) : Prop where
  own : w.ownsMap P k heldE b L.length (mapD P k κ ε L)
  apart : L.Pairwise (fun p q => p.1 ≠ q.1)
  keys : ∀ p ∈ L, KeyOk P k κ p.1
/-- What is there at a key. -/
def lookL [DecidableEq α] (L : List (α × β)) (x : α) : Option β := (L.find? (fun p => decide (p.1 = x))).map (·.2)
def dropL [DecidableEq α] (L : List (α × β)) (x : α) : List (α × β) := L.filter (fun p => !decide (p.1 = x))
def putL [DecidableEq α] (L : List (α × β)) (x : α) (v : β) : List (α × β) := dropL L x ++ [(x, v)]

theorem lookL_none [DecidableEq α] {L : List (α × β)} {x : α} (h : lookL L x = none) : ∀ p ∈ L, p.1 ≠ x := by
  intro p hp e
  simp only [lookL, Option.map_eq_none_iff, List.find?_eq_none] at h
  exact h p hp (by simpa using e)
theorem lookL_some [DecidableEq α] {L : List (α × β)} {x : α} {v : β} (h : lookL L x = some v) : (x, v) ∈ L := by
  simp only [lookL, Option.map_eq_some_iff] at h
  obtain ⟨p, hp, rfl⟩ := h
  have h1 := List.find?_some hp
  have h2 := List.mem_of_find?_eq_some hp
  obtain rfl : p.1 = x := by simpa using h1
  exact h2
theorem lookL_of_none [DecidableEq α] {L : List (α × β)} {x : α} (h : ∀ p ∈ L, p.1 ≠ x) : lookL L x = none := by
  simp only [lookL, Option.map_eq_none_iff, List.find?_eq_none]
  intro p hp
  simpa using h p hp
theorem lookL_of_mem [DecidableEq α] {L : List (α × β)} {x : α} {v : β} (ha : L.Pairwise (fun p q => p.1 ≠ q.1)) (h : (x, v) ∈ L) : lookL L x = some v := by
  induction L with
  | nil => cases h
  | cons p L ih =>
    obtain ⟨h1, h2⟩ := List.pairwise_cons.1 ha
    unfold lookL
    rcases List.mem_cons.1 h with e | h
    · rw [← e]; simp
    · have hne : p.1 ≠ x := h1 _ h
      rw [List.find?_cons_of_neg (by simpa using hne)]
      exact ih h2 h
theorem apart_perm {L L' : List (α × β)} (hp : L.Perm L') (h : L.Pairwise (fun p q => p.1 ≠ q.1)) : L'.Pairwise (fun p q => p.1 ≠ q.1) := (hp.pairwise_iff (fun {_ _} hne => Ne.symm hne)).1 h
theorem lookL_perm [DecidableEq α] {L L' : List (α × β)} (hp : L.Perm L') (ha : L.Pairwise (fun p q => p.1 ≠ q.1)) (x : α) : lookL L x = lookL L' x := by
  cases h : lookL L x with
  | none => exact (lookL_of_none (fun p hp' => lookL_none h p (hp.mem_iff.2 hp'))).symm
  | some v => exact (lookL_of_mem (apart_perm hp ha) (hp.mem_iff.1 (lookL_some h))).symm
theorem apart_drop [DecidableEq α] {L : List (α × β)} (h : L.Pairwise (fun p q => p.1 ≠ q.1)) (x : α) : (dropL L x).Pairwise (fun p q => p.1 ≠ q.1) := h.filter _
theorem mem_dropL [DecidableEq α] {L : List (α × β)} {x : α} {p : α × β} : p ∈ dropL L x ↔ p ∈ L ∧ p.1 ≠ x := by simp [dropL]
theorem apart_put [DecidableEq α] {L : List (α × β)} (h : L.Pairwise (fun p q => p.1 ≠ q.1)) (x : α) (v : β) : (putL L x v).Pairwise (fun p q => p.1 ≠ q.1) := by
  refine List.pairwise_append.2 ⟨apart_drop h x, by simp, fun p hp q hq => ?_⟩
  obtain rfl : q = (x, v) := by simpa using hq
  exact (mem_dropL.1 hp).2
theorem dropL_of_none [DecidableEq α] {L : List (α × β)} {x : α} (h : lookL L x = none) : dropL L x = L := List.filter_eq_self.2 (fun p hp => by simpa using lookL_none h p hp)
theorem length_dropL [DecidableEq α] {L : List (α × β)} {x : α} {v : β} (ha : L.Pairwise (fun p q => p.1 ≠ q.1)) (h : lookL L x = some v) : (dropL L x).length + 1 = L.length := by
  induction L with
  | nil => cases h
  | cons p L ih =>
    obtain ⟨h1, h2⟩ := List.pairwise_cons.1 ha
    by_cases e : p.1 = x
    · have hn : lookL L x = none := lookL_of_none (fun q hq => e ▸ (h1 q hq).symm)
      have := dropL_of_none hn
      simp only [dropL] at this ⊢
      rw [List.filter_cons_of_neg (by simp [e]), this]; rfl
    · have h' : lookL L x = some v := by
        unfold lookL at h ⊢
        rwa [List.find?_cons_of_neg (by simpa using e)] at h
      have := ih h2 h'
      simp only [dropL] at this ⊢
      rw [List.filter_cons_of_pos (by simpa using e)]
      simp; omega
theorem length_putL [DecidableEq α] {L : List (α × β)} (ha : L.Pairwise (fun p q => p.1 ≠ q.1)) (x : α) (v : β) : (putL L x v).length = if (lookL L x).isSome then L.length else L.length + 1 := by
  cases h : lookL L x with
  | none => simp [putL, dropL_of_none h]
  | some u => have := length_dropL ha h; simp [putL]; omega
theorem lookL_put_same [DecidableEq α] (L : List (α × β)) (x : α) (v : β) : lookL (putL L x v) x = some v := by
  have : (dropL L x).find? (fun p => decide (p.1 = x)) = none := by
    rw [List.find?_eq_none]; intro p hp; simpa using (mem_dropL.1 hp).2
  simp [lookL, putL, List.find?_append, this]
theorem find_drop [DecidableEq α] {L : List (α × β)} {x y : α} (h : y ≠ x) : (dropL L x).find? (fun p => decide (p.1 = y)) = L.find? (fun p => decide (p.1 = y)) := by
  unfold dropL
  induction L with
  | nil => rfl
  | cons p L ih =>
    by_cases e : p.1 = x
    · rw [List.filter_cons_of_neg (by simp [e]), ih, List.find?_cons_of_neg (by simp; exact fun h' => h (h'.symm.trans e))]
    · rw [List.filter_cons_of_pos (by simpa using e)]
      by_cases e' : p.1 = y
      · rw [List.find?_cons_of_pos (by simpa using e'), List.find?_cons_of_pos (by simpa using e')]
      · rw [List.find?_cons_of_neg (by simpa using e'), List.find?_cons_of_neg (by simpa using e'), ih]
theorem lookL_drop_other [DecidableEq α] (L : List (α × β)) {x y : α} (h : y ≠ x) : lookL (dropL L x) y = lookL L y := by unfold lookL; rw [find_drop h]
theorem lookL_drop_same [DecidableEq α] (L : List (α × β)) (x : α) : lookL (dropL L x) x = none := lookL_of_none (fun _ hp => (mem_dropL.1 hp).2)
theorem lookL_put_other [DecidableEq α] (L : List (α × β)) {x y : α} (h : y ≠ x) (v : β) : lookL (putL L x v) y = lookL L y := by
  unfold lookL putL
  rw [List.find?_append, find_drop h]
  have : (decide (x = y)) = false := by simpa using fun e => h e.symm
  simp [List.find?, this]

variable {P : Program} {k : TypeId} {κ : α → Value} {ε : β → Value} {w : World} {b : Nat} {L : List (α × β)}
theorem keyL_of {a : α} {l : Lit} (h : keyOf P k (κ a) = some l) : keyL P k κ a = l := by simp [keyL, h]
theorem keyL_ne (K : Keyed P k) (hκ : ∀ a b, κ a = κ b → a = b) {a c : α} (ha : KeyOk P k κ a) (hc : KeyOk P k κ c) (h : a ≠ c) : keyL P k κ a ≠ keyL P k κ c := by
  obtain ⟨l, hl⟩ := ha
  obtain ⟨m, hm⟩ := hc
  rw [keyL_of hl, keyL_of hm]
  rintro rfl
  exact h (hκ _ _ (K.inj hl hm))
theorem MapIs.ents (h : MapIs P k κ ε w b L) (K : Keyed P k) (hκ : ∀ a b, κ a = κ b → a = b) : (L.map (entL P k κ ε)).Pairwise (fun p q => p.1 ≠ q.1) := by
  rw [List.pairwise_map]
  have := h.apart
  refine List.Pairwise.imp_of_mem ?_ this
  intro p q hp hq hne
  exact keyL_ne K hκ (h.keys p hp) (h.keys q hq) hne
theorem MapIs.kinds (h : MapIs P k κ ε w b L) : Keys (KeysOf P k) (L.map (entL P k κ ε)) := by
  intro p hp
  obtain ⟨q, hq, rfl⟩ := List.mem_map.1 hp
  obtain ⟨l, hl⟩ := h.keys q hq
  exact ⟨κ q.1, by rw [hl]; exact congrArg some (keyL_of hl).symm⟩
theorem size_mapD : Maps.size (mapD P k κ ε L) = L.length := by simp [mapD, Maps.size, length_sorted]
theorem own_tight {D : DataW Value} {n : Nat} (h : w.ownsMap P k heldE b n D) : w.ownsMap P k heldE b (Maps.size D) D := by
  obtain ⟨es, clock, hb, F, _, rfl⟩ := h
  exact ⟨es, clock, hb, F, by simp [Maps.size, length_sorted], rfl⟩
theorem MapIs.made (w : World) : MapIs P k κ ε (w.alloc (.map #[] 0)) w.heap.size ([] : List (α × β)) :=
  ⟨World.ownsMap_made w P k heldE, List.Pairwise.nil, fun _ h => by cases h⟩
theorem MapIs.empty (h : w.heap[b]? = some (.map #[] 0)) : MapIs P k κ ε w b ([] : List (α × β)) :=
  ⟨⟨#[], 0, h, ⟨by simp, (World.ownsMap_made (H := Value) w P k heldE).elim fun es h2 => h2.elim fun c h3 => by
      have := h3.2.1.stamped
      have e1 : es = #[] := by
        have := h3.2.2.1
        exact Array.eq_empty_of_size_eq_zero (by omega)
      subst e1
      have e2 : c = 0 := by
        have hh := h3.1
        rw [heap_alloc_new] at hh
        cases hh; rfl
      subst e2
      exact this, by simp⟩, Nat.le_refl _, rfl⟩, List.Pairwise.nil, fun _ h => by cases h⟩
theorem MapIs.lt (h : MapIs P k κ ε w b L) : b < w.heap.size := h.own.lt
theorem MapIs.at {w' : World} (h : MapIs P k κ ε w b L) (hb : w'.heap[b]? = w.heap[b]?) : MapIs P k κ ε w' b L := by
  obtain ⟨es, clock, h1, h2⟩ := h.own
  exact ⟨⟨es, clock, hb.trans h1, h2⟩, h.apart, h.keys⟩
theorem MapIs.kept {S : Nat → Prop} {w' : World} (h : MapIs P k κ ε w b L) (ho : Only S w w') (hn : ¬ S b) : MapIs P k κ ε w' b L := h.at (ho.block b h.lt hn)
theorem MapIs.perm {L' : List (α × β)} (h : MapIs P k κ ε w b L) (K : Keyed P k) (hκ : ∀ a b, κ a = κ b → a = b) (hp : L.Perm L') : MapIs P k κ ε w b L' := by
  refine ⟨?_, apart_perm hp h.apart, fun p hp' => h.keys p (hp.mem_iff.2 hp')⟩
  have e : mapD P k κ ε L = mapD P k κ ε L' := by
    unfold mapD
    congr 1
    refine eq_of_perm_sorted ?_ (sorted_sorted K.one _ h.kinds (h.ents K hκ)) (sorted_sorted K.one _ (keys_perm (hp.map _) h.kinds) ?_)
    · exact (WideShapes.sorted_perm _).trans ((hp.map _).trans (WideShapes.sorted_perm _).symm)
    · exact ((hp.map _).pairwise_iff (fun {_ _} hne => Ne.symm hne)).1 (h.ents K hκ)
  rw [← e, ← hp.length_eq]
  exact h.own
/-- A look-up. -/
theorem MapIs.look [DecidableEq α] {t e : TypeId} (h : MapIs P k κ ε w b L) (K : Keyed P k) (hκ : ∀ a b, κ a = κ b → a = b) (ht : P.underlying t = some (.map k e)) {z : β} (hz : (zeroValue e).run P w = .ok (ε z) w) {x : α} (hx : KeyOk P k κ x) (c : Bool) :
    (Instr.lookup t (.map (some b)) (κ x) c).run P w = .ok (if c then .tuple #[ε ((lookL L x).getD z), .bool (lookL L x).isSome] else ε ((lookL L x).getD z)) w := by
  obtain ⟨kl, hkl⟩ := hx
  have hk : KeyOk P k κ x := ⟨kl, hkl⟩
  obtain ⟨es, clock, hb, F, _, hD⟩ := h.own
  have hat := WideShapes.atKey_sorted (L.map (entL P k κ ε)) (rising_of_pairwise _ (sorted_sorted K.one _ h.kinds (h.ents K hκ))) kl (K.key hkl)
  cases hl : lookL L x with
  | none =>
    have h0 := hat.1 (fun p hp => by
      obtain ⟨q, hq, rfl⟩ := List.mem_map.1 hp
      rw [← keyL_of hkl]
      exact keyL_ne K hκ (h.keys q hq) hk (lookL_none hl q hq))
    rcases Maps.fit_look c K ht hz hb F hkl with ⟨hrun, _, _⟩ | ⟨e0, y, _, _, _, hR, h1, _⟩
    · simpa using hrun
    · have e1 := h0 .nil
      have e2 := h1 .nil
      rw [← hD] at e2
      have e3 : y.1 = DataW.nil := e2.symm.trans e1
      obtain rfl : (DataW.held e0.val, ([] : List MemPlace)) = y := by simpa [heldE] using hR
      cases e3
  | some v =>
    have hm := lookL_some hl
    have h0 := hat.2 (entL P k κ ε (x, v)) (List.mem_map.2 ⟨_, hm, rfl⟩) (keyL_of hkl)
    rcases Maps.fit_look c K ht hz hb F hkl with ⟨_, _, h1⟩ | ⟨e0, y, _, _, hrun, hR, h1, _⟩
    · have e1 := h0 .nil
      have e2 := h1 .nil
      rw [← hD] at e2
      cases e2.symm.trans e1
    · have e1 := h0 .nil
      have e2 := h1 .nil
      rw [← hD] at e2
      obtain rfl : (DataW.held e0.val, ([] : List MemPlace)) = y := by simpa [heldE] using hR
      have e3 : e0.val = ε v := DataW.held.inj (e2.symm.trans e1)
      rw [e3] at hrun
      simpa using hrun
/-- A store. -/
theorem MapIs.store [DecidableEq α] {t e : TypeId} (h : MapIs P k κ ε w b L) (K : Keyed P k) (hκ : ∀ a b, κ a = κ b → a = b) (ht : P.underlying t = some (.map k e)) (hn : L.length < maxLen) {x : α} (hx : KeyOk P k κ x) (v : β) :
    ∃ w', (Instr.mapUpdate t (.map (some b)) (κ x) (ε v)).run P w = .ok () w' ∧ MapIs P k κ ε w' b (putL L x v) ∧ Only (fun i => i = b) w w' := by
  obtain ⟨kl, hkl⟩ := hx
  obtain ⟨w', h1, h2, h3⟩ := h.own.store (d := .held (ε v)) (ps := []) K ht hn hkl rfl
  have e : (mapD P k κ ε L).put kl (.held (ε v)) = mapD P k κ ε (putL L x v) := by
    unfold mapD
    rw [DataW.put_eq]
    congr 1
    refine (sorted_put K.one ⟨_, hkl⟩ h.kinds (h.ents K hκ) ?_).symm
    unfold putL
    rw [List.map_append]
    have : (dropL L x).map (entL P k κ ε) = (L.map (entL P k κ ε)).filter (notKey kl) := by
      rw [List.filter_map]
      congr 1
      refine List.filter_congr (fun p hp => ?_)
      have hi : notKey kl (entL P k κ ε p) = true ↔ keyL P k κ p.1 ≠ kl := notKey_iff (K.key hkl)
      rw [Function.comp_apply, Bool.eq_iff_iff, hi]
      constructor
      · intro hp'
        rw [← keyL_of hkl]
        exact keyL_ne K hκ (h.keys p hp) ⟨_, hkl⟩ (by simpa using hp')
      · intro hne
        have : p.1 ≠ x := by rintro e1; exact hne (by rw [e1]; exact keyL_of hkl)
        simpa using this
    rw [this]
    refine List.perm_append_comm.trans ?_
    rw [show [(x, v)].map (entL P k κ ε) = [(kl, DataW.held (ε v))] by simp [entL, keyL_of hkl]]
    exact List.Perm.refl _
  rw [e] at h2
  have hg := h3.grown
  refine ⟨w', h1, ⟨?_, apart_put h.apart x v, ?_⟩, ⟨hg.os, hg.tape, hg.output, hg.size, fun i hi hne => hg.block i hi (fun e => hne (by cases e; rfl))⟩⟩
  · have := own_tight h2; rwa [size_mapD] at this
  · intro p hp
    rcases List.mem_append.1 hp with hp | hp
    · exact h.keys p (mem_dropL.1 hp).1
    · obtain rfl : p = (x, v) := by simpa using hp
      exact ⟨_, hkl⟩
/-- A delete. -/
theorem MapIs.drop [DecidableEq α] {t e : TypeId} (h : MapIs P k κ ε w b L) (K : Keyed P k) (hκ : ∀ a b, κ a = κ b → a = b) (ht : P.underlying t = some (.map k e)) {x : α} (hx : KeyOk P k κ x) (ty : TypeId) :
    ∃ w', (Builtin.delete_ #[t, k] ty #[.map (some b), κ x]).run P w = .ok (.tuple #[]) w' ∧ MapIs P k κ ε w' b (dropL L x) ∧ Only (fun i => i = b) w w' := by
  obtain ⟨kl, hkl⟩ := hx
  obtain ⟨w', h1, h2, h3⟩ := h.own.drop K ht hkl ty
  have e : (mapD P k κ ε L).del kl = mapD P k κ ε (dropL L x) := by
    unfold mapD
    rw [DataW.del_eq]
    congr 1
    refine (sorted_del K.one h.kinds (h.ents K hκ) ?_).symm
    have : (dropL L x).map (entL P k κ ε) = (L.map (entL P k κ ε)).filter (notKey kl) := by
      rw [List.filter_map]
      congr 1
      refine List.filter_congr (fun p hp => ?_)
      have hi : notKey kl (entL P k κ ε p) = true ↔ keyL P k κ p.1 ≠ kl := notKey_iff (K.key hkl)
      rw [Function.comp_apply, Bool.eq_iff_iff, hi]
      constructor
      · intro hp'
        rw [← keyL_of hkl]
        exact keyL_ne K hκ (h.keys p hp) ⟨_, hkl⟩ (by simpa using hp')
      · intro hne
        have : p.1 ≠ x := by rintro e1; exact hne (by rw [e1]; exact keyL_of hkl)
        simpa using this
    rw [this]
  rw [e] at h2
  have hg := h3.grown
  refine ⟨w', h1, ⟨?_, apart_drop h.apart x, fun p hp => h.keys p (mem_dropL.1 hp).1⟩, ⟨hg.os, hg.tape, hg.output, hg.size, fun i hi hne => hg.block i hi (fun e => hne (by cases e; rfl))⟩⟩
  have := own_tight h2; rwa [size_mapD] at this
theorem MapIs.len {t e : TypeId} (h : MapIs P k κ ε w b L) (ht : P.underlying t = some (.map k e)) (ty : TypeId) : (Builtin.len_ #[t] ty #[.map (some b)]).run P w = .ok (.int .i64 (L.length : Nat)) w := by
  have := h.own.len ht ty
  rwa [size_mapD] at this
end

/-! at the operation, for the walk -/
section
variable {α β : Type} {P : Program} {k : TypeId} {κ : α → Value} {ε : β → Value} {b : Nat} {L : List (α × β)}
  {w : World} {ops : Array Oper} {rest : List Oper} {o : Oper} {a : Act} {Q : Exit → Act → World → Prop}
theorem wpList_mapLook [DecidableEq α] (hg : o.guard = none) (m x : Operand) (t : TypeId) (c : Bool) (hop : o.op = Op.lookup t m x c) {e : TypeId} (h : MapIs P k κ ε w b L) (K : Keyed P k) (hκ : ∀ a b, κ a = κ b → a = b) (ht : P.underlying t = some (.map k e))
    {z : β} (hz : (zeroValue e).run P w = .ok (ε z) w) (hm : a.eval m = .map (some b)) {y : α} (hx : a.eval x = κ y) (hy : KeyOk P k κ y)
    (hK : wpList P ops Q rest (a.put o.dst (if c then .tuple #[ε ((lookL L y).getD z), .bool (lookL L y).isSome] else ε ((lookL L y).getD z))) w) : wpList P ops Q (o :: rest) a w := by
  refine wpList_plain hg fun K' hK' => ?_
  have hrun := h.look K hκ ht hz hy c
  unfold Oper.wp
  generalize (if c then Value.tuple #[ε ((lookL L y).getD z), .bool (lookL L y).isSome] else ε ((lookL L y).getD z)) = r at hrun hK
  simp [execOp, hop, hm, hx, hrun, Result.andThen]
  exact hK' _ _ hK
theorem wpList_mapStore [DecidableEq α] (hg : o.guard = none) (m x v : Operand) (t : TypeId) (hop : o.op = Op.mapUpdate t m x v) {e : TypeId} (h : MapIs P k κ ε w b L) (K : Keyed P k) (hκ : ∀ a b, κ a = κ b → a = b) (ht : P.underlying t = some (.map k e))
    (hn : L.length < maxLen) (hm : a.eval m = .map (some b)) {y : α} (hx : a.eval x = κ y) (hy : KeyOk P k κ y) {u : β} (hv : a.eval v = ε u)
    (hK : ∀ w', MapIs P k κ ε w' b (putL L y u) → Only (fun i => i = b) w w' → wpList P ops Q rest (a.put o.dst undef) w') : wpList P ops Q (o :: rest) a w := by
  refine wpList_plain hg fun K' hK' => ?_
  obtain ⟨w', hrun, r1, r2⟩ := h.store K hκ ht hn hy u
  unfold Oper.wp
  simp [execOp, hop, hm, hx, hv, hrun, Result.andThen]
  exact hK' _ _ (hK w' r1 r2)
theorem wpList_mapDrop [DecidableEq α] (hg : o.guard = none) (m x : Operand) (t : TypeId) (hop : o.op = Op.call { callee := Callee.builtin Builtin.delete, args := #[m, x], argTypes := #[t, k] }) {e : TypeId} (h : MapIs P k κ ε w b L) (K : Keyed P k) (hκ : ∀ a b, κ a = κ b → a = b)
    (ht : P.underlying t = some (.map k e)) (hm : a.eval m = .map (some b)) {y : α} (hx : a.eval x = κ y) (hy : KeyOk P k κ y)
    (hK : ∀ w', MapIs P k κ ε w' b (dropL L y) → Only (fun i => i = b) w w' → wpList P ops Q rest (a.put o.dst (.tuple #[])) w') : wpList P ops Q (o :: rest) a w := by
  refine wpList_plain hg fun K' hK' => ?_
  obtain ⟨w', hrun, r1, r2⟩ := h.drop K hκ ht hy o.type
  unfold Oper.wp
  simp [execOp, hop, resolve, invoke, builtin, hm, hx, hrun, Result.andThen]
  exact hK' _ _ (hK w' r1 r2)
theorem wpList_mapLen (hg : o.guard = none) (m : Operand) (t : TypeId) (hop : o.op = Op.call { callee := Callee.builtin Builtin.len, args := #[m], argTypes := #[t] }) {e : TypeId} (h : MapIs P k κ ε w b L)
    (ht : P.underlying t = some (.map k e)) (hm : a.eval m = .map (some b))
    (hK : wpList P ops Q rest (a.put o.dst (.int .i64 (L.length : Nat))) w) : wpList P ops Q (o :: rest) a w := by
  refine wpList_plain hg fun K' hK' => ?_
  unfold Oper.wp
  simp [execOp, hop, resolve, invoke, builtin, hm, h.len ht o.type, Result.andThen]
  exact hK' _ _ hK
end
end Go.Proofs.YtjdlcfllmpdffaaDoor
/-! Slices of structs, whatever the struct: the cells of a list of elements, each of so many cells. -/
namespace Go.Proofs.YtjdlcfllmpdffaaDoor
open Go.Conc Go.RowKit

section
variable {α : Type} {size : Nat} {enc : α → List Value}
theorem fl_length (h : ∀ a, (enc a).length = size) (l : List α) : (l.flatMap enc).length = l.length * size := by
  induction l with
  | nil => simp
  | cons x l ih => rw [List.flatMap_cons, List.length_append, ih, h, List.length_cons, Nat.succ_mul]; omega
theorem fl_get (h : ∀ a, (enc a).length = size) (l : List α) (k : Nat) (hk : k < l.length) (i : Nat) (hi : i < size) : (l.flatMap enc)[k * size + i]? = (enc l[k])[i]? := by
  induction l generalizing k with
  | nil => exact absurd hk (by simp)
  | cons x l ih =>
    rw [List.flatMap_cons]
    cases k with
    | zero => rw [List.getElem?_append_left (by rw [h]; omega)]; simp
    | succ k =>
      rw [List.getElem?_append_right (by rw [h, Nat.succ_mul]; omega), h, show (k + 1) * size + i - size = k * size + i by rw [Nat.succ_mul]; omega]
      simpa using ih k (by simpa using hk)
theorem fl_take (h : ∀ a, (enc a).length = size) (l : List α) (k : Nat) : (l.flatMap enc).take (k * size) = (l.take k).flatMap enc := by
  induction l generalizing k with
  | nil => simp
  | cons x l ih =>
    cases k with
    | zero => simp
    | succ k =>
      rw [List.flatMap_cons, List.take_succ_cons, List.flatMap_cons, ← ih k, List.take_append, h, show (k + 1) * size - size = k * size by rw [Nat.succ_mul]; omega, List.take_of_length_le (by rw [h, Nat.succ_mul]; omega)]
theorem fl_drop (h : ∀ a, (enc a).length = size) (l : List α) (k : Nat) : (l.flatMap enc).drop (k * size) = (l.drop k).flatMap enc := by
  induction l generalizing k with
  | nil => simp
  | cons x l ih =>
    cases k with
    | zero => simp
    | succ k =>
      rw [List.flatMap_cons, List.drop_succ_cons, ← ih k, List.drop_append, h, show (k + 1) * size - size = k * size by rw [Nat.succ_mul]; omega, List.drop_of_length_le (by rw [h, Nat.succ_mul]; omega), List.nil_append]
theorem fl_one (h : ∀ a, ∀ u ∈ enc a, u.oneCell' = true) (l : List α) : ∀ u ∈ l.flatMap enc, u.oneCell' = true := by
  intro u hu
  obtain ⟨a, _, ha⟩ := List.mem_flatMap.1 hu
  exact h a u ha
/-- The cells of a slice of structs, for every index. -/
structure Cells (w : World) (size : Nat) (enc : α → List Value) (a : Option Addr) (l : List α) : Prop where
  out : l.length = 0 ∨ ∃ b off, a = some ⟨b, off, none⟩ ∧ ∀ k (hk : k < l.length), ∀ i u, (enc l[k])[i]? = some u → w.cell? ⟨b, off + k * size + i, none⟩ = some u
theorem Cells.at {w : World} {a : Option Addr} {l : List α} (h : Cells w size enc a l) (k : Nat) (hk : k < l.length) : ∃ b off, a = some ⟨b, off, none⟩ ∧ ∀ i u, (enc l[k])[i]? = some u → w.cell? ⟨b, off + k * size + i, none⟩ = some u := by
  rcases h.out with h | ⟨b, off, rfl, hc⟩
  · omega
  · exact ⟨b, off, rfl, fun i u hu => hc k hk i u hu⟩
/-- The cells of a slice of structs, for every index: its address once for all. -/
theorem Cells.once {w : World} {a : Option Addr} {l : List α} (h : Cells w size enc a l) (hl : 0 < l.length) : ∃ b off, a = some ⟨b, off, none⟩ ∧ ∀ k (hk : k < l.length), ∀ i u, (enc l[k])[i]? = some u → w.cell? ⟨b, off + k * size + i, none⟩ = some u := h.out.resolve_left (by omega)
theorem Cells.new {S : Nat → Prop} {w w' : World} {a : Option Addr} {l : List α} (h : Cells w size enc a l) (ho : Only S w w') (hn : ∀ p u, w.cell? p = some u → ¬ S p.block) : Cells w' size enc a l := by
  refine ⟨?_⟩
  rcases h.out with h | ⟨b, off, rfl, hc⟩
  · exact .inl h
  · exact .inr ⟨b, off, rfl, fun k hk i u hu => ho.cell (hc k hk i u hu) (hn _ _ (hc k hk i u hu))⟩
theorem Sl.cells {w : World} {v : Value} {l : List α} (hs : ∀ a, (enc a).length = size) (h : Sl w size v l.length (l.flatMap enc)) : ∃ a cap, v = .slice a l.length cap ∧ l.length ≤ cap ∧ cap ≤ maxLen ∧ Cells w size enc a l := by
  obtain ⟨_, a, cap, rfl, h3, h4, h5⟩ := h
  refine ⟨a, cap, rfl, h3, h4, ⟨?_⟩⟩
  rcases h5 with h5 | ⟨b, off, rfl, hc⟩
  · exact .inl h5
  · refine .inr ⟨b, off, rfl, fun k hk i u hu => ?_⟩
    have hi : i < size := by
      rw [← hs l[k]]
      exact (List.getElem?_eq_some_iff.1 hu).1
    have := hc (k * size + i) u (by rw [fl_get hs l k hk i hi]; exact hu)
    rwa [← Nat.add_assoc] at this
end
end Go.Proofs.YtjdlcfllmpdffaaDoor
/-! Rows that are written in place: several cells at once. -/
namespace Go.Proofs.YtjdlcfllmpdffaaDoor
open Go.Conc Go.RowKit

theorem setCells_block {g : Nat} {e : TypeId} {f : Nat × Nat} : ∀ (us : List Value) (o : Nat) (w : World) (cur : Array Value), w.heap[g]? = some (.cells cur e f) → o + us.length ≤ cur.size →
    (w.setCells g o us).heap[g]? = some (.cells (cur.toList.take o ++ us ++ cur.toList.drop (o + us.length)).toArray e f)
  | [], o, w, cur, h, ho => by
    rw [World.setCells]
    simpa using h
  | u :: us, o, w, cur, h, ho => by
    rw [World.setCells, setCells_block us (o + 1) _ _ (set_at h o u) (by simp at ho ⊢; omega)]
    have hlt : o < cur.toList.length := by simp at ho ⊢; omega
    have e1 : (cur.setIfInBounds o u).toList = cur.toList.take o ++ u :: cur.toList.drop (o + 1) := by
      rw [Array.toList_setIfInBounds, List.set_eq_take_append_cons_drop, if_pos hlt]
    have e2 : (cur.toList.take o).length = o := by rw [List.length_take]; omega
    rw [e1]
    congr 2
    have e3 : o + 1 - o = 1 := by omega
    have e4 : o + 1 + us.length - o = us.length + 1 := by omega
    have e6 : List.drop (o + 1 + us.length) (cur.toList.take o) = [] := List.drop_of_length_le (by rw [e2]; omega)
    have e7 : List.take (o + 1) (cur.toList.take o) = cur.toList.take o := List.take_of_length_le (by rw [e2]; omega)
    rw [List.take_append, e2, List.drop_append, e2, e3, e4, e6, e7]
    simp only [List.take_succ_cons, List.take_zero, List.drop_succ_cons, List.nil_append, List.drop_drop, List.append_assoc, List.cons_append, List.length_cons]
    have e5 : o + 1 + us.length = o + (us.length + 1) := by omega
    rw [e5]
theorem setCells_only (g : Nat) : ∀ (us : List Value) (o : Nat) (w : World), Only (fun i => i = g) w (w.setCells g o us)
  | [], _, w => Only.refl _ w
  | u :: us, o, w => by
    rw [World.setCells]
    exact ((Only.refl (fun i => i = g) w).setCell (p := ⟨g, o, none⟩) (.inr rfl) u).trans (setCells_only g us (o + 1) _)
/-- A block that is written anew, whole. -/
theorem lit_set {w : World} {b : Nat} {cs : Array Value} {t : TypeId} (h : w.heap[b]? = some (.cells cs t (0, 0))) (us : List Value) (hl : us.length = cs.size) :
    (w.setCells b 0 us).heap[b]? = some (.cells us.toArray t (0, 0)) ∧ Only (fun i => i = b) w (w.setCells b 0 us) := by
  refine ⟨?_, setCells_only b us 0 w⟩
  rw [setCells_block us 0 w cs h (by omega)]
  have e : cs.toList.drop (0 + us.length) = [] := List.drop_of_length_le (by simp; omega)
  rw [e, List.take_zero, List.nil_append, List.append_nil]
section
variable {w : World} {base g n cap size : Nat} {e : TypeId} {xs : List Value}
theorem row_block (h : w.ownsRow base e size (.slice (some ⟨g, 0, none⟩) n cap) n xs) : ∃ cur, w.heap[g]? = some (.cells cur e (0, 0)) ∧ base ≤ g ∧ n ≤ cap ∧ cap ≤ maxLen ∧ cur.size = cap * size ∧ cur.toList.take (n * size) = xs ∧ xs.length = n * size := by
  obtain ⟨h1, h2⟩ := h
  rcases h2 with ⟨h2, _⟩ | ⟨g', cap', cur, hv, hb, hg, hnc, hcm, hcs, ht⟩
  · cases h2
  · cases hv
    exact ⟨cur, hg, hb, hnc, hcm, hcs, ht, h1⟩
theorem row_over (h : w.ownsRow base e size (.slice (some ⟨g, 0, none⟩) n cap) n xs) (o : Nat) (us : List Value) (ho : o + us.length ≤ n * size) :
    (w.setCells g o us).ownsRow base e size (.slice (some ⟨g, 0, none⟩) n cap) n (xs.take o ++ us ++ xs.drop (o + us.length)) := by
  obtain ⟨cur, hg, hb, hnc, hcm, hcs, ht, hl⟩ := row_block h
  have hn : n * size ≤ cap * size := Nat.mul_le_mul_right _ hnc
  refine ⟨by simp; omega, .inr ⟨g, cap, _, rfl, hb, setCells_block us o w cur hg (by omega), hnc, hcm, by simp; omega, ?_⟩⟩
  subst ht
  have hcl : cur.toList.length = cap * size := by simpa using hcs
  generalize cur.toList = c at *
  generalize n * size = N at *
  generalize cap * size = C at *
  have e1 : (c.take o).length = o := by rw [List.length_take]; omega
  have e2 : (c.take o ++ us ++ c.drop (o + us.length)).take N = c.take o ++ us ++ (c.drop (o + us.length)).take (N - (o + us.length)) := by
    rw [List.take_append, List.take_of_length_le (by rw [List.length_append, e1]; omega), List.length_append, e1]
  show (c.take o ++ us ++ c.drop (o + us.length)).take N = _
  rw [e2, List.take_take, Nat.min_eq_left (by omega), List.drop_take]
theorem row_cut (h : w.ownsRow base e size (.slice (some ⟨g, 0, none⟩) n cap) n xs) {m : Nat} (hm : m ≤ n) : w.ownsRow base e size (.slice (some ⟨g, 0, none⟩) m cap) m (xs.take (m * size)) := by
  obtain ⟨cur, hg, hb, hnc, hcm, hcs, ht, hl⟩ := row_block h
  have hn : m * size ≤ n * size := Nat.mul_le_mul_right _ hm
  refine ⟨by simp; omega, .inr ⟨g, cap, cur, rfl, hb, hg, by omega, hcm, hcs, ?_⟩⟩
  subst ht
  rw [List.take_take, Nat.min_eq_left hn]
end
section
variable {α : Type} {size : Nat} {enc : α → List Value}
theorem fl_set (hs : ∀ a, (enc a).length = size) (l : List α) (k : Nat) (hk : k < l.length) (x : α) : (l.flatMap enc).take (k * size) ++ enc x ++ (l.flatMap enc).drop (k * size + (enc x).length) = (l.set k x).flatMap enc := by
  rw [fl_take hs, hs, show k * size + size = (k + 1) * size by rw [Nat.succ_mul], fl_drop hs, List.set_eq_take_append_cons_drop, if_pos hk, List.flatMap_append, List.flatMap_cons, List.append_assoc]
end
end Go.Proofs.YtjdlcfllmpdffaaDoor
/-! x & mask, plainly. -/
namespace Go.Proofs.YtjdlcfllmpdffaaDoor
open Go.Conc Go.RowKit

theorem and_i64 (a : Int) (m : Nat) (hm : m < 60) : bits .and .i64 a ((2 ^ m - 1 : Nat) : Int) = a % (2 ^ m : Nat) := by
  show IntKind.i64.wrap ((BitVec.ofInt 64 a &&& BitVec.ofInt 64 ((2 ^ m - 1 : Nat) : Int)).toNat : Int) = _
  have hp : 2 ^ m ≤ 2 ^ 60 := Nat.pow_le_pow_right (by omega) (by omega)
  have hp0 : 0 < 2 ^ m := Nat.two_pow_pos m
  rw [BitVec.toNat_and, BitVec.ofInt_natCast, BitVec.toNat_ofNat, Nat.mod_eq_of_lt (show 2 ^ m - 1 < 2 ^ 64 by omega), Nat.and_two_pow_sub_one_eq_mod, BitVec.toNat_ofInt]
  have h1 : ((a % ((2 ^ 64 : Nat) : Int)).toNat % 2 ^ m : Nat) < 2 ^ 60 := Nat.lt_of_lt_of_le (Nat.mod_lt _ hp0) hp
  have h2 : (((a % ((2 ^ 64 : Nat) : Int)).toNat % 2 ^ m : Nat) : Int) = a % (2 ^ m : Nat) := by
    rw [Int.natCast_emod, Int.toNat_of_nonneg (Int.emod_nonneg _ (by omega))]
    exact Int.emod_emod_of_dvd a (Int.natCast_dvd_natCast.2 (Nat.pow_dvd_pow 2 (by omega)))
  rw [← h2, IntKind.wrap_i64]
  omega
theorem and_u8 (a : Nat) (ha : a < 256) (m : Nat) (hm : m < 8) : bits .and .u8 (a : Int) ((2 ^ m - 1 : Nat) : Int) = ((a % 2 ^ m : Nat) : Int) := by
  show IntKind.u8.wrap ((BitVec.ofInt 8 (a : Int) &&& BitVec.ofInt 8 ((2 ^ m - 1 : Nat) : Int)).toNat : Int) = _
  have hp : 2 ^ m ≤ 2 ^ 7 := Nat.pow_le_pow_right (by omega) (by omega)
  have hp0 : 0 < 2 ^ m := Nat.two_pow_pos m
  rw [BitVec.toNat_and, BitVec.ofInt_natCast, BitVec.ofInt_natCast, BitVec.toNat_ofNat, BitVec.toNat_ofNat, Nat.mod_eq_of_lt (show a < 2 ^ 8 by omega), Nat.mod_eq_of_lt (show 2 ^ m - 1 < 2 ^ 8 by omega), Nat.and_two_pow_sub_one_eq_mod]
  have h1 : a % 2 ^ m < 2 ^ 7 := Nat.lt_of_lt_of_le (Nat.mod_lt _ hp0) hp
  rw [show IntKind.u8.wrap ((a % 2 ^ m : Nat) : Int) = ((a % 2 ^ m : Nat) : Int) % 256 from rfl]
  omega
theorem and3_i64 (a : Int) : bits .and .i64 a 3 = a % 4 := and_i64 a 2 (by omega)
theorem and1_u8 (a : Nat) (ha : a < 256) : bits .and .u8 (a : Int) 1 = ((a % 2 : Nat) : Int) := and_u8 a ha 1 (by omega)
theorem and3_u8 (a : Nat) (ha : a < 256) : bits .and .u8 (a : Int) 3 = ((a % 4 : Nat) : Int) := and_u8 a ha 2 (by omega)
end Go.Proofs.YtjdlcfllmpdffaaDoor
/-! Appends and blocks in regions that draw. -/
namespace Go.Proofs.YtjdlcfllmpdffaaDoor
open Go.Conc Go.RowKit

/-- append onto a slice of the call's own, as one step of a region that draws. -/
theorem step_append_src {P : Program} {ops : Array Oper} {o : Oper} {a : Act} {w : World} {K : Act → World → Prop} {Q : Exit → Act → World → Prop} {E : Prop} (hgd : o.guard = none) (s x : Operand) (t tx : TypeId)
    (ho : o.op = .call { callee := .builtin .append, args := #[s, x], argTypes := #[t, tx] })
    (base : Nat) (e : TypeId) (i : TypeInfo) (z : Value) (size bytes : Nat) (ht : P.underlying t = some (.slice e)) (hi : P.info? e = some i) (hz : i.zero = some z)
    (hsize : i.size = size) (hby : i.bytes = bytes) (hzs : z.cells.size = size)
    (v : Value) (n : Nat) (xs : List Value) (hv : a.eval s = v) (hown : w.ownsRow base e size v n xs) (xv : Value) (m : Nat) (news : List Value) (hx : a.eval x = xv) (hs : Src P size tx xv m news w)
    (h63 : n + m ≤ maxLen) (hbytes : (n + m) * bytes ≤ 140737488355328) (hbase : base ≤ w.heap.size)
    (h : ∀ v' w', w'.ownsRow base e size v' (n + m) (xs ++ news) → w.grownBy w' v.ownBlock → (∀ k, v.ownBlock = some k → base ≤ k) → K (a.put o.dst v') w') :
    if Region.wanted o (yielded ops a.tmps) = true then Oper.wp P o a w K Q else E := by
  have hw : Region.wanted o (yielded ops a.tmps) = true := by simp [Region.wanted, hgd]
  rw [if_pos hw]
  obtain ⟨v', w', hr, h2, h3, h4⟩ := run_append_src (P := P) w base t tx o.type e i z size bytes ht hi hz hsize hby hzs v n xs hown xv m news hs h63 hbytes hbase
  unfold Oper.wp execOp
  simp only [ho, resolve, invoke, builtin, Sem.run_bind, Sem.run_pure, Result.andThen_ok, List.map_toArray, List.map_cons, List.map_nil, hv, hx, hr]
  exact h v' w' h2 h3 (fun k e => (hown.lt k e).1)
theorem own_at {w : World} {g : Nat} {e : TypeId} (hg : w.heap[g]? = some (.cells #[] e)) (base size : Nat) (hb : base ≤ g) : w.ownsRow base e size (.slice (some ⟨g, 0, none⟩) 0 0) 0 [] :=
  ⟨by simp, .inr ⟨g, 0, #[], rfl, hb, hg, Nat.le_refl _, Nat.zero_le _, by simp, by simp⟩⟩
theorem news_at {w : World} {g : Nat} {e : TypeId} {cs : List Value} (hg : w.heap[g]? = some (.cells cs.toArray e)) : ∀ j u, cs[j]? = some u → w.cell? ((⟨g, 0, none⟩ : Addr).add j) = some u := by
  intro j u hu
  rw [Addr.add_lit, cell_at hg]
  simpa using hu

theorem heapA (w : World) (o : Obj) (B : Nat) (hB : B = w.heap.size) : (w.alloc o).drew.heap[B]? = some o := by subst hB; exact heap_alloc_new w o
theorem heapB (w : World) (o o' : Obj) (B : Nat) (hB : B = w.heap.size) : ((w.alloc o).alloc o').drew.heap[B]? = some o := by
  subst hB
  exact (Below.heap_alloc _ _ _ (by simp)).trans (heap_alloc_new w o)
theorem heapC (w : World) (o o' : Obj) (B : Nat) (hB : B = w.heap.size + 1) : ((w.alloc o).alloc o').drew.heap[B]? = some o' := by
  have h : B = (w.alloc o).heap.size := by simp [hB]
  subst h
  exact heap_alloc_new (w.alloc o) o'
theorem news_kept {w w1 : World} {g h : Nat} {e : TypeId} {cs : List Value} {r : Option Nat} (hw : w.grownBy w1 r) (hg : w.heap[h]? = some (.cells cs.toArray e)) (hr : r = some g) (hne : h ≠ g) : w1.heap[h]? = some (.cells cs.toArray e) := by
  rw [hw.block h (lt_of_block hg) (by rw [hr]; intro e; injection e with e; exact hne (by omega))]
  exact hg
end Go.Proofs.YtjdlcfllmpdffaaDoor
/-! Small laws for regions that make blocks: what is kept, the block behind a chain of stores. -/
namespace Go.Proofs.YtjdlcfllmpdffaaDoor
open Go.Conc Go.RowKit

theorem heldO {W w' : World} {C : World → Prop} (hC : ∀ w', Only (fun _ => False) W w' → C w') (h : Only (fun _ => False) W w') : Only (fun _ => False) W w' ∧ C w' := ⟨h, hC _ h⟩
theorem onlySet {W w : World} (h : Only (fun _ => False) W w) {c i : Nat} (hc : W.heap.size ≤ c) (v : Value) : Only (fun _ => False) W (w.setCell ⟨c, i, none⟩ v) := h.setCell (.inl hc) v
theorem blk_same {w : World} {b i : Nat} {cs : Array Value} {t : TypeId} {f : Nat × Nat} {v : Value} (h : w.heap[b]? = some (.cells cs t f)) : (w.setCell ⟨b, i, none⟩ v).heap[b]? = some (.cells (cs.setIfInBounds i v) t f) := set_at h i v
theorem blk_ne {w : World} {b c i : Nat} {v : Value} {x : Option Obj} (h : w.heap[b]? = x) (hn : c ≠ b) : (w.setCell ⟨c, i, none⟩ v).heap[b]? = x :=
  (Below.heap_setCell _ _ _ _ (Ne.symm hn)).trans h
theorem blk_new {w : World} {b : Nat} {o : Obj} (hb : b = w.heap.size) : (w.alloc o).heap[b]? = some o := by subst hb; exact heap_alloc_new w o
theorem blk_old {w : World} {o : Obj} {b : Nat} {x : Obj} (h : w.heap[b]? = some x) : (w.alloc o).heap[b]? = some x := (Below.heap_alloc _ _ _ (lt_of_block h)).trans h
theorem blk_drew {w : World} {b : Nat} {x : Option Obj} (h : w.heap[b]? = x) : w.drew.heap[b]? = x := h
theorem size_alloc (w : World) (o : Obj) : (w.alloc o).heap.size = w.heap.size + 1 := by simp
theorem size_set (w : World) (p : Addr) (v : Value) : (w.setCell p v).heap.size = w.heap.size := by simp
theorem size_drew (w : World) : w.drew.heap.size = w.heap.size := rfl
theorem sz_alloc {w : World} {o : Obj} {b : Nat} (h : b = w.heap.size) : b + 1 = (w.alloc o).heap.size := by rw [size_alloc, h]
theorem sz_set {w : World} {p : Addr} {v : Value} {b : Nat} (h : b = w.heap.size) : b = (w.setCell p v).heap.size := by rw [size_set, h]
theorem sz_drew {w : World} {b : Nat} (h : b = w.heap.size) : b = w.drew.heap.size := h
theorem two_new (w : World) (o o' : Obj) : ((w.alloc o).alloc o').heap[w.heap.size]? = some o ∧ ((w.alloc o).alloc o').heap[w.heap.size + 1]? = some o' := by
  refine ⟨blk_old (heap_alloc_new w o), ?_⟩
  have := heap_alloc_new (w.alloc o) o'
  simpa using this
/-- A callee that changes nothing, in a region that only reads. -/
theorem quiet_id {P : Program} {f : FuncId} {args : Array Value} {w : World} {n : Nat} {v : Value}
    (h : Calls P f args (w.drewN n) fun e w' => e = .returned v ∧ w.drewN n = w') : Calls P f args (w.drewN n) fun e w'' => e = .returned v ∧ ∃ m, w'' = w.drewN m :=
  h.mono fun _ _ ⟨he, hm⟩ => ⟨he, n, hm.symm⟩
theorem row_form {w : World} {base n size : Nat} {e : TypeId} {v : Value} {xs : List Value} (h : w.ownsRow base e size v n xs) (hn : xs ≠ []) :
    ∃ g cap cur, v = .slice (some ⟨g, 0, none⟩) n cap ∧ base ≤ g ∧ w.heap[g]? = some (.cells cur e (0, 0)) ∧ n ≤ cap ∧ cap ≤ maxLen ∧ cur.size = cap * size ∧ cur.toList.take (n * size) = xs := by
  obtain ⟨h1, h2⟩ := h
  rcases h2 with ⟨h2, rfl⟩ | ⟨g, cap, cur, hv, hb, hg, hnc, hcm, hcs, ht⟩
  · exact absurd (List.eq_nil_of_length_eq_zero (by simpa using h1)) hn
  · exact ⟨g, cap, cur, hv, hb, hg, hnc, hcm, hcs, ht⟩
end Go.Proofs.YtjdlcfllmpdffaaDoor
/-! From a walk that returns true and touches nothing that was there to the row's post; the arguments' readings as 'Sl'. -/
namespace Go.Proofs.YtjdlcfllmpdffaaDoor
open Go.Conc Go.RowKit Go.ChangeShapes Go.WideShapes Go.ChangeAt Go.WideMaps Go.WideElems

theorem trodAll_stays {H : Type} {enc : TypeId × Value → H} {P : Program} (hl : laidOutB P = true) {W W' : World} (hb : Below W.heap.size W W') :
    ∀ (ts : List TypeId) (vs : List Value) (ds : List (DataW H)) (ps : List MemPlace), (∀ t ∈ ts, P.readableRec t = true ∧ t < P.types.size) →
      DataW.TrodAll enc P W 0 (fun _ => true) true ts vs ds ps → (∀ x ∈ ps, x.block < W.heap.size) → DataW.TrodAll enc P W' 0 (fun b => decide (b < W.heap.size)) true ts vs ds ps
  | [], [], [], _, _, h, _ => h
  | t :: ts, v :: vs, d :: ds, _, ht, h, hlt => by
    obtain ⟨p, q, h1, h2, rfl⟩ := h
    obtain ⟨r1, r2⟩ := ht t (by simp)
    exact ⟨p, q, Below.trod hl r1 r2 h1 hb (fun x hx => hlt x (by simp [hx])), trodAll_stays hl hb ts vs ds q (fun t' h' => ht t' (by simp [h'])) h2 (fun x hx => hlt x (by simp [hx])), rfl⟩

/-- THE POST OF A LAW: it has returned true, and below the heap's old size nothing has changed. -/
theorem law_post {H : Type} {enc : TypeId × Value → H} {P : Program} {f : Func} {s : ChangeSpec} {apart fresh handsOn : Bool} {W W' : World} {args : Array Value} {ds gs : List (DataW H)} {before : List MemPlace} {tb : TypeId}
    (hW : DataW.Whole enc P f.params.toList s.vars apart W args.toList ds gs before) (hb : Below W.heap.size W W') (hl : laidOutB P = true) (hr : ∀ t ∈ f.params.toList, P.readableRec t = true ∧ t < P.types.size)
    (hrt : f.resultTypes = #[tb]) (htb : P.underlying tb = some .bool) (hv : s.vars = []) (e1 : (s.fn H (ds ++ gs)).results = [.lit (.bool true)]) (e2 : (s.fn H (ds ++ gs)).args = ds) (e3 : (s.fn H (ds ++ gs)).vars = []) :
    s.post enc P f apart fresh handsOn false W args (.bool true) W' := by
  have hW' := hW
  obtain ⟨p, q, hA, hV, rfl, _, _⟩ := hW
  rw [hv] at hV
  obtain ⟨rfl, rfl⟩ := trodVars_none hV
  simp only [List.append_nil] at hW' e1 e2 e3
  have hlt : ∀ x ∈ p, x.block < W.heap.size := fun x hx => by simpa using hW'.lt x hx
  refine ⟨ds, [], p, [], p, [], hW', ?_, ?_, ?_, hb.frame _, fun h => by cases h⟩
  · rw [List.append_nil, e1, hrt]
    exact trodAll_mk1 (shut_bool htb _)
  · rw [List.append_nil, e2]
    exact trodAll_stays hl hb _ _ _ _ hr hA hlt
  · rw [List.append_nil, e3, hv]
    rfl

theorem spot_of {w : World} {a : Addr} {u : Value} (h : w.cell? a = some u) : a.spot = none := World.cell?_spot h

section
variable {H : Type} {enc : TypeId × Value → H} {P : Program} {w : World} {base : Nat} {spare : Nat → Bool} {held : Bool} {t e : TypeId} {v : Value} {d : DataW H} {ps : List MemPlace}

theorem sl_of_row {size : Nat} {a : Addr} {len cap : Nat} {xs : List Value} (hsz : 0 < size) (hx : xs.length = len * size) (hl : len ≤ cap) (hm : cap ≤ maxLen) (hc : ∀ j u, xs[j]? = some u → w.cell? (a.add j) = some u) : Sl w size (.slice (some a) len cap) len xs := by
  refine ⟨hx, _, cap, rfl, hl, hm, ?_⟩
  by_cases h0 : len = 0
  · exact .inl h0
  · have hpos : 0 < xs.length := by rw [hx]; exact Nat.mul_pos (by omega) hsz
    have h1 := hc 0 xs[0] (by simp)
    obtain ⟨b, off, spot⟩ := a
    have hs : spot = none := by simpa [Addr.add] using World.cell?_spot h1
    subst hs
    exact .inr ⟨b, off, rfl, fun j u hu => by rw [← Addr.add_lit]; exact hc j u hu⟩

/-- A slice of integers that came in. -/
theorem sl_ints {k : IntKind} (ht : P.underlying t = some (.slice e)) (he : P.underlying e = some (.int k)) (hc : P.cellsOf e = 1) (hok : Value.okWide P w .any base t v) (h : DataW.Trod enc P w 0 (fun _ => true) held t v d ps) :
    ∃ zs : List Int, Sl w 1 v zs.length (zs.map (.int k)) ∧ ∀ z ∈ zs, (Lit.int k z).wf = true := by
  obtain ⟨a0, n0, c0, rfl⟩ := okWide_slice ht hok
  obtain ⟨fuel, hf⟩ := h
  rcases open_ints ht he hc hf with ⟨hcs, -⟩ | ⟨a, len', cap', zs, hcs, _, hl, hm, hz, -, hcell, hwz⟩
  · simp [Value.cells] at hcs
    obtain ⟨rfl, rfl, rfl⟩ := hcs
    exact ⟨[], Sl.nil _ _, by simp⟩
  · simp [Value.cells] at hcs
    obtain ⟨rfl, rfl, rfl⟩ := hcs
    simp only [if_true] at hz
    have hlen : (zs.take n0).length = n0 := by rw [List.length_take]; omega
    refine ⟨zs.take n0, ?_, fun z h => hwz z (List.mem_of_mem_take h)⟩
    refine (sl_of_row (by decide) (by simp; omega) hl hm ?_ : Sl w 1 _ n0 _).cast hlen.symm
    intro j u hu
    simp only [List.getElem?_map, Option.map_eq_some_iff] at hu
    obtain ⟨z, hz1, rfl⟩ := hu
    have hj : j < n0 := by have := (List.getElem?_eq_some_iff.1 hz1).1; omega
    rw [hcell j (by omega)]
    rw [List.getElem?_take] at hz1
    rw [if_pos hj] at hz1
    simp [List.getD, hz1]

/-- A slice of strings that came in. -/
theorem sl_strs (ht : P.underlying t = some (.slice e)) (he : P.underlying e = some .string) (hc : P.cellsOf e = 1) (hok : Value.okWide P w .any base t v) (h : DataW.Trod enc P w 0 (fun _ => true) held t v d ps) :
    ∃ ss : List ByteArray, Sl w 1 v ss.length (ss.map .string) ∧ ∀ s ∈ ss, s.size ≤ maxLen := by
  obtain ⟨a0, n0, c0, rfl⟩ := okWide_slice ht hok
  obtain ⟨fuel, hf⟩ := h
  rcases open_strings ht he hc hf with ⟨hcs, -⟩ | ⟨a, len', cap', zs, hcs, _, hl, hm, hz, -, hcell, hwz⟩
  · simp [Value.cells] at hcs
    obtain ⟨rfl, rfl, rfl⟩ := hcs
    exact ⟨[], Sl.nil _ _, by simp⟩
  · simp [Value.cells] at hcs
    obtain ⟨rfl, rfl, rfl⟩ := hcs
    simp only [if_true] at hz
    have hlen : (zs.take n0).length = n0 := by rw [List.length_take]; omega
    refine ⟨zs.take n0, ?_, fun z h => hwz z (List.mem_of_mem_take h)⟩
    refine (sl_of_row (by decide) (by simp; omega) hl hm ?_ : Sl w 1 _ n0 _).cast hlen.symm
    intro j u hu
    simp only [List.getElem?_map, Option.map_eq_some_iff] at hu
    obtain ⟨z, hz1, rfl⟩ := hu
    have hj : j < n0 := by have := (List.getElem?_eq_some_iff.1 hz1).1; omega
    rw [hcell j (by omega)]
    rw [List.getElem?_take] at hz1
    rw [if_pos hj] at hz1
    simp [List.getD, hz1]
theorem sl_strs_cell {fuel : Nat} {x : DataW H × List MemPlace} (ht : P.underlying t = some (.slice e)) (he : P.underlying e = some .string) (hc : P.cellsOf e = 1) (hf : DataW.trod enc P w 0 (fun _ => true) held fuel t [v] = some x) :
    ∃ ss : List ByteArray, Sl w 1 v ss.length (ss.map .string) ∧ ∀ s ∈ ss, s.size ≤ maxLen := by
  rcases open_strings ht he hc hf with ⟨hcs, -⟩ | ⟨a, n0, cap', zs, hcs, _, hl, hm, hz, -, hcell, hwz⟩
  · simp at hcs
    subst hcs
    exact ⟨[], Sl.nil _ _, by simp⟩
  · simp at hcs
    subst hcs
    simp only [if_true] at hz
    have hlen : (zs.take n0).length = n0 := by rw [List.length_take]; omega
    refine ⟨zs.take n0, ?_, fun z h => hwz z (List.mem_of_mem_take h)⟩
    refine (sl_of_row (by decide) (by simp; omega) hl hm ?_ : Sl w 1 _ n0 _).cast hlen.symm
    intro j u hu
    simp only [List.getElem?_map, Option.map_eq_some_iff] at hu
    obtain ⟨z, hz1, rfl⟩ := hu
    have hj : j < n0 := by have := (List.getElem?_eq_some_iff.1 hz1).1; omega
    rw [hcell j (by omega)]
    rw [List.getElem?_take] at hz1
    rw [if_pos hj] at hz1
    simp [List.getD, hz1]
/-- A slice of slices of strings that came in (they may share memory). -/
theorem sl_rows {s : TypeId} (ht : P.underlying t = some (.slice e)) (he : P.underlying e = some (.slice s)) (hs : P.underlying s = some .string) (hc : P.cellsOf e = 1) (hc2 : P.cellsOf s = 1) (hok : Value.okWide P w .any base t v) (h : DataW.Trod enc P w 0 (fun _ => true) held t v d ps) :
    ∃ xs : List Value, Sl w 1 v xs.length xs ∧ ∀ x ∈ xs, ∃ l : List ByteArray, Sl w 1 x l.length (l.map .string) ∧ ∀ s ∈ l, s.size ≤ maxLen := by
  obtain ⟨a0, n0, c0, rfl⟩ := okWide_slice ht hok
  obtain ⟨fuel, hf⟩ := h
  rcases Deep.open_slice1 ht hc hf with ⟨hcs, -⟩ | ⟨a, len', cap', m, n, V, D, Pl, hcs, _, hl, hm, hmm, -, hel⟩
  · simp [Value.cells] at hcs
    obtain ⟨rfl, rfl, rfl⟩ := hcs
    exact ⟨[], Sl.nil _ _, by simp⟩
  · simp [Value.cells] at hcs
    obtain ⟨rfl, rfl, rfl⟩ := hcs
    simp only [if_true] at hmm
    refine ⟨(List.range n0).map V, ?_, fun x hx => ?_⟩
    · refine (sl_of_row (by decide) (by simp) hl hm ?_ : Sl w 1 _ n0 _).cast (by simp)
      intro j u hu
      simp only [List.getElem?_map, Option.map_eq_some_iff] at hu
      obtain ⟨i, hi1, rfl⟩ := hu
      obtain ⟨hi2, hi3⟩ := List.getElem?_eq_some_iff.1 hi1
      simp at hi2 hi3
      subst hi3
      exact (hel j (by omega)).1
    · obtain ⟨i, hi, rfl⟩ := List.mem_map.1 hx
      have hi : i < n0 := by simpa using hi
      exact sl_strs_cell he hs hc2 (hel i (by omega)).2
/-- A slice of bools that came in. -/
theorem sl_bools (ht : P.underlying t = some (.slice e)) (he : P.underlying e = some .bool) (hc : P.cellsOf e = 1) (hok : Value.okWide P w .any base t v) (h : DataW.Trod enc P w 0 (fun _ => true) held t v d ps) :
    ∃ zs : List Bool, Sl w 1 v zs.length (zs.map .bool) := by
  obtain ⟨a0, n0, c0, rfl⟩ := okWide_slice ht hok
  obtain ⟨fuel, hf⟩ := h
  rcases Deep.open_slice1 ht hc hf with ⟨hcs, -⟩ | ⟨a, len', cap', m, n, V, D, Pl, hcs, _, hl, hm, hmm, -, hel⟩
  · simp [Value.cells] at hcs
    obtain ⟨rfl, rfl, rfl⟩ := hcs
    exact ⟨[], Sl.nil _ _⟩
  · simp [Value.cells] at hcs
    obtain ⟨rfl, rfl, rfl⟩ := hcs
    simp only [if_true] at hmm
    have each : ∀ i, i < n0 → ∃ b : Bool, w.cell? (a.add i) = some (.bool b) := by
      intro i hi
      obtain ⟨h1, h2⟩ := hel i (by omega)
      obtain ⟨b, h3, -⟩ := DataW.trod_bool he h2
      simp at h3
      exact ⟨b, by rw [h1, h3]⟩
    obtain ⟨f, hf2⟩ := Deep.choose_lt each
    refine ⟨(List.range n0).map f, ?_⟩
    refine (sl_of_row (by decide) (by simp) hl hm ?_ : Sl w 1 _ n0 _).cast (by simp)
    intro j u hu
    simp only [List.map_map, List.getElem?_map, Option.map_eq_some_iff] at hu
    obtain ⟨i, hi1, rfl⟩ := hu
    obtain ⟨hi2, hi3⟩ := List.getElem?_eq_some_iff.1 hi1
    simp at hi2 hi3
    subst hi3
    simpa using hf2 j hi2
end
end Go.Proofs.YtjdlcfllmpdffaaDoor
/-! A slice of structs that came in, read as rows of cells. -/
namespace Go.Proofs.YtjdlcfllmpdffaaDoor
open Go.Conc Go.RowKit Go.ChangeShapes Go.WideShapes Go.ChangeAt Go.WideMaps Go.WideElems

theorem rows_get {size : Nat} : ∀ (rows : List (List Value)), (∀ r ∈ rows, r.length = size) → ∀ (i j : Nat) (hi : i < rows.length), j < size → rows.flatten[i * size + j]? = rows[i][j]?
  | [], _, i, _, hi, _ => absurd hi (by simp)
  | r :: rows, h, i, j, hi, hj => by
    have hr : r.length = size := h r (by simp)
    rw [List.flatten_cons]
    cases i with
    | zero => rw [List.getElem?_append_left (by omega)]; simp
    | succ i =>
      rw [List.getElem?_append_right (by rw [hr, Nat.succ_mul]; omega), hr, show (i + 1) * size + j - size = i * size + j by rw [Nat.succ_mul]; omega]
      simpa using rows_get rows (fun r' h' => h r' (by simp [h'])) i j (by simpa using hi) hj
theorem rows_length {size : Nat} : ∀ (rows : List (List Value)), (∀ r ∈ rows, r.length = size) → rows.flatten.length = rows.length * size
  | [], _ => by simp
  | r :: rows, h => by
    rw [List.flatten_cons, List.length_append, rows_length rows (fun r' h' => h r' (by simp [h'])), h r (by simp), List.length_cons, Nat.succ_mul]; omega
section
variable {H : Type} {enc : TypeId × Value → H} {P : Program} {w : World} {base : Nat} {held : Bool} {t e : TypeId} {v : Value} {d : DataW H} {ps : List MemPlace}
/-- A slice of elements of some cells each that came in: what is read of each (Q). -/
theorem sl_structs {size : Nat} {Q : List Value → Prop} (ht : P.underlying t = some (.slice e)) (hc : P.cellsOf e = size) (hsz : 0 < size) (hok : Value.okWide P w .any base t v) (h : DataW.Trod enc P w 0 (fun _ => true) held t v d ps)
    (hdec : ∀ n cs x, DataW.trod enc P w 0 (fun _ => true) held n e cs = some x → Q cs) :
    ∃ rows : List (List Value), Sl w size v rows.length rows.flatten ∧ ∀ r ∈ rows, r.length = size ∧ Q r := by
  obtain ⟨a0, n0, c0, rfl⟩ := okWide_slice ht hok
  obtain ⟨fuel, hf⟩ := h
  rcases Deep.open_slice ht hf with ⟨hcs, -⟩ | ⟨a, len', cap', m, n, D, Pl, hcs, _, hl, hm, hmm, -, hel⟩
  · simp [Value.cells] at hcs
    obtain ⟨rfl, rfl, rfl⟩ := hcs
    exact ⟨[], Sl.nil _ _, by simp⟩
  · simp [Value.cells] at hcs
    obtain ⟨rfl, rfl, rfl⟩ := hcs
    simp only [if_true] at hmm
    have each : ∀ i, i < n0 → ∃ cs : List Value, cs.length = size ∧ Q cs ∧ ∀ j, j < size → w.cell? ((a.add (i * size)).add j) = cs[j]? := by
      intro i hi
      obtain ⟨cs, h1, h2⟩ := hel i (by omega)
      rw [hc] at h1
      obtain ⟨_, h3, h4⟩ := World.cells?_some h1
      exact ⟨cs, h3, hdec _ _ _ h2, h4⟩
    obtain ⟨f, hf2⟩ := Deep.choose_lt each
    refine ⟨(List.range n0).map f, ?_, fun r hr => ?_⟩
    · have hrl : ∀ r ∈ (List.range n0).map f, r.length = size := fun r hr => by
        obtain ⟨i, hi, rfl⟩ := List.mem_map.1 hr
        exact (hf2 i (by simpa using hi)).1
      have hfl := rows_length _ hrl
      rw [List.length_map, List.length_range] at hfl
      refine (sl_of_row hsz hfl hl hm ?_ : Sl w size _ n0 _).cast (by simp)
      intro j u hu
      have hj : j < n0 * size := by rw [← hfl]; exact (List.getElem?_eq_some_iff.1 hu).1
      have hq : j / size < n0 := Nat.div_lt_of_lt_mul (by rw [Nat.mul_comm]; exact hj)
      have hr : j % size < size := Nat.mod_lt _ hsz
      have hj2 : j = j / size * size + j % size := by rw [Nat.mul_comm]; exact (Nat.div_add_mod j size).symm
      have h3 := (hf2 _ hq).2.2 _ hr
      rw [Deep.add_add, ← hj2] at h3
      rw [h3, ← hu]
      have h4 := rows_get _ hrl (j / size) (j % size) (by simpa using hq) hr
      rw [← hj2] at h4
      rw [h4]
      simp
    · obtain ⟨i, hi, rfl⟩ := List.mem_map.1 hr
      have := hf2 i (by simpa using hi)
      exact ⟨this.1, this.2.1⟩
end
end Go.Proofs.YtjdlcfllmpdffaaDoor
/-! Arrays that came in. -/
namespace Go.Proofs.YtjdlcfllmpdffaaDoor
open Go.Conc Go.RowKit Go.ChangeShapes Go.WideShapes Go.ChangeAt Go.WideMaps Go.WideElems

section
variable {H : Type} {enc : TypeId × Value → H} {P : Program} {w : World} {base : Nat} {spare : Nat → Bool} {held : Bool} {t e : TypeId} {v : Value} {d : DataW H} {ps : List MemPlace}

theorem arr_open {n : Nat} (ht : P.underlying t = some (.array n e)) (hc : P.cellsOf e = 1) (hct : P.cellsOf t = n) (hok : Value.okWide P w .any base t v) (h : DataW.Trod enc P w 0 spare held t v d ps) :
    ∃ cs : Array Value, v = .agg cs ∧ cs.size = n ∧ ∀ (i : Nat) (u : Value), cs[i]? = some u → ∃ (m : Nat) (x : DataW H × List MemPlace), DataW.trod enc P w 0 spare held m e [u] = some x := by
  simp only [Value.okWide, ht] at hok
  obtain ⟨cs, rfl, hsz, -⟩ := hok
  obtain ⟨fuel, hf⟩ := h
  obtain ⟨xs, m, _, _, hl, hlen, hel⟩ := DataW.trod_array ht hf
  refine ⟨cs, rfl, by rw [hsz, hct], fun i u hu => ?_⟩
  have hi : i < cs.size := (Array.getElem?_eq_some_iff.1 hu).1
  have hin : i < n := by rw [hsz, hct] at hi; exact hi
  have h1 := hel i hin
  rw [hc, Nat.mul_one] at h1
  have h2 : ((Value.agg cs).cells.toList.drop i).take 1 = [u] := by
    show (cs.toList.drop i).take 1 = [u]
    have hi2 : i < cs.toList.length := by simpa using hi
    rw [List.drop_eq_getElem_cons hi2]
    have := (Array.getElem?_eq_some_iff.1 hu).2
    simp [this]
  rw [h2, List.getElem?_eq_getElem (by omega)] at h1
  exact ⟨m, _, h1⟩
theorem arr_ints {n : Nat} {k : IntKind} (ht : P.underlying t = some (.array n e)) (he : P.underlying e = some (.int k)) (hc : P.cellsOf e = 1) (hct : P.cellsOf t = n) (hok : Value.okWide P w .any base t v) (h : DataW.Trod enc P w 0 spare held t v d ps) :
    ∃ zs : List Int, zs.length = n ∧ v = .agg (zs.map (.int k)).toArray ∧ ∀ z ∈ zs, (Lit.int k z).wf = true := by
  obtain ⟨cs, rfl, hsz, hel⟩ := arr_open ht hc hct hok h
  have each : ∀ i, i < n → ∃ z : Int, cs[i]? = some (.int k z) ∧ (Lit.int k z).wf = true := by
    intro i hi
    have hi2 : i < cs.size := by omega
    obtain ⟨m, x, hx⟩ := hel i cs[i] (by simp [hi2])
    obtain ⟨z, h3, _, h4⟩ := DataW.trod_int he hx
    simp at h3
    exact ⟨z, by rw [Array.getElem?_eq_getElem hi2, h3], h4⟩
  obtain ⟨f, hf2⟩ := Deep.choose_lt each
  refine ⟨(List.range n).map f, by simp, ?_, ?_⟩
  · congr 1
    apply Array.ext
    · simp [hsz]
    · intro i h1 h2
      have := (hf2 i (by omega)).1
      rw [Array.getElem?_eq_getElem h1] at this
      simp only [Option.some.injEq] at this
      simp [this]
  · intro z hz
    obtain ⟨i, hi, rfl⟩ := List.mem_map.1 hz
    exact (hf2 i (by simpa using hi)).2
theorem arr_strs {n : Nat} (ht : P.underlying t = some (.array n e)) (he : P.underlying e = some .string) (hc : P.cellsOf e = 1) (hct : P.cellsOf t = n) (hok : Value.okWide P w .any base t v) (h : DataW.Trod enc P w 0 spare held t v d ps) :
    ∃ zs : List ByteArray, zs.length = n ∧ v = .agg (zs.map .string).toArray ∧ ∀ z ∈ zs, z.size ≤ maxLen := by
  obtain ⟨cs, rfl, hsz, hel⟩ := arr_open ht hc hct hok h
  have each : ∀ i, i < n → ∃ z : ByteArray, cs[i]? = some (.string z) ∧ z.size ≤ maxLen := by
    intro i hi
    have hi2 : i < cs.size := by omega
    obtain ⟨m, x, hx⟩ := hel i cs[i] (by simp [hi2])
    obtain ⟨z, h3, _, h4⟩ := DataW.trod_string he hx
    simp at h3
    exact ⟨z, by rw [Array.getElem?_eq_getElem hi2, h3], h4⟩
  obtain ⟨f, hf2⟩ := Deep.choose_lt each
  refine ⟨(List.range n).map f, by simp, ?_, ?_⟩
  · congr 1
    apply Array.ext
    · simp [hsz]
    · intro i h1 h2
      have := (hf2 i (by omega)).1
      rw [Array.getElem?_eq_getElem h1] at this
      simp only [Option.some.injEq] at this
      simp [this]
  · intro z hz
    obtain ⟨i, hi, rfl⟩ := List.mem_map.1 hz
    exact (hf2 i (by simpa using hi)).2
end
theorem list2 {α : Type} {l : List α} (h : l.length = 2) : ∃ x y, l = [x, y] := by
  match l, h with
  | [x, y], _ => exact ⟨x, y, rfl⟩
theorem list3 {α : Type} {l : List α} (h : l.length = 3) : ∃ x y z, l = [x, y, z] := by
  match l, h with
  | [x, y, z], _ => exact ⟨x, y, z, rfl⟩
theorem list4 {α : Type} {l : List α} (h : l.length = 4) : ∃ x y z u, l = [x, y, z, u] := by
  match l, h with
  | [x, y, z, u], _ => exact ⟨x, y, z, u, rfl⟩
theorem nat_u32 {z : Int} (h : (Lit.int .u32 z).wf = true) : ∃ n : Nat, z = (n : Int) ∧ n < 2 ^ 32 := by
  simp [Lit.wf, IntKind.min, IntKind.max, IntKind.signed, IntKind.bits] at h
  exact ⟨z.toNat, by omega, by omega⟩
theorem nat_u64 {z : Int} (h : (Lit.int .u64 z).wf = true) : ∃ n : Nat, z = (n : Int) ∧ n < 2 ^ 64 := by
  simp [Lit.wf, IntKind.min, IntKind.max, IntKind.signed, IntKind.bits] at h
  exact ⟨z.toNat, by omega, by omega⟩
theorem nat_u16 {z : Int} (h : (Lit.int .u16 z).wf = true) : ∃ n : Nat, z = (n : Int) ∧ n < 65536 := by
  simp [Lit.wf, IntKind.min, IntKind.max, IntKind.signed, IntKind.bits] at h
  exact ⟨z.toNat, by omega, by omega⟩
theorem nat_u8 {z : Int} (h : (Lit.int .u8 z).wf = true) : ∃ n : Nat, z = (n : Int) ∧ n < 256 := by
  simp [Lit.wf, IntKind.min, IntKind.max, IntKind.signed, IntKind.bits] at h
  exact ⟨z.toNat, by omega, by omega⟩
end Go.Proofs.YtjdlcfllmpdffaaDoor
/-! The step from a walk to a row that lists tables, with the world's shape at hand. -/
namespace Go.Proofs.YtjdlcfllmpdffaaDoor
open Go.Conc Go.RowKit Go.ChangeShapes Go.WideShapes Go.ChangeAt

theorem returns_laid {a : Assume} {C : Checked} {os : Os} {f : FuncId} {fn : Func} {s : ChangeSpec} {conds : List PathCond} {apart fresh handsOn again : Bool} {H : Type} {enc : TypeId × Value → H} {X : World → Array Value → Prop}
    (hX : ∀ (w w' : World) (args : Array Value), w.heap = w'.heap → X w args → X w' args) (own : ownKnob C.prog.godebug = none) (started : os.Started) (noInit : C.prog.inits.idxOf? f = none) (hfn : C.prog.funcs[f]? = some fn)
    (witness : ∃ (w : World) (tape : Tape) (i : Input), w.os = os ∧ (w.forCall tape i).Shaped C.prog ∧ i.vars = [] ∧ Input.okWide C.prog (w.forCall tape i) .any w.heap.size f i ∧
      ((s.pre enc C.prog fn conds apart (w.forCall tape i).memory i.args ∧ X (w.forCall tape i).memory i.args) ∧ sizedMet enc C.prog fn (OpenSpec.ofChange s) apart (w.forCall tape i).memory i.args) ∧ a.holds C.prog (lone (Frame.enter C.prog f i.args .normal) [] (w.forCall tape i)))
    (walk : ∀ (W : World) (base : Nat) (args : Array Value) (ds gs : List (DataW H)) (before : List MemPlace),
      (∀ (j : Nat) t v, fn.params[j]? = some t → args[j]? = some v → Value.okWide C.prog W .any base t v) → DataW.Whole enc C.prog fn.params.toList s.vars apart W args.toList ds gs before →
      X W args → W.ShapedOpen C.prog → Calls C.prog f args W fun e W' => ∃ v, e = .returned v ∧ s.post enc C.prog fn apart fresh handsOn again W args v W') :
    ReturnsInHanded a C os f .any (fun w args => (s.pre enc C.prog fn conds apart w args ∧ X w args) ∧ sizedMet enc C.prog fn (OpenSpec.ofChange s) apart w args) (s.post enc C.prog fn apart fresh handsOn again) := by
  refine returnsInHanded_of_calls own started noInit witness fun w tape i _ hsh _ hok hpre _ => ?_
  obtain ⟨_, _, _, fn', h1, _, _, _, _, hval⟩ := hok
  obtain rfl : fn' = fn := Option.some.inj (h1.symm.trans hfn)
  obtain ⟨⟨⟨ds, gs, before, hw, _⟩, hx⟩, _⟩ := hpre
  refine (walk (w.forCall tape i) w.heap.size i.args ds gs before hval (DataW.Whole.of_heap (w' := w.forCall tape i) (by rfl) hw) (hX _ _ _ (by rfl) hx) hsh).mono fun e W' ⟨v, he, hp⟩ => ?_
  subst he
  exact ChangeSpec.post_blind hp
theorem ownD : ownKnob Tryd.prog.godebug = none := by kernel_rfl
theorem laidOutD : laidOutB Tryd.prog = true := by kernel_rfl
theorem maxLen_cell (W : World) (h : W.ShapedOpen Tryd.prog) : ∃ m, W.cell? ⟨0, 0, none⟩ = some (.int .i64 m) := Tryd.laysM219.s1_3 W h
end Go.Proofs.YtjdlcfllmpdffaaDoor
