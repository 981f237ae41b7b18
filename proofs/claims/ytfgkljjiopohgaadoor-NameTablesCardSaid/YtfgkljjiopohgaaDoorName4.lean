/- A table's map as a function; place and note. -/
import Derived.Test.YtfgkljjiopohgaaDoorName2
import Derived.Maps.OwnSet
import Derived.Maps.OwnOps
import Derived.Maps.Views
namespace Go.Proofs.YtfgkljjiopohgaaDoor
open Go.Conc Go.RowKit

theorem keyLit (k : List UInt8) : WideAt.IsKeyLit (.string k) := by simp [WideAt.IsKeyLit]
/-- A map from strings to ints reads as this function. -/
def Reps (D : DataW Unit) (f : List UInt8 → Option Int) : Prop :=
  Maps.IsMap D ∧ ∀ k, Maps.has D (.string k) = (f k).isSome ∧ ∀ c, f k = some c → D.atKey (.string k) (.lit (.int .i64 0)) = .lit (.int .i64 c)
def upd (f : List UInt8 → Option Int) (k : List UInt8) (c : Int) : List UInt8 → Option Int := fun x => if x = k then some c else f x
theorem Reps.empty : Reps (.map []) (fun _ => none) := ⟨Maps.isMap_empty, fun _ => ⟨rfl, fun _ h => by cases h⟩⟩
theorem Reps.put {D : DataW Unit} {f : List UInt8 → Option Int} (h : Reps D f) (k : List UInt8) (c : Int) : Reps (D.put (.string k) (.lit (.int .i64 c))) (upd f k c) := by
  refine ⟨h.1.put _ _, fun x => ?_⟩
  unfold upd
  by_cases hx : x = k
  · subst hx
    rw [if_pos rfl]
    refine ⟨Maps.has_put_same h.1 (keyLit _) _, fun c' hc => ?_⟩
    simp only [Option.some.injEq] at hc
    subst hc
    exact Maps.atKey_put_same h.1 (keyLit _) _ _
  · rw [if_neg hx]
    have hne : Lit.string x ≠ Lit.string k := fun e => hx (by injection e)
    refine ⟨by rw [Maps.has_put_other hne]; exact (h.2 x).1, fun c' hc => ?_⟩
    rw [Maps.atKey_put_other hne]
    exact (h.2 x).2 c' hc

def TabMap (w : World) (m : Value) (bm : Option Nat) (n : Nat) (f : List UInt8 → Option Int) : Prop :=
  (m = .map none ∧ bm = none ∧ f = fun _ => none) ∨ ∃ b D, m = .map (some b) ∧ bm = some b ∧ w.ownsMap Tryd.prog 9 (plainElem Tryd.prog 3) b n D ∧ Reps D f
/-- A table: its block t, its map's block, a bound on its entries, what it says. -/
structure TabAt (w : World) (t : Nat) (bm : Option Nat) (n : Nat) (f : List UInt8 → Option Int) : Prop where
  ex : ∃ m, w.heap[t]? = some (.cells #[m] 41 (0, 0)) ∧ TabMap w m bm n f
theorem ownsMap_only {S : Nat → Prop} {P : Program} {k : TypeId} {R : Value → Option (DataW Unit × List MemPlace)} {b n : Nat} {D : DataW Unit} {w w' : World} (h : w.ownsMap P k R b n D) (ho : Only S w w') (hn : ¬ S b) : w'.ownsMap P k R b n D := by
  have hlt := h.lt
  obtain ⟨es, clock, hb, F, hs, hD⟩ := h
  exact ⟨es, clock, (ho.block b hlt hn).trans hb, F, hs, hD⟩
theorem TabAt.kept {S : Nat → Prop} {w w' : World} {t : Nat} {bm : Option Nat} {n : Nat} {f : List UInt8 → Option Int} (h : TabAt w t bm n f) (ho : Only S w w') (ht : ¬ S t) (hb : ∀ b, bm = some b → ¬ S b) : TabAt w' t bm n f := by
  obtain ⟨m, h1, h2⟩ := h
  refine ⟨m, ho.old h1 ht, ?_⟩
  rcases h2 with h2 | ⟨b, D, e1, e2, h3, h4⟩
  · exact .inl h2
  · exact .inr ⟨b, D, e1, e2, ownsMap_only h3 ho (hb b e2), h4⟩
theorem TabAt.lt {w : World} {t : Nat} {bm : Option Nat} {n : Nat} {f : List UInt8 → Option Int} (h : TabAt w t bm n f) : t < w.heap.size ∧ ∀ b, bm = some b → b < w.heap.size := by
  obtain ⟨m, h1, h2⟩ := h
  refine ⟨lt_of_block h1, fun b hb => ?_⟩
  rcases h2 with ⟨_, h3, _⟩ | ⟨b', D, _, e2, h3, _⟩
  · rw [h3] at hb; cases hb
  · rw [e2] at hb; cases hb; exact h3.lt

theorem TabAt.more {w : World} {t : Nat} {bm : Option Nat} {n n' : Nat} {f : List UInt8 → Option Int} (h : TabAt w t bm n f) (hn : n ≤ n') : TabAt w t bm n' f := by
  obtain ⟨m, h1, h2⟩ := h
  refine ⟨m, h1, ?_⟩
  rcases h2 with h2 | ⟨b, D, e1, e2, h3, h4⟩
  · exact .inl h2
  · exact .inr ⟨b, D, e1, e2, h3.mono hn, h4⟩
theorem zeroInt (w : World) : (zeroValue 3).run Tryd.prog w = .ok (.int .i64 0) w := by kernel_rfl
theorem strKeyed : Maps.Keyed Tryd.prog 9 := Maps.string_keyed Tryd.underlying9

theorem place_none (w : World) (k : ByteArray) : Calls Tryd.prog 36 #[.pointer none, .string k] w fun e w' => e = .returned (.tuple #[.int .i64 0, .bool false]) ∧ w = w' := by
  go_enter Tryd.func36, Tryd.ntmps36
  go_wp2_with fail
  go_ret2
  exact ⟨rfl, rfl⟩
theorem place_empty (w : World) (t : Nat) (k : ByteArray) (h : k.size = 0) : Calls Tryd.prog 36 #[.pointer (some ⟨t, 0, none⟩), .string k] w fun e w' => e = .returned (.tuple #[.int .i64 0, .bool false]) ∧ w = w' := by
  have e0 := empty_true h
  clear h
  go_enter Tryd.func36, Tryd.ntmps36
  go_wp2_with fail
  go_ret2
  exact ⟨rfl, rfl⟩

set_option maxRecDepth 100000 in
theorem place_any (w : World) (t : Nat) (bm : Option Nat) (n : Nat) (f : List UInt8 → Option Int) (k : ByteArray) (h : TabAt w t bm n f) (h0 : k.size ≠ 0) (hk : k.size ≤ maxLen) :
    Calls Tryd.prog 36 #[.pointer (some ⟨t, 0, none⟩), .string k] w fun e w' => ∃ c, e = .returned (.tuple #[.int .i64 c, .bool (f k.data.toList).isSome]) ∧ w = w' ∧ (∀ c', f k.data.toList = some c' → c = c') := by
  have e0 := empty_false h0
  obtain ⟨m, h1, h2⟩ := h
  have hc := cell_at h1 0
  have hcc : w.cell? ⟨t, 0, none⟩ = some m := hc
  clear hc h0
  rcases h2 with ⟨rfl, rfl, hf⟩ | ⟨b, D, rfl, rfl, hown, hr⟩
  · have hfk : f k.data.toList = none := by rw [hf]
    have Hf := Lib.hid hfk
    clear hf hfk
    have hnil := fun w : World => Maps.look_nil (w := w) true strKeyed Tryd.underlying39 (zeroInt w) (WideMaps.keyOf_string_mk Tryd.underlying9 hk)
    go_enter Tryd.func36, Tryd.ntmps36
    go_wp2_with fail
    go_ret2
    exact ⟨0, by rw [Hf.out]; rfl, rfl, fun c' h => by rw [Hf.out] at h; cases h⟩
  · have Hr := Lib.hid hr
    have hkey := WideMaps.keyOf_string_mk Tryd.underlying9 hk
    clear hr
    go_enter Tryd.func36, Tryd.ntmps36
    go_wp2_with (at_lookup; refine Wait.mk ?_)
    refine Wait.go (wpList_lookup_own_ok_int _ rfl (.tmp 18) (.tmp 19) 39 rfl 9 3 .i64 strKeyed Tryd.underlying39 Tryd.underlying3 (zeroInt _) b n D rfl hown _ _ rfl hkey ?_)
    intro c hat hwc
    have Hat := Lib.hid hat
    clear hat
    have hh := (Hr.out.2 k.data.toList).1
    rw [hh]
    go_wp2_with fail
    go_ret2
    refine ⟨c, rfl, rfl, fun c' hc => ?_⟩
    have := (Hr.out.2 k.data.toList).2 c' hc
    rw [Hat.out] at this
    injection this with e1
    injection e1

theorem note_none (w : World) (k : ByteArray) (c : Int) : Calls Tryd.prog 37 #[.pointer none, .string k, .int .i64 c] w fun e w' => e = .returned (.tuple #[]) ∧ w = w' := by
  go_enter Tryd.func37, Tryd.ntmps37
  go_wp2_with fail
  refine (place_none _ _).mono ?_
  rintro e w' ⟨rfl, rfl⟩
  go_wp2_with fail
  refine bodyPost_ret (results_none rfl _ _ _) rfl ?_
  exact ⟨rfl, rfl⟩

/-- What a table says behind note. -/
def noted (f : List UInt8 → Option Int) (k : List UInt8) (c : Int) : List UInt8 → Option Int := if (f k).isSome = true ∨ 16384 ≤ c then f else upd f k c

def NotePost (w w' : World) (t : Nat) (bm : Option Nat) (n : Nat) (f : List UInt8 → Option Int) : Prop :=
  ∃ bm', Only (fun x => x = t ∨ bm = some x) w w' ∧ TabAt w' t bm' n f ∧ ∀ b, bm' = some b → bm = some b ∨ w.heap.size ≤ b
set_option maxRecDepth 100000 in
theorem note_any (w : World) (t : Nat) (bm : Option Nat) (n : Nat) (f : List UInt8 → Option Int) (k : ByteArray) (c : Int) (h : TabAt w t bm n f) (h0 : k.size ≠ 0) (hk : k.size ≤ maxLen) (hn : n < 100000) (c0 : 0 ≤ c) (c1 : c ≤ 1000000) :
    Calls Tryd.prog 37 #[.pointer (some ⟨t, 0, none⟩), .string k, .int .i64 c] w fun e w' => e = .returned (.tuple #[]) ∧ NotePost w w' t bm (n + 1) (noted f k.data.toList c) := by
  have hkk := WideMaps.keyOf_string_mk Tryd.underlying9 hk
  go_enter Tryd.func37, Tryd.ntmps37
  go_wp2_with fail
  refine (place_any _ t bm n f k h h0 hk).mono ?_
  rintro e w' ⟨c2, rfl, rfl, hc2⟩
  have Hc2 := Lib.hid hc2
  clear hc2
  generalize hfs : (f k.data.toList).isSome = b at *
  have Hfs := Lib.hid hfs
  have H := h
  clear hfs h0
  cases b with
  | true =>
    go_wp2_with fail
    refine bodyPost_ret (results_none rfl _ _ _) rfl ?_
    refine ⟨rfl, bm, Only.refl _ _, ?_, fun b hb => .inl hb⟩
    rw [noted, if_pos (.inl Hfs.out)]
    exact H.more (by omega)
  | false =>
    by_cases hbig : 16384 ≤ c
    · have e1 : decide ((16384 : Int) ≤ c) = true := by simp; omega
      go_wp2_with fail
      refine bodyPost_ret (results_none rfl _ _ _) rfl ?_
      refine ⟨rfl, bm, Only.refl _ _, ?_, fun b hb => .inl hb⟩
      rw [noted, if_pos (.inr hbig)]
      exact H.more (by omega)
    · have e1 : decide ((16384 : Int) ≤ c) = false := by simp; omega
      obtain ⟨m, h1, h2⟩ := h
      have hcc : w.cell? ⟨t, 0, none⟩ = some m := cell_at h1 0
      have hff := free_at h1 0
      have htl := lt_of_block h1
      have hval := plainElem_int (H := Unit) Tryd.underlying3 (q := .i64) (a := c) (by simp [Lit.wf, IntKind.min, IntKind.max, IntKind.signed, IntKind.bits]; omega)
      have hq := fun (w : World) (r : Option Nat) => run_eql_map_nil (P := Tryd.prog) w 39 _ _ r Tryd.underlying39
      rcases h2 with ⟨rfl, rfl, hf⟩ | ⟨b, D, rfl, rfl, hown, hr⟩
      · have Hf := Lib.hid hf
        have hmm := @run_makeMap Tryd.prog
        clear hf
        go_wp2_with (at_mapUpdate; refine Wait.mk ?_)
        have hmade := World.ownsMap_made (w.setCell ⟨t, 0, none⟩ (.map (some w.heap.size))) Tryd.prog 9 (plainElem (H := Unit) Tryd.prog 3)
        rw [World.size_setCell] at hmade
        refine Wait.go (wpList_mapUpdate_own _ rfl (.tmp 35) (.tmp 36) (.tmp 37) 39 rfl 9 3 strKeyed Tryd.underlying39 (plainElem (H := Unit) Tryd.prog 3) w.heap.size 0 (.map []) rfl hmade (by unfold maxLen; omega) _ _ _ rfl rfl hkk _ [] hval ?_)
        intro w1 hown1 hgr1
        have ho : Only (· = t) w ((w.setCell ⟨t, 0, none⟩ (.map (some w.heap.size))).alloc (.map #[] 0)) := ((Only.refl (· = t) w).setCell (S := (· = t)) (p := ⟨t, 0, none⟩) (Or.inr rfl) _).alloc _
        have ho1 : Only (· = t) w w1 := ho.grown hgr1 (fun k e => .inl (by injection e with e; omega))
        have hblk : w1.heap[t]? = some (.cells #[.map (some w.heap.size)] 41 (0, 0)) := by
          rw [hgr1.block t (by simp; omega) (by simp; omega), Below.heap_alloc _ _ _ (by simp; exact htl)]
          exact one_setCell h1
        go_wp2_with fail
        go_end0
        refine ⟨rfl, some w.heap.size, ho1.weaken (fun k _ e => .inl e), ⟨_, hblk, .inr ⟨w.heap.size, _, rfl, rfl, hown1.mono (by omega), ?_⟩⟩, fun b e => .inr (by injection e with e; omega)⟩
        rw [noted, if_neg (by rw [Hfs.out]; simp; omega), Hf.out]
        exact Reps.empty.put _ _
      · have Hr := Lib.hid hr
        clear hr
        go_wp2_with (at_mapUpdate; refine Wait.mk ?_)
        refine Wait.go (wpList_mapUpdate_own _ rfl (.tmp 35) (.tmp 36) (.tmp 37) 39 rfl 9 3 strKeyed Tryd.underlying39 (plainElem (H := Unit) Tryd.prog 3) b n D rfl hown (by unfold maxLen; omega) _ _ _ rfl rfl hkk _ [] hval ?_)
        intro w1 hown1 hgr1
        have hne : t ≠ b := by
          obtain ⟨es, clock, hb, _⟩ := hown
          intro e
          subst e
          rw [h1] at hb
          simp at hb
        have ho1 : Only (· = b) w w1 := (Only.refl (· = b) w).grown hgr1 (fun k e => .inr (by injection e with e; exact e.symm))
        have hblk := ho1.old h1 hne
        go_wp2_with fail
        go_end0
        refine ⟨rfl, some b, ho1.weaken (fun k _ e => .inr (by rw [e])), ⟨_, hblk, .inr ⟨b, _, rfl, rfl, hown1, ?_⟩⟩, fun b' e => .inl e⟩
        rw [noted, if_neg (by rw [Hfs.out]; simp; omega)]
        exact Hr.out.put _ _
end Go.Proofs.YtfgkljjiopohgaaDoor
