/- bellhoplaw08's speaks; the walk of MeshFull. -/
import Derived.Test.YtjgcbcahikemdaaPA
import Derived.DeepKeys4
import Derived.RegionTactic
import Derived.Deep.RegionWith
import Derived.Deep.RegionLaw
import Derived.Deep.RegionHeld3
import Derived.Maps.RangeWalk
/-! A mesh: its block, its maps, its pipes. -/
namespace Go.Proofs.Ytjgcbcahikemdaa
open Go.Conc Go.RowKit Go.Maps

/-- Blocks that a step may have written, and those of the new footprint: old ones or new ones. -/
structure Step (S T : Nat → Prop) (w w' : World) : Prop where
  only : Only S w w'
  next : ∀ k, T k → S k ∨ w.heap.size ≤ k
theorem Step.refl (S : Nat → Prop) (w : World) : Step S S w w := ⟨Only.refl _ _, fun _ h => .inl h⟩
theorem Step.trans {S T U : Nat → Prop} {a b c : World} (h : Step S T a b) (k : Step T U b c) : Step S U a c :=
  ⟨h.only.tr k.only (fun i hi ht => (h.next i ht).elim id (fun e => absurd hi (by omega))), fun i hi => by
    rcases k.next i hi with h1 | h1
    · exact h.next i h1
    · exact .inr (Nat.le_trans h.only.size h1)⟩
theorem Step.of {S : Nat → Prop} {w w' : World} (h : Only (fun _ => False) w w') : Step S S w w' := ⟨h.weaken (fun _ _ => False.elim), fun _ h => .inl h⟩

structure PipeD where
  p : Nat
  c : Nat
  l : List (Bool × ByteArray)
def ptrV : Option PipeD → Value
  | none => .pointer none
  | some d => .pointer (some ⟨d.p, 0, none⟩)
def wayV (k : Int × Int) : Value := .agg #[.int .i64 k.1, .int .i64 k.2]
def intV (n : Int) : Value := .int .i64 n
abbrev PMap := List ((Int × Int) × Option PipeD)
/-- What lies on a way. -/
def getM (L : PMap) (a b : Int) : List (Bool × ByteArray) :=
  match lookL L (a, b) with
  | some (some d) => d.l
  | _ => []
theorem laid : laidOutB Try.prog = true := by kernel_rfl
theorem wayKeyed : Keyed Try.prog 108 := Keyed.of_law (deep_law_laid (m := 2) laid (by omega) (of_decide_eq_true (by kernel_rfl)) (by kernel_rfl) (by rw [Try.underlying108]))
theorem wayInj : ∀ a b, wayV a = wayV b → a = b := by
  rintro ⟨a, b⟩ ⟨c, d⟩ h
  simp [wayV] at h
  exact Prod.ext h.1 h.2
theorem intKeyed : Keyed Try.prog 3 := int_keyed Try.underlying3
theorem intInj : ∀ a b, intV a = intV b → a = b := fun a b h => by simpa [intV] using h
theorem wayOk {a b : Int} (ha : (Lit.int .i64 a).wf = true) (hb : (Lit.int .i64 b).wf = true) : KeyOk Try.prog 108 wayV (a, b) := by
  have h1 : Try.prog.keyType 108 = true := by kernel_rfl
  have h2 : Try.prog.cellsOf 108 = 2 := by kernel_rfl
  have h3 : Try.prog.cellsOf 3 = 1 := by kernel_rfl
  have h4 : 0 < Try.prog.types.size := of_decide_eq_true (by kernel_rfl)
  obtain ⟨d, hd⟩ := Nat.exists_eq_succ_of_ne_zero (Nat.pos_iff_ne_zero.1 h4)
  have h5 : (wayV (a, b)).formed Try.prog 108 = true := by
    simp [Value.formed, wayV, Try.underlying108]
    exact h2.symm
  have h6 : ∃ ls, Try.prog.keyLits (Try.prog.types.size + 1) 108 (wayV (a, b)).cells.toList = some ls := by
    rw [hd]
    refine ⟨[.int .i64 a, .int .i64 b], ?_⟩
    simp [Program.keyLits, Try.underlying108, Try.underlying3, wayV, Value.cells, h2, h3, ha, hb]
  obtain ⟨ls, h6⟩ := h6
  refine ⟨.string (keyBytes ls), ?_⟩
  unfold keyOf
  rw [Try.underlying108]
  simp only [h1, h5, Bool.and_self, if_true, h6, Option.map_some]
theorem intOk {a : Int} (ha : (Lit.int .i64 a).wf = true) : KeyOk Try.prog 3 intV a := ⟨_, keyOf_int_mk Try.underlying3 ha⟩
theorem zeroP (w : World) : (zeroValue 106).run Try.prog w = .ok (ptrV none) w := by kernel_rfl
theorem zeroB (w : World) : (zeroValue 4).run Try.prog w = .ok (Value.bool false) w := by kernel_rfl
abbrev WMap (w : World) (b : Nat) (L : PMap) : Prop := MapIs Try.prog 108 wayV ptrV w b L
abbrev LMap (w : World) (b : Nat) (lv : List Int) : Prop := MapIs Try.prog 3 intV Value.bool w b (lv.map (·, true))
/-- A mesh: its block m, the block lb of those that are there, the block pb of its pipes. -/
structure MeshAt (w : World) (m lb pb : Nat) (lv : List Int) (L : PMap) : Prop where
  blk : w.heap[m]? = some (.cells #[.map (some lb), .map (some pb)] 105 (0, 0))
  live : LMap w lb lv
  pipes : WMap w pb L
  ne : lb ≠ pb
  pipe : ∀ e ∈ L, ∃ d, e.2 = some d ∧ PipeAt w d.p d.c (items d.l) ∧ d.l.length ≤ 64
  chans : L.Pairwise (fun e f => ∀ d d', e.2 = some d → f.2 = some d' → d.c ≠ d'.c)
  lives : ∀ n ∈ lv, 1 ≤ n ∧ n ≤ 65535
/-- The blocks of a mesh that its functions write. -/
def foot (lb pb : Nat) (L : PMap) (k : Nat) : Prop := k = lb ∨ k = pb ∨ ∃ e ∈ L, ∃ d, e.2 = some d ∧ k = d.c
theorem map_not {w : World} {k : TypeId} {α β : Type} {κ : α → Value} {ε : β → Value} {b : Nat} {L : List (α × β)} (h : MapIs Try.prog k κ ε w b L) : ∃ es c, w.heap[b]? = some (.map es c) := by
  obtain ⟨es, c, hb, _⟩ := h.own
  exact ⟨es, c, hb⟩
/-- No cell lies in the footprint. -/
theorem MeshAt.foot_cells {w : World} {m lb pb : Nat} {lv : List Int} {L : PMap} (h : MeshAt w m lb pb lv L) {k : Nat} (hk : foot lb pb L k) {cs : Array Value} {t : TypeId} {f : Nat × Nat} : w.heap[k]? ≠ some (.cells cs t f) := by
  intro hc
  rcases hk with rfl | rfl | ⟨e, he, d, hd, rfl⟩
  · obtain ⟨es, c, hb⟩ := map_not h.live; rw [hb] at hc; cases hc
  · obtain ⟨es, c, hb⟩ := map_not h.pipes; rw [hb] at hc; cases hc
  · obtain ⟨d', hd', hp, _⟩ := h.pipe e he
    rw [hd] at hd'
    cases hd'
    obtain ⟨s, r, hb⟩ := hp.chan
    rw [hb] at hc; cases hc
theorem MeshAt.foot_lt {w : World} {m lb pb : Nat} {lv : List Int} {L : PMap} (h : MeshAt w m lb pb lv L) {k : Nat} (hk : foot lb pb L k) : k < w.heap.size := by
  rcases hk with rfl | rfl | ⟨e, he, d, hd, rfl⟩
  · exact h.live.lt
  · exact h.pipes.lt
  · obtain ⟨d', hd', hp, _⟩ := h.pipe e he
    rw [hd] at hd'
    cases hd'
    exact hp.lt.2
theorem MeshAt.m_not {w : World} {m lb pb : Nat} {lv : List Int} {L : PMap} (h : MeshAt w m lb pb lv L) : ¬ foot lb pb L m := fun hk => h.foot_cells hk h.blk
theorem MeshAt.p_not {w : World} {m lb pb : Nat} {lv : List Int} {L : PMap} (h : MeshAt w m lb pb lv L) {e : (Int × Int) × Option PipeD} (he : e ∈ L) {d : PipeD} (hd : e.2 = some d) : ¬ foot lb pb L d.p := fun hk => by
  obtain ⟨d', hd', hp, _⟩ := h.pipe e he
  rw [hd] at hd'
  cases hd'
  exact h.foot_cells hk hp.blk
/-- Nothing of a mesh has been written. -/
theorem MeshAt.kept {w w' : World} {S : Nat → Prop} {m lb pb : Nat} {lv : List Int} {L : PMap} (h : MeshAt w m lb pb lv L) (ho : Only S w w') (hm : ¬ S m) (hf : ∀ k, foot lb pb L k → ¬ S k) (hp : ∀ e ∈ L, ∀ d, e.2 = some d → ¬ S d.p) : MeshAt w' m lb pb lv L :=
  ⟨ho.old h.blk hm, h.live.kept ho (hf _ (.inl rfl)), h.pipes.kept ho (hf _ (.inr (.inl rfl))), h.ne, fun e he => by
    obtain ⟨d, hd, h1, h2⟩ := h.pipe e he
    exact ⟨d, hd, h1.kept ho (hp e he d hd) (hf _ (.inr (.inr ⟨e, he, d, hd, rfl⟩))), h2⟩, h.chans, h.lives⟩
theorem MeshAt.new {w w' : World} {m lb pb : Nat} {lv : List Int} {L : PMap} (h : MeshAt w m lb pb lv L) (ho : Only (fun _ => False) w w') : MeshAt w' m lb pb lv L := h.kept ho id (fun _ _ => id) (fun _ _ _ _ => id)
/-- What lies on one way is changed. -/
def setD (L : PMap) (k : Int × Int) (l : List (Bool × ByteArray)) : PMap := L.map (fun e => if e.1 = k then (e.1, e.2.map (fun d => { d with l := l })) else e)
theorem setD_c {L : PMap} {k : Int × Int} {l : List (Bool × ByteArray)} {e : (Int × Int) × Option PipeD} (he : e ∈ setD L k l) : ∃ e0 ∈ L, e.1 = e0.1 ∧ ∀ d, e.2 = some d → ∃ d0, e0.2 = some d0 ∧ d.p = d0.p ∧ d.c = d0.c ∧ d.l = if e0.1 = k then l else d0.l := by
  obtain ⟨e0, h0, rfl⟩ := List.mem_map.1 he
  refine ⟨e0, h0, ?_, fun d hd => ?_⟩
  · split <;> rfl
  · split at hd
    · rename_i hk
      simp only [Option.map_eq_some_iff] at hd
      obtain ⟨d0, h1, rfl⟩ := hd
      exact ⟨d0, h1, rfl, rfl, by rw [if_pos hk]⟩
    · rename_i hk
      exact ⟨d, hd, rfl, rfl, by rw [if_neg hk]⟩
theorem look_setD (L : PMap) (k : Int × Int) (l : List (Bool × ByteArray)) (x : Int × Int) : lookL (setD L k l) x = if x = k then (lookL L x).map (fun o => o.map (fun d => { d with l := l })) else lookL L x := by
  unfold lookL setD
  rw [List.find?_map]
  have e1 : ((fun p : (Int × Int) × Option PipeD => decide (p.1 = x)) ∘ fun e : (Int × Int) × Option PipeD => if e.1 = k then (e.1, e.2.map (fun d => { d with l := l })) else e) = fun p => decide (p.1 = x) := by
    funext p
    simp only [Function.comp_apply]
    split <;> rfl
  rw [e1]
  cases hf : L.find? (fun p => decide (p.1 = x)) with
  | none => simp
  | some e =>
    have he : e.1 = x := by simpa using List.find?_some hf
    simp only [Option.map_some, he]
    by_cases hx : x = k
    · rw [if_pos hx, if_pos hx]
    · rw [if_neg hx, if_neg hx]
theorem get_setD {L : PMap} {a b : Int} {d : PipeD} (hl : lookL L (a, b) = some (some d)) (l : List (Bool × ByteArray)) (x y : Int) : getM (setD L (a, b) l) x y = if x = a ∧ y = b then l else getM L x y := by
  unfold getM
  rw [look_setD]
  by_cases h : x = a ∧ y = b
  · obtain ⟨rfl, rfl⟩ := h
    rw [if_pos rfl, if_pos ⟨rfl, rfl⟩, hl]
    rfl
  · rw [if_neg (fun e => h (by simpa using e)), if_neg h]
theorem setD_ent (L : PMap) (k : Int × Int) (l : List (Bool × ByteArray)) : (setD L k l).map (entL Try.prog 108 wayV ptrV) = L.map (entL Try.prog 108 wayV ptrV) := by
  unfold setD
  rw [List.map_map]
  refine List.map_congr_left (fun e _ => ?_)
  simp only [Function.comp_apply]
  split
  · obtain ⟨e1, e2⟩ := e
    cases e2 <;> rfl
  · rfl
theorem wmap_setD {w : World} {pb : Nat} {L : PMap} (h : WMap w pb L) (k : Int × Int) (l : List (Bool × ByteArray)) : WMap w pb (setD L k l) := by
  refine ⟨?_, ?_, fun e he => ?_⟩
  · have e1 : mapD Try.prog 108 wayV ptrV (setD L k l) = mapD Try.prog 108 wayV ptrV L := by unfold mapD; rw [setD_ent]
    have e2 : (setD L k l).length = L.length := List.length_map ..
    rw [e1, e2]
    exact h.own
  · unfold setD
    rw [List.pairwise_map]
    refine h.apart.imp (fun {e f} hne => ?_)
    have k1 : ∀ e : (Int × Int) × Option PipeD, (if e.1 = k then (e.1, e.2.map (fun d => { d with l := l })) else e).1 = e.1 := fun e => by split <;> rfl
    rw [k1, k1]
    exact hne
  · obtain ⟨e0, h0, h1, _⟩ := setD_c he
    rw [h1]
    exact h.keys e0 h0
theorem look_mem {L : PMap} {k : Int × Int} {o : Option PipeD} (h : lookL L k = some o) : (k, o) ∈ L := lookL_some h
theorem foot_setD {lb pb : Nat} {L : PMap} {k : Int × Int} {l : List (Bool × ByteArray)} {x : Nat} (h : foot lb pb (setD L k l) x) : foot lb pb L x := by
  rcases h with h | h | ⟨e, he, d, hd, rfl⟩
  · exact .inl h
  · exact .inr (.inl h)
  · obtain ⟨e0, h0, _, h2⟩ := setD_c he
    obtain ⟨d0, h3, _, h4, _⟩ := h2 d hd
    exact .inr (.inr ⟨e0, h0, d0, h3, h4⟩)
/-- A pipe's contents change. -/
theorem MeshAt.upd {w w' : World} {m lb pb : Nat} {lv : List Int} {L : PMap} (h : MeshAt w m lb pb lv L) {k : Int × Int} {d : PipeD} (hl : lookL L k = some (some d)) {l : List (Bool × ByteArray)} (ho : Only (· = d.c) w w') (hp : PipeAt w' d.p d.c (items l)) (hn : l.length ≤ 64) :
    MeshAt w' m lb pb lv (setD L k l) ∧ Step (foot lb pb L) (foot lb pb (setD L k l)) w w' := by
  have hm := look_mem hl
  obtain ⟨d', hd', hp0, _⟩ := h.pipe _ hm
  cases hd'
  have hcm : d.c ≠ m := fun e => by
    obtain ⟨s, r, hb⟩ := hp0.chan
    rw [e, h.blk] at hb; cases hb
  have hclb : d.c ≠ lb := fun e => by
    obtain ⟨s, r, hb⟩ := hp0.chan
    obtain ⟨es, c, hb2⟩ := map_not h.live
    rw [e, hb2] at hb; cases hb
  have hcpb : d.c ≠ pb := fun e => by
    obtain ⟨s, r, hb⟩ := hp0.chan
    obtain ⟨es, c, hb2⟩ := map_not h.pipes
    rw [e, hb2] at hb; cases hb
  refine ⟨⟨ho.old h.blk hcm.symm, h.live.kept ho hclb.symm, wmap_setD (h.pipes.kept ho hcpb.symm) _ _, h.ne, fun e he => ?_, ?_, h.lives⟩, ⟨ho.weaken (fun i _ e => .inr (.inr ⟨_, hm, d, rfl, e⟩)), fun x hx => .inl (foot_setD hx)⟩⟩
  · obtain ⟨e0, h0, h1, h2⟩ := setD_c he
    obtain ⟨d0, hd0, hp1, hn1⟩ := h.pipe e0 h0
    obtain ⟨e1, e2⟩ := e
    simp only at h1 h2
    have : ∃ d2, e2 = some d2 := by
      obtain ⟨e3, h3, h4⟩ := List.mem_map.1 he
      obtain ⟨d3, h5, _⟩ := h.pipe e3 h3
      split at h4
      · rw [h5] at h4; exact ⟨_, (Prod.mk.inj h4).2.symm⟩
      · exact ⟨d3, (congrArg Prod.snd h4).symm.trans h5⟩
    obtain ⟨d2, rfl⟩ := this
    obtain ⟨d4, h3, h4, h5, h6⟩ := h2 d2 rfl
    rw [hd0] at h3
    cases h3
    refine ⟨d2, rfl, ?_, ?_⟩
    · rw [h4, h5, h6]
      by_cases hk : e0.1 = k
      · rw [if_pos hk]
        have : e0 = (k, some d) := by
          have h7 := lookL_of_mem h.pipes.apart (show (e0.1, e0.2) ∈ L from h0)
          rw [hk, hl, hd0] at h7
          rw [← hk]
          exact Prod.ext rfl (by rw [hd0]; exact (Option.some.inj h7).symm)
        subst this
        cases hd0
        exact hp
      · rw [if_neg hk]
        refine hp1.kept ho (fun e => ?_) (fun e => ?_)
        · obtain ⟨s, r, hb⟩ := hp0.chan
          rw [← e, hp1.blk] at hb; cases hb
        · have hne : (k, some d) ≠ e0 := fun e => hk (by rw [← e])
          have := (h.chans.imp (fun {a b} hab => hab))
          obtain ⟨i, hi, h8⟩ := List.getElem_of_mem hm
          obtain ⟨j, hj, h9⟩ := List.getElem_of_mem h0
          have hpw := List.pairwise_iff_getElem.1 h.chans
          rcases Nat.lt_trichotomy i j with g | g | g
          · exact hpw i j hi hj g d d0 (by rw [h8]) (by rw [h9]; exact hd0) e.symm
          · subst g; exact hne (h8.symm.trans h9)
          · exact hpw j i hj hi g d0 d (by rw [h9]; exact hd0) (by rw [h8]) e
    · rw [h6]; split
      · exact hn
      · exact hn1
  · unfold setD
    rw [List.pairwise_map]
    refine h.chans.imp (fun {e f} hef d1 d2 h1 h2 => ?_)
    have k1 : ∀ (e : (Int × Int) × Option PipeD) d1, (if e.1 = k then (e.1, e.2.map (fun d => { d with l := l })) else e).2 = some d1 → ∃ d0, e.2 = some d0 ∧ d1.c = d0.c := fun e d1 h => by
      split at h
      · simp only [Option.map_eq_some_iff] at h
        obtain ⟨d0, h, rfl⟩ := h
        exact ⟨d0, h, rfl⟩
      · exact ⟨d1, h, rfl⟩
    obtain ⟨d3, h3, h4⟩ := k1 e d1 h1
    obtain ⟨d5, h5, h6⟩ := k1 f d2 h2
    rw [h4, h6]
    exact hef d3 d5 h3 h5
end Go.Proofs.Ytjgcbcahikemdaa
/-! A mesh: New, Live, Up, pipe. -/
namespace Go.Proofs.Ytjgcbcahikemdaa
open Go.Conc Go.RowKit Go.Maps

theorem wf64 {n : Int} (h1 : -9223372036854775808 ≤ n) (h2 : n ≤ 9223372036854775807) : (Lit.int .i64 n).wf = true := by
  show (decide (_ ≤ n) && decide (n ≤ _)) = true
  rw [Bool.and_eq_true]
  exact ⟨decide_eq_true h1, decide_eq_true h2⟩
/-- A mesh just made. -/
def MNewPost (w w' : World) (m lb pb : Nat) : Prop := Only (fun _ => False) w w' ∧ MeshAt w' m lb pb [] [] ∧ w.heap.size ≤ m ∧ w.heap.size ≤ lb ∧ w.heap.size ≤ pb
theorem mnew_any (w : World) : Calls Try.prog 23 #[] w fun e w' => ∃ m lb pb, e = .returned (.pointer (some ⟨m, 0, none⟩)) ∧ MNewPost w w' m lb pb := by
  have hmm := @run_makeMap Try.prog
  go_enter Try.func23, Try.ntmps23
  go_wp2_with fail
  go_ret
  refine ⟨w.heap.size + 2, w.heap.size, w.heap.size + 1, by simp, (((Only.refl _ _).alloc _).alloc _).alloc _, ⟨?_, ?_, ?_, by omega, by simp, List.Pairwise.nil, by simp⟩, by omega, by omega, by omega⟩
  · have := heap_alloc_new ((w.alloc (.map #[] 0)).alloc (.map #[] 0)) (.cells #[.map (some w.heap.size), .map (some (w.heap.size + 1))] 105 (0, 0))
    simpa using this
  · exact ((MapIs.made w).kept (((Only.refl (fun _ => False) _).alloc _).alloc _) id)
  · have := (MapIs.made (P := Try.prog) (k := 108) (κ := wayV) (ε := ptrV) (w.alloc (.map #[] 0))).kept ((Only.refl (fun _ => False) _).alloc (.cells #[.map (some w.heap.size), .map (some (w.heap.size + 1))] 105 (0, 0))) id
    simpa using this
theorem look_lv (lv : List Int) (n : Int) : (lookL (lv.map (fun k => (k, true))) n).getD false = decide (n ∈ lv) := by
  by_cases h : n ∈ lv
  · rw [decide_eq_true h]
    cases hl : lookL (lv.map (fun k => (k, true))) n with
    | none => exact absurd rfl (lookL_none hl (n, true) (List.mem_map.2 ⟨n, h, rfl⟩))
    | some b =>
      obtain ⟨k, _, e⟩ := List.mem_map.1 (lookL_some hl)
      cases e; rfl
  · rw [decide_eq_false h, lookL_of_none (fun p hp e => h (by obtain ⟨k, hk, rfl⟩ := List.mem_map.1 hp; exact e ▸ hk))]
    rfl
theorem mlive_any (w : World) (m lb pb : Nat) (lv : List Int) (L : PMap) (h : MeshAt w m lb pb lv L) (n : Int) (hn : (Lit.int .i64 n).wf = true) :
    Calls Try.prog 39 #[.pointer (some ⟨m, 0, none⟩), .int .i64 n] w fun e w' => e = .returned (.bool (decide (n ∈ lv))) ∧ w = w' := by
  have c0 : w.cell? ⟨m, 0, none⟩ = some (.map (some lb)) := cell_at h.blk 0
  have hl0 := h.live.look intKeyed intInj Try.underlying102 (z := false) (zeroB w) (intOk hn) false
  have hl : (Instr.lookup 102 (.map (some lb)) (.int .i64 n) false).run Try.prog w = .ok (.bool (decide (n ∈ lv))) w := by rw [← look_lv]; exact hl0
  clear hl0 h hn
  generalize decide (n ∈ lv) = r at *
  go_enter Try.func39, Try.ntmps39
  go_wp2_with fail
  all_goals
    go_ret
    exact ⟨rfl, rfl⟩
theorem mlive_nil (w : World) (n : Int) : Calls Try.prog 39 #[.pointer none, .int .i64 n] w fun e w' => e = .returned (.bool false) ∧ w = w' := by
  go_enter Try.func39, Try.ntmps39
  go_wp2_with fail
  go_ret
  exact ⟨rfl, rfl⟩
/-- Those that are there behind Up. -/
def upL (lv : List Int) (n : Int) : List Int := lv.filter (fun k => !decide (k = n)) ++ [n]
theorem mem_upL {lv : List Int} {n k : Int} : k ∈ upL lv n ↔ k ∈ lv ∨ k = n := by
  unfold upL
  rw [List.mem_append, List.mem_filter]
  by_cases h : k = n <;> simp [h]
theorem upL_put (lv : List Int) (n : Int) : putL (lv.map (fun k => (k, true))) n true = (upL lv n).map (fun k => (k, true)) := by
  unfold putL dropL upL
  rw [List.filter_map, List.map_append]
  rfl
theorem MeshAt.withLive {w w' : World} {m lb pb : Nat} {lv lv' : List Int} {L : PMap} (h : MeshAt w m lb pb lv L) (ho : Only (fun i => i = lb) w w') (hl : LMap w' lb lv') (hv : ∀ n ∈ lv', 1 ≤ n ∧ n ≤ 65535) : MeshAt w' m lb pb lv' L :=
  ⟨ho.old h.blk (fun e => h.m_not (.inl e)), hl, h.pipes.kept ho h.ne.symm, h.ne, (fun e he => by
    obtain ⟨d, hd, h1, h2⟩ := h.pipe e he
    refine ⟨d, hd, h1.kept ho (fun e2 => h.p_not he hd (.inl e2)) (fun e2 => ?_), h2⟩
    obtain ⟨s, r, hb⟩ := h1.chan
    obtain ⟨es, c, hb2⟩ := map_not h.live
    rw [e2, hb2] at hb
    cases hb), h.chans, hv⟩
set_option maxRecDepth 100000 in
theorem mup_any (w : World) (m lb pb : Nat) (lv : List Int) (L : PMap) (h : MeshAt w m lb pb lv L) (n : Int) (h1 : 1 ≤ n) (h2 : n ≤ 65535) (hlen : lv.length < 100000) :
    Calls Try.prog 24 #[.pointer (some ⟨m, 0, none⟩), .int .i64 n] w fun e w' => e = .returned (.tuple #[]) ∧ MeshAt w' m lb pb (upL lv n) L ∧ Only (fun i => i = lb) w w' := by
  have hn : (Lit.int .i64 n).wf = true := wf64 (by omega) (by omega)
  have c0 : w.cell? ⟨m, 0, none⟩ = some (.map (some lb)) := cell_at h.blk 0
  have HL := Lib.hid h.live
  have H := Lib.hid h
  clear h
  have hlen' : (lv.map (fun k => (k, true))).length < maxLen := by rw [List.length_map]; unfold maxLen; omega
  have HLE := Lib.hid hlen'
  have HN := Lib.hid hn
  clear hlen' hn
  go_enter Try.func24, Try.ntmps24
  go_wp2_with (first | (at_mapUpdate; refine wpList_mapStore rfl _ _ _ _ rfl HL.out intKeyed intInj Try.underlying102 HLE.out rfl rfl (intOk HN.out) (u := true) rfl ?_; intro w2 hm2 ho2))
  go_end0
  rw [upL_put] at hm2
  refine ⟨rfl, H.out.withLive ho2 hm2 (fun k hk => ?_), ho2⟩
  rcases mem_upL.1 hk with hk | rfl
  · exact H.out.lives k hk
  · exact ⟨h1, h2⟩
set_option maxRecDepth 100000 in
theorem mup_no (w : World) (v : Option Addr) (n : Int) (h : v = none ∨ n < 1 ∨ 65535 < n) :
    Calls Try.prog 24 #[.pointer v, .int .i64 n] w fun e w' => e = .returned (.tuple #[]) ∧ w = w' := by
  rcases h with rfl | h | h
  · go_enter Try.func24, Try.ntmps24
    go_wp2_with fail
    go_end0
    exact ⟨rfl, rfl⟩
  all_goals
    cases v <;> (
      have h' : ¬ 1 ≤ n ∨ 1 ≤ n := by omega
      rcases h' with h' | h'
      all_goals
        go_enter Try.func24, Try.ntmps24
        go_wp2_with fail
        all_goals
          go_end0
          exact ⟨rfl, rfl⟩)
/-- The pipe of a way is there. -/
def PipePost (w w' : World) (m lb pb : Nat) (lv : List Int) (L : PMap) (a b : Int) (v : Value) : Prop :=
  ∃ L' d, v = .pointer (some ⟨PipeD.p d, 0, none⟩) ∧ MeshAt w' m lb pb lv L' ∧ Step (foot lb pb L) (foot lb pb L') w w' ∧ lookL L' (a, b) = some (some d) ∧ d.l = getM L a b ∧ (∀ x y, getM L' x y = getM L x y) ∧ L'.length ≤ L.length + 1
theorem MeshAt.look_cases {w : World} {m lb pb : Nat} {lv : List Int} {L : PMap} (h : MeshAt w m lb pb lv L) (k : Int × Int) : lookL L k = none ∨ ∃ d, lookL L k = some (some d) ∧ PipeAt w d.p d.c (items d.l) ∧ d.l.length ≤ 64 := by
  cases hl : lookL L k with
  | none => exact .inl rfl
  | some o =>
    obtain ⟨d, hd, h1⟩ := h.pipe _ (look_mem hl)
    simp only at hd
    subst hd
    exact .inr ⟨d, rfl, h1⟩
theorem get_put_none {L : PMap} {a b : Int} (hn : lookL L (a, b) = none) (d : PipeD) (hd : d.l = []) (x y : Int) : getM (putL L (a, b) (some d)) x y = getM L x y := by
  unfold getM
  by_cases h : (x, y) = (a, b)
  · rw [h, lookL_put_same, hn]; exact hd
  · rw [lookL_put_other L h]
/-- A new pipe is laid. -/
theorem MeshAt.add {w w' : World} {m lb pb : Nat} {lv : List Int} {L : PMap} (h : MeshAt w m lb pb lv L) {k : Int × Int} (hn : lookL L k = none) {d : PipeD} (hp : PipeAt w d.p d.c (items d.l)) (hl : d.l.length ≤ 64) (hc : ∀ e ∈ L, ∀ d', e.2 = some d' → d'.c ≠ d.c)
    (hm : WMap w' pb (putL L k (some d))) (ho : Only (fun i => i = pb) w w') : MeshAt w' m lb pb lv (putL L k (some d)) := by
  have hdr : dropL L k = L := dropL_of_none hn
  refine ⟨ho.old h.blk (fun e => h.m_not (.inr (.inl e))), h.live.kept ho h.ne, hm, h.ne, ?_, ?_, h.lives⟩
  · have kp : ∀ {d : PipeD}, PipeAt w d.p d.c (items d.l) → PipeAt w' d.p d.c (items d.l) := fun {d} hp => hp.kept ho (fun e => by
      obtain ⟨es, c, hb⟩ := map_not h.pipes
      rw [← e, hp.blk] at hb; cases hb) (fun e => by
      obtain ⟨es, c, hb⟩ := map_not h.pipes
      obtain ⟨s, r, hb2⟩ := hp.chan
      rw [← e, hb2] at hb; cases hb)
    intro e he
    unfold putL at he
    rw [hdr] at he
    rcases List.mem_append.1 he with he | he
    · obtain ⟨d', h1, h2, h3⟩ := h.pipe e he
      exact ⟨d', h1, kp h2, h3⟩
    · obtain rfl : e = (k, some d) := by simpa using he
      exact ⟨d, rfl, kp hp, hl⟩
  · unfold putL
    rw [hdr]
    refine List.pairwise_append.2 ⟨h.chans, by simp, fun e he f hf d1 d2 h1 h2 => ?_⟩
    obtain rfl : f = (k, some d) := by simpa using hf
    cases h2
    exact hc e he d1 h1
set_option maxRecDepth 100000 in
theorem mpipe_any (w : World) (m lb pb : Nat) (lv : List Int) (L : PMap) (h : MeshAt w m lb pb lv L) (a b : Int) (ha : (Lit.int .i64 a).wf = true) (hb : (Lit.int .i64 b).wf = true) (hL : L.length < 1000000) :
    Calls Try.prog 54 #[.pointer (some ⟨m, 0, none⟩), .int .i64 a, .int .i64 b] w fun e w' => ∃ v, e = .returned v ∧ PipePost w w' m lb pb lv L a b v := by
  obtain ⟨W, hW⟩ : ∃ W, W = w.alloc (.cells #[.int .i64 a, .int .i64 b] 108) := ⟨_, rfl⟩
  have ho : Only (fun _ => False) w W := by rw [hW]; exact (Only.refl _ _).alloc _
  have hx : W.heap[w.heap.size]? = some (.cells #[.int .i64 a, .int .i64 b] 108 (0, 0)) := by rw [hW]; exact heap_alloc_new w _
  have h1 := h.new ho
  have x0 : W.cell? ⟨w.heap.size, 0, none⟩ = some (.int .i64 a) := cell_at hx 0
  have x1 : W.cell? ⟨w.heap.size, 1, none⟩ = some (.int .i64 b) := cell_at hx 1
  have c1 : W.cell? ⟨m, 1, none⟩ = some (.map (some pb)) := cell_at h1.blk 1
  have HX := Lib.hid hx
  have HW := Lib.hid hW
  have HO := Lib.hid ho
  have H1 := Lib.hid h1
  clear hx hW ho h1
  rcases h.look_cases (a, b) with hl | ⟨d, hl, hp, hn⟩
  · have hlk : ∀ n, (Instr.lookup 103 (.map (some pb)) (.agg #[.int .i64 a, .int .i64 b]) true).run Try.prog (W.drewN n) = .ok (.tuple #[.pointer none, .bool false]) (W.drewN n) := fun n => by
      have := (H1.out.pipes.kept ((Only.refl (fun _ => False) W).drewN n) id).look wayKeyed wayInj Try.underlying103 (z := none) (zeroP _) (wayOk ha hb) true
      rw [hl] at this
      exact this
    have HL := Lib.hid hl
    have HK := Lib.hid (wayOk ha hb)
    clear hl ha hb h
    go_enter Try.func54, Try.ntmps54
    go_upto_region 2 with (fail)
    rw [← HW.out]
    go_quiet (fail)
    obtain ⟨W2, hW2⟩ : ∃ W2, W2 = W.drewN nq := ⟨_, rfl⟩
    rw [← hW2]
    have ho2 : Only (fun _ => False) W W2 := by rw [hW2]; exact (Only.refl _ _).drewN _
    have HO2 := Lib.hid ho2
    clear hlk x0 x1 c1 hW2 ho2
    go_wp2_with fail
    refine (new_any W2).mono ?_
    rintro e w3 ⟨rfl, ho3, hp3, hs3⟩
    have hx3 := ho3.old (HO2.out.old HX.out id) id
    have x0 : w3.cell? ⟨w.heap.size, 0, none⟩ = some (.int .i64 a) := cell_at hx3 0
    have x1 : w3.cell? ⟨w.heap.size, 1, none⟩ = some (.int .i64 b) := cell_at hx3 1
    have hm3 := (H1.out.new HO2.out).new ho3
    have c1 : w3.cell? ⟨m, 1, none⟩ = some (.map (some pb)) := cell_at hm3.blk 1
    obtain ⟨w4, hst0, hm4, ho4⟩ := (hm3.pipes.kept ((Only.refl (fun _ => False) w3).drew) id).store wayKeyed wayInj Try.underlying103 (by unfold maxLen; omega) HK.out (some ⟨W2.heap.size + 1, W2.heap.size, []⟩)
    have hst : (Instr.mapUpdate 103 (.map (some pb)) (.agg #[.int .i64 a, .int .i64 b]) (.pointer (some ⟨W2.heap.size + 1, 0, none⟩))).run Try.prog w3.drew = .ok () w4 := hst0
    have HM3 := Lib.hid hm3
    have HM4 := Lib.hid hm4
    have HO3 := Lib.hid ho3
    have HO4 := Lib.hid ho4
    have HP3 := Lib.hid hp3
    clear hx3 hm3 hst0 hm4 ho4 ho3 hp3 hs3
    go_wp2_with fail
    go_region
    go_wp2_with fail
    go_ret
    have hoA := HO.out.trans (HO2.out.trans HO3.out)
    have hcs : w.heap.size ≤ W2.heap.size := (HO.out.trans HO2.out).size
    refine ⟨_, rfl, putL L (a, b) (some ⟨W2.heap.size + 1, W2.heap.size, []⟩), ⟨W2.heap.size + 1, W2.heap.size, []⟩, rfl, ?_, ?_, lookL_put_same _ _ _, ?_, get_put_none HL.out _ rfl, ?_⟩
    · refine (HM3.out.new ((Only.refl (fun _ => False) w3).drew)).add HL.out (HP3.out.kept ((Only.refl (fun _ => False) w3).drew) id id) (by simp) (fun e he d' hd' e2 => ?_) HM4.out HO4.out
      have h1 := (H1.out.new HO2.out).foot_lt (.inr (.inr ⟨e, he, d', hd', rfl⟩))
      rw [e2] at h1
      exact absurd h1 (by simp)
    · refine ⟨?_, fun k hk => ?_⟩
      · exact ((hoA.drew).weaken (fun _ _ => False.elim)).trans (HO4.out.weaken (fun i _ e => .inr (.inl e)))
      · rcases hk with h1 | h1 | ⟨e, he, d, hd, rfl⟩
        · exact .inl (.inl h1)
        · exact .inl (.inr (.inl h1))
        · unfold putL at he
          rw [dropL_of_none HL.out] at he
          rcases List.mem_append.1 he with he | he
          · exact .inl (.inr (.inr ⟨e, he, d, hd, rfl⟩))
          · obtain rfl : e = ((a, b), some ⟨W2.heap.size + 1, W2.heap.size, []⟩) := by simpa using he
            cases hd
            exact .inr hcs
    · unfold getM
      rw [HL.out]
    · have := length_putL H1.out.pipes.apart (a, b) (some ⟨W2.heap.size + 1, W2.heap.size, []⟩)
      rw [HL.out] at this
      simp at this
      omega
  · have hlk : ∀ n, (Instr.lookup 103 (.map (some pb)) (.agg #[.int .i64 a, .int .i64 b]) true).run Try.prog (W.drewN n) = .ok (.tuple #[.pointer (some ⟨d.p, 0, none⟩), .bool true]) (W.drewN n) := fun n => by
      have := (H1.out.pipes.kept ((Only.refl (fun _ => False) W).drewN n) id).look wayKeyed wayInj Try.underlying103 (z := none) (zeroP _) (wayOk ha hb) true
      rw [hl] at this
      exact this
    have HL := Lib.hid hl
    clear hl ha hb h hp hn
    go_enter Try.func54, Try.ntmps54
    go_upto_region 2 with (fail)
    rw [← HW.out]
    go_quiet (fail)
    clear hlk x0 x1 c1
    go_wp2_with fail
    go_ret
    refine ⟨_, rfl, L, d, rfl, H1.out.new ((Only.refl (fun _ => False) W).drewN _), Step.of (HO.out.drewN _), HL.out, ?_, fun _ _ => rfl, by omega⟩
    unfold getM
    rw [HL.out]
end Go.Proofs.Ytjgcbcahikemdaa
/-! A mesh: Len, Take, Break, Send. -/
namespace Go.Proofs.Ytjgcbcahikemdaa
open Go.Conc Go.RowKit Go.Maps

/-- What lies on which way. -/
abbrev Ways := Int → Int → List (Bool × ByteArray)
def setG (G : Ways) (a b : Int) (l : List (Bool × ByteArray)) : Ways := fun x y => if x = a ∧ y = b then l else G x y
def brk1 (G : Ways) (a b : Int) : Ways := setG G a b [(true, ⟨#[]⟩)]
def breakG (lv : List Int) (G : Ways) (a b : Int) : Ways := if a ∈ lv ∧ b ∈ lv ∧ a ≠ b then brk1 (brk1 G a b) b a else G
def sendG (lv : List Int) (G : Ways) (a b : Int) (s : ByteArray) : Ways :=
  if a ∈ lv ∧ a ≠ b then (if b ∈ lv then (if (G a b).length < 64 then setG G a b (G a b ++ [(false, s)]) else breakG lv G a b) else brk1 G b a) else G
/-- A mesh behind a step: the same block and maps. -/
structure MPost (w w' : World) (m lb pb : Nat) (lv : List Int) (L : PMap) (G : Ways) (n : Nat) : Prop where
  out : ∃ L', MeshAt w' m lb pb lv L' ∧ Step (foot lb pb L) (foot lb pb L') w w' ∧ (∀ x y, getM L' x y = G x y) ∧ L'.length ≤ L.length + n
theorem MPost.same {w w' : World} {m lb pb : Nat} {lv : List Int} {L : PMap} (h : MeshAt w m lb pb lv L) (ho : Only (fun _ => False) w w') (n : Nat) : MPost w w' m lb pb lv L (getM L) n := ⟨L, h.new ho, Step.of ho, fun _ _ => rfl, by omega⟩
theorem MPost.of {w w' : World} {m lb pb : Nat} {lv : List Int} {L : PMap} {G G' : Ways} {n n' : Nat} (h : MPost w w' m lb pb lv L G n) (hG : ∀ x y, G x y = G' x y) (hn : n ≤ n') : MPost w w' m lb pb lv L G' n' := by
  obtain ⟨L', h1, h2, h3, h4⟩ := h.out
  exact ⟨L', h1, h2, fun x y => (h3 x y).trans (hG x y), by omega⟩
/-- A pipe is taken, and what lies in it is changed. -/
theorem PipePost.upd {w w1 w2 : World} {m lb pb : Nat} {lv : List Int} {L : PMap} {a b : Int} {L1 : PMap} {d : PipeD} (h1 : MeshAt w1 m lb pb lv L1) (h2 : Step (foot lb pb L) (foot lb pb L1) w w1) (h3 : lookL L1 (a, b) = some (some d)) (h5 : ∀ x y, getM L1 x y = getM L x y) (h6 : L1.length ≤ L.length + 1)
    {l : List (Bool × ByteArray)} (ho : Only (· = d.c) w1 w2) (hp : PipeAt w2 d.p d.c (items l)) (hn : l.length ≤ 64) : MPost w w2 m lb pb lv L (setG (getM L) a b l) 1 := by
  obtain ⟨k1, k2⟩ := h1.upd h3 ho hp hn
  refine ⟨_, k1, h2.trans k2, fun x y => ?_, ?_⟩
  · rw [get_setD h3 l x y]
    unfold setG
    rw [h5]
  · show (setD L1 (a, b) l).length ≤ _
    unfold setD
    rw [List.length_map]
    exact h6
theorem mlive_yes (w : World) (m lb pb : Nat) (lv : List Int) (L : PMap) (h : MeshAt w m lb pb lv L) (n : Int) (hn : (Lit.int .i64 n).wf = true) (hv : n ∈ lv) :
    Calls Try.prog 39 #[.pointer (some ⟨m, 0, none⟩), .int .i64 n] w fun e w' => e = .returned (.bool true) ∧ w = w' := by
  have := mlive_any w m lb pb lv L h n hn
  rwa [decide_eq_true hv] at this
theorem mlive_no (w : World) (m lb pb : Nat) (lv : List Int) (L : PMap) (h : MeshAt w m lb pb lv L) (n : Int) (hn : (Lit.int .i64 n).wf = true) (hv : n ∉ lv) :
    Calls Try.prog 39 #[.pointer (some ⟨m, 0, none⟩), .int .i64 n] w fun e w' => e = .returned (.bool false) ∧ w = w' := by
  have := mlive_any w m lb pb lv L h n hn
  rwa [decide_eq_false hv] at this
set_option maxRecDepth 100000 in
set_option maxHeartbeats 2000000 in
theorem mbreak_any (w : World) (m lb pb : Nat) (lv : List Int) (L : PMap) (h : MeshAt w m lb pb lv L) (a b : Int) (ha : (Lit.int .i64 a).wf = true) (hb : (Lit.int .i64 b).wf = true) (hL : L.length < 999990) :
    Calls Try.prog 29 #[.pointer (some ⟨m, 0, none⟩), .int .i64 a, .int .i64 b] w fun e w' => e = .returned (.tuple #[]) ∧ MPost w w' m lb pb lv L (breakG lv (getM L) a b) 2 := by
  have HM := Lib.hid h
  by_cases h1 : a ∈ lv
  case neg =>
    have HA := Lib.hid (mlive_no w m lb pb lv L h a ha h1)
    have HG := Lib.hid (show breakG lv (getM L) a b = getM L from if_neg (fun e => h1 e.1))
    clear h ha hb h1
    go_enter Try.func29, Try.ntmps29
    go_wp2_with fail
    refine HA.out.mono ?_
    rintro e w' ⟨rfl, rfl⟩
    go_wp2_with fail
    go_end0
    exact ⟨rfl, by rw [HG.out]; exact MPost.same HM.out (Only.refl _ _) 2⟩
  by_cases h2 : b ∈ lv
  case neg =>
    have HA := Lib.hid (mlive_yes w m lb pb lv L h a ha h1)
    have HB := Lib.hid (mlive_no w m lb pb lv L h b hb h2)
    have HG := Lib.hid (show breakG lv (getM L) a b = getM L from if_neg (fun e => h2 e.2.1))
    clear h ha hb h1 h2
    go_enter Try.func29, Try.ntmps29
    go_wp2_with fail
    refine HA.out.mono ?_
    rintro e w' ⟨rfl, rfl⟩
    go_wp2_with fail
    refine HB.out.mono ?_
    rintro e w' ⟨rfl, rfl⟩
    go_wp2_with fail
    go_end0
    exact ⟨rfl, by rw [HG.out]; exact MPost.same HM.out (Only.refl _ _) 2⟩
  have HA := Lib.hid (mlive_yes w m lb pb lv L h a ha h1)
  have HB := Lib.hid (mlive_yes w m lb pb lv L h b hb h2)
  by_cases h3 : a = b
  · have HG := Lib.hid (show breakG lv (getM L) a b = getM L from if_neg (fun e => e.2.2 h3))
    clear h ha hb h1 h2
    subst h3
    go_enter Try.func29, Try.ntmps29
    go_wp2_with fail
    refine HA.out.mono ?_
    rintro e w' ⟨rfl, rfl⟩
    go_wp2_with fail
    refine HB.out.mono ?_
    rintro e w' ⟨rfl, rfl⟩
    go_wp2_with fail
    go_end0
    exact ⟨rfl, by rw [HG.out]; exact MPost.same HM.out (Only.refl _ _) 2⟩
  · have HG := Lib.hid (show breakG lv (getM L) a b = brk1 (brk1 (getM L) a b) b a from if_pos ⟨h1, h2, h3⟩)
    have HP := Lib.hid (mpipe_any w m lb pb lv L h a b ha hb (by omega))
    have HQ := Lib.hid (fun w' L' (h' : MeshAt w' m lb pb lv L') (hn : L'.length < 1000000) => mpipe_any w' m lb pb lv L' h' b a hb ha hn)
    clear h ha hb h1 h2
    go_enter Try.func29, Try.ntmps29
    go_wp2_with fail
    refine HA.out.mono ?_
    rintro e w' ⟨rfl, rfl⟩
    go_wp2_with fail
    refine HB.out.mono ?_
    rintro e w' ⟨rfl, rfl⟩
    go_wp2_with fail
    refine HP.out.mono ?_
    rintro e w1 ⟨v, rfl, hv⟩
    unfold PipePost at hv
    obtain ⟨L1, d, rfl, k1, k2, k3, k4, k5, k6⟩ := hv
    obtain ⟨d', e1, k7, k8⟩ := k1.pipe _ (look_mem k3)
    cases e1
    have HP2 := Lib.hid (break_any w1 d.p d.c d.l k7)
    have HK := Lib.hid (fun w2 ho hp => PipePost.upd (w2 := w2) k1 k2 k3 k5 k6 ho hp (show [(true, (⟨#[]⟩ : ByteArray))].length ≤ 64 by decide))
    clear k1 k2 k3 k4 k5 k6 k7 k8
    go_wp2_with fail
    refine HP2.out.mono ?_
    rintro e w2 ⟨rfl, ho2, hp2⟩
    obtain ⟨L2, q1, q2, q3, q4⟩ := (HK.out w2 ho2 hp2).out
    have HQ2 := Lib.hid (HQ.out w2 L2 q1 (by omega))
    have Q2 := Lib.hid q2
    have Q3 := Lib.hid q3
    have Q4 := Lib.hid q4
    clear q2 q3 q4
    clear q1 ho2 hp2
    go_wp2_with fail
    refine HQ2.out.mono ?_
    rintro e w3 ⟨v, rfl, hv⟩
    unfold PipePost at hv
    obtain ⟨L3, d, rfl, k1, k2, k3, k4, k5, k6⟩ := hv
    obtain ⟨d', e1, k7, k8⟩ := k1.pipe _ (look_mem k3)
    cases e1
    have HP3 := Lib.hid (break_any w3 d.p d.c d.l k7)
    have HK3 := Lib.hid (fun w2 ho hp => PipePost.upd (w2 := w2) k1 k2 k3 k5 k6 ho hp (show [(true, (⟨#[]⟩ : ByteArray))].length ≤ 64 by decide))
    clear k1 k2 k3 k4 k5 k6 k7 k8
    go_wp2_with fail
    refine HP3.out.mono ?_
    rintro e w4 ⟨rfl, ho4, hp4⟩
    obtain ⟨L4, r1, r2, r3, r4⟩ := (HK3.out w4 ho4 hp4).out
    have R1 := Lib.hid r1
    have R2 := Lib.hid r2
    have R3 := Lib.hid r3
    have R4 := Lib.hid r4
    clear r1 r2 r3 r4
    clear ho4 hp4
    go_wp2_with fail
    go_end0
    refine ⟨rfl, ?_⟩
    rw [HG.out]
    refine ⟨L4, R1.out, Q2.out.trans R2.out, fun x y => ?_, by have := Q4.out; have := R4.out; omega⟩
    rw [R3.out]
    unfold brk1 setG
    rw [Q3.out]
    rfl
set_option maxRecDepth 100000 in
set_option maxHeartbeats 2000000 in
theorem msend_any (w : World) (m lb pb : Nat) (lv : List Int) (L : PMap) (h : MeshAt w m lb pb lv L) (a b : Int) (s : ByteArray) (ha : (Lit.int .i64 a).wf = true) (hb : (Lit.int .i64 b).wf = true) (hL : L.length < 999980) :
    Calls Try.prog 32 #[.pointer (some ⟨m, 0, none⟩), .int .i64 a, .int .i64 b, .string s] w fun e w' => e = .returned (.tuple #[]) ∧ MPost w w' m lb pb lv L (sendG lv (getM L) a b s) 3 := by
  have HM := Lib.hid h
  by_cases h1 : a ∈ lv
  case neg =>
    have HA := Lib.hid (mlive_no w m lb pb lv L h a ha h1)
    have HG := Lib.hid (show sendG lv (getM L) a b s = getM L from if_neg (fun e => h1 e.1))
    clear h ha hb h1
    go_enter Try.func32, Try.ntmps32
    go_wp2_with fail
    refine HA.out.mono ?_
    rintro e w' ⟨rfl, rfl⟩
    go_wp2_with fail
    go_end0
    exact ⟨rfl, by rw [HG.out]; exact MPost.same HM.out (Only.refl _ _) 3⟩
  have HA := Lib.hid (mlive_yes w m lb pb lv L h a ha h1)
  by_cases h3 : a = b
  · have HG := Lib.hid (show sendG lv (getM L) a b s = getM L from if_neg (fun e => e.2 h3))
    clear h ha hb h1
    subst h3
    go_enter Try.func32, Try.ntmps32
    go_wp2_with fail
    refine HA.out.mono ?_
    rintro e w' ⟨rfl, rfl⟩
    go_wp2_with fail
    go_end0
    exact ⟨rfl, by rw [HG.out]; exact MPost.same HM.out (Only.refl _ _) 3⟩
  by_cases h2 : b ∈ lv
  case neg =>
    have HB := Lib.hid (mlive_no w m lb pb lv L h b hb h2)
    have HG := Lib.hid (show sendG lv (getM L) a b s = brk1 (getM L) b a from by unfold sendG; rw [if_pos ⟨h1, h3⟩, if_neg h2])
    have HP := Lib.hid (mpipe_any w m lb pb lv L h b a hb ha (by omega))
    clear h ha hb h1 h2
    go_enter Try.func32, Try.ntmps32
    go_wp2_with fail
    refine HA.out.mono ?_
    rintro e w' ⟨rfl, rfl⟩
    go_wp2_with fail
    refine HB.out.mono ?_
    rintro e w' ⟨rfl, rfl⟩
    go_wp2_with fail
    refine HP.out.mono ?_
    rintro e w1 ⟨v, rfl, hv⟩
    unfold PipePost at hv
    obtain ⟨L1, d, rfl, k1, k2, k3, k4, k5, k6⟩ := hv
    obtain ⟨d', e1, k7, k8⟩ := k1.pipe _ (look_mem k3)
    cases e1
    have HP2 := Lib.hid (break_any w1 d.p d.c d.l k7)
    have HK := Lib.hid (fun w2 ho hp => PipePost.upd (w2 := w2) k1 k2 k3 k5 k6 ho hp (show [(true, (⟨#[]⟩ : ByteArray))].length ≤ 64 by decide))
    clear k1 k2 k3 k4 k5 k6 k7 k8
    go_wp2_with fail
    refine HP2.out.mono ?_
    rintro e w2 ⟨rfl, ho2, hp2⟩
    have HF := Lib.hid (HK.out w2 ho2 hp2)
    clear ho2 hp2
    go_wp2_with fail
    go_end0
    exact ⟨rfl, by rw [HG.out]; exact HF.out.of (fun _ _ => rfl) (by omega)⟩
  have HB := Lib.hid (mlive_yes w m lb pb lv L h b hb h2)
  have HP := Lib.hid (mpipe_any w m lb pb lv L h a b ha hb (by omega))
  have HBR := Lib.hid (fun w' L' (h' : MeshAt w' m lb pb lv L') (hn : L'.length < 999990) => mbreak_any w' m lb pb lv L' h' a b ha hb hn)
  have HG1 := Lib.hid (show (getM L a b).length < 64 → sendG lv (getM L) a b s = setG (getM L) a b (getM L a b ++ [(false, s)]) from fun e => by unfold sendG; rw [if_pos ⟨h1, h3⟩, if_pos h2, if_pos e])
  have HG2 := Lib.hid (show ¬ (getM L a b).length < 64 → sendG lv (getM L) a b s = brk1 (brk1 (getM L) a b) b a from fun e => by unfold sendG breakG; rw [if_pos ⟨h1, h3⟩, if_pos h2, if_neg e, if_pos ⟨h1, h2, h3⟩])
  have HLV := Lib.hid (show a ∈ lv ∧ b ∈ lv ∧ a ≠ b from ⟨h1, h2, h3⟩)
  clear h ha hb h1 h2
  go_enter Try.func32, Try.ntmps32
  go_wp2_with fail
  refine HA.out.mono ?_
  rintro e w' ⟨rfl, rfl⟩
  go_wp2_with fail
  refine HB.out.mono ?_
  rintro e w' ⟨rfl, rfl⟩
  go_wp2_with fail
  refine HP.out.mono ?_
  rintro e w1 ⟨v, rfl, hv⟩
  unfold PipePost at hv
  obtain ⟨L1, d, rfl, k1, k2, k3, k4, k5, k6⟩ := hv
  obtain ⟨d', e1, k7, k8⟩ := k1.pipe _ (look_mem k3)
  cases e1
  by_cases hr : (getM L a b).length < 64
  · have HP2 := Lib.hid (send_room w1 d.p d.c (items d.l) s k7 (by unfold items; rw [List.length_map, k4]; exact hr))
    have HK := Lib.hid (fun w2 ho hp => PipePost.upd (w2 := w2) (l := getM L a b ++ [(false, s)]) k1 k2 k3 k5 k6 ho hp (by rw [List.length_append]; simp; omega))
    have HE := Lib.hid (show items d.l ++ [.agg #[.bool false, .string s]] = items (getM L a b ++ [(false, s)]) by rw [k4]; unfold items; rw [List.map_append]; rfl)
    have HG := Lib.hid (HG1.out hr)
    clear k1 k2 k3 k4 k5 k6 k7 k8 hr
    go_wp2_with fail
    refine HP2.out.mono ?_
    rintro e w2 ⟨rfl, ho2, hp2⟩
    rw [HE.out] at hp2
    have HF := Lib.hid (HK.out w2 ho2 hp2)
    clear ho2 hp2
    go_wp2_with fail
    go_end0
    exact ⟨rfl, by rw [HG.out]; exact HF.out.of (fun _ _ => rfl) (by omega)⟩
  · have HP2 := Lib.hid (send_full w1 d.p d.c (items d.l) s k7 (by unfold items; rw [List.length_map, k4]; omega))
    have HK := Lib.hid (fun w2 ho hp => PipePost.upd (w2 := w2) (l := getM L a b) k1 k2 k3 k5 k6 ho (by rw [← k4]; exact hp) (by rw [← k4]; exact k8))
    have HG := Lib.hid (HG2.out hr)
    clear k1 k2 k3 k4 k5 k6 k7 k8 hr
    go_wp2_with fail
    refine HP2.out.mono ?_
    rintro e w2 ⟨rfl, ho2, hp2⟩
    obtain ⟨L2, q1, q2, q3, q4⟩ := (HK.out w2 ho2 hp2).out
    have HB2 := Lib.hid (HBR.out w2 L2 q1 (by omega))
    have Q2 := Lib.hid q2
    have Q3 := Lib.hid q3
    have Q4 := Lib.hid q4
    clear q2 q3 q4
    clear q1 ho2 hp2
    go_wp2_with fail
    refine HB2.out.mono ?_
    rintro e w3 ⟨rfl, hp3⟩
    have HP3 := Lib.hid hp3
    clear hp3
    go_wp2_with fail
    go_end0
    refine ⟨rfl, ?_⟩
    rw [HG.out]
    obtain ⟨L3, r1, r2, r3, r4⟩ := HP3.out.out
    refine ⟨L3, r1, Q2.out.trans r2, fun x y => ?_, by have := Q4.out; omega⟩
    rw [r3]
    unfold breakG
    rw [if_pos HLV.out]
    have e1 : ∀ x y, getM L2 x y = getM L x y := fun x y => by
      rw [Q3.out]
      unfold setG
      split
      · rename_i e; rw [e.1, e.2]
      · rfl
    unfold brk1 setG
    split
    · rfl
    · split
      · rfl
      · exact e1 x y
end Go.Proofs.Ytjgcbcahikemdaa
/-! A mesh: Len, Take. -/
namespace Go.Proofs.Ytjgcbcahikemdaa
open Go.Conc Go.RowKit Go.Maps

theorem MeshAt.lookup {w : World} {m lb pb : Nat} {lv : List Int} {L : PMap} (h : MeshAt w m lb pb lv L) (a b : Int) (ha : (Lit.int .i64 a).wf = true) (hb : (Lit.int .i64 b).wf = true) :
    (Instr.lookup 103 (.map (some pb)) (.agg #[.int .i64 a, .int .i64 b]) false).run Try.prog w = .ok (ptrV ((lookL L (a, b)).getD none)) w :=
  h.pipes.look wayKeyed wayInj Try.underlying103 (z := none) (zeroP _) (wayOk ha hb) false
set_option maxRecDepth 100000 in
set_option maxHeartbeats 2000000 in
theorem mlen_any (w : World) (m lb pb : Nat) (lv : List Int) (L : PMap) (h : MeshAt w m lb pb lv L) (a b : Int) (ha : (Lit.int .i64 a).wf = true) (hb : (Lit.int .i64 b).wf = true) :
    Calls Try.prog 37 #[.pointer (some ⟨m, 0, none⟩), .int .i64 a, .int .i64 b] w fun e w' => e = .returned (.int .i64 (getM L a b).length) ∧ w = w' := by
  have hlk := h.lookup a b ha hb
  have c1 : w.cell? ⟨m, 1, none⟩ = some (.map (some pb)) := cell_at h.blk 1
  rcases h.look_cases (a, b) with hl | ⟨d, hl, hp, hn⟩
  · have HG := Lib.hid (show getM L a b = [] by unfold getM; rw [hl])
    rw [hl] at hlk
    have hlk' : (Instr.lookup 103 (.map (some pb)) (.agg #[.int .i64 a, .int .i64 b]) false).run Try.prog w = .ok (.pointer none) w := hlk
    have HL := Lib.hid (len_nil w)
    clear hl ha hb h hlk
    go_enter Try.func37, Try.ntmps37
    go_wp2_with fail
    refine HL.out.mono ?_
    rintro e w' ⟨rfl, rfl⟩
    go_wp2_with fail
    go_ret
    exact ⟨by rw [HG.out]; rfl, rfl⟩
  · have HG := Lib.hid (show getM L a b = d.l by unfold getM; rw [hl])
    rw [hl] at hlk
    have hlk' : (Instr.lookup 103 (.map (some pb)) (.agg #[.int .i64 a, .int .i64 b]) false).run Try.prog w = .ok (.pointer (some ⟨d.p, 0, none⟩)) w := hlk
    have HL := Lib.hid (len_n w d.p d.c (items d.l) (d.l.length : Int) hp (by unfold items; rw [List.length_map]))
    clear hl ha hb h hlk hp hn
    go_enter Try.func37, Try.ntmps37
    go_wp2_with fail
    refine HL.out.mono ?_
    rintro e w' ⟨rfl, rfl⟩
    go_wp2_with fail
    go_ret
    exact ⟨by rw [HG.out]; rfl, rfl⟩
theorem mlen_nil (w : World) (a b : Int) : Calls Try.prog 37 #[.pointer none, .int .i64 a, .int .i64 b] w fun e w' => e = .returned (.int .i64 0) ∧ w = w' := by
  go_enter Try.func37, Try.ntmps37
  go_wp2_with fail
  go_ret
  exact ⟨rfl, rfl⟩
theorem mtake_nil (w : World) (a b : Int) : Calls Try.prog 26 #[.pointer none, .int .i64 a, .int .i64 b] w fun e w' => e = .returned (.tuple #[.agg #[.bool false, .string ⟨#[]⟩], .bool false]) ∧ Only (fun _ => False) w w' := by
  go_enter Try.func26, Try.ntmps26
  go_wp2
  exact bodyPost_ret (v := .tuple #[.agg #[.bool false, .string ⟨#[]⟩], .bool false]) (by simp [results, Try.results26, go_sem]) rfl ⟨rfl, (Only.refl _ w).alloc _⟩
/-- What Take leaves. -/
def TakePost (w w' : World) (m lb pb : Nat) (lv : List Int) (L : PMap) (a b : Int) (x : Bool) (y : ByteArray) (ok : Bool) : Prop := ∃ rest, Took (getM L a b) x y ok rest ∧ MPost w w' m lb pb lv L (setG (getM L) a b rest) 0
theorem set_atM {w : World} {b : Nat} {cs : Array Value} {t : TypeId} {f : Nat × Nat} (h : w.heap[b]? = some (.cells cs t f)) (i : Nat) (v : Value) : (w.setCell ⟨b, i, none⟩ v).heap[b]? = some (.cells (cs.setIfInBounds i v) t f) := by
  have hlt := lt_of_block h
  have h' : w.heap[b] = .cells cs t f := by simpa [Array.getElem?_eq_getElem hlt] using h
  show (w.heap.modify b _)[b]? = _
  rw [Array.getElem?_eq_getElem (by simpa using hlt), Array.getElem_modify_self, h']
  rfl
/-- Two cells of a new block are written. -/
theorem TakePost.fin {w w2 w3 : World} {m lb pb : Nat} {lv : List Int} {L : PMap} {G : Ways} {a b : Int} {x : Bool} {y : ByteArray} {ok : Bool} {rest : List (Bool × ByteArray)} {v0 v1 : Value} (hb : w2.heap[w.heap.size]? = some (.cells #[.bool false, .string ⟨#[]⟩] 58 (0, 0))) (hp : MPost w w2 m lb pb lv L G 0) (hT : Took (getM L a b) x y ok rest) (hG : ∀ p q, setG (getM L) a b rest p q = G p q)
    (hw : w3 = (w2.setCell ⟨w.heap.size, 0, none⟩ v0).setCell ⟨w.heap.size, 1, none⟩ v1) : TakePost w w3 m lb pb lv L a b x y ok := by
  obtain ⟨L', k1, k2, k3, k4⟩ := hp.out
  have ho : Only (fun i => i = w.heap.size) w2 w3 := by
    rw [hw]
    exact ((Only.refl (fun i => i = w.heap.size) _).setCell (p := ⟨w.heap.size, 0, none⟩) (.inr rfl) _).setCell (p := ⟨w.heap.size, 1, none⟩) (.inr rfl) _
  have ho' : Only (foot lb pb L) w w3 := by
    rw [hw]
    exact (k2.only.setCell (p := ⟨w.heap.size, 0, none⟩) (.inl (Nat.le_refl _)) _).setCell (p := ⟨w.heap.size, 1, none⟩) (.inl (Nat.le_refl _)) _
  refine ⟨rest, hT, ⟨L', k1.kept ho (fun e => ?_) (fun k hk e => ?_) (fun e he d hd e2 => ?_), ⟨ho', k2.next⟩, fun p q => (k3 p q).trans (hG p q).symm, k4⟩⟩
  · have h9 : m = w.heap.size := e
    have := k1.blk
    rw [h9, hb] at this
    cases this
  · have h9 : k = w.heap.size := e
    subst h9
    exact k1.foot_cells hk hb
  · have h9 : d.p = w.heap.size := e2
    obtain ⟨d', hd', h1, _⟩ := k1.pipe e he
    rw [hd] at hd'
    cases hd'
    have := h1.blk
    rw [h9, hb] at this
    cases this
set_option maxRecDepth 100000 in
set_option maxHeartbeats 2000000 in
theorem mtake_any (w : World) (m lb pb : Nat) (lv : List Int) (L : PMap) (h : MeshAt w m lb pb lv L) (a b : Int) (ha : (Lit.int .i64 a).wf = true) (hb : (Lit.int .i64 b).wf = true) :
    Calls Try.prog 26 #[.pointer (some ⟨m, 0, none⟩), .int .i64 a, .int .i64 b] w fun e w' => ∃ x y ok, e = .returned (.tuple #[.agg #[.bool x, .string y], .bool ok]) ∧ TakePost w w' m lb pb lv L a b x y ok := by
  obtain ⟨W, hW⟩ : ∃ W, W = w.alloc (.cells #[.bool false, .string ⟨#[]⟩] 58) := ⟨_, rfl⟩
  have hbW : W.heap[w.heap.size]? = some (.cells #[.bool false, .string ⟨#[]⟩] 58 (0, 0)) := by rw [hW]; exact heap_alloc_new w _
  have hoW : Only (fun _ => False) w W := by rw [hW]; exact (Only.refl _ _).alloc _
  have hsW : W.heap.size = w.heap.size + 1 := by rw [hW]; simp
  have h1 := h.new hoW
  have hlk := h1.lookup a b ha hb
  have c1 : W.cell? ⟨m, 1, none⟩ = some (.map (some pb)) := cell_at h1.blk 1
  have x0 : W.cell? ⟨w.heap.size, 0, none⟩ = some (.bool false) := cell_at hbW 0
  have x1 : W.cell? ⟨w.heap.size, 1, none⟩ = some (.string ⟨#[]⟩) := cell_at hbW 1
  have HMw := Lib.hid h
  have hoW' := hoW
  have HO := Lib.hid hoW
  have HW := Lib.hid hW
  have HB := Lib.hid hbW
  clear hoW hW hbW
  rcases h.look_cases (a, b) with hl | ⟨d, hl, hp, hn⟩
  · have HG := Lib.hid (show getM L a b = [] by unfold getM; rw [hl])
    rw [hl] at hlk
    have hlk' : (Instr.lookup 103 (.map (some pb)) (.agg #[.int .i64 a, .int .i64 b]) false).run Try.prog W = .ok (.pointer none) W := hlk
    have HL := Lib.hid (take_nil W)
    clear hl ha hb h hlk h1
    go_enter Try.func26, Try.ntmps26
    go_upto_region 3 with (fail)
    rw [← HW.out]
    go_wp2_with fail
    refine HL.out.mono ?_
    rintro e w2 ⟨rfl, ho2⟩
    have hb2 := ho2.old HB.out id
    have x0 : w2.cell? ⟨w.heap.size, 0, none⟩ = some (.bool false) := cell_at hb2 0
    have x1 : w2.cell? ⟨w.heap.size, 1, none⟩ = some (.string ⟨#[]⟩) := cell_at hb2 1
    have xf : ∀ i, w2.frozen? ⟨w.heap.size, i, none⟩ = false := free_at hb2
    have HO2 := Lib.hid ho2
    have HB2 := Lib.hid hb2
    clear ho2 hb2
    clear hlk' c1
    go_wp2_with fail
    obtain ⟨w3, hw3⟩ : ∃ w3, w3 = (w2.setCell ⟨w.heap.size, 0, none⟩ (.bool false)).setCell ⟨w.heap.size, 1, none⟩ (.string ⟨#[]⟩) := ⟨_, rfl⟩
    rw [← hw3]
    have hb3 : w3.heap[w.heap.size]? = some (.cells #[.bool false, .string ⟨#[]⟩] 58 (0, 0)) := by rw [hw3]; exact set_atM (set_atM HB2.out 0 _) 1 _
    have y0 : w3.cell? ⟨w.heap.size, 0, none⟩ = some (.bool false) := cell_at hb3 0
    have y1 : w3.cell? ⟨w.heap.size, 1, none⟩ = some (.string ⟨#[]⟩) := cell_at hb3 1
    have HF := Lib.hid (TakePost.fin (w := w) HB2.out (MPost.same HMw.out (HO.out.trans HO2.out) 0) (by rw [HG.out]; exact .inr ⟨rfl, rfl, rfl, rfl, rfl⟩) (by intro x y; unfold setG; split; (rename_i e; rw [e.1, e.2, HG.out]); rfl) hw3)
    clear hw3 hb3 x0 x1 xf
    exact bodyPost_ret (v := .tuple #[.agg #[.bool false, .string ⟨#[]⟩], .bool false]) (by simp [results, Try.results26, go_sem, y0, y1]) rfl ⟨_, _, _, rfl, HF.out⟩
  · have HG := Lib.hid (show getM L a b = d.l by unfold getM; rw [hl])
    rw [hl] at hlk
    have hlk' : (Instr.lookup 103 (.map (some pb)) (.agg #[.int .i64 a, .int .i64 b]) false).run Try.prog W = .ok (.pointer (some ⟨d.p, 0, none⟩)) W := hlk
    have hbd := hp.lt
    have HL := Lib.hid (take_any W d.p d.c d.l (hp.kept hoW' id id))
    have HU := Lib.hid (fun w2 rest ho hp hn => h1.upd (w' := w2) (l := rest) hl ho hp hn)
    have HLL := Lib.hid hl
    clear ha hb h hlk h1 hp hl
    go_enter Try.func26, Try.ntmps26
    go_upto_region 3 with (fail)
    rw [← HW.out]
    go_wp2_with fail
    refine HL.out.mono ?_
    rintro e w2 ⟨x, y, ok, rest, rfl, ho2, hp2, hT⟩
    have hb2 := ho2.old HB.out (fun e => by have h9 : w.heap.size = d.c := e; omega)
    have x0 : w2.cell? ⟨w.heap.size, 0, none⟩ = some (.bool false) := cell_at hb2 0
    have x1 : w2.cell? ⟨w.heap.size, 1, none⟩ = some (.string ⟨#[]⟩) := cell_at hb2 1
    have xf : ∀ i, w2.frozen? ⟨w.heap.size, i, none⟩ = false := free_at hb2
    have hrn : rest.length ≤ 64 := by
      rcases hT with ⟨_, hT⟩ | ⟨_, _, rfl, _⟩
      · rw [hT] at hn; simp at hn; omega
      · simp
    obtain ⟨k1, k2⟩ := HU.out w2 rest ho2 hp2 hrn
    have HPO := Lib.hid (show MPost w w2 m lb pb lv L (setG (getM L) a b rest) 0 from ⟨_, k1, (Step.of HO.out).trans k2, fun x y => by rw [get_setD HLL.out rest x y]; rfl, by unfold setD; rw [List.length_map]; omega⟩)
    have HB2 := Lib.hid hb2
    have HT := Lib.hid hT
    clear hb2 hT
    clear hlk' c1 k1 k2 hrn ho2 hp2 hbd
    go_wp2_with fail
    obtain ⟨w3, hw3⟩ : ∃ w3, w3 = (w2.setCell ⟨w.heap.size, 0, none⟩ (.bool x)).setCell ⟨w.heap.size, 1, none⟩ (.string y) := ⟨_, rfl⟩
    rw [← hw3]
    have hb3 : w3.heap[w.heap.size]? = some (.cells #[.bool x, .string y] 58 (0, 0)) := by rw [hw3]; exact set_atM (set_atM HB2.out 0 _) 1 _
    have y0 : w3.cell? ⟨w.heap.size, 0, none⟩ = some (.bool x) := cell_at hb3 0
    have y1 : w3.cell? ⟨w.heap.size, 1, none⟩ = some (.string y) := cell_at hb3 1
    have HF := Lib.hid (TakePost.fin (w := w) HB2.out HPO.out (by rw [HG.out]; exact HT.out) (fun _ _ => rfl) hw3)
    clear hw3 hb3 x0 x1 xf
    exact bodyPost_ret (v := .tuple #[.agg #[.bool x, .string y], .bool ok]) (by simp [results, Try.results26, go_sem, y0, y1]) rfl ⟨_, _, _, rfl, HF.out⟩
end Go.Proofs.Ytjgcbcahikemdaa
/-! No mesh. -/
namespace Go.Proofs.Ytjgcbcahikemdaa
open Go.Conc Go.RowKit Go.Maps

set_option maxRecDepth 100000 in
theorem msend_nil (w : World) (a b : Int) (s : ByteArray) : Calls Try.prog 32 #[.pointer none, .int .i64 a, .int .i64 b, .string s] w fun e w' => e = .returned (.tuple #[]) ∧ w = w' := by
  have HA := Lib.hid (mlive_nil w a)
  go_enter Try.func32, Try.ntmps32
  go_wp2_with fail
  refine HA.out.mono ?_
  rintro e w' ⟨rfl, rfl⟩
  go_wp2_with fail
  go_end0
  exact ⟨rfl, rfl⟩
set_option maxRecDepth 100000 in
theorem mbreak_nil (w : World) (a b : Int) : Calls Try.prog 29 #[.pointer none, .int .i64 a, .int .i64 b] w fun e w' => e = .returned (.tuple #[]) ∧ w = w' := by
  have HA := Lib.hid (mlive_nil w a)
  go_enter Try.func29, Try.ntmps29
  go_wp2_with fail
  refine HA.out.mono ?_
  rintro e w' ⟨rfl, rfl⟩
  go_wp2_with fail
  go_end0
  exact ⟨rfl, rfl⟩
set_option maxRecDepth 100000 in
theorem mdown_nil (w : World) (a : Int) : Calls Try.prog 31 #[.pointer none, .int .i64 a] w fun e w' => e = .returned (.tuple #[]) ∧ Only (fun _ => False) w w' := by
  have HA := Lib.hid (fun w => mlive_nil w a)
  obtain ⟨W, hW⟩ : ∃ W, W = w.alloc (.cells #[.int .i64 a] 3) := ⟨_, rfl⟩
  have hbW : W.heap[w.heap.size]? = some (.cells #[.int .i64 a] 3 (0, 0)) := by rw [hW]; exact heap_alloc_new w _
  have hoW : Only (fun _ => False) w W := by rw [hW]; exact (Only.refl _ _).alloc _
  have hsW : W.heap.size = w.heap.size + 1 := by rw [hW]; simp
  have x0 : W.cell? ⟨w.heap.size, 0, none⟩ = some (.int .i64 a) := cell_at hbW 0
  have HO := Lib.hid hoW
  go_enter Try.func31, Try.ntmps31
  go_upto_region 1 with (fail)
  rw [← hW]
  clear hW hoW hbW hsW
  go_wp2_with fail
  refine (HA.out _).mono ?_
  rintro e w' ⟨rfl, rfl⟩
  go_wp2_with fail
  exact bodyPost_ret (v := .tuple #[]) (results_none rfl _ _ _) rfl ⟨rfl, HO.out⟩
set_option maxRecDepth 100000 in
theorem mnodes_nil (w : World) : Calls Try.prog 35 #[.pointer none] w fun e w' => e = .returned (.slice none 0 0) ∧ w = w' := by
  go_enter Try.func35, Try.ntmps35
  go_wp2_with fail
  go_ret
  exact ⟨rfl, rfl⟩
set_option maxRecDepth 100000 in
theorem mways_nil (w : World) : Calls Try.prog 38 #[.pointer none] w fun e w' => e = .returned (.slice none 0 0) ∧ w = w' := by
  go_enter Try.func38, Try.ntmps38
  go_wp2_with fail
  go_ret
  exact ⟨rfl, rfl⟩
end Go.Proofs.Ytjgcbcahikemdaa
/-! Sorting nothing. -/
namespace Go.Proofs.Ytjgcbcahikemdaa
open Go.Conc Go.RowKit Go.Maps

set_option maxRecDepth 100000 in
theorem insW_nil (w : World) (f : Value) : Calls Try.prog 86 #[.slice none 0 0, .int .i64 0, .int .i64 0, f] w fun e w' => e = .returned (.tuple #[]) ∧ w = w' := by
  go_enter Try.func86, Try.ntmps86
  go_wp2_with fail
  refine wp_loop_rounds 1 ?_
  rw [rounds_succ]
  go_wp2_with fail
  go_end0
  exact ⟨rfl, rfl⟩
set_option maxRecDepth 100000 in
theorem pdqW_nil (w : World) (f : Value) (n : Int) : Calls Try.prog 79 #[.slice none 0 0, .int .i64 0, .int .i64 0, .int .i64 n, f] w fun e w' => e = .returned (.tuple #[]) ∧ w = w' := by
  have HI := Lib.hid (insW_nil w f)
  go_enter Try.func79, Try.ntmps79
  go_wp2_with fail
  refine wp_loop_rounds 1 ?_
  rw [rounds_succ]
  go_wp2_with fail
  refine HI.out.mono ?_
  rintro e w' ⟨rfl, rfl⟩
  go_wp2_with fail
  exact bodyPost_ret (v := .tuple #[]) (results_none rfl _ _ _) rfl ⟨rfl, rfl⟩
set_option maxRecDepth 100000 in
theorem blen64_zero (w : World) : Calls Try.prog 95 #[.int .u64 0] w fun e w' => (∃ n, e = .returned (.int .i64 n)) ∧ w = w' := by
  go_enter Try.func95, Try.ntmps95
  go_wp2_with fail
  go_ret
  exact ⟨⟨_, rfl⟩, rfl⟩
set_option maxRecDepth 100000 in
theorem blen_zero (w : World) : Calls Try.prog 80 #[.int .u64 0] w fun e w' => (∃ n, e = .returned (.int .i64 n)) ∧ w = w' := by
  have HI := Lib.hid (blen64_zero w)
  go_enter Try.func80, Try.ntmps80
  go_wp2_with fail
  refine HI.out.mono ?_
  rintro e w' ⟨⟨n, rfl⟩, rfl⟩
  go_wp2_with fail
  go_ret
  exact ⟨⟨n, rfl⟩, rfl⟩
set_option maxRecDepth 100000 in
theorem sortW_nil (w : World) (f : Value) : Calls Try.prog 63 #[.slice none 0 0, f] w fun e w' => e = .returned (.tuple #[]) ∧ w = w' := by
  have HI := Lib.hid (pdqW_nil w f)
  have HB := Lib.hid (blen_zero w)
  go_enter Try.func63, Try.ntmps63
  go_wp2_with fail
  refine HB.out.mono ?_
  rintro e w' ⟨⟨n, rfl⟩, rfl⟩
  go_wp2_with fail
  refine (HI.out n).mono ?_
  rintro e w' ⟨rfl, rfl⟩
  go_wp2_with fail
  go_end0
  exact ⟨rfl, rfl⟩
end Go.Proofs.Ytjgcbcahikemdaa
/-! Ways of a mesh on which nothing is on its way. -/
namespace Go.Proofs.Ytjgcbcahikemdaa
open Go.Conc Go.RowKit Go.Maps
open Go.ChangeMaps (rising_of_pairwise)

/-- What comes out of a range over a map is one of its entries. -/
theorem MapIs.entry {α β : Type} {P : Program} {k : TypeId} {κ : α → Value} {ε : β → Value} {w : World} {b : Nat} {L : List (α × β)} (h : MapIs P k κ ε w b L) (K : Keyed P k) (hκ : ∀ a b, κ a = κ b → a = b) {x c : Value} {kl : Lit} (hkey : keyOf P k x = some kl) (hat : ∀ zd, (mapD P k κ ε L).atKey kl zd = .held c) : ∃ p ∈ L, x = κ p.1 ∧ c = ε p.2 := by
  have ha := WideShapes.atKey_sorted (L.map (entL P k κ ε)) (rising_of_pairwise _ (sorted_sorted K.one _ h.kinds (h.ents K hκ))) kl (K.key hkey)
  by_cases hex : ∃ p ∈ L, keyL P k κ p.1 = kl
  · obtain ⟨p, hp, e⟩ := hex
    have e1 := ha.2 (entL P k κ ε p) (List.mem_map.2 ⟨_, hp, rfl⟩) e .nil
    have e2 := hat .nil
    obtain ⟨l, hl⟩ := h.keys p hp
    have e3 := keyL_of hl
    rw [e] at e3
    subst e3
    exact ⟨p, hp, K.inj hkey hl, DataW.held.inj (e2.symm.trans e1)⟩
  · have e1 := ha.1 (fun q hq => by
      obtain ⟨p, hp, rfl⟩ := List.mem_map.1 hq
      exact fun e => hex ⟨p, hp, e⟩) .nil
    have e2 := hat .nil
    cases e2.symm.trans e1
theorem ranges_at {P : Program} {k : TypeId} {R : Value → Option (DataW Value × List MemPlace)} {b r n : Nat} {D : DataW Value} {left : Lit → Bool} {cnt : Nat} {w w' : World} (h : w.ranges P k R b r n D left cnt) (ho : Only (fun _ => False) w w') : w'.ranges P k R b r n D left cnt := by
  have hb := h.owns.lt
  have hr := h.lt
  unfold World.ranges at *
  rw [ho.block b hb id, ho.block r hr id]
  exact h
set_option maxRecDepth 100000 in
set_option maxHeartbeats 1000000 in
theorem mways_none (w : World) (m lb pb : Nat) (lv : List Int) (L : PMap) (h : MeshAt w m lb pb lv L) (hG : ∀ x y, getM L x y = []) : Calls Try.prog 38 #[.pointer (some ⟨m, 0, none⟩)] w fun e w' => e = .returned (.slice none 0 0) ∧ Only (fun _ => False) w w' := by
  have c1 : w.cell? ⟨m, 1, none⟩ = some (.map (some pb)) := cell_at h.blk 1
  have HM := Lib.hid h
  have HG := Lib.hid hG
  have HE := Lib.hid (fun x c kl => h.pipes.entry wayKeyed wayInj (x := x) (c := c) (kl := kl))
  have hown := h.pipes.own
  clear h hG
  go_enter Try.func38, Try.ntmps38
  go_wp2_with (first
    | (at_range; refine wpList_range_own _ rfl _ 103 rfl 108 106 wayKeyed Try.underlying103 _ pb _ _ rfl hown ?_; intro w0 hrg0 hg0 hs0)
    | fail)
  go_frame
  have ho0 := (Only.refl (fun _ => False) w).grown hg0 (fun k hk => by cases hk)
  clear c1 hown
  go_loopw [3] (fun v3 wr => v3 = .slice none 0 0 ∧ ∃ (left : Lit → Bool) (cnt : Nat), wr.ranges Try.prog 108 heldE pb w.heap.size L.length (mapD Try.prog 108 wayV ptrV L) left cnt ∧ Only (fun _ => False) w wr)
    (fun _ wr => wr.rangeLeft pb w.heap.size)
  case atStart => exact ⟨rfl, _, _, hrg0, ho0⟩
  case round =>
    obtain ⟨rfl, left, cnt, hrg, hgw⟩ := hrel
    clear hrg0 hg0 hs0 ho0
    go_wp2_with (first
      | (at_next; refine wpList_next_ranges _ rfl _ rfl 108 wayKeyed heldE (fun v => v) (fun v => v) (fun key kl _ => ⟨key, rfl⟩) (fun v y _ => ⟨v, rfl⟩) pb w.heap.size _ _ _ _ rfl hrg ?_ ?_)
      | fail)
    · intro _ _
      clear hrg
      go_wp2_with fail
      refine (sortW_nil _ _).mono ?_
      rintro e w' ⟨rfl, rfl⟩
      go_wp2_with fail
      go_ret
      exact ⟨rfl, hgw⟩
    · intro x c kl yd yp w1 cnt1 hkey hlk hR hat hrg1 hlt hg1 hs1 hen
      have hy : yd = .held c := by
        unfold heldE at hR
        exact (Prod.mk.inj (Option.some.inj hR)).1.symm
      subst hy
      obtain ⟨⟨⟨a, b⟩, o⟩, hp, rfl, rfl⟩ := HE.out x c kl hkey hat
      obtain ⟨d, e, hpp, _⟩ := HM.out.pipe _ hp
      simp only at e
      subst e
      have hG := HG.out a b
      have hdl : d.l = [] := by
        have := lookL_of_mem HM.out.pipes.apart hp
        unfold getM at hG
        rw [this] at hG
        exact hG
      have hgw1 := hgw.grown hg1 (fun k hk => by cases hk; exact Or.inl (Nat.le_refl _))
      have HPP := Lib.hid hpp
      have HW1 := Lib.hid hgw1
      have HR1 := Lib.hid hrg1
      have HR0 := Lib.hid hrg
      have HLT := Lib.hid hlt
      clear hgw1 hrg1 hrg hlt
      clear hp hG hgw hkey hlk hR hat hg1
      simp only [wayV, ptrV] at hen ⊢
      have hpp0 : PipeAt w d.p d.c [] := by
        have h1 := HPP.out
        rw [hdl] at h1
        exact h1
      have HL := Lib.hid (fun w' (ho : Only (fun _ => False) w w') => len_n w' d.p d.c [] 0 (hpp0.kept ho id id) rfl)
      clear hpp hdl hpp0 HPP
      go_wp2_with fail
      obtain ⟨w2, hw2⟩ : ∃ w2, w2 = w1.alloc (.cells #[.int .i64 a, .int .i64 b] 108) := ⟨_, rfl⟩
      have ho2 : Only (fun _ => False) w1 w2 := by
        rw [hw2]
        exact (Only.refl (fun _ => False) w1).alloc _
      rw [← hw2]
      clear hw2
      have HO2 := Lib.hid ho2
      clear ho2
      refine (HL.out w2 (HW1.out.trans HO2.out)).mono ?_
      rintro e w' ⟨rfl, rfl⟩
      clear hen
      go_wp2_with fail
      have hr2 := ranges_at HR1.out HO2.out
      go_roundw
      case rel => exact ⟨rfl, _, _, hr2, HW1.out.trans HO2.out⟩
      case measure => rw [hr2.left_eq, HR0.out.left_eq]; exact HLT.out
end Go.Proofs.Ytjgcbcahikemdaa
/-! A mesh that a call made, through its operations. -/
namespace Go.Proofs.Ytjgcbcahikemdaa
open Go.Conc Go.RowKit Go.Maps

/-- A mesh made behind w: who is there, what lies on which way. -/
structure MRun (w w' : World) (m lb pb : Nat) (lv : List Int) (G : Ways) (n : Nat) : Prop where
  out : ∃ L, MeshAt w' m lb pb lv L ∧ Only (fun _ => False) w w' ∧ (∀ k, foot lb pb L k → w.heap.size ≤ k) ∧ getM L = G ∧ L.length ≤ n ∧ w.heap.size ≤ m
/-- Cells are kept. -/
def CellsKept (w w' : World) : Prop := ∀ (q : Nat) (cs : Array Value) (t : TypeId) (f : Nat × Nat), w.heap[q]? = some (.cells cs t f) → w'.heap[q]? = some (.cells cs t f)
theorem CellsKept.refl (w : World) : CellsKept w w := fun _ _ _ _ h => h
theorem MRun.new {w w1 w2 : World} {m lb pb : Nat} {lv : List Int} {G : Ways} {n : Nat} (h : MRun w w1 m lb pb lv G n) (ho : Only (fun _ => False) w1 w2) : MRun w w2 m lb pb lv G n := by
  obtain ⟨L, h1, h2, h3, h4, h5, h6⟩ := h.out
  exact ⟨L, h1.new ho, h2.trans ho, h3, h4, h5, h6⟩
theorem MRun.only {w w' : World} {m lb pb : Nat} {lv : List Int} {G : Ways} {n : Nat} (h : MRun w w' m lb pb lv G n) : Only (fun _ => False) w w' := by
  obtain ⟨L, h1, h2, h3, h4, h5, h6⟩ := h.out
  exact h2
theorem MPost.run {w w1 w2 : World} {m lb pb : Nat} {lv : List Int} {L : PMap} {G : Ways} {n k : Nat} (h1 : MeshAt w1 m lb pb lv L) (h2 : Only (fun _ => False) w w1) (h3 : ∀ k, foot lb pb L k → w.heap.size ≤ k) (h5 : L.length ≤ n) (h6 : w.heap.size ≤ m) (hp : MPost w1 w2 m lb pb lv L G k) : MRun w w2 m lb pb lv G (n + k) ∧ CellsKept w1 w2 := by
  obtain ⟨L', k1, k2, k3, k4⟩ := hp.out
  refine ⟨⟨L', k1, h2.tr k2.only (fun i hi hf => absurd (h3 i hf) (by omega)), fun i hf => ?_, funext fun x => funext fun y => k3 x y, by omega, h6⟩, fun q cs t f hq => ?_⟩
  · rcases k2.next i hf with h | h
    · exact h3 i h
    · exact Nat.le_trans h2.size h
  · exact k2.only.old hq (fun hf => h1.foot_cells hf hq)
theorem mrun_new (w : World) : Calls Try.prog 23 #[] w fun e w' => ∃ m lb pb, e = .returned (.pointer (some ⟨m, 0, none⟩)) ∧ MRun w w' m lb pb [] (fun _ _ => []) 0 := by
  refine (mnew_any w).mono ?_
  rintro e w' ⟨m, lb, pb, rfl, h1, h2, h3, h4, h5⟩
  refine ⟨m, lb, pb, rfl, [], h2, h1, fun k hk => ?_, rfl, Nat.le_refl _, h3⟩
  rcases hk with rfl | rfl | ⟨e, he, _⟩
  · exact h4
  · exact h5
  · cases he
theorem mrun_up {w w1 : World} {m lb pb : Nat} {lv : List Int} {G : Ways} {n : Nat} (h : MRun w w1 m lb pb lv G n) (a : Int) (h1 : 1 ≤ a) (h2 : a ≤ 65535) (hl : lv.length < 100000) :
    Calls Try.prog 24 #[.pointer (some ⟨m, 0, none⟩), .int .i64 a] w1 fun e w' => e = .returned (.tuple #[]) ∧ MRun w w' m lb pb (upL lv a) G n ∧ CellsKept w1 w' := by
  obtain ⟨L, k1, k2, k3, k4, k5, k6⟩ := h.out
  refine (mup_any w1 m lb pb lv L k1 a h1 h2 hl).mono ?_
  rintro e w' ⟨rfl, q1, q2⟩
  refine ⟨rfl, ⟨L, q1, k2.tr q2 (fun i hi hf => absurd (k3 i (.inl hf)) (by omega)), k3, k4, k5, k6⟩, fun q cs t f hq => q2.old hq (fun hf => k1.foot_cells (.inl hf) hq)⟩
theorem mrun_live {w w1 : World} {m lb pb : Nat} {lv : List Int} {G : Ways} {n : Nat} (h : MRun w w1 m lb pb lv G n) (a : Int) (ha : (Lit.int .i64 a).wf = true) :
    Calls Try.prog 39 #[.pointer (some ⟨m, 0, none⟩), .int .i64 a] w1 fun e w' => e = .returned (.bool (decide (a ∈ lv))) ∧ w1 = w' := by
  obtain ⟨L, k1, _⟩ := h.out
  exact mlive_any w1 m lb pb lv L k1 a ha
theorem mrun_len {w w1 : World} {m lb pb : Nat} {lv : List Int} {G : Ways} {n : Nat} (h : MRun w w1 m lb pb lv G n) (a b : Int) (ha : (Lit.int .i64 a).wf = true) (hb : (Lit.int .i64 b).wf = true) :
    Calls Try.prog 37 #[.pointer (some ⟨m, 0, none⟩), .int .i64 a, .int .i64 b] w1 fun e w' => e = .returned (.int .i64 (G a b).length) ∧ w1 = w' := by
  obtain ⟨L, k1, _, _, rfl, _⟩ := h.out
  exact mlen_any w1 m lb pb lv L k1 a b ha hb
theorem mrun_send {w w1 : World} {m lb pb : Nat} {lv : List Int} {G : Ways} {n : Nat} (h : MRun w w1 m lb pb lv G n) (a b : Int) (s : ByteArray) (ha : (Lit.int .i64 a).wf = true) (hb : (Lit.int .i64 b).wf = true) (hn : n < 900000) :
    Calls Try.prog 32 #[.pointer (some ⟨m, 0, none⟩), .int .i64 a, .int .i64 b, .string s] w1 fun e w' => e = .returned (.tuple #[]) ∧ MRun w w' m lb pb lv (sendG lv G a b s) (n + 3) ∧ CellsKept w1 w' := by
  obtain ⟨L, k1, k2, k3, rfl, k5, k6⟩ := h.out
  refine (msend_any w1 m lb pb lv L k1 a b s ha hb (by omega)).mono ?_
  rintro e w' ⟨rfl, hp⟩
  exact ⟨rfl, hp.run k1 k2 k3 k5 k6⟩
theorem mrun_break {w w1 : World} {m lb pb : Nat} {lv : List Int} {G : Ways} {n : Nat} (h : MRun w w1 m lb pb lv G n) (a b : Int) (ha : (Lit.int .i64 a).wf = true) (hb : (Lit.int .i64 b).wf = true) (hn : n < 900000) :
    Calls Try.prog 29 #[.pointer (some ⟨m, 0, none⟩), .int .i64 a, .int .i64 b] w1 fun e w' => e = .returned (.tuple #[]) ∧ MRun w w' m lb pb lv (breakG lv G a b) (n + 2) ∧ CellsKept w1 w' := by
  obtain ⟨L, k1, k2, k3, rfl, k5, k6⟩ := h.out
  refine (mbreak_any w1 m lb pb lv L k1 a b ha hb (by omega)).mono ?_
  rintro e w' ⟨rfl, hp⟩
  exact ⟨rfl, hp.run k1 k2 k3 k5 k6⟩
theorem mrun_take {w w1 : World} {m lb pb : Nat} {lv : List Int} {G : Ways} {n : Nat} (h : MRun w w1 m lb pb lv G n) (a b : Int) (ha : (Lit.int .i64 a).wf = true) (hb : (Lit.int .i64 b).wf = true) :
    Calls Try.prog 26 #[.pointer (some ⟨m, 0, none⟩), .int .i64 a, .int .i64 b] w1 fun e w' => ∃ x y ok rest, e = .returned (.tuple #[.agg #[.bool x, .string y], .bool ok]) ∧ Took (G a b) x y ok rest ∧ MRun w w' m lb pb lv (setG G a b rest) n ∧ CellsKept w1 w' := by
  obtain ⟨L, k1, k2, k3, rfl, k5, k6⟩ := h.out
  refine (mtake_any w1 m lb pb lv L k1 a b ha hb).mono ?_
  rintro e w' ⟨x, y, ok, rfl, rest, hT, hp⟩
  exact ⟨x, y, ok, rest, rfl, hT, hp.run k1 k2 k3 k5 k6⟩
theorem mrun_ways {w w1 : World} {m lb pb : Nat} {lv : List Int} {G : Ways} {n : Nat} (h : MRun w w1 m lb pb lv G n) (hG : ∀ x y, G x y = []) :
    Calls Try.prog 38 #[.pointer (some ⟨m, 0, none⟩)] w1 fun e w' => e = .returned (.slice none 0 0) ∧ Only (fun _ => False) w1 w' := by
  obtain ⟨L, k1, k2, k3, rfl, k5, k6⟩ := h.out
  exact mways_none w1 m lb pb lv L k1 hG
end Go.Proofs.Ytjgcbcahikemdaa
/-! bellhoplaw08's speaks; the walk of MeshFull. -/
namespace Go.Proofs.Ytjgcbcahikemdaa
open Go.Conc Go.RowKit Go.Maps

theorem took_one {a x : Bool} {b y : ByteArray} {ok : Bool} {l rest : List (Bool × ByteArray)} (h : Took ((a, b) :: l) x y ok rest) : x = a ∧ y = b ∧ ok = true ∧ rest = l := by
  rcases h with ⟨h1, h2⟩ | ⟨_, h2, _⟩
  · cases h2; exact ⟨rfl, rfl, h1, rfl⟩
  · cases h2
theorem took_nil {x : Bool} {y : ByteArray} {ok : Bool} {rest : List (Bool × ByteArray)} (h : Took [] x y ok rest) : x = false ∧ y = ⟨#[]⟩ ∧ ok = false ∧ rest = [] := by
  rcases h with ⟨_, h2⟩ | ⟨h1, _, h3, h4, h5⟩
  · cases h2
  · exact ⟨h4, h5, h1, h3⟩
abbrev G0 : Ways := fun _ _ => []
set_option maxRecDepth 100000 in
set_option maxHeartbeats 2000000 in
theorem speaks08_any (w : World) : Calls Try.prog 22 #[] w fun e w' => e = .returned (.bool true) ∧ Only (fun _ => False) w w' := by
  go_enter Try.func22, Try.ntmps22
  go_wp2_with fail
  refine (mrun_new w).mono ?_
  rintro e w1 ⟨m, lb, pb, rfl, h1⟩
  have H1 := Lib.hid (mrun_up h1 1 (by omega) (by omega) (by simp))
  clear h1
  go_wp2_with fail
  refine H1.out.mono ?_
  rintro e w2 ⟨rfl, h2, _⟩
  have H2 := Lib.hid (mrun_send h2 1 2 ⟨#[115]⟩ (by decide) (by decide) (by omega))
  clear h2
  go_wp2_with fail
  refine H2.out.mono ?_
  rintro e w3 ⟨rfl, h3, _⟩
  have e3 : sendG (upL [] 1) G0 1 2 ⟨#[115]⟩ = brk1 G0 2 1 := by unfold sendG; rw [if_pos (by decide), if_neg (by decide)]
  rw [e3] at h3
  have H3 := Lib.hid (mrun_take h3 2 1 (by decide) (by decide))
  clear h3 e3
  go_wp2_with fail
  refine H3.out.mono ?_
  rintro e w4 ⟨x, y, ok, rest, rfl, hT, h4, _⟩
  obtain ⟨rfl, rfl, rfl, rfl⟩ := took_one (l := []) hT
  have hG : ∀ p q, setG (brk1 G0 2 1) 2 1 [] p q = [] := fun p q => by
    unfold brk1 setG
    split
    · rfl
    · rfl
  obtain ⟨W, hW⟩ : ∃ W, W = w4.alloc (.cells #[.bool true, .string ⟨#[]⟩] 58) := ⟨_, rfl⟩
  have hbW : W.heap[w4.heap.size]? = some (.cells #[.bool true, .string ⟨#[]⟩] 58 (0, 0)) := by rw [hW]; exact heap_alloc_new w4 _
  have hoW : Only (fun _ => False) w4 W := by rw [hW]; exact (Only.refl _ _).alloc _
  have hsW : W.heap.size = w4.heap.size + 1 := by rw [hW]; simp
  have x0 : W.cell? ⟨w4.heap.size, 0, none⟩ = some (.bool true) := cell_at hbW 0
  have h5 := h4.new hoW
  have HL1 := Lib.hid (mrun_live h5 1 (by decide))
  have HL2 := Lib.hid (mrun_live h5 2 (by decide))
  have HWY := Lib.hid (mrun_ways h5 hG)
  have HO := Lib.hid h5.only
  have HW := Lib.hid hW
  have HLIV := Lib.hid (show decide ((1 : Int) ∈ upL [] 1) = true by decide)
  have HLIW := Lib.hid (show decide ((2 : Int) ∈ upL [] 1) = false by decide)
  rw [HLIV.out] at HL1
  rw [HLIW.out] at HL2
  clear hT h4 h5 hG hbW hoW hsW hW H1 H2 H3
  go_upto_region 5 with (fail)
  rw [← HW.out]
  go_wp2_with fail
  refine HL1.out.mono ?_
  rintro e w' ⟨rfl, rfl⟩
  go_wp2_with fail
  refine HL2.out.mono ?_
  rintro e w' ⟨rfl, rfl⟩
  clear x0
  go_wp2_with fail
  refine HWY.out.mono ?_
  rintro e w5 ⟨rfl, ho5⟩
  go_wp2_with fail
  go_ret
  exact ⟨rfl, HO.out.trans ho5⟩
end Go.Proofs.Ytjgcbcahikemdaa
