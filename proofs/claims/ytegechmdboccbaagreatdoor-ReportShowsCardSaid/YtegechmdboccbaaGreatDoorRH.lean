/- Ways of a mesh on which nothing is on its way. -/
import Derived.Test.YtegechmdboccbaaGreatDoorRG
import Derived.Test.YtegechmdboccbaaGreatDoorRD
import Derived.DeepKeys4
import Derived.RegionTactic
import Derived.Deep.RegionWith
import Derived.Deep.RegionLaw
import Derived.Deep.RegionHeld3
import Derived.Maps.RangeWalk
/-! A mesh: its block, its maps, its pipes. -/
namespace Go.Proofs.YtegechmdboccbaaGreatDoor
open Go.Conc Go.RowKit Go.Maps

/-- Blocks that a step may have written, and those of the new footprint: old ones or new ones. -/
structure Step (S T : Nat → Prop) (w w' : World) : Prop where
  only : Only S w w'
  next : ∀ k, T k → S k ∨ w.heap.size ≤ k
theorem Step.refl (S : Nat → Prop) (w : World) : Step S S w w := ⟨Only.refl _ _, fun _ h => .inl h⟩
theorem Step.trans {S T U : Nat → Prop} {a b c : World} (h : Step S T a b) (k : Step T U b c) : Step S U a c :=
  ⟨h.only.tr k.only (fun i hi ht => (h.next i ht).elim id (fun e => absurd hi (by omega))), fun i hi => by
    rcases k.next i hi with h1 | h1
    · exact h.next i h1
    · exact .inr (Nat.le_trans h.only.size h1)⟩
theorem Step.of {S : Nat → Prop} {w w' : World} (h : Only (fun _ => False) w w') : Step S S w w' := ⟨h.weaken (fun _ _ => False.elim), fun _ h => .inl h⟩

structure PipeD where
  p : Nat
  c : Nat
  l : List (Bool × ByteArray)
def ptrV : Option PipeD → Value
  | none => .pointer none
  | some d => .pointer (some ⟨d.p, 0, none⟩)
def wayV (k : Int × Int) : Value := .agg #[.int .i64 k.1, .int .i64 k.2]
def intV (n : Int) : Value := .int .i64 n
abbrev PMap := List ((Int × Int) × Option PipeD)
/-- What lies on a way. -/
def getM (L : PMap) (a b : Int) : List (Bool × ByteArray) :=
  match lookL L (a, b) with
  | some (some d) => d.l
  | _ => []
theorem laid : laidOutB Tryz.prog = true := by kernel_rfl
theorem wayKeyed : Keyed Tryz.prog 129 := Keyed.of_law (deep_law_laid (m := 2) laid (by omega) (of_decide_eq_true (by kernel_rfl)) (by kernel_rfl) (by rw [Tryz.underlying129]))
theorem wayInj : ∀ a b, wayV a = wayV b → a = b := by
  rintro ⟨a, b⟩ ⟨c, d⟩ h
  simp [wayV] at h
  exact Prod.ext h.1 h.2
theorem intKeyed : Keyed Tryz.prog 3 := int_keyed Tryz.underlying3
theorem intInj : ∀ a b, intV a = intV b → a = b := fun a b h => by simpa [intV] using h
theorem wayOk {a b : Int} (ha : (Lit.int .i64 a).wf = true) (hb : (Lit.int .i64 b).wf = true) : KeyOk Tryz.prog 129 wayV (a, b) := by
  have h1 : Tryz.prog.keyType 129 = true := by kernel_rfl
  have h2 : Tryz.prog.cellsOf 129 = 2 := by kernel_rfl
  have h3 : Tryz.prog.cellsOf 3 = 1 := by kernel_rfl
  have h4 : 0 < Tryz.prog.types.size := of_decide_eq_true (by kernel_rfl)
  obtain ⟨d, hd⟩ := Nat.exists_eq_succ_of_ne_zero (Nat.pos_iff_ne_zero.1 h4)
  have h5 : (wayV (a, b)).formed Tryz.prog 129 = true := by
    simp [Value.formed, wayV, Tryz.underlying129]
    exact h2.symm
  have h6 : ∃ ls, Tryz.prog.keyLits (Tryz.prog.types.size + 1) 129 (wayV (a, b)).cells.toList = some ls := by
    rw [hd]
    refine ⟨[.int .i64 a, .int .i64 b], ?_⟩
    simp [Program.keyLits, Tryz.underlying129, Tryz.underlying3, wayV, Value.cells, h2, h3, ha, hb]
  obtain ⟨ls, h6⟩ := h6
  refine ⟨.string (keyBytes ls), ?_⟩
  unfold keyOf
  rw [Tryz.underlying129]
  simp only [h1, h5, Bool.and_self, if_true, h6, Option.map_some]
theorem intOk {a : Int} (ha : (Lit.int .i64 a).wf = true) : KeyOk Tryz.prog 3 intV a := ⟨_, keyOf_int_mk Tryz.underlying3 ha⟩
theorem zeroP (w : World) : (zeroValue 130).run Tryz.prog w = .ok (ptrV none) w := by kernel_rfl
theorem zeroB (w : World) : (zeroValue 4).run Tryz.prog w = .ok (Value.bool false) w := by kernel_rfl
abbrev WMap (w : World) (b : Nat) (L : PMap) : Prop := MapIs Tryz.prog 129 wayV ptrV w b L
abbrev LMap (w : World) (b : Nat) (lv : List Int) : Prop := MapIs Tryz.prog 3 intV Value.bool w b (lv.map (·, true))
/-- A mesh: its block m, the block lb of those that are there, the block pb of its pipes. -/
structure MeshAt (w : World) (m lb pb : Nat) (lv : List Int) (L : PMap) : Prop where
  blk : w.heap[m]? = some (.cells #[.map (some lb), .map (some pb)] 108 (0, 0))
  live : LMap w lb lv
  pipes : WMap w pb L
  ne : lb ≠ pb
  pipe : ∀ e ∈ L, ∃ d, e.2 = some d ∧ PipeAt w d.p d.c (items d.l) ∧ d.l.length ≤ 64
  chans : L.Pairwise (fun e f => ∀ d d', e.2 = some d → f.2 = some d' → d.c ≠ d'.c)
  lives : ∀ n ∈ lv, 1 ≤ n ∧ n ≤ 65535
/-- The blocks of a mesh that its functions write. -/
def foot (lb pb : Nat) (L : PMap) (k : Nat) : Prop := k = lb ∨ k = pb ∨ ∃ e ∈ L, ∃ d, e.2 = some d ∧ k = d.c
theorem map_not {w : World} {k : TypeId} {α β : Type} {κ : α → Value} {ε : β → Value} {b : Nat} {L : List (α × β)} (h : MapIs Tryz.prog k κ ε w b L) : ∃ es c, w.heap[b]? = some (.map es c) := by
  obtain ⟨es, c, hb, _⟩ := h.own
  exact ⟨es, c, hb⟩
/-- No cell lies in the footprint. -/
theorem MeshAt.foot_cells {w : World} {m lb pb : Nat} {lv : List Int} {L : PMap} (h : MeshAt w m lb pb lv L) {k : Nat} (hk : foot lb pb L k) {cs : Array Value} {t : TypeId} {f : Nat × Nat} : w.heap[k]? ≠ some (.cells cs t f) := by
  intro hc
  rcases hk with rfl | rfl | ⟨e, he, d, hd, rfl⟩
  · obtain ⟨es, c, hb⟩ := map_not h.live; rw [hb] at hc; cases hc
  · obtain ⟨es, c, hb⟩ := map_not h.pipes; rw [hb] at hc; cases hc
  · obtain ⟨d', hd', hp, _⟩ := h.pipe e he
    rw [hd] at hd'
    cases hd'
    obtain ⟨s, r, hb⟩ := hp.chan
    rw [hb] at hc; cases hc
theorem MeshAt.foot_lt {w : World} {m lb pb : Nat} {lv : List Int} {L : PMap} (h : MeshAt w m lb pb lv L) {k : Nat} (hk : foot lb pb L k) : k < w.heap.size := by
  rcases hk with rfl | rfl | ⟨e, he, d, hd, rfl⟩
  · exact h.live.lt
  · exact h.pipes.lt
  · obtain ⟨d', hd', hp, _⟩ := h.pipe e he
    rw [hd] at hd'
    cases hd'
    exact hp.lt.2
theorem MeshAt.m_not {w : World} {m lb pb : Nat} {lv : List Int} {L : PMap} (h : MeshAt w m lb pb lv L) : ¬ foot lb pb L m := fun hk => h.foot_cells hk h.blk
theorem MeshAt.p_not {w : World} {m lb pb : Nat} {lv : List Int} {L : PMap} (h : MeshAt w m lb pb lv L) {e : (Int × Int) × Option PipeD} (he : e ∈ L) {d : PipeD} (hd : e.2 = some d) : ¬ foot lb pb L d.p := fun hk => by
  obtain ⟨d', hd', hp, _⟩ := h.pipe e he
  rw [hd] at hd'
  cases hd'
  exact h.foot_cells hk hp.blk
/-- Nothing of a mesh has been written. -/
theorem MeshAt.kept {w w' : World} {S : Nat → Prop} {m lb pb : Nat} {lv : List Int} {L : PMap} (h : MeshAt w m lb pb lv L) (ho : Only S w w') (hm : ¬ S m) (hf : ∀ k, foot lb pb L k → ¬ S k) (hp : ∀ e ∈ L, ∀ d, e.2 = some d → ¬ S d.p) : MeshAt w' m lb pb lv L :=
  ⟨ho.old h.blk hm, h.live.kept ho (hf _ (.inl rfl)), h.pipes.kept ho (hf _ (.inr (.inl rfl))), h.ne, fun e he => by
    obtain ⟨d, hd, h1, h2⟩ := h.pipe e he
    exact ⟨d, hd, h1.kept ho (hp e he d hd) (hf _ (.inr (.inr ⟨e, he, d, hd, rfl⟩))), h2⟩, h.chans, h.lives⟩
theorem MeshAt.new {w w' : World} {m lb pb : Nat} {lv : List Int} {L : PMap} (h : MeshAt w m lb pb lv L) (ho : Only (fun _ => False) w w') : MeshAt w' m lb pb lv L := h.kept ho id (fun _ _ => id) (fun _ _ _ _ => id)
/-- What lies on one way is changed. -/
def setD (L : PMap) (k : Int × Int) (l : List (Bool × ByteArray)) : PMap := L.map (fun e => if e.1 = k then (e.1, e.2.map (fun d => { d with l := l })) else e)
theorem setD_c {L : PMap} {k : Int × Int} {l : List (Bool × ByteArray)} {e : (Int × Int) × Option PipeD} (he : e ∈ setD L k l) : ∃ e0 ∈ L, e.1 = e0.1 ∧ ∀ d, e.2 = some d → ∃ d0, e0.2 = some d0 ∧ d.p = d0.p ∧ d.c = d0.c ∧ d.l = if e0.1 = k then l else d0.l := by
  obtain ⟨e0, h0, rfl⟩ := List.mem_map.1 he
  refine ⟨e0, h0, ?_, fun d hd => ?_⟩
  · split <;> rfl
  · split at hd
    · rename_i hk
      simp only [Option.map_eq_some_iff] at hd
      obtain ⟨d0, h1, rfl⟩ := hd
      exact ⟨d0, h1, rfl, rfl, by rw [if_pos hk]⟩
    · rename_i hk
      exact ⟨d, hd, rfl, rfl, by rw [if_neg hk]⟩
theorem look_setD (L : PMap) (k : Int × Int) (l : List (Bool × ByteArray)) (x : Int × Int) : lookL (setD L k l) x = if x = k then (lookL L x).map (fun o => o.map (fun d => { d with l := l })) else lookL L x := by
  unfold lookL setD
  rw [List.find?_map]
  have e1 : ((fun p : (Int × Int) × Option PipeD => decide (p.1 = x)) ∘ fun e : (Int × Int) × Option PipeD => if e.1 = k then (e.1, e.2.map (fun d => { d with l := l })) else e) = fun p => decide (p.1 = x) := by
    funext p
    simp only [Function.comp_apply]
    split <;> rfl
  rw [e1]
  cases hf : L.find? (fun p => decide (p.1 = x)) with
  | none => simp
  | some e =>
    have he : e.1 = x := by simpa using List.find?_some hf
    simp only [Option.map_some, he]
    by_cases hx : x = k
    · rw [if_pos hx, if_pos hx]
    · rw [if_neg hx, if_neg hx]
theorem get_setD {L : PMap} {a b : Int} {d : PipeD} (hl : lookL L (a, b) = some (some d)) (l : List (Bool × ByteArray)) (x y : Int) : getM (setD L (a, b) l) x y = if x = a ∧ y = b then l else getM L x y := by
  unfold getM
  rw [look_setD]
  by_cases h : x = a ∧ y = b
  · obtain ⟨rfl, rfl⟩ := h
    rw [if_pos rfl, if_pos ⟨rfl, rfl⟩, hl]
    rfl
  · rw [if_neg (fun e => h (by simpa using e)), if_neg h]
theorem setD_ent (L : PMap) (k : Int × Int) (l : List (Bool × ByteArray)) : (setD L k l).map (entL Tryz.prog 129 wayV ptrV) = L.map (entL Tryz.prog 129 wayV ptrV) := by
  unfold setD
  rw [List.map_map]
  refine List.map_congr_left (fun e _ => ?_)
  simp only [Function.comp_apply]
  split
  · obtain ⟨e1, e2⟩ := e
    cases e2 <;> rfl
  · rfl
theorem wmap_setD {w : World} {pb : Nat} {L : PMap} (h : WMap w pb L) (k : Int × Int) (l : List (Bool × ByteArray)) : WMap w pb (setD L k l) := by
  refine ⟨?_, ?_, fun e he => ?_⟩
  · have e1 : mapD Tryz.prog 129 wayV ptrV (setD L k l) = mapD Tryz.prog 129 wayV ptrV L := by unfold mapD; rw [setD_ent]
    have e2 : (setD L k l).length = L.length := List.length_map ..
    rw [e1, e2]
    exact h.own
  · unfold setD
    rw [List.pairwise_map]
    refine h.apart.imp (fun {e f} hne => ?_)
    have k1 : ∀ e : (Int × Int) × Option PipeD, (if e.1 = k then (e.1, e.2.map (fun d => { d with l := l })) else e).1 = e.1 := fun e => by split <;> rfl
    rw [k1, k1]
    exact hne
  · obtain ⟨e0, h0, h1, _⟩ := setD_c he
    rw [h1]
    exact h.keys e0 h0
theorem look_mem {L : PMap} {k : Int × Int} {o : Option PipeD} (h : lookL L k = some o) : (k, o) ∈ L := lookL_some h
theorem foot_setD {lb pb : Nat} {L : PMap} {k : Int × Int} {l : List (Bool × ByteArray)} {x : Nat} (h : foot lb pb (setD L k l) x) : foot lb pb L x := by
  rcases h with h | h | ⟨e, he, d, hd, rfl⟩
  · exact .inl h
  · exact .inr (.inl h)
  · obtain ⟨e0, h0, _, h2⟩ := setD_c he
    obtain ⟨d0, h3, _, h4, _⟩ := h2 d hd
    exact .inr (.inr ⟨e0, h0, d0, h3, h4⟩)
/-- A pipe's contents change. -/
theorem MeshAt.upd {w w' : World} {m lb pb : Nat} {lv : List Int} {L : PMap} (h : MeshAt w m lb pb lv L) {k : Int × Int} {d : PipeD} (hl : lookL L k = some (some d)) {l : List (Bool × ByteArray)} (ho : Only (· = d.c) w w') (hp : PipeAt w' d.p d.c (items l)) (hn : l.length ≤ 64) :
    MeshAt w' m lb pb lv (setD L k l) ∧ Step (foot lb pb L) (foot lb pb (setD L k l)) w w' := by
  have hm := look_mem hl
  obtain ⟨d', hd', hp0, _⟩ := h.pipe _ hm
  cases hd'
  have hcm : d.c ≠ m := fun e => by
    obtain ⟨s, r, hb⟩ := hp0.chan
    rw [e, h.blk] at hb; cases hb
  have hclb : d.c ≠ lb := fun e => by
    obtain ⟨s, r, hb⟩ := hp0.chan
    obtain ⟨es, c, hb2⟩ := map_not h.live
    rw [e, hb2] at hb; cases hb
  have hcpb : d.c ≠ pb := fun e => by
    obtain ⟨s, r, hb⟩ := hp0.chan
    obtain ⟨es, c, hb2⟩ := map_not h.pipes
    rw [e, hb2] at hb; cases hb
  refine ⟨⟨ho.old h.blk hcm.symm, h.live.kept ho hclb.symm, wmap_setD (h.pipes.kept ho hcpb.symm) _ _, h.ne, fun e he => ?_, ?_, h.lives⟩, ⟨ho.weaken (fun i _ e => .inr (.inr ⟨_, hm, d, rfl, e⟩)), fun x hx => .inl (foot_setD hx)⟩⟩
  · obtain ⟨e0, h0, h1, h2⟩ := setD_c he
    obtain ⟨d0, hd0, hp1, hn1⟩ := h.pipe e0 h0
    obtain ⟨e1, e2⟩ := e
    simp only at h1 h2
    have : ∃ d2, e2 = some d2 := by
      obtain ⟨e3, h3, h4⟩ := List.mem_map.1 he
      obtain ⟨d3, h5, _⟩ := h.pipe e3 h3
      split at h4
      · rw [h5] at h4; exact ⟨_, (Prod.mk.inj h4).2.symm⟩
      · exact ⟨d3, (congrArg Prod.snd h4).symm.trans h5⟩
    obtain ⟨d2, rfl⟩ := this
    obtain ⟨d4, h3, h4, h5, h6⟩ := h2 d2 rfl
    rw [hd0] at h3
    cases h3
    refine ⟨d2, rfl, ?_, ?_⟩
    · rw [h4, h5, h6]
      by_cases hk : e0.1 = k
      · rw [if_pos hk]
        have : e0 = (k, some d) := by
          have h7 := lookL_of_mem h.pipes.apart (show (e0.1, e0.2) ∈ L from h0)
          rw [hk, hl, hd0] at h7
          rw [← hk]
          exact Prod.ext rfl (by rw [hd0]; exact (Option.some.inj h7).symm)
        subst this
        cases hd0
        exact hp
      · rw [if_neg hk]
        refine hp1.kept ho (fun e => ?_) (fun e => ?_)
        · obtain ⟨s, r, hb⟩ := hp0.chan
          rw [← e, hp1.blk] at hb; cases hb
        · have hne : (k, some d) ≠ e0 := fun e => hk (by rw [← e])
          have := (h.chans.imp (fun {a b} hab => hab))
          obtain ⟨i, hi, h8⟩ := List.getElem_of_mem hm
          obtain ⟨j, hj, h9⟩ := List.getElem_of_mem h0
          have hpw := List.pairwise_iff_getElem.1 h.chans
          rcases Nat.lt_trichotomy i j with g | g | g
          · exact hpw i j hi hj g d d0 (by rw [h8]) (by rw [h9]; exact hd0) e.symm
          · subst g; exact hne (h8.symm.trans h9)
          · exact hpw j i hj hi g d0 d (by rw [h9]; exact hd0) (by rw [h8]) e
    · rw [h6]; split
      · exact hn
      · exact hn1
  · unfold setD
    rw [List.pairwise_map]
    refine h.chans.imp (fun {e f} hef d1 d2 h1 h2 => ?_)
    have k1 : ∀ (e : (Int × Int) × Option PipeD) d1, (if e.1 = k then (e.1, e.2.map (fun d => { d with l := l })) else e).2 = some d1 → ∃ d0, e.2 = some d0 ∧ d1.c = d0.c := fun e d1 h => by
      split at h
      · simp only [Option.map_eq_some_iff] at h
        obtain ⟨d0, h, rfl⟩ := h
        exact ⟨d0, h, rfl⟩
      · exact ⟨d1, h, rfl⟩
    obtain ⟨d3, h3, h4⟩ := k1 e d1 h1
    obtain ⟨d5, h5, h6⟩ := k1 f d2 h2
    rw [h4, h6]
    exact hef d3 d5 h3 h5
end Go.Proofs.YtegechmdboccbaaGreatDoor
/-! A mesh: New, Live, Up, pipe. -/
namespace Go.Proofs.YtegechmdboccbaaGreatDoor
open Go.Conc Go.RowKit Go.Maps

theorem wf64 {n : Int} (h1 : -9223372036854775808 ≤ n) (h2 : n ≤ 9223372036854775807) : (Lit.int .i64 n).wf = true := by
  show (decide (_ ≤ n) && decide (n ≤ _)) = true
  rw [Bool.and_eq_true]
  exact ⟨decide_eq_true h1, decide_eq_true h2⟩
/-- A mesh just made. -/
def MNewPost (w w' : World) (m lb pb : Nat) : Prop := Only (fun _ => False) w w' ∧ MeshAt w' m lb pb [] [] ∧ w.heap.size ≤ m ∧ w.heap.size ≤ lb ∧ w.heap.size ≤ pb
theorem mnew_any (w : World) : Calls Tryz.prog 28 #[] w fun e w' => ∃ m lb pb, e = .returned (.pointer (some ⟨m, 0, none⟩)) ∧ MNewPost w w' m lb pb := by
  have hmm := @run_makeMap Tryz.prog
  go_enter Tryz.func28, Tryz.ntmps28
  go_wp2_with fail
  go_ret
  refine ⟨w.heap.size + 2, w.heap.size, w.heap.size + 1, by simp, (((Only.refl _ _).alloc _).alloc _).alloc _, ⟨?_, ?_, ?_, by omega, by simp, List.Pairwise.nil, by simp⟩, by omega, by omega, by omega⟩
  · have := heap_alloc_new ((w.alloc (.map #[] 0)).alloc (.map #[] 0)) (.cells #[.map (some w.heap.size), .map (some (w.heap.size + 1))] 108 (0, 0))
    simpa using this
  · exact ((MapIs.made w).kept (((Only.refl (fun _ => False) _).alloc _).alloc _) id)
  · have := (MapIs.made (P := Tryz.prog) (k := 129) (κ := wayV) (ε := ptrV) (w.alloc (.map #[] 0))).kept ((Only.refl (fun _ => False) _).alloc (.cells #[.map (some w.heap.size), .map (some (w.heap.size + 1))] 108 (0, 0))) id
    simpa using this
theorem look_lv (lv : List Int) (n : Int) : (lookL (lv.map (fun k => (k, true))) n).getD false = decide (n ∈ lv) := by
  by_cases h : n ∈ lv
  · rw [decide_eq_true h]
    cases hl : lookL (lv.map (fun k => (k, true))) n with
    | none => exact absurd rfl (lookL_none hl (n, true) (List.mem_map.2 ⟨n, h, rfl⟩))
    | some b =>
      obtain ⟨k, _, e⟩ := List.mem_map.1 (lookL_some hl)
      cases e; rfl
  · rw [decide_eq_false h, lookL_of_none (fun p hp e => h (by obtain ⟨k, hk, rfl⟩ := List.mem_map.1 hp; exact e ▸ hk))]
    rfl
/-- Those that are there behind Up. -/
def upL (lv : List Int) (n : Int) : List Int := lv.filter (fun k => !decide (k = n)) ++ [n]
theorem mem_upL {lv : List Int} {n k : Int} : k ∈ upL lv n ↔ k ∈ lv ∨ k = n := by
  unfold upL
  rw [List.mem_append, List.mem_filter]
  by_cases h : k = n <;> simp [h]
theorem upL_put (lv : List Int) (n : Int) : putL (lv.map (fun k => (k, true))) n true = (upL lv n).map (fun k => (k, true)) := by
  unfold putL dropL upL
  rw [List.filter_map, List.map_append]
  rfl
theorem MeshAt.withLive {w w' : World} {m lb pb : Nat} {lv lv' : List Int} {L : PMap} (h : MeshAt w m lb pb lv L) (ho : Only (fun i => i = lb) w w') (hl : LMap w' lb lv') (hv : ∀ n ∈ lv', 1 ≤ n ∧ n ≤ 65535) : MeshAt w' m lb pb lv' L :=
  ⟨ho.old h.blk (fun e => h.m_not (.inl e)), hl, h.pipes.kept ho h.ne.symm, h.ne, (fun e he => by
    obtain ⟨d, hd, h1, h2⟩ := h.pipe e he
    refine ⟨d, hd, h1.kept ho (fun e2 => h.p_not he hd (.inl e2)) (fun e2 => ?_), h2⟩
    obtain ⟨s, r, hb⟩ := h1.chan
    obtain ⟨es, c, hb2⟩ := map_not h.live
    rw [e2, hb2] at hb
    cases hb), h.chans, hv⟩
set_option maxRecDepth 100000 in
theorem mup_any (w : World) (m lb pb : Nat) (lv : List Int) (L : PMap) (h : MeshAt w m lb pb lv L) (n : Int) (h1 : 1 ≤ n) (h2 : n ≤ 65535) (hlen : lv.length < 100000) :
    Calls Tryz.prog 46 #[.pointer (some ⟨m, 0, none⟩), .int .i64 n] w fun e w' => e = .returned (.tuple #[]) ∧ MeshAt w' m lb pb (upL lv n) L ∧ Only (fun i => i = lb) w w' := by
  have hn : (Lit.int .i64 n).wf = true := wf64 (by omega) (by omega)
  have c0 : w.cell? ⟨m, 0, none⟩ = some (.map (some lb)) := cell_at h.blk 0
  have HL := Lib.hid h.live
  have H := Lib.hid h
  clear h
  have hlen' : (lv.map (fun k => (k, true))).length < maxLen := by rw [List.length_map]; unfold maxLen; omega
  have HLE := Lib.hid hlen'
  have HN := Lib.hid hn
  clear hlen' hn
  go_enter Tryz.func46, Tryz.ntmps46
  go_wp2_with (first | (at_mapUpdate; refine wpList_mapStore rfl _ _ _ _ rfl HL.out intKeyed intInj Tryz.underlying105 HLE.out rfl rfl (intOk HN.out) (u := true) rfl ?_; intro w2 hm2 ho2))
  go_end0
  rw [upL_put] at hm2
  refine ⟨rfl, H.out.withLive ho2 hm2 (fun k hk => ?_), ho2⟩
  rcases mem_upL.1 hk with hk | rfl
  · exact H.out.lives k hk
  · exact ⟨h1, h2⟩
set_option maxRecDepth 100000 in
theorem mup_no (w : World) (v : Option Addr) (n : Int) (h : v = none ∨ n < 1 ∨ 65535 < n) :
    Calls Tryz.prog 46 #[.pointer v, .int .i64 n] w fun e w' => e = .returned (.tuple #[]) ∧ w = w' := by
  rcases h with rfl | h | h
  · go_enter Tryz.func46, Tryz.ntmps46
    go_wp2_with fail
    go_end0
    exact ⟨rfl, rfl⟩
  all_goals
    cases v <;> (
      have h' : ¬ 1 ≤ n ∨ 1 ≤ n := by omega
      rcases h' with h' | h'
      all_goals
        go_enter Tryz.func46, Tryz.ntmps46
        go_wp2_with fail
        all_goals
          go_end0
          exact ⟨rfl, rfl⟩)
/-- The pipe of a way is there. -/
def PipePost (w w' : World) (m lb pb : Nat) (lv : List Int) (L : PMap) (a b : Int) (v : Value) : Prop :=
  ∃ L' d, v = .pointer (some ⟨PipeD.p d, 0, none⟩) ∧ MeshAt w' m lb pb lv L' ∧ Step (foot lb pb L) (foot lb pb L') w w' ∧ lookL L' (a, b) = some (some d) ∧ d.l = getM L a b ∧ (∀ x y, getM L' x y = getM L x y) ∧ L'.length ≤ L.length + 1
theorem MeshAt.look_cases {w : World} {m lb pb : Nat} {lv : List Int} {L : PMap} (h : MeshAt w m lb pb lv L) (k : Int × Int) : lookL L k = none ∨ ∃ d, lookL L k = some (some d) ∧ PipeAt w d.p d.c (items d.l) ∧ d.l.length ≤ 64 := by
  cases hl : lookL L k with
  | none => exact .inl rfl
  | some o =>
    obtain ⟨d, hd, h1⟩ := h.pipe _ (look_mem hl)
    simp only at hd
    subst hd
    exact .inr ⟨d, rfl, h1⟩
theorem get_put_none {L : PMap} {a b : Int} (hn : lookL L (a, b) = none) (d : PipeD) (hd : d.l = []) (x y : Int) : getM (putL L (a, b) (some d)) x y = getM L x y := by
  unfold getM
  by_cases h : (x, y) = (a, b)
  · rw [h, lookL_put_same, hn]; exact hd
  · rw [lookL_put_other L h]
/-- A new pipe is laid. -/
theorem MeshAt.add {w w' : World} {m lb pb : Nat} {lv : List Int} {L : PMap} (h : MeshAt w m lb pb lv L) {k : Int × Int} (hn : lookL L k = none) {d : PipeD} (hp : PipeAt w d.p d.c (items d.l)) (hl : d.l.length ≤ 64) (hc : ∀ e ∈ L, ∀ d', e.2 = some d' → d'.c ≠ d.c)
    (hm : WMap w' pb (putL L k (some d))) (ho : Only (fun i => i = pb) w w') : MeshAt w' m lb pb lv (putL L k (some d)) := by
  have hdr : dropL L k = L := dropL_of_none hn
  refine ⟨ho.old h.blk (fun e => h.m_not (.inr (.inl e))), h.live.kept ho h.ne, hm, h.ne, ?_, ?_, h.lives⟩
  · have kp : ∀ {d : PipeD}, PipeAt w d.p d.c (items d.l) → PipeAt w' d.p d.c (items d.l) := fun {d} hp => hp.kept ho (fun e => by
      obtain ⟨es, c, hb⟩ := map_not h.pipes
      rw [← e, hp.blk] at hb; cases hb) (fun e => by
      obtain ⟨es, c, hb⟩ := map_not h.pipes
      obtain ⟨s, r, hb2⟩ := hp.chan
      rw [← e, hb2] at hb; cases hb)
    intro e he
    unfold putL at he
    rw [hdr] at he
    rcases List.mem_append.1 he with he | he
    · obtain ⟨d', h1, h2, h3⟩ := h.pipe e he
      exact ⟨d', h1, kp h2, h3⟩
    · obtain rfl : e = (k, some d) := by simpa using he
      exact ⟨d, rfl, kp hp, hl⟩
  · unfold putL
    rw [hdr]
    refine List.pairwise_append.2 ⟨h.chans, by simp, fun e he f hf d1 d2 h1 h2 => ?_⟩
    obtain rfl : f = (k, some d) := by simpa using hf
    cases h2
    exact hc e he d1 h1
end Go.Proofs.YtegechmdboccbaaGreatDoor
/-! A mesh: Len, Take, Break, Send. -/
namespace Go.Proofs.YtegechmdboccbaaGreatDoor
open Go.Conc Go.RowKit Go.Maps

/-- What lies on which way. -/
abbrev Ways := Int → Int → List (Bool × ByteArray)
def setG (G : Ways) (a b : Int) (l : List (Bool × ByteArray)) : Ways := fun x y => if x = a ∧ y = b then l else G x y
def brk1 (G : Ways) (a b : Int) : Ways := setG G a b [(true, ⟨#[]⟩)]
def breakG (lv : List Int) (G : Ways) (a b : Int) : Ways := if a ∈ lv ∧ b ∈ lv ∧ a ≠ b then brk1 (brk1 G a b) b a else G
def sendG (lv : List Int) (G : Ways) (a b : Int) (s : ByteArray) : Ways :=
  if a ∈ lv ∧ a ≠ b then (if b ∈ lv then (if (G a b).length < 64 then setG G a b (G a b ++ [(false, s)]) else breakG lv G a b) else brk1 G b a) else G
/-- A mesh behind a step: the same block and maps. -/
structure MPost (w w' : World) (m lb pb : Nat) (lv : List Int) (L : PMap) (G : Ways) (n : Nat) : Prop where
  out : ∃ L', MeshAt w' m lb pb lv L' ∧ Step (foot lb pb L) (foot lb pb L') w w' ∧ (∀ x y, getM L' x y = G x y) ∧ L'.length ≤ L.length + n
theorem MPost.same {w w' : World} {m lb pb : Nat} {lv : List Int} {L : PMap} (h : MeshAt w m lb pb lv L) (ho : Only (fun _ => False) w w') (n : Nat) : MPost w w' m lb pb lv L (getM L) n := ⟨L, h.new ho, Step.of ho, fun _ _ => rfl, by omega⟩
theorem MPost.of {w w' : World} {m lb pb : Nat} {lv : List Int} {L : PMap} {G G' : Ways} {n n' : Nat} (h : MPost w w' m lb pb lv L G n) (hG : ∀ x y, G x y = G' x y) (hn : n ≤ n') : MPost w w' m lb pb lv L G' n' := by
  obtain ⟨L', h1, h2, h3, h4⟩ := h.out
  exact ⟨L', h1, h2, fun x y => (h3 x y).trans (hG x y), by omega⟩
/-- A pipe is taken, and what lies in it is changed. -/
theorem PipePost.upd {w w1 w2 : World} {m lb pb : Nat} {lv : List Int} {L : PMap} {a b : Int} {L1 : PMap} {d : PipeD} (h1 : MeshAt w1 m lb pb lv L1) (h2 : Step (foot lb pb L) (foot lb pb L1) w w1) (h3 : lookL L1 (a, b) = some (some d)) (h5 : ∀ x y, getM L1 x y = getM L x y) (h6 : L1.length ≤ L.length + 1)
    {l : List (Bool × ByteArray)} (ho : Only (· = d.c) w1 w2) (hp : PipeAt w2 d.p d.c (items l)) (hn : l.length ≤ 64) : MPost w w2 m lb pb lv L (setG (getM L) a b l) 1 := by
  obtain ⟨k1, k2⟩ := h1.upd h3 ho hp hn
  refine ⟨_, k1, h2.trans k2, fun x y => ?_, ?_⟩
  · rw [get_setD h3 l x y]
    unfold setG
    rw [h5]
  · show (setD L1 (a, b) l).length ≤ _
    unfold setD
    rw [List.length_map]
    exact h6
end Go.Proofs.YtegechmdboccbaaGreatDoor
/-! A mesh: Len, Take. -/
namespace Go.Proofs.YtegechmdboccbaaGreatDoor
open Go.Conc Go.RowKit Go.Maps

theorem MeshAt.lookup {w : World} {m lb pb : Nat} {lv : List Int} {L : PMap} (h : MeshAt w m lb pb lv L) (a b : Int) (ha : (Lit.int .i64 a).wf = true) (hb : (Lit.int .i64 b).wf = true) :
    (Instr.lookup 106 (.map (some pb)) (.agg #[.int .i64 a, .int .i64 b]) false).run Tryz.prog w = .ok (ptrV ((lookL L (a, b)).getD none)) w :=
  h.pipes.look wayKeyed wayInj Tryz.underlying106 (z := none) (zeroP _) (wayOk ha hb) false
set_option maxRecDepth 100000 in
set_option maxHeartbeats 2000000 in
theorem mlen_any (w : World) (m lb pb : Nat) (lv : List Int) (L : PMap) (h : MeshAt w m lb pb lv L) (a b : Int) (ha : (Lit.int .i64 a).wf = true) (hb : (Lit.int .i64 b).wf = true) :
    Calls Tryz.prog 41 #[.pointer (some ⟨m, 0, none⟩), .int .i64 a, .int .i64 b] w fun e w' => e = .returned (.int .i64 (getM L a b).length) ∧ w = w' := by
  have hlk := h.lookup a b ha hb
  have c1 : w.cell? ⟨m, 1, none⟩ = some (.map (some pb)) := cell_at h.blk 1
  rcases h.look_cases (a, b) with hl | ⟨d, hl, hp, hn⟩
  · have HG := Lib.hid (show getM L a b = [] by unfold getM; rw [hl])
    rw [hl] at hlk
    have hlk' : (Instr.lookup 106 (.map (some pb)) (.agg #[.int .i64 a, .int .i64 b]) false).run Tryz.prog w = .ok (.pointer none) w := hlk
    have HL := Lib.hid (len_nil w)
    clear hl ha hb h hlk
    go_enter Tryz.func41, Tryz.ntmps41
    go_wp2_with fail
    refine HL.out.mono ?_
    rintro e w' ⟨rfl, rfl⟩
    go_wp2_with fail
    go_ret
    exact ⟨by rw [HG.out]; rfl, rfl⟩
  · have HG := Lib.hid (show getM L a b = d.l by unfold getM; rw [hl])
    rw [hl] at hlk
    have hlk' : (Instr.lookup 106 (.map (some pb)) (.agg #[.int .i64 a, .int .i64 b]) false).run Tryz.prog w = .ok (.pointer (some ⟨d.p, 0, none⟩)) w := hlk
    have HL := Lib.hid (len_n w d.p d.c (items d.l) (d.l.length : Int) hp (by unfold items; rw [List.length_map]))
    clear hl ha hb h hlk hp hn
    go_enter Tryz.func41, Tryz.ntmps41
    go_wp2_with fail
    refine HL.out.mono ?_
    rintro e w' ⟨rfl, rfl⟩
    go_wp2_with fail
    go_ret
    exact ⟨by rw [HG.out]; rfl, rfl⟩
theorem mlen_nil (w : World) (a b : Int) : Calls Tryz.prog 41 #[.pointer none, .int .i64 a, .int .i64 b] w fun e w' => e = .returned (.int .i64 0) ∧ w = w' := by
  go_enter Tryz.func41, Tryz.ntmps41
  go_wp2_with fail
  go_ret
  exact ⟨rfl, rfl⟩
/-- What Take leaves. -/
def TakePost (w w' : World) (m lb pb : Nat) (lv : List Int) (L : PMap) (a b : Int) (x : Bool) (y : ByteArray) (ok : Bool) : Prop := ∃ rest, Took (getM L a b) x y ok rest ∧ MPost w w' m lb pb lv L (setG (getM L) a b rest) 0
theorem set_atM {w : World} {b : Nat} {cs : Array Value} {t : TypeId} {f : Nat × Nat} (h : w.heap[b]? = some (.cells cs t f)) (i : Nat) (v : Value) : (w.setCell ⟨b, i, none⟩ v).heap[b]? = some (.cells (cs.setIfInBounds i v) t f) := by
  have hlt := lt_of_block h
  have h' : w.heap[b] = .cells cs t f := by simpa [Array.getElem?_eq_getElem hlt] using h
  show (w.heap.modify b _)[b]? = _
  rw [Array.getElem?_eq_getElem (by simpa using hlt), Array.getElem_modify_self, h']
  rfl
/-- Two cells of a new block are written. -/
theorem TakePost.fin {w w2 w3 : World} {m lb pb : Nat} {lv : List Int} {L : PMap} {G : Ways} {a b : Int} {x : Bool} {y : ByteArray} {ok : Bool} {rest : List (Bool × ByteArray)} {v0 v1 : Value} (hb : w2.heap[w.heap.size]? = some (.cells #[.bool false, .string ⟨#[]⟩] 246 (0, 0))) (hp : MPost w w2 m lb pb lv L G 0) (hT : Took (getM L a b) x y ok rest) (hG : ∀ p q, setG (getM L) a b rest p q = G p q)
    (hw : w3 = (w2.setCell ⟨w.heap.size, 0, none⟩ v0).setCell ⟨w.heap.size, 1, none⟩ v1) : TakePost w w3 m lb pb lv L a b x y ok := by
  obtain ⟨L', k1, k2, k3, k4⟩ := hp.out
  have ho : Only (fun i => i = w.heap.size) w2 w3 := by
    rw [hw]
    exact ((Only.refl (fun i => i = w.heap.size) _).setCell (p := ⟨w.heap.size, 0, none⟩) (.inr rfl) _).setCell (p := ⟨w.heap.size, 1, none⟩) (.inr rfl) _
  have ho' : Only (foot lb pb L) w w3 := by
    rw [hw]
    exact (k2.only.setCell (p := ⟨w.heap.size, 0, none⟩) (.inl (Nat.le_refl _)) _).setCell (p := ⟨w.heap.size, 1, none⟩) (.inl (Nat.le_refl _)) _
  refine ⟨rest, hT, ⟨L', k1.kept ho (fun e => ?_) (fun k hk e => ?_) (fun e he d hd e2 => ?_), ⟨ho', k2.next⟩, fun p q => (k3 p q).trans (hG p q).symm, k4⟩⟩
  · have h9 : m = w.heap.size := e
    have := k1.blk
    rw [h9, hb] at this
    cases this
  · have h9 : k = w.heap.size := e
    subst h9
    exact k1.foot_cells hk hb
  · have h9 : d.p = w.heap.size := e2
    obtain ⟨d', hd', h1, _⟩ := k1.pipe e he
    rw [hd] at hd'
    cases hd'
    have := h1.blk
    rw [h9, hb] at this
    cases this
end Go.Proofs.YtegechmdboccbaaGreatDoor
/-! No mesh. -/
namespace Go.Proofs.YtegechmdboccbaaGreatDoor
open Go.Conc Go.RowKit Go.Maps
set_option maxRecDepth 100000 in
theorem mnodes_nil (w : World) : Calls Tryz.prog 32 #[.pointer none] w fun e w' => e = .returned (.slice none 0 0) ∧ w = w' := by
  go_enter Tryz.func32, Tryz.ntmps32
  go_wp2_with fail
  go_ret
  exact ⟨rfl, rfl⟩
set_option maxRecDepth 100000 in
theorem mways_nil (w : World) : Calls Tryz.prog 40 #[.pointer none] w fun e w' => e = .returned (.slice none 0 0) ∧ w = w' := by
  go_enter Tryz.func40, Tryz.ntmps40
  go_wp2_with fail
  go_ret
  exact ⟨rfl, rfl⟩
end Go.Proofs.YtegechmdboccbaaGreatDoor
/-! Sorting nothing. -/
namespace Go.Proofs.YtegechmdboccbaaGreatDoor
open Go.Conc Go.RowKit Go.Maps

set_option maxRecDepth 100000 in
theorem insW_nil (w : World) (f : Value) : Calls Tryz.prog 104 #[.slice none 0 0, .int .i64 0, .int .i64 0, f] w fun e w' => e = .returned (.tuple #[]) ∧ w = w' := by
  go_enter Tryz.func104, Tryz.ntmps104
  go_wp2_with fail
  refine wp_loop_rounds 1 ?_
  rw [rounds_succ]
  go_wp2_with fail
  go_end0
  exact ⟨rfl, rfl⟩
set_option maxRecDepth 100000 in
theorem pdqW_nil (w : World) (f : Value) (n : Int) : Calls Tryz.prog 83 #[.slice none 0 0, .int .i64 0, .int .i64 0, .int .i64 n, f] w fun e w' => e = .returned (.tuple #[]) ∧ w = w' := by
  have HI := Lib.hid (insW_nil w f)
  go_enter Tryz.func83, Tryz.ntmps83
  go_wp2_with fail
  refine wp_loop_rounds 1 ?_
  rw [rounds_succ]
  go_wp2_with fail
  refine HI.out.mono ?_
  rintro e w' ⟨rfl, rfl⟩
  go_wp2_with fail
  exact bodyPost_ret (v := .tuple #[]) (results_none rfl _ _ _) rfl ⟨rfl, rfl⟩
set_option maxRecDepth 100000 in
theorem blen64_zero (w : World) : Calls Tryz.prog 69 #[.int .u64 0] w fun e w' => (∃ n, e = .returned (.int .i64 n)) ∧ w = w' := by
  go_enter Tryz.func69, Tryz.ntmps69
  go_wp2_with fail
  go_ret
  exact ⟨⟨_, rfl⟩, rfl⟩
set_option maxRecDepth 100000 in
theorem blen_zero (w : World) : Calls Tryz.prog 44 #[.int .u64 0] w fun e w' => (∃ n, e = .returned (.int .i64 n)) ∧ w = w' := by
  have HI := Lib.hid (blen64_zero w)
  go_enter Tryz.func44, Tryz.ntmps44
  go_wp2_with fail
  refine HI.out.mono ?_
  rintro e w' ⟨⟨n, rfl⟩, rfl⟩
  go_wp2_with fail
  go_ret
  exact ⟨⟨n, rfl⟩, rfl⟩
set_option maxRecDepth 100000 in
theorem sortW_nil (w : World) (f : Value) : Calls Tryz.prog 55 #[.slice none 0 0, f] w fun e w' => e = .returned (.tuple #[]) ∧ w = w' := by
  have HI := Lib.hid (pdqW_nil w f)
  have HB := Lib.hid (blen_zero w)
  go_enter Tryz.func55, Tryz.ntmps55
  go_wp2_with fail
  refine HB.out.mono ?_
  rintro e w' ⟨⟨n, rfl⟩, rfl⟩
  go_wp2_with fail
  refine (HI.out n).mono ?_
  rintro e w' ⟨rfl, rfl⟩
  go_wp2_with fail
  go_end0
  exact ⟨rfl, rfl⟩
end Go.Proofs.YtegechmdboccbaaGreatDoor
/-! Ways of a mesh on which nothing is on its way. -/
namespace Go.Proofs.YtegechmdboccbaaGreatDoor
open Go.Conc Go.RowKit Go.Maps
open Go.ChangeMaps (rising_of_pairwise)

/-- What comes out of a range over a map is one of its entries. -/
theorem MapIs.entry {α β : Type} {P : Program} {k : TypeId} {κ : α → Value} {ε : β → Value} {w : World} {b : Nat} {L : List (α × β)} (h : MapIs P k κ ε w b L) (K : Keyed P k) (hκ : ∀ a b, κ a = κ b → a = b) {x c : Value} {kl : Lit} (hkey : keyOf P k x = some kl) (hat : ∀ zd, (mapD P k κ ε L).atKey kl zd = .held c) : ∃ p ∈ L, x = κ p.1 ∧ c = ε p.2 := by
  have ha := WideShapes.atKey_sorted (L.map (entL P k κ ε)) (rising_of_pairwise _ (sorted_sorted K.one _ h.kinds (h.ents K hκ))) kl (K.key hkey)
  by_cases hex : ∃ p ∈ L, keyL P k κ p.1 = kl
  · obtain ⟨p, hp, e⟩ := hex
    have e1 := ha.2 (entL P k κ ε p) (List.mem_map.2 ⟨_, hp, rfl⟩) e .nil
    have e2 := hat .nil
    obtain ⟨l, hl⟩ := h.keys p hp
    have e3 := keyL_of hl
    rw [e] at e3
    subst e3
    exact ⟨p, hp, K.inj hkey hl, DataW.held.inj (e2.symm.trans e1)⟩
  · have e1 := ha.1 (fun q hq => by
      obtain ⟨p, hp, rfl⟩ := List.mem_map.1 hq
      exact fun e => hex ⟨p, hp, e⟩) .nil
    have e2 := hat .nil
    cases e2.symm.trans e1
theorem ranges_at {P : Program} {k : TypeId} {R : Value → Option (DataW Value × List MemPlace)} {b r n : Nat} {D : DataW Value} {left : Lit → Bool} {cnt : Nat} {w w' : World} (h : w.ranges P k R b r n D left cnt) (ho : Only (fun _ => False) w w') : w'.ranges P k R b r n D left cnt := by
  have hb := h.owns.lt
  have hr := h.lt
  unfold World.ranges at *
  rw [ho.block b hb id, ho.block r hr id]
  exact h
set_option maxRecDepth 100000 in
set_option maxHeartbeats 1000000 in
theorem mways_none (w : World) (m lb pb : Nat) (lv : List Int) (L : PMap) (h : MeshAt w m lb pb lv L) (hG : ∀ x y, getM L x y = []) : Calls Tryz.prog 40 #[.pointer (some ⟨m, 0, none⟩)] w fun e w' => e = .returned (.slice none 0 0) ∧ Only (fun _ => False) w w' := by
  have c1 : w.cell? ⟨m, 1, none⟩ = some (.map (some pb)) := cell_at h.blk 1
  have HM := Lib.hid h
  have HG := Lib.hid hG
  have HE := Lib.hid (fun x c kl => h.pipes.entry wayKeyed wayInj (x := x) (c := c) (kl := kl))
  have hown := h.pipes.own
  clear h hG
  go_enter Tryz.func40, Tryz.ntmps40
  go_wp2_with (first
    | (at_range; refine wpList_range_own _ rfl _ 106 rfl 129 130 wayKeyed Tryz.underlying106 _ pb _ _ rfl hown ?_; intro w0 hrg0 hg0 hs0)
    | fail)
  go_frame
  have ho0 := (Only.refl (fun _ => False) w).grown hg0 (fun k hk => by cases hk)
  clear c1 hown
  go_loopw [3] (fun v3 wr => v3 = .slice none 0 0 ∧ ∃ (left : Lit → Bool) (cnt : Nat), wr.ranges Tryz.prog 129 heldE pb w.heap.size L.length (mapD Tryz.prog 129 wayV ptrV L) left cnt ∧ Only (fun _ => False) w wr)
    (fun _ wr => wr.rangeLeft pb w.heap.size)
  case atStart => exact ⟨rfl, _, _, hrg0, ho0⟩
  case round =>
    obtain ⟨rfl, left, cnt, hrg, hgw⟩ := hrel
    clear hrg0 hg0 hs0 ho0
    go_wp2_with (first
      | (at_next; refine wpList_next_ranges _ rfl _ rfl 129 wayKeyed heldE (fun v => v) (fun v => v) (fun key kl _ => ⟨key, rfl⟩) (fun v y _ => ⟨v, rfl⟩) pb w.heap.size _ _ _ _ rfl hrg ?_ ?_)
      | fail)
    · intro _ _
      clear hrg
      go_wp2_with fail
      refine (sortW_nil _ _).mono ?_
      rintro e w' ⟨rfl, rfl⟩
      go_wp2_with fail
      go_ret
      exact ⟨rfl, hgw⟩
    · intro x c kl yd yp w1 cnt1 hkey hlk hR hat hrg1 hlt hg1 hs1 hen
      have hy : yd = .held c := by
        unfold heldE at hR
        exact (Prod.mk.inj (Option.some.inj hR)).1.symm
      subst hy
      obtain ⟨⟨⟨a, b⟩, o⟩, hp, rfl, rfl⟩ := HE.out x c kl hkey hat
      obtain ⟨d, e, hpp, _⟩ := HM.out.pipe _ hp
      simp only at e
      subst e
      have hG := HG.out a b
      have hdl : d.l = [] := by
        have := lookL_of_mem HM.out.pipes.apart hp
        unfold getM at hG
        rw [this] at hG
        exact hG
      have hgw1 := hgw.grown hg1 (fun k hk => by cases hk; exact Or.inl (Nat.le_refl _))
      have HPP := Lib.hid hpp
      have HW1 := Lib.hid hgw1
      have HR1 := Lib.hid hrg1
      have HR0 := Lib.hid hrg
      have HLT := Lib.hid hlt
      clear hgw1 hrg1 hrg hlt
      clear hp hG hgw hkey hlk hR hat hg1
      simp only [wayV, ptrV] at hen ⊢
      have hpp0 : PipeAt w d.p d.c [] := by
        have h1 := HPP.out
        rw [hdl] at h1
        exact h1
      have HL := Lib.hid (fun w' (ho : Only (fun _ => False) w w') => len_n w' d.p d.c [] 0 (hpp0.kept ho id id) rfl)
      clear hpp hdl hpp0 HPP
      go_wp2_with fail
      obtain ⟨w2, hw2⟩ : ∃ w2, w2 = w1.alloc (.cells #[.int .i64 a, .int .i64 b] 129) := ⟨_, rfl⟩
      have ho2 : Only (fun _ => False) w1 w2 := by
        rw [hw2]
        exact (Only.refl (fun _ => False) w1).alloc _
      rw [← hw2]
      clear hw2
      have HO2 := Lib.hid ho2
      clear ho2
      refine (HL.out w2 (HW1.out.trans HO2.out)).mono ?_
      rintro e w' ⟨rfl, rfl⟩
      clear hen
      go_wp2_with fail
      have hr2 := ranges_at HR1.out HO2.out
      go_roundw
      case rel => exact ⟨rfl, _, _, hr2, HW1.out.trans HO2.out⟩
      case measure => rw [hr2.left_eq, HR0.out.left_eq]; exact HLT.out
end Go.Proofs.YtegechmdboccbaaGreatDoor
