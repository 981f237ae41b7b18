/- A mesh: its block, its maps, its pipes. -/
import Derived.Test.YtjgcbcahikemdaaPipe2
import Derived.Test.YtjgcbcahikemdaaMapl
import Derived.DeepKeys4
namespace Go.Proofs.Ytjgcbcahikemdaa
open Go.Conc Go.RowKit Go.Maps

/-- Blocks that a step may have written, and those of the new footprint: old ones or new ones. -/
structure Step (S T : Nat → Prop) (w w' : World) : Prop where
  only : Only S w w'
  next : ∀ k, T k → S k ∨ w.heap.size ≤ k
theorem Step.refl (S : Nat → Prop) (w : World) : Step S S w w := ⟨Only.refl _ _, fun _ h => .inl h⟩
theorem Step.trans {S T U : Nat → Prop} {a b c : World} (h : Step S T a b) (k : Step T U b c) : Step S U a c :=
  ⟨h.only.tr k.only (fun i hi ht => (h.next i ht).elim id (fun e => absurd hi (by omega))), fun i hi => by
    rcases k.next i hi with h1 | h1
    · exact h.next i h1
    · exact .inr (Nat.le_trans h.only.size h1)⟩
theorem Step.of {S : Nat → Prop} {w w' : World} (h : Only (fun _ => False) w w') : Step S S w w' := ⟨h.weaken (fun _ _ => False.elim), fun _ h => .inl h⟩

structure PipeD where
  p : Nat
  c : Nat
  l : List (Bool × ByteArray)
def ptrV : Option PipeD → Value
  | none => .pointer none
  | some d => .pointer (some ⟨d.p, 0, none⟩)
def wayV (k : Int × Int) : Value := .agg #[.int .i64 k.1, .int .i64 k.2]
def intV (n : Int) : Value := .int .i64 n
abbrev PMap := List ((Int × Int) × Option PipeD)
/-- What lies on a way. -/
def getM (L : PMap) (a b : Int) : List (Bool × ByteArray) :=
  match lookL L (a, b) with
  | some (some d) => d.l
  | _ => []
theorem laid : laidOutB Try.prog = true := by kernel_rfl
theorem wayKeyed : Keyed Try.prog 108 := Keyed.of_law (deep_law_laid (m := 2) laid (by omega) (of_decide_eq_true (by kernel_rfl)) (by kernel_rfl) (by rw [Try.underlying108]))
theorem wayInj : ∀ a b, wayV a = wayV b → a = b := by
  rintro ⟨a, b⟩ ⟨c, d⟩ h
  simp [wayV] at h
  exact Prod.ext h.1 h.2
theorem intKeyed : Keyed Try.prog 3 := int_keyed Try.underlying3
theorem intInj : ∀ a b, intV a = intV b → a = b := fun a b h => by simpa [intV] using h
theorem wayOk {a b : Int} (ha : (Lit.int .i64 a).wf = true) (hb : (Lit.int .i64 b).wf = true) : KeyOk Try.prog 108 wayV (a, b) := by
  have h1 : Try.prog.keyType 108 = true := by kernel_rfl
  have h2 : Try.prog.cellsOf 108 = 2 := by kernel_rfl
  have h3 : Try.prog.cellsOf 3 = 1 := by kernel_rfl
  have h4 : 0 < Try.prog.types.size := of_decide_eq_true (by kernel_rfl)
  obtain ⟨d, hd⟩ := Nat.exists_eq_succ_of_ne_zero (Nat.pos_iff_ne_zero.1 h4)
  have h5 : (wayV (a, b)).formed Try.prog 108 = true := by
    simp [Value.formed, wayV, Try.underlying108]
    exact h2.symm
  have h6 : ∃ ls, Try.prog.keyLits (Try.prog.types.size + 1) 108 (wayV (a, b)).cells.toList = some ls := by
    rw [hd]
    refine ⟨[.int .i64 a, .int .i64 b], ?_⟩
    simp [Program.keyLits, Try.underlying108, Try.underlying3, wayV, Value.cells, h2, h3, ha, hb]
  obtain ⟨ls, h6⟩ := h6
  refine ⟨.string (keyBytes ls), ?_⟩
  unfold keyOf
  rw [Try.underlying108]
  simp only [h1, h5, Bool.and_self, if_true, h6, Option.map_some]
theorem intOk {a : Int} (ha : (Lit.int .i64 a).wf = true) : KeyOk Try.prog 3 intV a := ⟨_, keyOf_int_mk Try.underlying3 ha⟩
theorem zeroP (w : World) : (zeroValue 106).run Try.prog w = .ok (ptrV none) w := by kernel_rfl
theorem zeroB (w : World) : (zeroValue 4).run Try.prog w = .ok (Value.bool false) w := by kernel_rfl
abbrev WMap (w : World) (b : Nat) (L : PMap) : Prop := MapIs Try.prog 108 wayV ptrV w b L
abbrev LMap (w : World) (b : Nat) (lv : List Int) : Prop := MapIs Try.prog 3 intV Value.bool w b (lv.map (·, true))
/-- A mesh: its block m, the block lb of those that are there, the block pb of its pipes. -/
structure MeshAt (w : World) (m lb pb : Nat) (lv : List Int) (L : PMap) : Prop where
  blk : w.heap[m]? = some (.cells #[.map (some lb), .map (some pb)] 105 (0, 0))
  live : LMap w lb lv
  pipes : WMap w pb L
  ne : lb ≠ pb
  pipe : ∀ e ∈ L, ∃ d, e.2 = some d ∧ PipeAt w d.p d.c (items d.l) ∧ d.l.length ≤ 64
  chans : L.Pairwise (fun e f => ∀ d d', e.2 = some d → f.2 = some d' → d.c ≠ d'.c)
  lives : ∀ n ∈ lv, 1 ≤ n ∧ n ≤ 65535
/-- The blocks of a mesh that its functions write. -/
def foot (lb pb : Nat) (L : PMap) (k : Nat) : Prop := k = lb ∨ k = pb ∨ ∃ e ∈ L, ∃ d, e.2 = some d ∧ k = d.c
theorem map_not {w : World} {k : TypeId} {α β : Type} {κ : α → Value} {ε : β → Value} {b : Nat} {L : List (α × β)} (h : MapIs Try.prog k κ ε w b L) : ∃ es c, w.heap[b]? = some (.map es c) := by
  obtain ⟨es, c, hb, _⟩ := h.own
  exact ⟨es, c, hb⟩
/-- No cell lies in the footprint. -/
theorem MeshAt.foot_cells {w : World} {m lb pb : Nat} {lv : List Int} {L : PMap} (h : MeshAt w m lb pb lv L) {k : Nat} (hk : foot lb pb L k) {cs : Array Value} {t : TypeId} {f : Nat × Nat} : w.heap[k]? ≠ some (.cells cs t f) := by
  intro hc
  rcases hk with rfl | rfl | ⟨e, he, d, hd, rfl⟩
  · obtain ⟨es, c, hb⟩ := map_not h.live; rw [hb] at hc; cases hc
  · obtain ⟨es, c, hb⟩ := map_not h.pipes; rw [hb] at hc; cases hc
  · obtain ⟨d', hd', hp, _⟩ := h.pipe e he
    rw [hd] at hd'
    cases hd'
    obtain ⟨s, r, hb⟩ := hp.chan
    rw [hb] at hc; cases hc
theorem MeshAt.foot_lt {w : World} {m lb pb : Nat} {lv : List Int} {L : PMap} (h : MeshAt w m lb pb lv L) {k : Nat} (hk : foot lb pb L k) : k < w.heap.size := by
  rcases hk with rfl | rfl | ⟨e, he, d, hd, rfl⟩
  · exact h.live.lt
  · exact h.pipes.lt
  · obtain ⟨d', hd', hp, _⟩ := h.pipe e he
    rw [hd] at hd'
    cases hd'
    exact hp.lt.2
theorem MeshAt.m_not {w : World} {m lb pb : Nat} {lv : List Int} {L : PMap} (h : MeshAt w m lb pb lv L) : ¬ foot lb pb L m := fun hk => h.foot_cells hk h.blk
theorem MeshAt.p_not {w : World} {m lb pb : Nat} {lv : List Int} {L : PMap} (h : MeshAt w m lb pb lv L) {e : (Int × Int) × Option PipeD} (he : e ∈ L) {d : PipeD} (hd : e.2 = some d) : ¬ foot lb pb L d.p := fun hk => by
  obtain ⟨d', hd', hp, _⟩ := h.pipe e he
  rw [hd] at hd'
  cases hd'
  exact h.foot_cells hk hp.blk
/-- Nothing of a mesh has been written. -/
theorem MeshAt.kept {w w' : World} {S : Nat → Prop} {m lb pb : Nat} {lv : List Int} {L : PMap} (h : MeshAt w m lb pb lv L) (ho : Only S w w') (hm : ¬ S m) (hf : ∀ k, foot lb pb L k → ¬ S k) (hp : ∀ e ∈ L, ∀ d, e.2 = some d → ¬ S d.p) : MeshAt w' m lb pb lv L :=
  ⟨ho.old h.blk hm, h.live.kept ho (hf _ (.inl rfl)), h.pipes.kept ho (hf _ (.inr (.inl rfl))), h.ne, fun e he => by
    obtain ⟨d, hd, h1, h2⟩ := h.pipe e he
    exact ⟨d, hd, h1.kept ho (hp e he d hd) (hf _ (.inr (.inr ⟨e, he, d, hd, rfl⟩))), h2⟩, h.chans, h.lives⟩
theorem MeshAt.new {w w' : World} {m lb pb : Nat} {lv : List Int} {L : PMap} (h : MeshAt w m lb pb lv L) (ho : Only (fun _ => False) w w') : MeshAt w' m lb pb lv L := h.kept ho id (fun _ _ => id) (fun _ _ _ _ => id)
/-- What lies on one way is changed. -/
def setD (L : PMap) (k : Int × Int) (l : List (Bool × ByteArray)) : PMap := L.map (fun e => if e.1 = k then (e.1, e.2.map (fun d => { d with l := l })) else e)
theorem setD_c {L : PMap} {k : Int × Int} {l : List (Bool × ByteArray)} {e : (Int × Int) × Option PipeD} (he : e ∈ setD L k l) : ∃ e0 ∈ L, e.1 = e0.1 ∧ ∀ d, e.2 = some d → ∃ d0, e0.2 = some d0 ∧ d.p = d0.p ∧ d.c = d0.c ∧ d.l = if e0.1 = k then l else d0.l := by
  obtain ⟨e0, h0, rfl⟩ := List.mem_map.1 he
  refine ⟨e0, h0, ?_, fun d hd => ?_⟩
  · split <;> rfl
  · split at hd
    · rename_i hk
      simp only [Option.map_eq_some_iff] at hd
      obtain ⟨d0, h1, rfl⟩ := hd
      exact ⟨d0, h1, rfl, rfl, by rw [if_pos hk]⟩
    · rename_i hk
      exact ⟨d, hd, rfl, rfl, by rw [if_neg hk]⟩
theorem look_setD (L : PMap) (k : Int × Int) (l : List (Bool × ByteArray)) (x : Int × Int) : lookL (setD L k l) x = if x = k then (lookL L x).map (fun o => o.map (fun d => { d with l := l })) else lookL L x := by
  unfold lookL setD
  rw [List.find?_map]
  have e1 : ((fun p : (Int × Int) × Option PipeD => decide (p.1 = x)) ∘ fun e : (Int × Int) × Option PipeD => if e.1 = k then (e.1, e.2.map (fun d => { d with l := l })) else e) = fun p => decide (p.1 = x) := by
    funext p
    simp only [Function.comp_apply]
    split <;> rfl
  rw [e1]
  cases hf : L.find? (fun p => decide (p.1 = x)) with
  | none => simp
  | some e =>
    have he : e.1 = x := by simpa using List.find?_some hf
    simp only [Option.map_some, he]
    by_cases hx : x = k
    · rw [if_pos hx, if_pos hx]
    · rw [if_neg hx, if_neg hx]
theorem get_setD {L : PMap} {a b : Int} {d : PipeD} (hl : lookL L (a, b) = some (some d)) (l : List (Bool × ByteArray)) (x y : Int) : getM (setD L (a, b) l) x y = if x = a ∧ y = b then l else getM L x y := by
  unfold getM
  rw [look_setD]
  by_cases h : x = a ∧ y = b
  · obtain ⟨rfl, rfl⟩ := h
    rw [if_pos rfl, if_pos ⟨rfl, rfl⟩, hl]
    rfl
  · rw [if_neg (fun e => h (by simpa using e)), if_neg h]
theorem setD_ent (L : PMap) (k : Int × Int) (l : List (Bool × ByteArray)) : (setD L k l).map (entL Try.prog 108 wayV ptrV) = L.map (entL Try.prog 108 wayV ptrV) := by
  unfold setD
  rw [List.map_map]
  refine List.map_congr_left (fun e _ => ?_)
  simp only [Function.comp_apply]
  split
  · obtain ⟨e1, e2⟩ := e
    cases e2 <;> rfl
  · rfl
theorem wmap_setD {w : World} {pb : Nat} {L : PMap} (h : WMap w pb L) (k : Int × Int) (l : List (Bool × ByteArray)) : WMap w pb (setD L k l) := by
  refine ⟨?_, ?_, fun e he => ?_⟩
  · have e1 : mapD Try.prog 108 wayV ptrV (setD L k l) = mapD Try.prog 108 wayV ptrV L := by unfold mapD; rw [setD_ent]
    have e2 : (setD L k l).length = L.length := List.length_map ..
    rw [e1, e2]
    exact h.own
  · unfold setD
    rw [List.pairwise_map]
    refine h.apart.imp (fun {e f} hne => ?_)
    have k1 : ∀ e : (Int × Int) × Option PipeD, (if e.1 = k then (e.1, e.2.map (fun d => { d with l := l })) else e).1 = e.1 := fun e => by split <;> rfl
    rw [k1, k1]
    exact hne
  · obtain ⟨e0, h0, h1, _⟩ := setD_c he
    rw [h1]
    exact h.keys e0 h0
theorem look_mem {L : PMap} {k : Int × Int} {o : Option PipeD} (h : lookL L k = some o) : (k, o) ∈ L := lookL_some h
theorem foot_setD {lb pb : Nat} {L : PMap} {k : Int × Int} {l : List (Bool × ByteArray)} {x : Nat} (h : foot lb pb (setD L k l) x) : foot lb pb L x := by
  rcases h with h | h | ⟨e, he, d, hd, rfl⟩
  · exact .inl h
  · exact .inr (.inl h)
  · obtain ⟨e0, h0, _, h2⟩ := setD_c he
    obtain ⟨d0, h3, _, h4, _⟩ := h2 d hd
    exact .inr (.inr ⟨e0, h0, d0, h3, h4⟩)
/-- A pipe's contents change. -/
theorem MeshAt.upd {w w' : World} {m lb pb : Nat} {lv : List Int} {L : PMap} (h : MeshAt w m lb pb lv L) {k : Int × Int} {d : PipeD} (hl : lookL L k = some (some d)) {l : List (Bool × ByteArray)} (ho : Only (· = d.c) w w') (hp : PipeAt w' d.p d.c (items l)) (hn : l.length ≤ 64) :
    MeshAt w' m lb pb lv (setD L k l) ∧ Step (foot lb pb L) (foot lb pb (setD L k l)) w w' := by
  have hm := look_mem hl
  obtain ⟨d', hd', hp0, _⟩ := h.pipe _ hm
  cases hd'
  have hcm : d.c ≠ m := fun e => by
    obtain ⟨s, r, hb⟩ := hp0.chan
    rw [e, h.blk] at hb; cases hb
  have hclb : d.c ≠ lb := fun e => by
    obtain ⟨s, r, hb⟩ := hp0.chan
    obtain ⟨es, c, hb2⟩ := map_not h.live
    rw [e, hb2] at hb; cases hb
  have hcpb : d.c ≠ pb := fun e => by
    obtain ⟨s, r, hb⟩ := hp0.chan
    obtain ⟨es, c, hb2⟩ := map_not h.pipes
    rw [e, hb2] at hb; cases hb
  refine ⟨⟨ho.old h.blk hcm.symm, h.live.kept ho hclb.symm, wmap_setD (h.pipes.kept ho hcpb.symm) _ _, h.ne, fun e he => ?_, ?_, h.lives⟩, ⟨ho.weaken (fun i _ e => .inr (.inr ⟨_, hm, d, rfl, e⟩)), fun x hx => .inl (foot_setD hx)⟩⟩
  · obtain ⟨e0, h0, h1, h2⟩ := setD_c he
    obtain ⟨d0, hd0, hp1, hn1⟩ := h.pipe e0 h0
    obtain ⟨e1, e2⟩ := e
    simp only at h1 h2
    have : ∃ d2, e2 = some d2 := by
      obtain ⟨e3, h3, h4⟩ := List.mem_map.1 he
      obtain ⟨d3, h5, _⟩ := h.pipe e3 h3
      split at h4
      · rw [h5] at h4; exact ⟨_, (Prod.mk.inj h4).2.symm⟩
      · exact ⟨d3, (congrArg Prod.snd h4).symm.trans h5⟩
    obtain ⟨d2, rfl⟩ := this
    obtain ⟨d4, h3, h4, h5, h6⟩ := h2 d2 rfl
    rw [hd0] at h3
    cases h3
    refine ⟨d2, rfl, ?_, ?_⟩
    · rw [h4, h5, h6]
      by_cases hk : e0.1 = k
      · rw [if_pos hk]
        have : e0 = (k, some d) := by
          have h7 := lookL_of_mem h.pipes.apart (show (e0.1, e0.2) ∈ L from h0)
          rw [hk, hl, hd0] at h7
          rw [← hk]
          exact Prod.ext rfl (by rw [hd0]; exact (Option.some.inj h7).symm)
        subst this
        cases hd0
        exact hp
      · rw [if_neg hk]
        refine hp1.kept ho (fun e => ?_) (fun e => ?_)
        · obtain ⟨s, r, hb⟩ := hp0.chan
          rw [← e, hp1.blk] at hb; cases hb
        · have hne : (k, some d) ≠ e0 := fun e => hk (by rw [← e])
          have := (h.chans.imp (fun {a b} hab => hab))
          obtain ⟨i, hi, h8⟩ := List.getElem_of_mem hm
          obtain ⟨j, hj, h9⟩ := List.getElem_of_mem h0
          have hpw := List.pairwise_iff_getElem.1 h.chans
          rcases Nat.lt_trichotomy i j with g | g | g
          · exact hpw i j hi hj g d d0 (by rw [h8]) (by rw [h9]; exact hd0) e.symm
          · subst g; exact hne (h8.symm.trans h9)
          · exact hpw j i hj hi g d0 d (by rw [h9]; exact hd0) (by rw [h8]) e
    · rw [h6]; split
      · exact hn
      · exact hn1
  · unfold setD
    rw [List.pairwise_map]
    refine h.chans.imp (fun {e f} hef d1 d2 h1 h2 => ?_)
    have k1 : ∀ (e : (Int × Int) × Option PipeD) d1, (if e.1 = k then (e.1, e.2.map (fun d => { d with l := l })) else e).2 = some d1 → ∃ d0, e.2 = some d0 ∧ d1.c = d0.c := fun e d1 h => by
      split at h
      · simp only [Option.map_eq_some_iff] at h
        obtain ⟨d0, h, rfl⟩ := h
        exact ⟨d0, h, rfl⟩
      · exact ⟨d1, h, rfl⟩
    obtain ⟨d3, h3, h4⟩ := k1 e d1 h1
    obtain ⟨d5, h5, h6⟩ := k1 f d2 h2
    rw [h4, h6]
    exact hef d3 d5 h3 h5
end Go.Proofs.Ytjgcbcahikemdaa
