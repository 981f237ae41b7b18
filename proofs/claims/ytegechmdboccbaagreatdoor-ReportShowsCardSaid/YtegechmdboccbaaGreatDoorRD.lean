/- record: Split. -/
import Derived.Test.YtegechmdboccbaaGreatDoorRA
import Derived.Maps.OwnSet
import Derived.Test.YtegechmdboccbaaGreatDoorShelf
import Derived.Lib.SplitLaws
import Derived.Defers
import Derived.Recover
import Derived.Lib.Builder
import Derived.Lib.UnsafeStr
import Derived.Laws.Externs
import Derived.Deep.RegionLaw
import Derived.Deep.AppendLies
import Derived.Laws.IdiomStrings
/-! Maps as lists of entries: what a block holds that is a map, whatever its keys and elements. -/
namespace Go.Proofs.YtegechmdboccbaaGreatDoor
open Go.Conc Go.RowKit Go.Maps
open Go.ChangeMaps (notKey eq_of_perm_sorted rising_of_pairwise)

/-- How an element reads: as itself. -/
def heldE (v : Value) : Option (DataW Value × List MemPlace) := some (.held v, [])
section
variable {α β : Type}
def keyL (P : Program) (k : TypeId) (κ : α → Value) (a : α) : Lit := (keyOf P k (κ a)).getD .nil
def entL (P : Program) (k : TypeId) (κ : α → Value) (ε : β → Value) (p : α × β) : Lit × DataW Value := (keyL P k κ p.1, .held (ε p.2))
def mapD (P : Program) (k : TypeId) (κ : α → Value) (ε : β → Value) (L : List (α × β)) : DataW Value := .map ((L.map (entL P k κ ε)).foldr DataW.insert [])
/-- May a be a key? -/
def KeyOk (P : Program) (k : TypeId) (κ : α → Value) (a : α) : Prop := ∃ l, keyOf P k (κ a) = some l
/-- BLOCK b OF w IS A MAP OF JUST THESE ENTRIES (no key twice). -/
structure MapIs (P : Program) (k : TypeId) (κ : α → Value) (ε : β → Value) (w : World) (b : Nat) (L : List (α × β)) : Prop where
  own : w.ownsMap P k heldE b L.length (mapD P k κ ε L)
  apart : L.Pairwise (fun p q => p.1 ≠ q.1)
  keys : ∀ p ∈ L, KeyOk P k κ p.1
/-- What is there at a key. -/
def lookL [DecidableEq α] (L : List (α × β)) (x : α) : Option β := (L.find? (fun p => decide (p.1 = x))).map (·.2)
def dropL [DecidableEq α] (L : List (α × β)) (x : α) : List (α × β) := L.filter (fun p => !decide (p.1 = x))
def putL [DecidableEq α] (L : List (α × β)) (x : α) (v : β) : List (α × β) := dropL L x ++ [(x, v)]

theorem lookL_none [DecidableEq α] {L : List (α × β)} {x : α} (h : lookL L x = none) : ∀ p ∈ L, p.1 ≠ x := by
  intro p hp e
  simp only [lookL, Option.map_eq_none_iff, List.find?_eq_none] at h
  exact h p hp (by simpa using e)
theorem lookL_some [DecidableEq α] {L : List (α × β)} {x : α} {v : β} (h : lookL L x = some v) : (x, v) ∈ L := by
  simp only [lookL, Option.map_eq_some_iff] at h
  obtain ⟨p, hp, rfl⟩ := h
  have h1 := List.find?_some hp
  have h2 := List.mem_of_find?_eq_some hp
  obtain rfl : p.1 = x := by simpa using h1
  exact h2
theorem lookL_of_none [DecidableEq α] {L : List (α × β)} {x : α} (h : ∀ p ∈ L, p.1 ≠ x) : lookL L x = none := by
  simp only [lookL, Option.map_eq_none_iff, List.find?_eq_none]
  intro p hp
  simpa using h p hp
theorem lookL_of_mem [DecidableEq α] {L : List (α × β)} {x : α} {v : β} (ha : L.Pairwise (fun p q => p.1 ≠ q.1)) (h : (x, v) ∈ L) : lookL L x = some v := by
  induction L with
  | nil => cases h
  | cons p L ih =>
    obtain ⟨h1, h2⟩ := List.pairwise_cons.1 ha
    unfold lookL
    rcases List.mem_cons.1 h with e | h
    · rw [← e]; simp
    · have hne : p.1 ≠ x := h1 _ h
      rw [List.find?_cons_of_neg (by simpa using hne)]
      exact ih h2 h
theorem apart_perm {L L' : List (α × β)} (hp : L.Perm L') (h : L.Pairwise (fun p q => p.1 ≠ q.1)) : L'.Pairwise (fun p q => p.1 ≠ q.1) := (hp.pairwise_iff (fun {_ _} hne => Ne.symm hne)).1 h
theorem lookL_perm [DecidableEq α] {L L' : List (α × β)} (hp : L.Perm L') (ha : L.Pairwise (fun p q => p.1 ≠ q.1)) (x : α) : lookL L x = lookL L' x := by
  cases h : lookL L x with
  | none => exact (lookL_of_none (fun p hp' => lookL_none h p (hp.mem_iff.2 hp'))).symm
  | some v => exact (lookL_of_mem (apart_perm hp ha) (hp.mem_iff.1 (lookL_some h))).symm
theorem apart_drop [DecidableEq α] {L : List (α × β)} (h : L.Pairwise (fun p q => p.1 ≠ q.1)) (x : α) : (dropL L x).Pairwise (fun p q => p.1 ≠ q.1) := h.filter _
theorem mem_dropL [DecidableEq α] {L : List (α × β)} {x : α} {p : α × β} : p ∈ dropL L x ↔ p ∈ L ∧ p.1 ≠ x := by simp [dropL]
theorem apart_put [DecidableEq α] {L : List (α × β)} (h : L.Pairwise (fun p q => p.1 ≠ q.1)) (x : α) (v : β) : (putL L x v).Pairwise (fun p q => p.1 ≠ q.1) := by
  refine List.pairwise_append.2 ⟨apart_drop h x, by simp, fun p hp q hq => ?_⟩
  obtain rfl : q = (x, v) := by simpa using hq
  exact (mem_dropL.1 hp).2
theorem dropL_of_none [DecidableEq α] {L : List (α × β)} {x : α} (h : lookL L x = none) : dropL L x = L := List.filter_eq_self.2 (fun p hp => by simpa using lookL_none h p hp)
theorem length_dropL [DecidableEq α] {L : List (α × β)} {x : α} {v : β} (ha : L.Pairwise (fun p q => p.1 ≠ q.1)) (h : lookL L x = some v) : (dropL L x).length + 1 = L.length := by
  induction L with
  | nil => cases h
  | cons p L ih =>
    obtain ⟨h1, h2⟩ := List.pairwise_cons.1 ha
    by_cases e : p.1 = x
    · have hn : lookL L x = none := lookL_of_none (fun q hq => e ▸ (h1 q hq).symm)
      have := dropL_of_none hn
      simp only [dropL] at this ⊢
      rw [List.filter_cons_of_neg (by simp [e]), this]; rfl
    · have h' : lookL L x = some v := by
        unfold lookL at h ⊢
        rwa [List.find?_cons_of_neg (by simpa using e)] at h
      have := ih h2 h'
      simp only [dropL] at this ⊢
      rw [List.filter_cons_of_pos (by simpa using e)]
      simp; omega
theorem length_putL [DecidableEq α] {L : List (α × β)} (ha : L.Pairwise (fun p q => p.1 ≠ q.1)) (x : α) (v : β) : (putL L x v).length = if (lookL L x).isSome then L.length else L.length + 1 := by
  cases h : lookL L x with
  | none => simp [putL, dropL_of_none h]
  | some u => have := length_dropL ha h; simp [putL]; omega
theorem lookL_put_same [DecidableEq α] (L : List (α × β)) (x : α) (v : β) : lookL (putL L x v) x = some v := by
  have : (dropL L x).find? (fun p => decide (p.1 = x)) = none := by
    rw [List.find?_eq_none]; intro p hp; simpa using (mem_dropL.1 hp).2
  simp [lookL, putL, List.find?_append, this]
theorem find_drop [DecidableEq α] {L : List (α × β)} {x y : α} (h : y ≠ x) : (dropL L x).find? (fun p => decide (p.1 = y)) = L.find? (fun p => decide (p.1 = y)) := by
  unfold dropL
  induction L with
  | nil => rfl
  | cons p L ih =>
    by_cases e : p.1 = x
    · rw [List.filter_cons_of_neg (by simp [e]), ih, List.find?_cons_of_neg (by simp; exact fun h' => h (h'.symm.trans e))]
    · rw [List.filter_cons_of_pos (by simpa using e)]
      by_cases e' : p.1 = y
      · rw [List.find?_cons_of_pos (by simpa using e'), List.find?_cons_of_pos (by simpa using e')]
      · rw [List.find?_cons_of_neg (by simpa using e'), List.find?_cons_of_neg (by simpa using e'), ih]
theorem lookL_drop_other [DecidableEq α] (L : List (α × β)) {x y : α} (h : y ≠ x) : lookL (dropL L x) y = lookL L y := by unfold lookL; rw [find_drop h]
theorem lookL_drop_same [DecidableEq α] (L : List (α × β)) (x : α) : lookL (dropL L x) x = none := lookL_of_none (fun _ hp => (mem_dropL.1 hp).2)
theorem lookL_put_other [DecidableEq α] (L : List (α × β)) {x y : α} (h : y ≠ x) (v : β) : lookL (putL L x v) y = lookL L y := by
  unfold lookL putL
  rw [List.find?_append, find_drop h]
  have : (decide (x = y)) = false := by simpa using fun e => h e.symm
  simp [List.find?, this]

variable {P : Program} {k : TypeId} {κ : α → Value} {ε : β → Value} {w : World} {b : Nat} {L : List (α × β)}
theorem keyL_of {a : α} {l : Lit} (h : keyOf P k (κ a) = some l) : keyL P k κ a = l := by simp [keyL, h]
theorem keyL_ne (K : Keyed P k) (hκ : ∀ a b, κ a = κ b → a = b) {a c : α} (ha : KeyOk P k κ a) (hc : KeyOk P k κ c) (h : a ≠ c) : keyL P k κ a ≠ keyL P k κ c := by
  obtain ⟨l, hl⟩ := ha
  obtain ⟨m, hm⟩ := hc
  rw [keyL_of hl, keyL_of hm]
  rintro rfl
  exact h (hκ _ _ (K.inj hl hm))
theorem MapIs.ents (h : MapIs P k κ ε w b L) (K : Keyed P k) (hκ : ∀ a b, κ a = κ b → a = b) : (L.map (entL P k κ ε)).Pairwise (fun p q => p.1 ≠ q.1) := by
  rw [List.pairwise_map]
  have := h.apart
  refine List.Pairwise.imp_of_mem ?_ this
  intro p q hp hq hne
  exact keyL_ne K hκ (h.keys p hp) (h.keys q hq) hne
theorem MapIs.kinds (h : MapIs P k κ ε w b L) : Keys (KeysOf P k) (L.map (entL P k κ ε)) := by
  intro p hp
  obtain ⟨q, hq, rfl⟩ := List.mem_map.1 hp
  obtain ⟨l, hl⟩ := h.keys q hq
  exact ⟨κ q.1, by rw [hl]; exact congrArg some (keyL_of hl).symm⟩
theorem size_mapD : Maps.size (mapD P k κ ε L) = L.length := by simp [mapD, Maps.size, length_sorted]
theorem own_tight {D : DataW Value} {n : Nat} (h : w.ownsMap P k heldE b n D) : w.ownsMap P k heldE b (Maps.size D) D := by
  obtain ⟨es, clock, hb, F, _, rfl⟩ := h
  exact ⟨es, clock, hb, F, by simp [Maps.size, length_sorted], rfl⟩
theorem MapIs.made (w : World) : MapIs P k κ ε (w.alloc (.map #[] 0)) w.heap.size ([] : List (α × β)) :=
  ⟨World.ownsMap_made w P k heldE, List.Pairwise.nil, fun _ h => by cases h⟩
theorem MapIs.empty (h : w.heap[b]? = some (.map #[] 0)) : MapIs P k κ ε w b ([] : List (α × β)) :=
  ⟨⟨#[], 0, h, ⟨by simp, (World.ownsMap_made (H := Value) w P k heldE).elim fun es h2 => h2.elim fun c h3 => by
      have := h3.2.1.stamped
      have e1 : es = #[] := by
        have := h3.2.2.1
        exact Array.eq_empty_of_size_eq_zero (by omega)
      subst e1
      have e2 : c = 0 := by
        have hh := h3.1
        rw [heap_alloc_new] at hh
        cases hh; rfl
      subst e2
      exact this, by simp⟩, Nat.le_refl _, rfl⟩, List.Pairwise.nil, fun _ h => by cases h⟩
theorem MapIs.lt (h : MapIs P k κ ε w b L) : b < w.heap.size := h.own.lt
theorem MapIs.at {w' : World} (h : MapIs P k κ ε w b L) (hb : w'.heap[b]? = w.heap[b]?) : MapIs P k κ ε w' b L := by
  obtain ⟨es, clock, h1, h2⟩ := h.own
  exact ⟨⟨es, clock, hb.trans h1, h2⟩, h.apart, h.keys⟩
theorem MapIs.kept {S : Nat → Prop} {w' : World} (h : MapIs P k κ ε w b L) (ho : Only S w w') (hn : ¬ S b) : MapIs P k κ ε w' b L := h.at (ho.block b h.lt hn)
theorem MapIs.perm {L' : List (α × β)} (h : MapIs P k κ ε w b L) (K : Keyed P k) (hκ : ∀ a b, κ a = κ b → a = b) (hp : L.Perm L') : MapIs P k κ ε w b L' := by
  refine ⟨?_, apart_perm hp h.apart, fun p hp' => h.keys p (hp.mem_iff.2 hp')⟩
  have e : mapD P k κ ε L = mapD P k κ ε L' := by
    unfold mapD
    congr 1
    refine eq_of_perm_sorted ?_ (sorted_sorted K.one _ h.kinds (h.ents K hκ)) (sorted_sorted K.one _ (keys_perm (hp.map _) h.kinds) ?_)
    · exact (WideShapes.sorted_perm _).trans ((hp.map _).trans (WideShapes.sorted_perm _).symm)
    · exact ((hp.map _).pairwise_iff (fun {_ _} hne => Ne.symm hne)).1 (h.ents K hκ)
  rw [← e, ← hp.length_eq]
  exact h.own
/-- A look-up. -/
theorem MapIs.look [DecidableEq α] {t e : TypeId} (h : MapIs P k κ ε w b L) (K : Keyed P k) (hκ : ∀ a b, κ a = κ b → a = b) (ht : P.underlying t = some (.map k e)) {z : β} (hz : (zeroValue e).run P w = .ok (ε z) w) {x : α} (hx : KeyOk P k κ x) (c : Bool) :
    (Instr.lookup t (.map (some b)) (κ x) c).run P w = .ok (if c then .tuple #[ε ((lookL L x).getD z), .bool (lookL L x).isSome] else ε ((lookL L x).getD z)) w := by
  obtain ⟨kl, hkl⟩ := hx
  have hk : KeyOk P k κ x := ⟨kl, hkl⟩
  obtain ⟨es, clock, hb, F, _, hD⟩ := h.own
  have hat := WideShapes.atKey_sorted (L.map (entL P k κ ε)) (rising_of_pairwise _ (sorted_sorted K.one _ h.kinds (h.ents K hκ))) kl (K.key hkl)
  cases hl : lookL L x with
  | none =>
    have h0 := hat.1 (fun p hp => by
      obtain ⟨q, hq, rfl⟩ := List.mem_map.1 hp
      rw [← keyL_of hkl]
      exact keyL_ne K hκ (h.keys q hq) hk (lookL_none hl q hq))
    rcases Maps.fit_look c K ht hz hb F hkl with ⟨hrun, _, _⟩ | ⟨e0, y, _, _, _, hR, h1, _⟩
    · simpa using hrun
    · have e1 := h0 .nil
      have e2 := h1 .nil
      rw [← hD] at e2
      have e3 : y.1 = DataW.nil := e2.symm.trans e1
      obtain rfl : (DataW.held e0.val, ([] : List MemPlace)) = y := by simpa [heldE] using hR
      cases e3
  | some v =>
    have hm := lookL_some hl
    have h0 := hat.2 (entL P k κ ε (x, v)) (List.mem_map.2 ⟨_, hm, rfl⟩) (keyL_of hkl)
    rcases Maps.fit_look c K ht hz hb F hkl with ⟨_, _, h1⟩ | ⟨e0, y, _, _, hrun, hR, h1, _⟩
    · have e1 := h0 .nil
      have e2 := h1 .nil
      rw [← hD] at e2
      cases e2.symm.trans e1
    · have e1 := h0 .nil
      have e2 := h1 .nil
      rw [← hD] at e2
      obtain rfl : (DataW.held e0.val, ([] : List MemPlace)) = y := by simpa [heldE] using hR
      have e3 : e0.val = ε v := DataW.held.inj (e2.symm.trans e1)
      rw [e3] at hrun
      simpa using hrun
/-- A store. -/
theorem MapIs.store [DecidableEq α] {t e : TypeId} (h : MapIs P k κ ε w b L) (K : Keyed P k) (hκ : ∀ a b, κ a = κ b → a = b) (ht : P.underlying t = some (.map k e)) (hn : L.length < maxLen) {x : α} (hx : KeyOk P k κ x) (v : β) :
    ∃ w', (Instr.mapUpdate t (.map (some b)) (κ x) (ε v)).run P w = .ok () w' ∧ MapIs P k κ ε w' b (putL L x v) ∧ Only (fun i => i = b) w w' := by
  obtain ⟨kl, hkl⟩ := hx
  obtain ⟨w', h1, h2, h3⟩ := h.own.store (d := .held (ε v)) (ps := []) K ht hn hkl rfl
  have e : (mapD P k κ ε L).put kl (.held (ε v)) = mapD P k κ ε (putL L x v) := by
    unfold mapD
    rw [DataW.put_eq]
    congr 1
    refine (sorted_put K.one ⟨_, hkl⟩ h.kinds (h.ents K hκ) ?_).symm
    unfold putL
    rw [List.map_append]
    have : (dropL L x).map (entL P k κ ε) = (L.map (entL P k κ ε)).filter (notKey kl) := by
      rw [List.filter_map]
      congr 1
      refine List.filter_congr (fun p hp => ?_)
      have hi : notKey kl (entL P k κ ε p) = true ↔ keyL P k κ p.1 ≠ kl := notKey_iff (K.key hkl)
      rw [Function.comp_apply, Bool.eq_iff_iff, hi]
      constructor
      · intro hp'
        rw [← keyL_of hkl]
        exact keyL_ne K hκ (h.keys p hp) ⟨_, hkl⟩ (by simpa using hp')
      · intro hne
        have : p.1 ≠ x := by rintro e1; exact hne (by rw [e1]; exact keyL_of hkl)
        simpa using this
    rw [this]
    refine List.perm_append_comm.trans ?_
    rw [show [(x, v)].map (entL P k κ ε) = [(kl, DataW.held (ε v))] by simp [entL, keyL_of hkl]]
    exact List.Perm.refl _
  rw [e] at h2
  have hg := h3.grown
  refine ⟨w', h1, ⟨?_, apart_put h.apart x v, ?_⟩, ⟨hg.os, hg.tape, hg.output, hg.size, fun i hi hne => hg.block i hi (fun e => hne (by cases e; rfl))⟩⟩
  · have := own_tight h2; rwa [size_mapD] at this
  · intro p hp
    rcases List.mem_append.1 hp with hp | hp
    · exact h.keys p (mem_dropL.1 hp).1
    · obtain rfl : p = (x, v) := by simpa using hp
      exact ⟨_, hkl⟩
/-- A delete. -/
theorem MapIs.drop [DecidableEq α] {t e : TypeId} (h : MapIs P k κ ε w b L) (K : Keyed P k) (hκ : ∀ a b, κ a = κ b → a = b) (ht : P.underlying t = some (.map k e)) {x : α} (hx : KeyOk P k κ x) (ty : TypeId) :
    ∃ w', (Builtin.delete_ #[t, k] ty #[.map (some b), κ x]).run P w = .ok (.tuple #[]) w' ∧ MapIs P k κ ε w' b (dropL L x) ∧ Only (fun i => i = b) w w' := by
  obtain ⟨kl, hkl⟩ := hx
  obtain ⟨w', h1, h2, h3⟩ := h.own.drop K ht hkl ty
  have e : (mapD P k κ ε L).del kl = mapD P k κ ε (dropL L x) := by
    unfold mapD
    rw [DataW.del_eq]
    congr 1
    refine (sorted_del K.one h.kinds (h.ents K hκ) ?_).symm
    have : (dropL L x).map (entL P k κ ε) = (L.map (entL P k κ ε)).filter (notKey kl) := by
      rw [List.filter_map]
      congr 1
      refine List.filter_congr (fun p hp => ?_)
      have hi : notKey kl (entL P k κ ε p) = true ↔ keyL P k κ p.1 ≠ kl := notKey_iff (K.key hkl)
      rw [Function.comp_apply, Bool.eq_iff_iff, hi]
      constructor
      · intro hp'
        rw [← keyL_of hkl]
        exact keyL_ne K hκ (h.keys p hp) ⟨_, hkl⟩ (by simpa using hp')
      · intro hne
        have : p.1 ≠ x := by rintro e1; exact hne (by rw [e1]; exact keyL_of hkl)
        simpa using this
    rw [this]
  rw [e] at h2
  have hg := h3.grown
  refine ⟨w', h1, ⟨?_, apart_drop h.apart x, fun p hp => h.keys p (mem_dropL.1 hp).1⟩, ⟨hg.os, hg.tape, hg.output, hg.size, fun i hi hne => hg.block i hi (fun e => hne (by cases e; rfl))⟩⟩
  have := own_tight h2; rwa [size_mapD] at this
theorem MapIs.len {t e : TypeId} (h : MapIs P k κ ε w b L) (ht : P.underlying t = some (.map k e)) (ty : TypeId) : (Builtin.len_ #[t] ty #[.map (some b)]).run P w = .ok (.int .i64 (L.length : Nat)) w := by
  have := h.own.len ht ty
  rwa [size_mapD] at this
end

/-! at the operation, for the walk -/
section
variable {α β : Type} {P : Program} {k : TypeId} {κ : α → Value} {ε : β → Value} {b : Nat} {L : List (α × β)}
  {w : World} {ops : Array Oper} {rest : List Oper} {o : Oper} {a : Act} {Q : Exit → Act → World → Prop}
theorem wpList_mapLook [DecidableEq α] (hg : o.guard = none) (m x : Operand) (t : TypeId) (c : Bool) (hop : o.op = Op.lookup t m x c) {e : TypeId} (h : MapIs P k κ ε w b L) (K : Keyed P k) (hκ : ∀ a b, κ a = κ b → a = b) (ht : P.underlying t = some (.map k e))
    {z : β} (hz : (zeroValue e).run P w = .ok (ε z) w) (hm : a.eval m = .map (some b)) {y : α} (hx : a.eval x = κ y) (hy : KeyOk P k κ y)
    (hK : wpList P ops Q rest (a.put o.dst (if c then .tuple #[ε ((lookL L y).getD z), .bool (lookL L y).isSome] else ε ((lookL L y).getD z))) w) : wpList P ops Q (o :: rest) a w := by
  refine wpList_plain hg fun K' hK' => ?_
  have hrun := h.look K hκ ht hz hy c
  unfold Oper.wp
  generalize (if c then Value.tuple #[ε ((lookL L y).getD z), .bool (lookL L y).isSome] else ε ((lookL L y).getD z)) = r at hrun hK
  simp [execOp, hop, hm, hx, hrun, Result.andThen]
  exact hK' _ _ hK
theorem wpList_mapStore [DecidableEq α] (hg : o.guard = none) (m x v : Operand) (t : TypeId) (hop : o.op = Op.mapUpdate t m x v) {e : TypeId} (h : MapIs P k κ ε w b L) (K : Keyed P k) (hκ : ∀ a b, κ a = κ b → a = b) (ht : P.underlying t = some (.map k e))
    (hn : L.length < maxLen) (hm : a.eval m = .map (some b)) {y : α} (hx : a.eval x = κ y) (hy : KeyOk P k κ y) {u : β} (hv : a.eval v = ε u)
    (hK : ∀ w', MapIs P k κ ε w' b (putL L y u) → Only (fun i => i = b) w w' → wpList P ops Q rest (a.put o.dst undef) w') : wpList P ops Q (o :: rest) a w := by
  refine wpList_plain hg fun K' hK' => ?_
  obtain ⟨w', hrun, r1, r2⟩ := h.store K hκ ht hn hy u
  unfold Oper.wp
  simp [execOp, hop, hm, hx, hv, hrun, Result.andThen]
  exact hK' _ _ (hK w' r1 r2)
theorem wpList_mapDrop [DecidableEq α] (hg : o.guard = none) (m x : Operand) (t : TypeId) (hop : o.op = Op.call { callee := Callee.builtin Builtin.delete, args := #[m, x], argTypes := #[t, k] }) {e : TypeId} (h : MapIs P k κ ε w b L) (K : Keyed P k) (hκ : ∀ a b, κ a = κ b → a = b)
    (ht : P.underlying t = some (.map k e)) (hm : a.eval m = .map (some b)) {y : α} (hx : a.eval x = κ y) (hy : KeyOk P k κ y)
    (hK : ∀ w', MapIs P k κ ε w' b (dropL L y) → Only (fun i => i = b) w w' → wpList P ops Q rest (a.put o.dst (.tuple #[])) w') : wpList P ops Q (o :: rest) a w := by
  refine wpList_plain hg fun K' hK' => ?_
  obtain ⟨w', hrun, r1, r2⟩ := h.drop K hκ ht hy o.type
  unfold Oper.wp
  simp [execOp, hop, resolve, invoke, builtin, hm, hx, hrun, Result.andThen]
  exact hK' _ _ (hK w' r1 r2)
theorem wpList_mapLen (hg : o.guard = none) (m : Operand) (t : TypeId) (hop : o.op = Op.call { callee := Callee.builtin Builtin.len, args := #[m], argTypes := #[t] }) {e : TypeId} (h : MapIs P k κ ε w b L)
    (ht : P.underlying t = some (.map k e)) (hm : a.eval m = .map (some b))
    (hK : wpList P ops Q rest (a.put o.dst (.int .i64 (L.length : Nat))) w) : wpList P ops Q (o :: rest) a w := by
  refine wpList_plain hg fun K' hK' => ?_
  unfold Oper.wp
  simp [execOp, hop, resolve, invoke, builtin, hm, h.len ht o.type, Result.andThen]
  exact hK' _ _ hK
end
end Go.Proofs.YtegechmdboccbaaGreatDoor
/-! Slices of structs, whatever the struct: the cells of a list of elements, each of so many cells. -/
namespace Go.Proofs.YtegechmdboccbaaGreatDoor
open Go.Conc Go.RowKit

section
variable {α : Type} {size : Nat} {enc : α → List Value}
theorem fl_length (h : ∀ a, (enc a).length = size) (l : List α) : (l.flatMap enc).length = l.length * size := by
  induction l with
  | nil => simp
  | cons x l ih => rw [List.flatMap_cons, List.length_append, ih, h, List.length_cons, Nat.succ_mul]; omega
theorem fl_get (h : ∀ a, (enc a).length = size) (l : List α) (k : Nat) (hk : k < l.length) (i : Nat) (hi : i < size) : (l.flatMap enc)[k * size + i]? = (enc l[k])[i]? := by
  induction l generalizing k with
  | nil => exact absurd hk (by simp)
  | cons x l ih =>
    rw [List.flatMap_cons]
    cases k with
    | zero => rw [List.getElem?_append_left (by rw [h]; omega)]; simp
    | succ k =>
      rw [List.getElem?_append_right (by rw [h, Nat.succ_mul]; omega), h, show (k + 1) * size + i - size = k * size + i by rw [Nat.succ_mul]; omega]
      simpa using ih k (by simpa using hk)
theorem fl_take (h : ∀ a, (enc a).length = size) (l : List α) (k : Nat) : (l.flatMap enc).take (k * size) = (l.take k).flatMap enc := by
  induction l generalizing k with
  | nil => simp
  | cons x l ih =>
    cases k with
    | zero => simp
    | succ k =>
      rw [List.flatMap_cons, List.take_succ_cons, List.flatMap_cons, ← ih k, List.take_append, h, show (k + 1) * size - size = k * size by rw [Nat.succ_mul]; omega, List.take_of_length_le (by rw [h, Nat.succ_mul]; omega)]
theorem fl_drop (h : ∀ a, (enc a).length = size) (l : List α) (k : Nat) : (l.flatMap enc).drop (k * size) = (l.drop k).flatMap enc := by
  induction l generalizing k with
  | nil => simp
  | cons x l ih =>
    cases k with
    | zero => simp
    | succ k =>
      rw [List.flatMap_cons, List.drop_succ_cons, ← ih k, List.drop_append, h, show (k + 1) * size - size = k * size by rw [Nat.succ_mul]; omega, List.drop_of_length_le (by rw [h, Nat.succ_mul]; omega), List.nil_append]
theorem fl_one (h : ∀ a, ∀ u ∈ enc a, u.oneCell' = true) (l : List α) : ∀ u ∈ l.flatMap enc, u.oneCell' = true := by
  intro u hu
  obtain ⟨a, _, ha⟩ := List.mem_flatMap.1 hu
  exact h a u ha
/-- The cells of a slice of structs, for every index. -/
structure Cells (w : World) (size : Nat) (enc : α → List Value) (a : Option Addr) (l : List α) : Prop where
  out : l.length = 0 ∨ ∃ b off, a = some ⟨b, off, none⟩ ∧ ∀ k (hk : k < l.length), ∀ i u, (enc l[k])[i]? = some u → w.cell? ⟨b, off + k * size + i, none⟩ = some u
theorem Cells.at {w : World} {a : Option Addr} {l : List α} (h : Cells w size enc a l) (k : Nat) (hk : k < l.length) : ∃ b off, a = some ⟨b, off, none⟩ ∧ ∀ i u, (enc l[k])[i]? = some u → w.cell? ⟨b, off + k * size + i, none⟩ = some u := by
  rcases h.out with h | ⟨b, off, rfl, hc⟩
  · omega
  · exact ⟨b, off, rfl, fun i u hu => hc k hk i u hu⟩
/-- The cells of a slice of structs, for every index: its address once for all. -/
theorem Cells.once {w : World} {a : Option Addr} {l : List α} (h : Cells w size enc a l) (hl : 0 < l.length) : ∃ b off, a = some ⟨b, off, none⟩ ∧ ∀ k (hk : k < l.length), ∀ i u, (enc l[k])[i]? = some u → w.cell? ⟨b, off + k * size + i, none⟩ = some u := h.out.resolve_left (by omega)
theorem Cells.new {S : Nat → Prop} {w w' : World} {a : Option Addr} {l : List α} (h : Cells w size enc a l) (ho : Only S w w') (hn : ∀ p u, w.cell? p = some u → ¬ S p.block) : Cells w' size enc a l := by
  refine ⟨?_⟩
  rcases h.out with h | ⟨b, off, rfl, hc⟩
  · exact .inl h
  · exact .inr ⟨b, off, rfl, fun k hk i u hu => ho.cell (hc k hk i u hu) (hn _ _ (hc k hk i u hu))⟩
theorem Sl.cells {w : World} {v : Value} {l : List α} (hs : ∀ a, (enc a).length = size) (h : Sl w size v l.length (l.flatMap enc)) : ∃ a cap, v = .slice a l.length cap ∧ l.length ≤ cap ∧ cap ≤ maxLen ∧ Cells w size enc a l := by
  obtain ⟨_, a, cap, rfl, h3, h4, h5⟩ := h
  refine ⟨a, cap, rfl, h3, h4, ⟨?_⟩⟩
  rcases h5 with h5 | ⟨b, off, rfl, hc⟩
  · exact .inl h5
  · refine .inr ⟨b, off, rfl, fun k hk i u hu => ?_⟩
    have hi : i < size := by
      rw [← hs l[k]]
      exact (List.getElem?_eq_some_iff.1 hu).1
    have := hc (k * size + i) u (by rw [fl_get hs l k hk i hi]; exact hu)
    rwa [← Nat.add_assoc] at this
end
end Go.Proofs.YtegechmdboccbaaGreatDoor
/-! strings.Split at the full stop, by the library's contract; in plain. -/
namespace Go.Proofs.YtegechmdboccbaaGreatDoor
open Go.Conc Go.RowKit

def dot : ByteArray := ⟨#[46]⟩
/-- What stands between the full stops. -/
def splitL (s : ByteArray) : List ByteArray := Lib.splitB dot 0 (Lib.countB s dot) s
theorem splitL_length (s : ByteArray) : (splitL s).length = Lib.countB s dot + 1 := Lib.splitB_all dot (by decide) 0 _ s rfl
theorem countB_small (s : ByteArray) : Lib.countB s dot ≤ s.size := Lib.countB_le dot (by decide) _ s (Nat.le_refl _)
theorem splitL_size (s : ByteArray) : ∀ x ∈ splitL s, x.size ≤ s.size := by
  unfold splitL
  generalize Lib.countB s dot = k
  induction k generalizing s with
  | zero => intro x hx; simp [Lib.splitB] at hx; subst hx; exact Nat.le_refl _
  | succ k ih =>
    intro x hx
    unfold Lib.splitB at hx
    split at hx
    · simp at hx; subst hx; exact Nat.le_refl _
    · rcases List.mem_cons.1 hx with rfl | hx
      · rw [ByteArray.size_extract]; omega
      · have := ih _ x hx
        rw [ByteArray.size_extract] at this
        omega

def spl : List UInt8 → List UInt8 → List (List UInt8)
  | cur, [] => [cur]
  | cur, b :: l => if b = 46 then cur :: spl [] l else spl (cur ++ [b]) l
def ph (c : List UInt8) : List (List UInt8) → List (List UInt8)
  | [] => [c]
  | x :: r => (c ++ x) :: r
theorem spl_app (c : List UInt8) : ∀ (l cur : List UInt8), spl (c ++ cur) l = ph c (spl cur l) := by
  intro l
  induction l with
  | nil => intro cur; rfl
  | cons b l ih =>
    intro cur
    unfold spl
    by_cases hb : b = 46
    · rw [if_pos hb, if_pos hb]; rfl
    · rw [if_neg hb, if_neg hb, List.append_assoc, ih]
theorem splitK_ne (b : UInt8) (hb : b ≠ 46) (l : List UInt8) : ∀ k, Lib.splitK [46] 0 k (b :: l) = ph [b] (Lib.splitK [46] 0 k l) := by
  intro k
  cases k with
  | zero => rfl
  | succ k =>
    have hi : Lib.index (b :: l) [46] = if Lib.index l [46] == -1 then -1 else Lib.index l [46] + 1 := by
      rw [Lib.index]
      have : ([46] : List UInt8).isPrefixOf (b :: l) = false := by simp [List.isPrefixOf]; exact fun e => hb e.symm
      rw [if_neg (by simp [this])]
    unfold Lib.splitK
    rw [hi]
    have hge := Lib.index_ge l [46]
    by_cases h : Lib.index l [46] = -1
    · rw [if_pos (by simp [h]), if_pos (by simp [h])]; rfl
    · obtain ⟨i, hi2⟩ := Int.eq_ofNat_of_zero_le (show 0 ≤ Lib.index l [46] by omega)
      rw [if_neg (by simp [hi2]; omega), hi2, if_neg (by simp), if_neg (by simp)]
      have e1 : ((i : Int) + 1).toNat = i + 1 := by omega
      rw [e1]
      simp [ph]
theorem splitK_spl : ∀ l : List UInt8, Lib.splitK [46] 0 (Lib.count l [46]) l = spl [] l := by
  intro l
  induction l with
  | nil => rfl
  | cons b l ih =>
    by_cases hb : b = 46
    · subst hb
      rw [Lib.count_cons_eq, Nat.add_comm]
      unfold Lib.splitK
      have hi : Lib.index (46 :: l) [46] = 0 := by
        rw [Lib.index]
        simp [List.isPrefixOf]
      rw [hi]
      simp only [spl]
      rw [if_neg (by decide)]
      simp [ih]
    · rw [Lib.count_cons_ne b 46 l hb, splitK_ne b hb, ih, spl, if_neg hb, show ([] : List UInt8) ++ [b] = [b] ++ [] by simp, spl_app]
theorem splitL_data (s : ByteArray) : (splitL s).map (·.data.toList) = spl [] s.data.toList := by
  unfold splitL
  rw [Lib.splitB_data]
  exact splitK_spl _
end Go.Proofs.YtegechmdboccbaaGreatDoor
/-! Names of services in plain: what the reference scans is what stands between the full stops. -/
namespace Go.Proofs.YtegechmdboccbaaGreatDoor
open Go.Conc Go.RowKit

/-- May a byte stand in a label? -/
def letterB (c : UInt8) : Bool := (decide (97 ≤ c.toNat) && decide (c.toNat ≤ 122)) || (decide (48 ≤ c.toNat) && decide (c.toNat ≤ 57)) || decide (c.toNat = 45) || decide (c.toNat = 95)
def labelOk (x : List UInt8) : Bool := !x.isEmpty && x.all letterB
/-- A text whose byte ahead was (or was taken for) a full stop or was none. -/
def good : Bool → List UInt8 → Bool
  | p, [] => !p
  | p, b :: l => if b = 46 then !p && good true l else letterB b && good false l
theorem spl_good : ∀ (l cur : List UInt8), (spl cur l).all labelOk = (cur.all letterB && good cur.isEmpty l) := by
  intro l
  induction l with
  | nil => intro cur; simp [spl, labelOk, good, Bool.and_comm]
  | cons b l ih =>
    intro cur
    rw [spl, good]
    by_cases hb : b = 46
    · rw [if_pos hb, if_pos hb, List.all_cons, ih]
      simp only [labelOk, List.all_nil, List.isEmpty_nil]
      cases cur.all letterB <;> cases cur.isEmpty <;> simp
    · rw [if_neg hb, if_neg hb, ih]
      have e : (cur ++ [b]).isEmpty = false := by cases cur <;> rfl
      rw [e, List.all_append]
      simp [Bool.and_assoc]
/-- Is a text a name? -/
def namedP (s : ByteArray) : Bool := decide (1 ≤ s.size) && decide (s.size ≤ 62) && good true s.data.toList
theorem named_split (s : ByteArray) : good true s.data.toList = (splitL s).all fun x => labelOk x.data.toList := by
  have h := spl_good s.data.toList []
  rw [← splitL_data, List.all_map] at h
  have h2 := h.symm
  simp only [List.all_nil, Bool.true_and, List.isEmpty_nil] at h2
  exact h2
end Go.Proofs.YtegechmdboccbaaGreatDoor
/-! record: letter, node, Named; the reference's Named. -/
namespace Go.Proofs.YtegechmdboccbaaGreatDoor
open Go.Conc Go.RowKit
def nodeB (n : Int) : Bool := decide (1 ≤ n) && decide (n ≤ 65535)
def okS (x : ByteArray) : Bool := labelOk x.data.toList
theorem strs_cellR {w : World} {b off k : Nat} {l : List ByteArray} (hc : ∀ j u, (l.map Value.string)[j]? = some u → w.cell? ⟨b, off + j, none⟩ = some u) (hk : k < l.length) : w.cell? ⟨b, off + k, none⟩ = some (.string l[k]) := hc k _ (by simp [hk])
theorem namedP_bad {s : ByteArray} (h : s.size = 0 ∨ 62 < s.size) : namedP s = false := by
  unfold namedP
  rcases h with h | h
  · have : decide (1 ≤ s.size) = false := decide_eq_false (by omega)
    rw [this]
    rfl
  · have : decide (s.size ≤ 62) = false := decide_eq_false (by omega)
    rw [this]
    simp
theorem namedP_ok {s : ByteArray} (h1 : s.size ≠ 0) (h2 : ¬ 62 < s.size) : namedP s = (splitL s).all okS := by
  unfold namedP
  have e1 : decide (1 ≤ s.size) = true := decide_eq_true (by omega)
  have e2 : decide (s.size ≤ 62) = true := decide_eq_true (by omega)
  rw [e1, e2, named_split]
  rfl
theorem byte_get (x : ByteArray) (j : Nat) (h : j < x.size) : (x[j]'h) = x.data.toList[j]'h := rfl

end Go.Proofs.YtegechmdboccbaaGreatDoor
/-! The reference's Named, Key, Origin. -/
namespace Go.Proofs.YtegechmdboccbaaGreatDoor
open Go.Conc Go.RowKit

/-- Is there no label's byte ahead of place k? -/
def pd (l : List UInt8) : Nat → Bool
  | 0 => true
  | j + 1 => decide (l.getD j 0 = 46)
theorem namedP_go {s : ByteArray} (h1 : s.size ≠ 0) (h2 : ¬ 62 < s.size) : namedP s = good true s.data.toList := by
  rw [namedP_ok h1 h2, named_split]
  rfl

end Go.Proofs.YtegechmdboccbaaGreatDoor
/-! pack: Refuse, run: a call that returns, one that is refused. -/
namespace Go.Proofs.YtegechmdboccbaaGreatDoor
open Go.Conc Go.RowKit
theorem setCell_alloc_lt {w : World} {b : Nat} {o : Obj} {v : Value} (h : b < w.heap.size) : (w.alloc o).setCell ⟨b, 0, none⟩ v = (w.setCell ⟨b, 0, none⟩ v).alloc o := by
  go_simp
end Go.Proofs.YtegechmdboccbaaGreatDoor
/-! strings.Builder inside a Writer: WriteByte, WriteString, String. -/
namespace Go.Proofs.YtegechmdboccbaaGreatDoor
open Go.Conc Go.RowKit

def bcells (l : List UInt8) : List Value := l.map fun b => .int .u8 b.toNat
theorem bcells_append (l m : List UInt8) : bcells (l ++ m) = bcells l ++ bcells m := List.map_append
theorem bcells_length (l : List UInt8) : (bcells l).length = l.length := List.length_map _
theorem bcells_one (l : List UInt8) : ∀ u ∈ bcells l, u.oneCell' = true := by
  intro u hu
  obtain ⟨b, _, rfl⟩ := List.mem_map.1 hu
  rfl
theorem sizeBuilder : (Tryz.prog.info? 46).map (·.size) = some 2 := by kernel_rfl
theorem infoByte : (Tryz.prog.info? 5).map (fun i => (i.zero, i.size, i.bytes)) = some (some (.int .u8 0), 1, 1) := by kernel_rfl

theorem Only.freeze {S : Nat → Prop} {a w : World} (h : Only S a w) (g n : Nat) (hg : a.heap.size ≤ g ∨ S g) : Only S a (w.freeze ⟨g, 0, none⟩ n) := by
  unfold World.freeze
  split
  · exact h
  · refine ⟨h.os, h.tape, h.output, by simpa using h.size, fun k hk hn => ?_⟩
    have hk2 : g ≠ k := fun e => by subst e; rcases hg with h' | h'; exact absurd hk (by omega); exact hn h'
    rw [← h.block k hk hn]
    simp [Array.getElem?_modify, hk2]
end Go.Proofs.YtegechmdboccbaaGreatDoor
/-! pack: Writer.Num, Writer.Raw, Write. -/
namespace Go.Proofs.YtegechmdboccbaaGreatDoor
open Go.Conc Go.RowKit

/-- A number's bytes, the greatest first. -/
def beL (n : Nat) : Nat → List UInt8
  | 0 => []
  | k + 1 => UInt8.ofNat (n / 256 ^ k) :: beL n k

theorem pow_256 (k : Nat) : (2 : Nat) ^ (8 * k) = 256 ^ k := by rw [Nat.pow_mul]
theorem shr_zero (n size : Nat) (h : n < 256 ^ size) : (n : Int) / 2 ^ (8 * size) = 0 := by
  have h1 : n / 2 ^ (8 * size) = 0 := Nat.div_eq_of_lt (by rw [pow_256]; exact h)
  rw [show (2 : Int) ^ (8 * size) = ((2 ^ (8 * size) : Nat) : Int) by rw [Int.natCast_pow]; rfl, ← Int.natCast_ediv, h1]
  rfl
theorem byte_at (n k : Nat) : (n : Int) / 2 ^ (8 * k) % 256 = ((UInt8.ofNat (n / 256 ^ k)).toNat : Int) := by
  rw [UInt8.toNat_ofNat']
  rw [show (2 : Int) ^ (8 * k) = ((2 ^ (8 * k) : Nat) : Int) by rw [Int.natCast_pow]; rfl, ← Int.natCast_ediv, pow_256]
  exact (Int.natCast_emod _ 256).symm
/-- The blocks of a Write, ahead of its call. -/
theorem write_blocks (w : World) (o1 o2 o3 : Obj) (W W1 : World) (hW : W = ((w.alloc o1).alloc o2).alloc o3) (o4 : Obj) (hW1 : W1 = W.alloc o4) :
    W.heap.size = w.heap.size + 1 + 1 + 1 ∧ W1.heap[w.heap.size]? = some o1 ∧ W1.heap[w.heap.size + 1]? = some o2 ∧ W1.heap[w.heap.size + 1 + 1]? = some o3 ∧ W1.heap[W.heap.size]? = some o4 ∧ Only (fun _ => False) w W1 := by
  subst hW hW1
  refine ⟨by simp, ?_, ?_, ?_, heap_alloc_new _ _, (((((Only.refl _ _).alloc _).alloc _).alloc _).alloc _)⟩
  · rw [heap_alloc_old _ _ (by simp <;> omega), heap_alloc_old _ _ (by simp <;> omega), heap_alloc_old _ _ (by simp)]
    exact heap_alloc_new w o1
  · rw [heap_alloc_old _ _ (by simp <;> omega), heap_alloc_old _ _ (by simp)]
    have := heap_alloc_new (w.alloc o1) o2
    rwa [World.size_alloc] at this
  · rw [heap_alloc_old _ _ (by simp)]
    have := heap_alloc_new ((w.alloc o1).alloc o2) o3
    rwa [World.size_alloc, World.size_alloc] at this
end Go.Proofs.YtegechmdboccbaaGreatDoor
/-! pack: Reader.Raw, Num, Left; Read. -/
namespace Go.Proofs.YtegechmdboccbaaGreatDoor
open Go.Conc Go.RowKit
/-- Bytes as a number, the greatest first. -/
def beN (l : List UInt8) (n : Nat) : Nat := l.foldl (fun n c => n * 256 + c.toNat) n
theorem beN_snoc (l : List UInt8) (n : Nat) (c : UInt8) : beN (l ++ [c]) n = beN l n * 256 + c.toNat := by simp [beN]
theorem beN_lt : ∀ (l : List UInt8), beN l 0 < 256 ^ l.length := by
  intro l
  rcases List.eq_nil_or_concat l with rfl | ⟨m, c, rfl⟩
  · decide
  · rw [List.concat_eq_append, beN_snoc, List.length_append]
    have := beN_lt m
    have hc := c.toNat_lt
    rw [show m.length + [c].length = m.length + 1 from rfl, Nat.pow_succ]
    have h2 : (beN m 0 + 1) * 256 ≤ 256 ^ m.length * 256 := Nat.mul_le_mul_right 256 this
    omega
termination_by l => l.length
theorem u64_or (a b : Nat) (ha : a < 2 ^ 56) (hb : b < 256) : bits .or .u64 ((a : Int) * 256) (b : Int) = ((a * 256 + b : Nat) : Int) := by
  have hx : a * 256 ||| b < 2 ^ 64 := Nat.or_lt_two_pow (by omega) (by omega)
  rw [show ((a : Int) * 256) = ((a * 256 : Nat) : Int) by omega]
  show IntKind.u64.wrap ((BitVec.ofInt 64 ((a * 256 : Nat) : Int) ||| BitVec.ofInt 64 (b : Int)).toNat : Int) = _
  rw [BitVec.toNat_or, BitVec.ofInt_natCast, BitVec.ofInt_natCast, BitVec.toNat_ofNat, BitVec.toNat_ofNat, Nat.mod_eq_of_lt (by omega), Nat.mod_eq_of_lt (by omega)]
  rw [show a * 256 = a <<< 8 by rw [Nat.shiftLeft_eq]] at hx ⊢
  rw [← Nat.shiftLeft_add_eq_or_of_lt (i := 8) (by omega) a, Nat.shiftLeft_eq] at hx ⊢
  exact IntWalk.u64_in _ (by omega)

end Go.Proofs.YtegechmdboccbaaGreatDoor
/-! record: Key, Split; the reference's Key, Origin. -/
namespace Go.Proofs.YtegechmdboccbaaGreatDoor
open Go.Conc Go.RowKit

theorem cv2 (w : World) (B : Nat) (x y : Int) (hB : B = w.heap.size) : (convert 43 9 (.slice (some ⟨B, 0, none⟩) 2 2)).run Tryz.prog (w.alloc (.cells #[.int .u8 x, .int .u8 y] 5)) = .ok (.string (bytesOf [x, y])) (w.alloc (.cells #[.int .u8 x, .int .u8 y] 5)) :=
  run_bytes_new Tryz.underlying43 Tryz.underlying5 Tryz.underlying9 w B [x, y] 2 hB rfl (by unfold maxLen; decide)
theorem cv2d (w : World) (B : Nat) (x y : Int) (hB : B = w.heap.size) : (convert 43 9 (.slice (some ⟨B, 0, none⟩) 2 2)).run Tryz.prog (w.alloc (.cells #[.int .u8 x, .int .u8 y] 5)).drew = .ok (.string (bytesOf [x, y])) (w.alloc (.cells #[.int .u8 x, .int .u8 y] 5)).drew :=
  run_bytes_new_drew Tryz.underlying43 Tryz.underlying5 Tryz.underlying9 w B [x, y] 2 hB rfl (by unfold maxLen; decide)
/-- A key in bytes. -/
def keyB (o : Int) (name : ByteArray) : ByteArray := bytesOf [o / 256, o % 256] ++ name
theorem keyB_size (o : Int) (name : ByteArray) : (keyB o name).size = 2 + name.size := ByteArray.size_append
theorem keyB_be (n : Nat) (name : ByteArray) (hn : n < 65536) : (⟨(beL n 2 ++ name.data.toList).toArray⟩ : ByteArray) = keyB n name := by
  apply str_ext
  unfold keyB
  rw [ByteArray.data_append, Array.toList_append]
  show beL n 2 ++ name.data.toList = _
  congr 1
  show [UInt8.ofNat (n / 256 ^ 1), UInt8.ofNat (n / 256 ^ 0)] = [UInt8.ofNat ((n : Int) / 256).toNat, UInt8.ofNat ((n : Int) % 256).toNat]
  have e1 : ((n : Int) / 256).toNat = n / 256 := by omega
  have e2 : ((n : Int) % 256).toNat = n % 256 := by omega
  rw [e1, e2]
  congr 2
  apply UInt8.toNat_inj.1
  rw [UInt8.toNat_ofNat', UInt8.toNat_ofNat']
  omega

def bA (m : ByteArray) (i : Nat) : Nat := (m.data.toList.getD i 0).toNat
theorem bA_get (m : ByteArray) (k : Nat) (h : k < m.size) : (m[k]'h).toNat = bA m k := by
  unfold bA
  have h2 : k < m.data.toList.length := h
  rw [List.getD_eq_getElem?_getD, List.getElem?_eq_getElem h2]
  rfl
theorem bA_lt (m : ByteArray) (k : Nat) : bA m k < 256 := UInt8.toNat_lt _
/-- Whose key it is; 0: it is none. -/
def originP (s : ByteArray) : Nat := if s.size < 2 then 0 else if namedP (s.extract 2 s.size) then 256 * bA s 0 + bA s 1 else 0

/-- What Key returns. -/
def keyE (o : Int) (name : ByteArray) : Int := if nodeB o = false then 1 else if namedP name = false then 9 else 0
def keyS (o : Int) (name : ByteArray) : ByteArray := if nodeB o && namedP name then keyB o name else ⟨#[]⟩
theorem two_blocks (w : World) (o1 o2 : Obj) {w1 : World} (ho : Only (fun _ => False) ((w.alloc o1).alloc o2) w1) : w1.heap[w.heap.size]? = some o1 ∧ w1.heap[w.heap.size + 1]? = some o2 := by
  constructor
  · refine ho.old ?_ id
    rw [heap_alloc_old _ _ (by simp)]
    exact heap_alloc_new w o1
  · refine ho.old ?_ id
    have := heap_alloc_new (w.alloc o1) o2
    rwa [World.size_alloc] at this
end Go.Proofs.YtegechmdboccbaaGreatDoor
/-! record: Split. -/
namespace Go.Proofs.YtegechmdboccbaaGreatDoor
open Go.Conc Go.RowKit

def nodeN (s : ByteArray) : Nat := 256 * bA s 0 + bA s 1
theorem beN_two (s : ByteArray) (h : 2 ≤ s.size) : beN (s.data.toList.take 2) 0 = nodeN s := by
  have h2 : 2 ≤ s.data.toList.length := h
  unfold nodeN bA
  match hl : s.data.toList, h2 with
  | a :: b :: r, _ =>
    simp [beN]
    omega
theorem extract_all (x : ByteArray) : (x.extract x.size x.size).size = 0 := by rw [ByteArray.size_extract]; omega

/-- What Split returns. -/
def splitOk (s : ByteArray) : Bool := decide (2 ≤ s.size) && (nodeB (nodeN s : Nat) && namedP (s.extract 2 s.size))
def splitN (s : ByteArray) : Int := if splitOk s then (nodeN s : Nat) else 0
def splitS (s : ByteArray) : ByteArray := if splitOk s then s.extract 2 s.size else ⟨#[]⟩
def splitE (s : ByteArray) : Int := if splitOk s then 0 else 4
theorem split_bad {s : ByteArray} (h : splitOk s = false) : splitN s = 0 ∧ splitS s = ⟨#[]⟩ ∧ splitE s = 4 := by
  unfold splitN splitS splitE
  rw [h]
  exact ⟨rfl, rfl, rfl⟩
end Go.Proofs.YtegechmdboccbaaGreatDoor
