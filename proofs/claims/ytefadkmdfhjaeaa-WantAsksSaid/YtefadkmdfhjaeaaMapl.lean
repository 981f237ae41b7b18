/- Maps as lists of entries: what a block holds that is a map, whatever its keys and elements. -/
import Derived.Test.YtefadkmdfhjaeaaBase
import Derived.Maps.OwnSet
namespace Go.Proofs.Ytefadkmdfhjaeaa
open Go.Conc Go.RowKit Go.Maps
open Go.ChangeMaps (notKey eq_of_perm_sorted rising_of_pairwise)

/-- How an element reads: as itself. -/
def heldE (v : Value) : Option (DataW Value × List MemPlace) := some (.held v, [])
section
variable {α β : Type}
def keyL (P : Program) (k : TypeId) (κ : α → Value) (a : α) : Lit := (keyOf P k (κ a)).getD .nil
def entL (P : Program) (k : TypeId) (κ : α → Value) (ε : β → Value) (p : α × β) : Lit × DataW Value := (keyL P k κ p.1, .held (ε p.2))
def mapD (P : Program) (k : TypeId) (κ : α → Value) (ε : β → Value) (L : List (α × β)) : DataW Value := .map ((L.map (entL P k κ ε)).foldr DataW.insert [])
/-- May a be a key? -/
def KeyOk (P : Program) (k : TypeId) (κ : α → Value) (a : α) : Prop := ∃ l, keyOf P k (κ a) = some l
/-- BLOCK b OF w IS A MAP OF JUST THESE ENTRIES (no key twice). -/
structure MapIs (P : Program) (k : TypeId) (κ : α → Value) (ε : β → Value) (w : World) (b : Nat) (L : List (α × β)) : Prop where
  own : w.ownsMap P k heldE b L.length (mapD P k κ ε L)
  apart : L.Pairwise (fun p q => p.1 ≠ q.1)
  keys : ∀ p ∈ L, KeyOk P k κ p.1
/-- What is there at a key. -/
def lookL [DecidableEq α] (L : List (α × β)) (x : α) : Option β := (L.find? (fun p => decide (p.1 = x))).map (·.2)
def dropL [DecidableEq α] (L : List (α × β)) (x : α) : List (α × β) := L.filter (fun p => !decide (p.1 = x))
def putL [DecidableEq α] (L : List (α × β)) (x : α) (v : β) : List (α × β) := dropL L x ++ [(x, v)]

theorem lookL_none [DecidableEq α] {L : List (α × β)} {x : α} (h : lookL L x = none) : ∀ p ∈ L, p.1 ≠ x := by
  intro p hp e
  simp only [lookL, Option.map_eq_none_iff, List.find?_eq_none] at h
  exact h p hp (by simpa using e)
theorem lookL_some [DecidableEq α] {L : List (α × β)} {x : α} {v : β} (h : lookL L x = some v) : (x, v) ∈ L := by
  simp only [lookL, Option.map_eq_some_iff] at h
  obtain ⟨p, hp, rfl⟩ := h
  have h1 := List.find?_some hp
  have h2 := List.mem_of_find?_eq_some hp
  obtain rfl : p.1 = x := by simpa using h1
  exact h2
theorem lookL_of_none [DecidableEq α] {L : List (α × β)} {x : α} (h : ∀ p ∈ L, p.1 ≠ x) : lookL L x = none := by
  simp only [lookL, Option.map_eq_none_iff, List.find?_eq_none]
  intro p hp
  simpa using h p hp
theorem lookL_of_mem [DecidableEq α] {L : List (α × β)} {x : α} {v : β} (ha : L.Pairwise (fun p q => p.1 ≠ q.1)) (h : (x, v) ∈ L) : lookL L x = some v := by
  induction L with
  | nil => cases h
  | cons p L ih =>
    obtain ⟨h1, h2⟩ := List.pairwise_cons.1 ha
    unfold lookL
    rcases List.mem_cons.1 h with e | h
    · rw [← e]; simp
    · have hne : p.1 ≠ x := h1 _ h
      rw [List.find?_cons_of_neg (by simpa using hne)]
      exact ih h2 h
theorem apart_perm {L L' : List (α × β)} (hp : L.Perm L') (h : L.Pairwise (fun p q => p.1 ≠ q.1)) : L'.Pairwise (fun p q => p.1 ≠ q.1) := (hp.pairwise_iff (fun {_ _} hne => Ne.symm hne)).1 h
theorem lookL_perm [DecidableEq α] {L L' : List (α × β)} (hp : L.Perm L') (ha : L.Pairwise (fun p q => p.1 ≠ q.1)) (x : α) : lookL L x = lookL L' x := by
  cases h : lookL L x with
  | none => exact (lookL_of_none (fun p hp' => lookL_none h p (hp.mem_iff.2 hp'))).symm
  | some v => exact (lookL_of_mem (apart_perm hp ha) (hp.mem_iff.1 (lookL_some h))).symm
theorem apart_drop [DecidableEq α] {L : List (α × β)} (h : L.Pairwise (fun p q => p.1 ≠ q.1)) (x : α) : (dropL L x).Pairwise (fun p q => p.1 ≠ q.1) := h.filter _
theorem mem_dropL [DecidableEq α] {L : List (α × β)} {x : α} {p : α × β} : p ∈ dropL L x ↔ p ∈ L ∧ p.1 ≠ x := by simp [dropL]
theorem apart_put [DecidableEq α] {L : List (α × β)} (h : L.Pairwise (fun p q => p.1 ≠ q.1)) (x : α) (v : β) : (putL L x v).Pairwise (fun p q => p.1 ≠ q.1) := by
  refine List.pairwise_append.2 ⟨apart_drop h x, by simp, fun p hp q hq => ?_⟩
  obtain rfl : q = (x, v) := by simpa using hq
  exact (mem_dropL.1 hp).2
theorem dropL_of_none [DecidableEq α] {L : List (α × β)} {x : α} (h : lookL L x = none) : dropL L x = L := List.filter_eq_self.2 (fun p hp => by simpa using lookL_none h p hp)
theorem length_dropL [DecidableEq α] {L : List (α × β)} {x : α} {v : β} (ha : L.Pairwise (fun p q => p.1 ≠ q.1)) (h : lookL L x = some v) : (dropL L x).length + 1 = L.length := by
  induction L with
  | nil => cases h
  | cons p L ih =>
    obtain ⟨h1, h2⟩ := List.pairwise_cons.1 ha
    by_cases e : p.1 = x
    · have hn : lookL L x = none := lookL_of_none (fun q hq => e ▸ (h1 q hq).symm)
      have := dropL_of_none hn
      simp only [dropL] at this ⊢
      rw [List.filter_cons_of_neg (by simp [e]), this]; rfl
    · have h' : lookL L x = some v := by
        unfold lookL at h ⊢
        rwa [List.find?_cons_of_neg (by simpa using e)] at h
      have := ih h2 h'
      simp only [dropL] at this ⊢
      rw [List.filter_cons_of_pos (by simpa using e)]
      simp; omega
theorem length_putL [DecidableEq α] {L : List (α × β)} (ha : L.Pairwise (fun p q => p.1 ≠ q.1)) (x : α) (v : β) : (putL L x v).length = if (lookL L x).isSome then L.length else L.length + 1 := by
  cases h : lookL L x with
  | none => simp [putL, dropL_of_none h]
  | some u => have := length_dropL ha h; simp [putL]; omega
theorem lookL_put_same [DecidableEq α] (L : List (α × β)) (x : α) (v : β) : lookL (putL L x v) x = some v := by
  have : (dropL L x).find? (fun p => decide (p.1 = x)) = none := by
    rw [List.find?_eq_none]; intro p hp; simpa using (mem_dropL.1 hp).2
  simp [lookL, putL, List.find?_append, this]
theorem find_drop [DecidableEq α] {L : List (α × β)} {x y : α} (h : y ≠ x) : (dropL L x).find? (fun p => decide (p.1 = y)) = L.find? (fun p => decide (p.1 = y)) := by
  unfold dropL
  induction L with
  | nil => rfl
  | cons p L ih =>
    by_cases e : p.1 = x
    · rw [List.filter_cons_of_neg (by simp [e]), ih, List.find?_cons_of_neg (by simp; exact fun h' => h (h'.symm.trans e))]
    · rw [List.filter_cons_of_pos (by simpa using e)]
      by_cases e' : p.1 = y
      · rw [List.find?_cons_of_pos (by simpa using e'), List.find?_cons_of_pos (by simpa using e')]
      · rw [List.find?_cons_of_neg (by simpa using e'), List.find?_cons_of_neg (by simpa using e'), ih]
theorem lookL_drop_other [DecidableEq α] (L : List (α × β)) {x y : α} (h : y ≠ x) : lookL (dropL L x) y = lookL L y := by unfold lookL; rw [find_drop h]
theorem lookL_drop_same [DecidableEq α] (L : List (α × β)) (x : α) : lookL (dropL L x) x = none := lookL_of_none (fun _ hp => (mem_dropL.1 hp).2)
theorem lookL_put_other [DecidableEq α] (L : List (α × β)) {x y : α} (h : y ≠ x) (v : β) : lookL (putL L x v) y = lookL L y := by
  unfold lookL putL
  rw [List.find?_append, find_drop h]
  have : (decide (x = y)) = false := by simpa using fun e => h e.symm
  simp [List.find?, this]

variable {P : Program} {k : TypeId} {κ : α → Value} {ε : β → Value} {w : World} {b : Nat} {L : List (α × β)}
theorem keyL_of {a : α} {l : Lit} (h : keyOf P k (κ a) = some l) : keyL P k κ a = l := by simp [keyL, h]
theorem keyL_ne (K : Keyed P k) (hκ : ∀ a b, κ a = κ b → a = b) {a c : α} (ha : KeyOk P k κ a) (hc : KeyOk P k κ c) (h : a ≠ c) : keyL P k κ a ≠ keyL P k κ c := by
  obtain ⟨l, hl⟩ := ha
  obtain ⟨m, hm⟩ := hc
  rw [keyL_of hl, keyL_of hm]
  rintro rfl
  exact h (hκ _ _ (K.inj hl hm))
theorem MapIs.ents (h : MapIs P k κ ε w b L) (K : Keyed P k) (hκ : ∀ a b, κ a = κ b → a = b) : (L.map (entL P k κ ε)).Pairwise (fun p q => p.1 ≠ q.1) := by
  rw [List.pairwise_map]
  have := h.apart
  refine List.Pairwise.imp_of_mem ?_ this
  intro p q hp hq hne
  exact keyL_ne K hκ (h.keys p hp) (h.keys q hq) hne
theorem MapIs.kinds (h : MapIs P k κ ε w b L) : Keys (KeysOf P k) (L.map (entL P k κ ε)) := by
  intro p hp
  obtain ⟨q, hq, rfl⟩ := List.mem_map.1 hp
  obtain ⟨l, hl⟩ := h.keys q hq
  exact ⟨κ q.1, by rw [hl]; exact congrArg some (keyL_of hl).symm⟩
theorem size_mapD : Maps.size (mapD P k κ ε L) = L.length := by simp [mapD, Maps.size, length_sorted]
theorem own_tight {D : DataW Value} {n : Nat} (h : w.ownsMap P k heldE b n D) : w.ownsMap P k heldE b (Maps.size D) D := by
  obtain ⟨es, clock, hb, F, _, rfl⟩ := h
  exact ⟨es, clock, hb, F, by simp [Maps.size, length_sorted], rfl⟩
theorem MapIs.made (w : World) : MapIs P k κ ε (w.alloc (.map #[] 0)) w.heap.size ([] : List (α × β)) :=
  ⟨World.ownsMap_made w P k heldE, List.Pairwise.nil, fun _ h => by cases h⟩
theorem MapIs.empty (h : w.heap[b]? = some (.map #[] 0)) : MapIs P k κ ε w b ([] : List (α × β)) :=
  ⟨⟨#[], 0, h, ⟨by simp, (World.ownsMap_made (H := Value) w P k heldE).elim fun es h2 => h2.elim fun c h3 => by
      have := h3.2.1.stamped
      have e1 : es = #[] := by
        have := h3.2.2.1
        exact Array.eq_empty_of_size_eq_zero (by omega)
      subst e1
      have e2 : c = 0 := by
        have hh := h3.1
        rw [heap_alloc_new] at hh
        cases hh; rfl
      subst e2
      exact this, by simp⟩, Nat.le_refl _, rfl⟩, List.Pairwise.nil, fun _ h => by cases h⟩
theorem MapIs.lt (h : MapIs P k κ ε w b L) : b < w.heap.size := h.own.lt
theorem MapIs.at {w' : World} (h : MapIs P k κ ε w b L) (hb : w'.heap[b]? = w.heap[b]?) : MapIs P k κ ε w' b L := by
  obtain ⟨es, clock, h1, h2⟩ := h.own
  exact ⟨⟨es, clock, hb.trans h1, h2⟩, h.apart, h.keys⟩
theorem MapIs.kept {S : Nat → Prop} {w' : World} (h : MapIs P k κ ε w b L) (ho : Only S w w') (hn : ¬ S b) : MapIs P k κ ε w' b L := h.at (ho.block b h.lt hn)
theorem MapIs.perm {L' : List (α × β)} (h : MapIs P k κ ε w b L) (K : Keyed P k) (hκ : ∀ a b, κ a = κ b → a = b) (hp : L.Perm L') : MapIs P k κ ε w b L' := by
  refine ⟨?_, apart_perm hp h.apart, fun p hp' => h.keys p (hp.mem_iff.2 hp')⟩
  have e : mapD P k κ ε L = mapD P k κ ε L' := by
    unfold mapD
    congr 1
    refine eq_of_perm_sorted ?_ (sorted_sorted K.one _ h.kinds (h.ents K hκ)) (sorted_sorted K.one _ (keys_perm (hp.map _) h.kinds) ?_)
    · exact (WideShapes.sorted_perm _).trans ((hp.map _).trans (WideShapes.sorted_perm _).symm)
    · exact ((hp.map _).pairwise_iff (fun {_ _} hne => Ne.symm hne)).1 (h.ents K hκ)
  rw [← e, ← hp.length_eq]
  exact h.own
/-- A look-up. -/
theorem MapIs.look [DecidableEq α] {t e : TypeId} (h : MapIs P k κ ε w b L) (K : Keyed P k) (hκ : ∀ a b, κ a = κ b → a = b) (ht : P.underlying t = some (.map k e)) {z : β} (hz : (zeroValue e).run P w = .ok (ε z) w) {x : α} (hx : KeyOk P k κ x) (c : Bool) :
    (Instr.lookup t (.map (some b)) (κ x) c).run P w = .ok (if c then .tuple #[ε ((lookL L x).getD z), .bool (lookL L x).isSome] else ε ((lookL L x).getD z)) w := by
  obtain ⟨kl, hkl⟩ := hx
  have hk : KeyOk P k κ x := ⟨kl, hkl⟩
  obtain ⟨es, clock, hb, F, _, hD⟩ := h.own
  have hat := WideShapes.atKey_sorted (L.map (entL P k κ ε)) (rising_of_pairwise _ (sorted_sorted K.one _ h.kinds (h.ents K hκ))) kl (K.key hkl)
  cases hl : lookL L x with
  | none =>
    have h0 := hat.1 (fun p hp => by
      obtain ⟨q, hq, rfl⟩ := List.mem_map.1 hp
      rw [← keyL_of hkl]
      exact keyL_ne K hκ (h.keys q hq) hk (lookL_none hl q hq))
    rcases Maps.fit_look c K ht hz hb F hkl with ⟨hrun, _, _⟩ | ⟨e0, y, _, _, _, hR, h1, _⟩
    · simpa using hrun
    · have e1 := h0 .nil
      have e2 := h1 .nil
      rw [← hD] at e2
      have e3 : y.1 = DataW.nil := e2.symm.trans e1
      obtain rfl : (DataW.held e0.val, ([] : List MemPlace)) = y := by simpa [heldE] using hR
      cases e3
  | some v =>
    have hm := lookL_some hl
    have h0 := hat.2 (entL P k κ ε (x, v)) (List.mem_map.2 ⟨_, hm, rfl⟩) (keyL_of hkl)
    rcases Maps.fit_look c K ht hz hb F hkl with ⟨_, _, h1⟩ | ⟨e0, y, _, _, hrun, hR, h1, _⟩
    · have e1 := h0 .nil
      have e2 := h1 .nil
      rw [← hD] at e2
      cases e2.symm.trans e1
    · have e1 := h0 .nil
      have e2 := h1 .nil
      rw [← hD] at e2
      obtain rfl : (DataW.held e0.val, ([] : List MemPlace)) = y := by simpa [heldE] using hR
      have e3 : e0.val = ε v := DataW.held.inj (e2.symm.trans e1)
      rw [e3] at hrun
      simpa using hrun
/-- A store. -/
theorem MapIs.store [DecidableEq α] {t e : TypeId} (h : MapIs P k κ ε w b L) (K : Keyed P k) (hκ : ∀ a b, κ a = κ b → a = b) (ht : P.underlying t = some (.map k e)) (hn : L.length < maxLen) {x : α} (hx : KeyOk P k κ x) (v : β) :
    ∃ w', (Instr.mapUpdate t (.map (some b)) (κ x) (ε v)).run P w = .ok () w' ∧ MapIs P k κ ε w' b (putL L x v) ∧ Only (fun i => i = b) w w' := by
  obtain ⟨kl, hkl⟩ := hx
  obtain ⟨w', h1, h2, h3⟩ := h.own.store (d := .held (ε v)) (ps := []) K ht hn hkl rfl
  have e : (mapD P k κ ε L).put kl (.held (ε v)) = mapD P k κ ε (putL L x v) := by
    unfold mapD
    rw [DataW.put_eq]
    congr 1
    refine (sorted_put K.one ⟨_, hkl⟩ h.kinds (h.ents K hκ) ?_).symm
    unfold putL
    rw [List.map_append]
    have : (dropL L x).map (entL P k κ ε) = (L.map (entL P k κ ε)).filter (notKey kl) := by
      rw [List.filter_map]
      congr 1
      refine List.filter_congr (fun p hp => ?_)
      have hi : notKey kl (entL P k κ ε p) = true ↔ keyL P k κ p.1 ≠ kl := notKey_iff (K.key hkl)
      rw [Function.comp_apply, Bool.eq_iff_iff, hi]
      constructor
      · intro hp'
        rw [← keyL_of hkl]
        exact keyL_ne K hκ (h.keys p hp) ⟨_, hkl⟩ (by simpa using hp')
      · intro hne
        have : p.1 ≠ x := by rintro e1; exact hne (by rw [e1]; exact keyL_of hkl)
        simpa using this
    rw [this]
    refine List.perm_append_comm.trans ?_
    rw [show [(x, v)].map (entL P k κ ε) = [(kl, DataW.held (ε v))] by simp [entL, keyL_of hkl]]
    exact List.Perm.refl _
  rw [e] at h2
  have hg := h3.grown
  refine ⟨w', h1, ⟨?_, apart_put h.apart x v, ?_⟩, ⟨hg.os, hg.tape, hg.output, hg.size, fun i hi hne => hg.block i hi (fun e => hne (by cases e; rfl))⟩⟩
  · have := own_tight h2; rwa [size_mapD] at this
  · intro p hp
    rcases List.mem_append.1 hp with hp | hp
    · exact h.keys p (mem_dropL.1 hp).1
    · obtain rfl : p = (x, v) := by simpa using hp
      exact ⟨_, hkl⟩
/-- A delete. -/
theorem MapIs.drop [DecidableEq α] {t e : TypeId} (h : MapIs P k κ ε w b L) (K : Keyed P k) (hκ : ∀ a b, κ a = κ b → a = b) (ht : P.underlying t = some (.map k e)) {x : α} (hx : KeyOk P k κ x) (ty : TypeId) :
    ∃ w', (Builtin.delete_ #[t, k] ty #[.map (some b), κ x]).run P w = .ok (.tuple #[]) w' ∧ MapIs P k κ ε w' b (dropL L x) ∧ Only (fun i => i = b) w w' := by
  obtain ⟨kl, hkl⟩ := hx
  obtain ⟨w', h1, h2, h3⟩ := h.own.drop K ht hkl ty
  have e : (mapD P k κ ε L).del kl = mapD P k κ ε (dropL L x) := by
    unfold mapD
    rw [DataW.del_eq]
    congr 1
    refine (sorted_del K.one h.kinds (h.ents K hκ) ?_).symm
    have : (dropL L x).map (entL P k κ ε) = (L.map (entL P k κ ε)).filter (notKey kl) := by
      rw [List.filter_map]
      congr 1
      refine List.filter_congr (fun p hp => ?_)
      have hi : notKey kl (entL P k κ ε p) = true ↔ keyL P k κ p.1 ≠ kl := notKey_iff (K.key hkl)
      rw [Function.comp_apply, Bool.eq_iff_iff, hi]
      constructor
      · intro hp'
        rw [← keyL_of hkl]
        exact keyL_ne K hκ (h.keys p hp) ⟨_, hkl⟩ (by simpa using hp')
      · intro hne
        have : p.1 ≠ x := by rintro e1; exact hne (by rw [e1]; exact keyL_of hkl)
        simpa using this
    rw [this]
  rw [e] at h2
  have hg := h3.grown
  refine ⟨w', h1, ⟨?_, apart_drop h.apart x, fun p hp => h.keys p (mem_dropL.1 hp).1⟩, ⟨hg.os, hg.tape, hg.output, hg.size, fun i hi hne => hg.block i hi (fun e => hne (by cases e; rfl))⟩⟩
  have := own_tight h2; rwa [size_mapD] at this
theorem MapIs.len {t e : TypeId} (h : MapIs P k κ ε w b L) (ht : P.underlying t = some (.map k e)) (ty : TypeId) : (Builtin.len_ #[t] ty #[.map (some b)]).run P w = .ok (.int .i64 (L.length : Nat)) w := by
  have := h.own.len ht ty
  rwa [size_mapD] at this
end

/-! at the operation, for the walk -/
section
variable {α β : Type} {P : Program} {k : TypeId} {κ : α → Value} {ε : β → Value} {b : Nat} {L : List (α × β)}
  {w : World} {ops : Array Oper} {rest : List Oper} {o : Oper} {a : Act} {Q : Exit → Act → World → Prop}
theorem wpList_mapLook [DecidableEq α] (hg : o.guard = none) (m x : Operand) (t : TypeId) (c : Bool) (hop : o.op = Op.lookup t m x c) {e : TypeId} (h : MapIs P k κ ε w b L) (K : Keyed P k) (hκ : ∀ a b, κ a = κ b → a = b) (ht : P.underlying t = some (.map k e))
    {z : β} (hz : (zeroValue e).run P w = .ok (ε z) w) (hm : a.eval m = .map (some b)) {y : α} (hx : a.eval x = κ y) (hy : KeyOk P k κ y)
    (hK : wpList P ops Q rest (a.put o.dst (if c then .tuple #[ε ((lookL L y).getD z), .bool (lookL L y).isSome] else ε ((lookL L y).getD z))) w) : wpList P ops Q (o :: rest) a w := by
  refine wpList_plain hg fun K' hK' => ?_
  have hrun := h.look K hκ ht hz hy c
  unfold Oper.wp
  generalize (if c then Value.tuple #[ε ((lookL L y).getD z), .bool (lookL L y).isSome] else ε ((lookL L y).getD z)) = r at hrun hK
  simp [execOp, hop, hm, hx, hrun, Result.andThen]
  exact hK' _ _ hK
theorem wpList_mapStore [DecidableEq α] (hg : o.guard = none) (m x v : Operand) (t : TypeId) (hop : o.op = Op.mapUpdate t m x v) {e : TypeId} (h : MapIs P k κ ε w b L) (K : Keyed P k) (hκ : ∀ a b, κ a = κ b → a = b) (ht : P.underlying t = some (.map k e))
    (hn : L.length < maxLen) (hm : a.eval m = .map (some b)) {y : α} (hx : a.eval x = κ y) (hy : KeyOk P k κ y) {u : β} (hv : a.eval v = ε u)
    (hK : ∀ w', MapIs P k κ ε w' b (putL L y u) → Only (fun i => i = b) w w' → wpList P ops Q rest (a.put o.dst undef) w') : wpList P ops Q (o :: rest) a w := by
  refine wpList_plain hg fun K' hK' => ?_
  obtain ⟨w', hrun, r1, r2⟩ := h.store K hκ ht hn hy u
  unfold Oper.wp
  simp [execOp, hop, hm, hx, hv, hrun, Result.andThen]
  exact hK' _ _ (hK w' r1 r2)
theorem wpList_mapDrop [DecidableEq α] (hg : o.guard = none) (m x : Operand) (t : TypeId) (hop : o.op = Op.call { callee := Callee.builtin Builtin.delete, args := #[m, x], argTypes := #[t, k] }) {e : TypeId} (h : MapIs P k κ ε w b L) (K : Keyed P k) (hκ : ∀ a b, κ a = κ b → a = b)
    (ht : P.underlying t = some (.map k e)) (hm : a.eval m = .map (some b)) {y : α} (hx : a.eval x = κ y) (hy : KeyOk P k κ y)
    (hK : ∀ w', MapIs P k κ ε w' b (dropL L y) → Only (fun i => i = b) w w' → wpList P ops Q rest (a.put o.dst (.tuple #[])) w') : wpList P ops Q (o :: rest) a w := by
  refine wpList_plain hg fun K' hK' => ?_
  obtain ⟨w', hrun, r1, r2⟩ := h.drop K hκ ht hy o.type
  unfold Oper.wp
  simp [execOp, hop, resolve, invoke, builtin, hm, hx, hrun, Result.andThen]
  exact hK' _ _ (hK w' r1 r2)
theorem wpList_mapLen (hg : o.guard = none) (m : Operand) (t : TypeId) (hop : o.op = Op.call { callee := Callee.builtin Builtin.len, args := #[m], argTypes := #[t] }) {e : TypeId} (h : MapIs P k κ ε w b L)
    (ht : P.underlying t = some (.map k e)) (hm : a.eval m = .map (some b))
    (hK : wpList P ops Q rest (a.put o.dst (.int .i64 (L.length : Nat))) w) : wpList P ops Q (o :: rest) a w := by
  refine wpList_plain hg fun K' hK' => ?_
  unfold Oper.wp
  simp [execOp, hop, resolve, invoke, builtin, hm, h.len ht o.type, Result.andThen]
  exact hK' _ _ hK
end
end Go.Proofs.Ytefadkmdfhjaeaa
