/- WantPlays: each step on both, as contracts. -/
import Derived.Test.YtefadkmdfhjaeaaWI
import Derived.Test.YtefadkmdfhjaeaaWH
import Derived.Test.YtefadkmdfhjaeaaWD
import Derived.Test.YtefadkmdfhjaeaaWE
/-! Want and the reference's Want, plainly: what a step does to both. -/
namespace Go.Proofs.Ytefadkmdfhjaeaa
open Go.Conc Go.RowKit Go.Maps

def qOf (L : List EntW) (k : ByteArray) : Nat × List Int := ((findW L k).map EntW.q).getD (0, [])
/-- The reference's entries, plainly. -/
def refP (L : List EntW) (C : List (ByteArray × (Int × Int))) : List (ByteArray × Nat × List Int × Int) := C.map (fun p => (p.1, (qOf L p.1).1, (qOf L p.1).2, p.2.1))
theorem refP_congr {L L' : List EntW} {C : List (ByteArray × (Int × Int))} (h : ∀ p ∈ C, qOf L p.1 = qOf L' p.1) : refP L C = refP L' C := by
  unfold refP
  exact List.map_congr_left (fun p hp => by rw [h p hp])
theorem refP_append (L : List EntW) (C D : List (ByteArray × (Int × Int))) : refP L (C ++ D) = refP L C ++ refP L D := by simp [refP]
theorem refP_length (L : List EntW) (C : List (ByteArray × (Int × Int))) : (refP L C).length = C.length := by simp [refP]
theorem refP_get (L : List EntW) (C : List (ByteArray × (Int × Int))) (i : Nat) (h : i < (refP L C).length) (hc : i < C.length) : (refP L C)[i] = (C[i].1, (qOf L C[i].1).1, (qOf L C[i].1).2, C[i].2.1) := by simp [refP]
theorem qOf_some {L : List EntW} {k : ByteArray} {e : EntW} (h : findW L k = some e) : qOf L k = (e.ver, e.has) := by unfold qOf; rw [h]; rfl
theorem qOf_put (L : List EntW) (e : EntW) (k : ByteArray) : qOf (putW L e) k = if e.key = k then (e.ver, e.has) else qOf L k := by
  unfold qOf
  rw [findW_put]
  by_cases h : e.key = k
  · rw [if_pos h, if_pos h]; rfl
  · rw [if_neg h, if_neg h]
theorem qOf_drop {L : List EntW} {d k : ByteArray} (h : d ≠ k) : qOf (dropW L d) k = qOf L k := by
  unfold qOf
  rw [findW_drop, if_neg h]
section
variable {L : List EntW} {C : List (ByteArray × (Int × Int))} {R : List EntR}
/-- One entry of both. -/
theorem ref_at (eq : R.map EntR.p = refP L C) (i : Nat) (hi : i < R.length) : ∃ hc : i < C.length, R[i].key = C[i].1 ∧ (R[i].ver, R[i].has) = qOf L C[i].1 ∧ R[i].due = C[i].2.1 := by
  have hl := congrArg List.length eq
  rw [List.length_map, refP_length] at hl
  have hc : i < C.length := by omega
  have h1 : (R.map EntR.p)[i]'(by rw [List.length_map]; exact hi) = (refP L C)[i]'(by rw [refP_length]; exact hc) := by congr 1
  unfold refP at h1
  rw [List.getElem_map, List.getElem_map] at h1
  simp only [EntR.p, Prod.mk.injEq] at h1
  exact ⟨hc, h1.1, Prod.ext h1.2.1 h1.2.2.1, h1.2.2.2⟩
theorem ref_len (eq : R.map EntR.p = refP L C) : R.length = C.length := by
  have hl := congrArg List.length eq
  rwa [List.length_map, refP_length] at hl
theorem ref_none (eq : R.map EntR.p = refP L C) (sync : (C.map (·.1)).Perm (L.map (·.key))) {k : ByteArray} (hf : findW L k = none) : findR R k = none := by
  refine findR_no (fun e he hk => ?_)
  obtain ⟨i, hi, rfl⟩ := List.mem_iff_getElem.1 he
  obtain ⟨hc, h1, _⟩ := ref_at eq i hi
  have h2 : C[i].1 ∈ L.map (·.key) := sync.mem_iff.1 (List.mem_map.2 ⟨_, List.getElem_mem hc, rfl⟩)
  obtain ⟨q, hq, e2⟩ := List.mem_map.1 h2
  exact findW_none hf q hq (e2.trans (h1.symm.trans hk))
theorem ref_some (eq : R.map EntR.p = refP L C) (sync : (C.map (·.1)).Perm (L.map (·.key))) {k : ByteArray} {e : EntW} (hf : findW L k = some e) : ∃ i, ∃ hi : i < R.length, ∃ hc : i < C.length, findR R k = some i ∧ R[i].key = k ∧ R[i].ver = e.ver ∧ R[i].has = e.has ∧ C[i].1 = k ∧ R[i].due = C[i].2.1 := by
  cases hr : findR R k with
  | none =>
    obtain ⟨hm, hk⟩ := findW_some hf
    have h2 : k ∈ C.map (·.1) := sync.mem_iff.2 (List.mem_map.2 ⟨e, hm, hk⟩)
    obtain ⟨p, hp, hpk⟩ := List.mem_map.1 h2
    obtain ⟨i, hi, rfl⟩ := List.mem_iff_getElem.1 hp
    have hR : i < R.length := by rw [ref_len eq]; exact hi
    obtain ⟨_, h1, _⟩ := ref_at eq i hR
    exact absurd (h1.trans hpk) (findR_none hr _ (List.getElem_mem hR))
  | some i =>
    obtain ⟨hi, hk⟩ := findR_some hr
    obtain ⟨hc, h1, h2, h3⟩ := ref_at eq i hi
    have h4 : C[i].1 = k := h1.symm.trans hk
    rw [h4, qOf_some hf] at h2
    simp only [Prod.mk.injEq] at h2
    exact ⟨i, hi, hc, rfl, hk, h2.1, h2.2, h4, h3⟩
theorem apart_idx {C : List (ByteArray × (Int × Int))} (ha : C.Pairwise (fun p q => p.1 ≠ q.1)) {i j : Nat} (hi : i < C.length) (hj : j < C.length) (h : C[i].1 = C[j].1) : i = j := by
  rcases Nat.lt_trichotomy i j with h1 | h1 | h1
  · exact absurd h (List.pairwise_iff_getElem.1 ha i j hi hj h1)
  · exact h1
  · exact absurd h.symm (List.pairwise_iff_getElem.1 ha j i hj hi h1)
/-- An entry is put in its place. -/
theorem refP_put (ha : C.Pairwise (fun p q => p.1 ≠ q.1)) {i : Nat} (hc : i < C.length) {e : EntW} (hk : C[i].1 = e.key) : refP (putW L e) C = (refP L C).set i (e.key, e.ver, e.has, C[i].2.1) := by
  refine List.ext_getElem (by simp [refP]) (fun j hj1 hj2 => ?_)
  rw [List.getElem_set]
  have hj : j < C.length := by rw [refP_length] at hj1; exact hj1
  by_cases hij : i = j
  · subst hij
    rw [if_pos rfl, refP_get _ _ _ _ hj, qOf_put, if_pos hk.symm, hk]
  · rw [if_neg hij, refP_get _ _ _ _ hj, refP_get _ _ _ _ hj, qOf_put, if_neg (fun e9 => hij (apart_idx ha hc hj (hk.trans e9)))]
theorem drop_erase (ha : C.Pairwise (fun p q => p.1 ≠ q.1)) {i : Nat} (hc : i < C.length) {k : ByteArray} (hk : C[i].1 = k) : dropL C k = C.eraseIdx i := by
  have e1 : C = C.take i ++ C[i] :: C.drop (i + 1) := by rw [List.getElem_cons_drop, List.take_append_drop]
  rw [List.eraseIdx_eq_take_drop_succ]
  unfold dropL
  conv => lhs; rw [e1]
  rw [List.filter_append, List.filter_cons_of_neg (by simp [hk])]
  congr 1
  · refine List.filter_eq_self.2 (fun p hp => ?_)
    obtain ⟨j, hj, rfl⟩ := List.mem_iff_getElem.1 hp
    rw [List.getElem_take]
    have hji : j < i := by simp at hj; omega
    have := List.pairwise_iff_getElem.1 ha j i (by omega) hc hji
    rw [hk] at this
    simpa using this
  · refine List.filter_eq_self.2 (fun p hp => ?_)
    obtain ⟨j, hj, rfl⟩ := List.mem_iff_getElem.1 hp
    rw [List.getElem_drop]
    have hjl : i + 1 + j < C.length := by simp at hj; omega
    have := List.pairwise_iff_getElem.1 ha i (i + 1 + j) hc hjl (by omega)
    rw [hk] at this
    simpa using Ne.symm this
end
theorem map_set_p (R : List EntR) (i : Nat) (x : EntR) : (R.set i x).map EntR.p = (R.map EntR.p).set i x.p := List.map_set ..
theorem map_erase_p {α β : Type} (f : α → β) (R : List α) (i : Nat) : (R.eraseIdx i).map f = (R.map f).eraseIdx i := by
  rw [List.eraseIdx_eq_take_drop_succ, List.eraseIdx_eq_take_drop_succ, List.map_append, List.map_take, List.map_drop]
/-- What holds of both. -/
structure WInv (L : List EntW) (C : List (ByteArray × (Int × Int))) (cnt : Int) (R : List EntR) : Prop where
  eq : R.map EntR.p = refP L C
  ord : Orders C
  le : ∀ p ∈ C, p.2.2 ≤ cnt
  pos : 0 ≤ cnt
theorem WInv.start : WInv [] [] 0 [] := ⟨rfl, List.Pairwise.nil, fun p hp => (by cases hp), Int.le_refl _⟩
theorem orders_snoc {C : List (ByteArray × (Int × Int))} {cnt : Int} (ho : Orders C) (hle : ∀ p ∈ C, p.2.2 ≤ cnt) (k : ByteArray) (a : Int) : Orders (C ++ [(k, (a, cnt + 1))]) ∧ ∀ p ∈ C ++ [(k, (a, cnt + 1))], p.2.2 ≤ cnt + 1 := by
  refine ⟨List.pairwise_append.2 ⟨ho, by simp, fun p hp q hq => ?_⟩, fun p hp => ?_⟩
  · obtain rfl := List.mem_singleton.1 hq
    have := hle p hp
    show p.2.2 < cnt + 1
    omega
  · rcases List.mem_append.1 hp with hp | hp
    · have := hle p hp; omega
    · obtain rfl := List.mem_singleton.1 hp
      exact Int.le_refl _
set_option maxHeartbeats 1000000 in
/-- Heard, on both. -/
theorem heard_both {L L' : List EntW} {C C' : List (ByteArray × (Int × Int))} {cnt cnt' : Int} {R R' : List EntR} {k : ByteArray} {ver : Nat} {fr at_ : Int} {b b' : Bool} (hi : WInv L C cnt R) (sync : (C.map (·.1)).Perm (L.map (·.key))) (ha : C.Pairwise (fun p q => p.1 ≠ q.1))
    (h1 : HStep L C cnt L' C' cnt' k ver fr at_ b) (h2 : RHStep R R' k ver fr at_ b') : b = b' ∧ WInv L' C' cnt' R' ∧ cnt' ≤ cnt + 1 := by
  have hlen := ref_len hi.eq
  have keep : WInv L C cnt R ∧ cnt ≤ cnt + 1 := ⟨hi, by omega⟩
  by_cases hfr : fr < 1 ∨ 65535 < fr
  · have hx : 1 ≤ fr → fr ≤ 65535 → False := fun h3 h4 => hfr.elim (fun h5 => absurd h3 (Int.not_le.2 h5)) (fun h5 => absurd h4 (Int.not_le.2 h5))
    rcases h1 with ⟨rfl, e1, e2, e3, _⟩ | ⟨_, f1, f2, _⟩
    · rw [e1, e2, e3]
      rcases h2 with ⟨rfl, e4, _⟩ | ⟨_, g1, g2, _⟩
      · rw [e4]; exact ⟨rfl, keep⟩
      · exact (hx g1 g2).elim
    · exact (hx f1 f2).elim
  have hf1 : ¬ fr < 1 := fun e => hfr (.inl e)
  have hf2 : ¬ 65535 < fr := fun e => hfr (.inr e)
  cases hf : findW L k with
  | none =>
    have hr := ref_none hi.eq sync hf
    rcases h1 with ⟨rfl, e1, e2, e3, f⟩ | ⟨rfl, _, _, f⟩
    · rw [e1, e2, e3]
      have hc : 64 ≤ C.length := by
        rcases f with f | f | ⟨_, f⟩ | ⟨e, f, _⟩
        · exact absurd f hf1
        · exact absurd f hf2
        · exact f
        · rw [hf] at f; cases f
      rcases h2 with ⟨rfl, e4, _⟩ | ⟨_, _, _, ⟨_, g, _⟩ | ⟨i, _, g, _⟩⟩
      · rw [e4]; exact ⟨rfl, keep⟩
      · exact absurd g (by rw [hlen]; exact Nat.not_lt.2 hc)
      · rw [hr] at g; cases g
    · obtain ⟨_, hc, ⟨a, cap, e1⟩, e2, e3⟩ : findW L k = none ∧ C.length < 64 ∧ (∃ a cap, L' = L ++ [⟨k, ver, [fr], a, cap⟩]) ∧ C' = C ++ [(k, (at_, cnt + 1))] ∧ cnt' = cnt + 1 := by
        rcases f with f | ⟨e, f, _⟩
        · exact f
        · rw [hf] at f; cases f
      rw [e1, e2, e3]
      rcases h2 with ⟨_, _, g⟩ | ⟨rfl, _, _, ⟨_, _, a2, c2, e4⟩ | ⟨i, _, g, _⟩⟩
      · exfalso
        rcases g with g | g | ⟨_, g⟩ | ⟨i, _, g, _⟩
        · exact hf1 g
        · exact hf2 g
        · rw [hlen] at g; exact absurd hc (Nat.not_lt.2 g)
        · rw [hr] at g; cases g
      · obtain ⟨o1, o2⟩ := orders_snoc hi.ord hi.le k at_
        rw [e4]
        have hpos := hi.pos
        refine ⟨rfl, ⟨?_, o1, o2, Int.le_trans hpos (Int.le_add_of_nonneg_right (by decide))⟩, Int.le_refl _⟩
        rw [← putW_new (e := ⟨k, ver, [fr], a, cap⟩) hf, refP_append, List.map_append, hi.eq]
        congr 1
        · refine refP_congr (fun p hp => ?_)
          rw [qOf_put, if_neg]
          intro e9
          have h3 : p.1 ∈ L.map (·.key) := sync.mem_iff.1 (List.mem_map.2 ⟨p, hp, rfl⟩)
          obtain ⟨q, hq, e2⟩ := List.mem_map.1 h3
          exact findW_none hf q hq (e2.trans e9.symm)
        · simp [refP, EntR.p, qOf_put]
      · rw [hr] at g; cases g
  | some e =>
    obtain ⟨i, hi1, hc, hr, r1, r2, r3, r4, r5⟩ := ref_some hi.eq sync hf
    obtain ⟨he1, he2⟩ := findW_some hf
    have hset : ∀ (e' : EntW) (x : EntR), e'.key = k → x.key = k → x.ver = e'.ver → x.has = e'.has → x.due = R[i].due → (R.set i x).map EntR.p = refP (putW L e') C := fun e' x k1 k2 k3 k4 k5 => by
      rw [map_set_p, hi.eq, refP_put ha hc (by rw [r4, k1])]
      congr 1
      unfold EntR.p
      rw [k1, k2, k3, k4, k5, r5]
    have find : ∀ i', findR R k = some i' → i' = i := fun i' h => by rw [hr] at h; exact (Option.some.inj h).symm
    rcases h1 with ⟨rfl, e1, e2, e3, f⟩ | ⟨rfl, _, _, f⟩
    · rw [e1, e2, e3]
      have hcase : ver < e.ver ∨ (ver = e.ver ∧ fr ∉ e.has ∧ 64 ≤ e.has.length) := by
        rcases f with f | f | ⟨f, _⟩ | ⟨e', f, g⟩
        · exact absurd f hf1
        · exact absurd f hf2
        · rw [hf] at f; cases f
        · rw [hf] at f; cases f; exact g
      rcases h2 with ⟨rfl, e4, _⟩ | ⟨_, _, _, ⟨g, _⟩ | ⟨i', hi', g, g2⟩⟩
      · rw [e4]; exact ⟨rfl, keep⟩
      · rw [hr] at g; cases g
      · exfalso
        obtain rfl := find i' g
        rcases g2 with ⟨g2, _⟩ | ⟨g2, g3, _⟩ | ⟨g2, g3, g4, _⟩
        · rw [r2] at g2
          exact hcase.elim (fun h => absurd h (Nat.lt_asymm g2)) (fun h => absurd h.1 (Nat.ne_of_gt g2))
        · rw [r2] at g2; rw [r3] at g3
          exact hcase.elim (fun h => absurd g2 (Nat.ne_of_gt h)) (fun h => h.2.1 g3)
        · rw [r2] at g2; rw [r3] at g4
          exact hcase.elim (fun h => absurd g2 (Nat.ne_of_gt h)) (fun h => absurd g4 (Nat.not_lt.2 h.2.2))
    · obtain ⟨e2, e3, hcase⟩ : C' = C ∧ cnt' = cnt ∧ ((e.ver < ver ∧ ∃ a cap, L' = putW L ⟨k, ver, [fr], a, cap⟩) ∨ (e.ver = ver ∧ fr ∈ e.has ∧ L' = L) ∨ (e.ver = ver ∧ fr ∉ e.has ∧ e.has.length < 64 ∧ ∃ a cap, L' = putW L ⟨k, ver, e.has ++ [fr], a, cap⟩)) := by
        rcases f with ⟨f, _⟩ | ⟨e', f, g⟩
        · rw [hf] at f; cases f
        · rw [hf] at f; cases f; exact g
      rcases h2 with ⟨_, _, g⟩ | ⟨rfl, _, _, ⟨g, _⟩ | ⟨i', hi', g, g2⟩⟩
      · exfalso
        rcases g with g | g | ⟨g, _⟩ | ⟨i', hi', g, g2⟩
        · exact hf1 g
        · exact hf2 g
        · rw [hr] at g; cases g
        · obtain rfl := find i' g
          rw [r2, r3] at g2
          rcases hcase with ⟨h, _⟩ | ⟨h, h3, _⟩ | ⟨h, h3, h4, _⟩
          · exact g2.elim (fun g2 => absurd h (Nat.lt_asymm g2)) (fun g2 => absurd g2.1 (Nat.ne_of_lt h))
          · exact g2.elim (fun g2 => absurd h (Nat.ne_of_gt g2)) (fun g2 => g2.2.1 h3)
          · exact g2.elim (fun g2 => absurd h (Nat.ne_of_gt g2)) (fun g2 => absurd h4 (Nat.not_lt.2 g2.2.2))
      · rw [hr] at g; cases g
      · obtain rfl := find i' g
        rw [e2, e3]
        refine ⟨rfl, ?_, Int.le_add_of_nonneg_right (by decide)⟩
        rcases hcase with ⟨h, a, cap, e1⟩ | ⟨h, h3, e1⟩ | ⟨h, h3, h4, a, cap, e1⟩
        · rcases g2 with ⟨_, a2, c2, e4⟩ | ⟨g2, _⟩ | ⟨g2, _⟩
          · rw [e1, e4]; exact ⟨hset _ _ rfl r1 rfl rfl rfl, hi.ord, hi.le, hi.pos⟩
          · rw [r2] at g2; exact absurd g2 (Nat.ne_of_lt h)
          · rw [r2] at g2; exact absurd g2 (Nat.ne_of_lt h)
        · rcases g2 with ⟨g2, _⟩ | ⟨_, _, e4⟩ | ⟨_, g3, _⟩
          · rw [r2] at g2; exact absurd h (Nat.ne_of_lt g2)
          · rw [e1, e4]; exact hi
          · rw [r3] at g3; exact absurd h3 g3
        · rcases g2 with ⟨g2, _⟩ | ⟨_, g3, _⟩ | ⟨_, _, _, a2, c2, e4⟩
          · rw [r2] at g2; exact absurd h (Nat.ne_of_lt g2)
          · rw [r3] at g3; exact absurd g3 h3
          · rw [e1, e4]; exact ⟨hset _ _ rfl r1 (by rw [r2]; exact h) (by rw [r3]) rfl, hi.ord, hi.le, hi.pos⟩
/-- Got, on both. -/
theorem got_both {L : List EntW} {C : List (ByteArray × (Int × Int))} {cnt : Int} {R R' : List EntR} {k : ByteArray} {ver : Nat} {b' : Bool} (hi : WInv L C cnt R) (sync : (C.map (·.1)).Perm (L.map (·.key))) (ha : C.Pairwise (fun p q => p.1 ≠ q.1))
    (h2 : RGStep R R' k ver b') : gotB L k ver = b' ∧ WInv (if gotB L k ver then dropW L k else L) (if gotB L k ver then dropL C k else C) cnt R' := by
  cases hf : findW L k with
  | none =>
    have hr := ref_none hi.eq sync hf
    have hg : gotB L k ver = false := by unfold gotB; rw [hf]
    rw [hg]
    rcases h2 with ⟨rfl, rfl, _⟩ | ⟨_, i, _, g, _⟩
    · exact ⟨rfl, hi⟩
    · rw [hr] at g; cases g
  | some e =>
    obtain ⟨i, hi1, hc, hr, r1, r2, r3, r4, r5⟩ := ref_some hi.eq sync hf
    have find : ∀ i', findR R k = some i' → i' = i := fun i' h => by rw [hr] at h; exact (Option.some.inj h).symm
    have hg : gotB L k ver = decide (e.ver ≤ ver) := by unfold gotB; rw [hf]
    rcases h2 with ⟨rfl, rfl, g⟩ | ⟨rfl, i', hi', g, g2, rfl⟩
    · have hlt : ver < e.ver := by
        rcases g with g | ⟨i', hi', g, g2⟩
        · rw [hr] at g; cases g
        · obtain rfl := find i' g
          rw [r2] at g2; exact g2
      rw [hg, decide_eq_false (by omega)]
      exact ⟨rfl, hi⟩
    · obtain rfl := find i' g
      rw [r2] at g2
      rw [hg, decide_eq_true g2, if_pos rfl, if_pos rfl]
      refine ⟨rfl, ?_, orders_drop hi.ord k, fun p hp => hi.le p (List.mem_filter.1 hp).1, hi.pos⟩
      rw [map_erase_p, hi.eq, drop_erase ha hc r4]
      unfold refP
      rw [← map_erase_p]
      refine List.map_congr_left (fun p hp => ?_)
      have hpk : k ≠ p.1 := by
        rw [← drop_erase ha hc r4] at hp
        have := (List.mem_filter.1 hp).2
        simpa using Ne.symm (by simpa using this)
      rw [qOf_drop hpk]
/-- Lost, on both. -/
theorem lost_both {L L' : List EntW} {C : List (ByteArray × (Int × Int))} {cnt : Int} {R R' : List EntR} {n : Int} (hi : WInv L C cnt R) (sync : (C.map (·.1)).Perm (L.map (·.key)))
    (h1 : LostAt n L (L.map (·.key)) L') (h2 : R'.map EntR.p = lostP n (R.map EntR.p)) : WInv L' (lostC n L (L.map (·.key)) C) cnt R' := by
  refine ⟨?_, hi.ord.filter _, fun p hp => hi.le p (List.mem_filter.1 hp).1, hi.pos⟩
  rw [h2, hi.eq]
  have hin : ∀ p ∈ C, inD (L.map (·.key)) p.1 = true := fun p hp => (inD_iff _ _).2 (sync.mem_iff.1 (List.mem_map.2 ⟨p, hp, rfl⟩))
  have hsome : ∀ p ∈ C, ∃ e, findW L p.1 = some e := fun p hp => by
    cases hf : findW L p.1 with
    | some e => exact ⟨e, rfl⟩
    | none =>
      obtain ⟨q, hq, e2⟩ := List.mem_map.1 ((inD_iff _ _).1 (hin p hp))
      exact absurd e2 (findW_none hf q hq)
  unfold lostP lostC refP
  rw [List.map_map, List.filter_map]
  have hfil : C.filter ((fun p => !p.2.2.1.isEmpty) ∘ ((fun p => (p.1, p.2.1, lessN n p.2.2.1, p.2.2.2)) ∘ fun p => (p.1, (qOf L p.1).1, (qOf L p.1).2, p.2.1))) = C.filter (fun p => !(inD (L.map (·.key)) p.1 && goneK n L p.1)) := by
    refine List.filter_congr (fun p hp => ?_)
    obtain ⟨e, he⟩ := hsome p hp
    rw [hin p hp]
    simp only [Function.comp_apply, Bool.true_and]
    rw [qOf_some he]
    unfold goneK
    rw [he]
    by_cases h9 : lessN n e.has = []
    · simp [h9]
    · simp [h9]
  rw [hfil]
  refine List.map_congr_left (fun p hp => ?_)
  obtain ⟨hp1, hp2⟩ := List.mem_filter.1 hp
  obtain ⟨e, he⟩ := hsome p hp1
  have h3 := h1.out p.1
  rw [hin p hp1, if_pos rfl, he] at h3
  rw [hin p hp1] at hp2
  have hg : lessN n e.has ≠ [] := by
    unfold goneK at hp2
    rw [he] at hp2
    simpa using hp2
  have h4 : qOf L' p.1 = (e.ver, lessN n e.has) := by
    unfold qOf
    rw [h3]
    simp [lostQ, EntW.q, hg]
  simp only [Function.comp_apply]
  rw [qOf_some he, h4]
end Go.Proofs.Ytefadkmdfhjaeaa
/-! Due, on both, plainly. -/
namespace Go.Proofs.Ytefadkmdfhjaeaa
open Go.Conc Go.RowKit Go.Maps

theorem map_snoc {α β : Type} {f : α → β} {l : List α} {D : List β} {y : β} (h : l.map f = D ++ [y]) : ∃ l' e, l = l' ++ [e] ∧ l'.map f = D ∧ f e = y := by
  obtain ⟨l1, l2, rfl, h1, h2⟩ := List.map_eq_append_iff.1 h
  cases l2 with
  | nil => cases h2
  | cons e l2 =>
    simp only [List.map_cons, List.cons.injEq, List.map_eq_nil_iff] at h2
    obtain ⟨h2, rfl⟩ := h2
    exact ⟨l1, e, rfl, h1, h2⟩
theorem nodup_snoc {D : List ByteArray} {y : ByteArray} (h : (D ++ [y]).Nodup) : D.Nodup ∧ y ∉ D := by
  rw [List.nodup_append] at h
  exact ⟨h.1, fun hm => h.2.2 _ hm _ (by simp) rfl⟩
theorem againP_key {at_ : Int} {l : List EntR} {a : ByteArray × Nat × List Int × Int} (h : a ∈ againP at_ l) : a.1 ∈ l.map EntR.key := by
  unfold againP at h
  obtain ⟨e, he, rfl⟩ := List.mem_map.1 h
  exact List.mem_map.2 ⟨e, (List.mem_filter.1 he).1, rfl⟩
structure DRef (at_ : Int) (L Lz : List EntW) (C Cz : List (ByteArray × (Int × Int))) (cnt cntz : Int) (D : List ByteArray) (A : List AskT) (OR : List EntR) : Prop where
  ask : A = OR.map askR
  same : ∀ k, k ∉ D → findW Lz k = findW L k
  out : ∃ G, Cz = C ++ G ∧ G.map (fun p => (p.1, p.2.1)) = (againP at_ OR).map (fun a => (a.1, a.2.2.2)) ∧ Orders G ∧ ∀ p ∈ G, cnt < p.2.2 ∧ p.2.2 ≤ cntz
  q : ∀ a ∈ againP at_ OR, qOf Lz a.1 = (a.2.1, a.2.2.1)
  le : cnt ≤ cntz ∧ cntz ≤ cnt + D.length
theorem drun_ref {at_ : Int} {L : List EntW} {C : List (ByteArray × (Int × Int))} {cnt : Int} {D : List ByteArray} {A : List AskT} {Lz : List EntW} {Cz : List (ByteArray × (Int × Int))} {cntz : Int} (h : DRun at_ L C cnt D A Lz Cz cntz) :
    ∀ (OR : List EntR), OR.map EntR.key = D → D.Nodup → (∀ e ∈ OR, (findW L e.key).map EntW.q = some (e.ver, e.has)) → DRef at_ L Lz C Cz cnt cntz D A OR := by
  induction h with
  | nil =>
    intro OR h1 _ _
    obtain rfl := List.map_eq_nil_iff.1 h1
    exact ⟨rfl, fun _ _ => rfl, ⟨[], by simp, rfl, List.Pairwise.nil, fun p hp => (by cases hp)⟩, fun a ha => (by cases ha), by simp⟩
  | @drop D A L1 C1 cnt1 y e hd hr hf hh ih =>
    intro OR h1 h2 h3
    obtain ⟨OR, r, rfl, h4, h5⟩ := map_snoc h1
    obtain ⟨n1, n2⟩ := nodup_snoc h2
    obtain ⟨a1, a2, a3, a4, a5⟩ := ih OR h4 n1 (fun e he => h3 e (by simp [he]))
    have hq := h3 r (by simp)
    rw [h5, ← a2 y n2, hf] at hq
    simp only [EntW.q, Option.map_some, Option.some.injEq, Prod.mk.injEq] at hq
    have hrh : r.has = [hd] := by rw [← hq.2, hh]
    have hag : againP at_ (OR ++ [r]) = againP at_ OR := by rw [againP_snoc, if_neg (by rw [hrh]; simp)]
    refine ⟨?_, fun k hk => ?_, by rw [hag]; exact a3, fun a ha => ?_, by rw [List.length_append]; have := a5; simp; omega⟩
    · rw [a1, List.map_append]
      simp only [List.map_cons, List.map_nil, askR, hrh, h5, List.headD_cons, hq.1]
    · have hk1 : k ∉ D := fun e => hk (by simp [e])
      have hk2 : y ≠ k := fun e => hk (by simp [e])
      rw [findW_drop, if_neg hk2]
      exact a2 k hk1
    · rw [hag] at ha
      have hk := againP_key ha
      rw [h4] at hk
      rw [qOf_drop (fun e => n2 (by rw [e]; exact hk))]
      exact a4 a ha
  | @keep D A L1 C1 cnt1 y e hd tl a cap hr hf hh hne ih =>
    intro OR h1 h2 h3
    obtain ⟨OR, r, rfl, h4, h5⟩ := map_snoc h1
    obtain ⟨n1, n2⟩ := nodup_snoc h2
    obtain ⟨a1, a2, ⟨G, rfl, g1, g2, g3⟩, a4, a5⟩ := ih OR h4 n1 (fun e he => h3 e (by simp [he]))
    have hq := h3 r (by simp)
    rw [h5, ← a2 y n2, hf] at hq
    simp only [EntW.q, Option.map_some, Option.some.injEq, Prod.mk.injEq] at hq
    have hrh : r.has = hd :: tl := by rw [← hq.2, hh]
    have htl : 0 < tl.length := List.length_pos_iff.2 hne
    have hag : againP at_ (OR ++ [r]) = againP at_ OR ++ [(y, e.ver, tl, at_)] := by rw [againP_snoc, if_pos (by rw [hrh]; simp; omega), hrh, h5, hq.1]; rfl
    refine ⟨?_, fun k hk => ?_, ⟨G ++ [(y, (at_, cnt1 + 1))], by simp, ?_, ?_, fun p hp => ?_⟩, fun b hb => ?_, by rw [List.length_append]; have := a5; simp; omega⟩
    · rw [a1, List.map_append]
      simp only [List.map_cons, List.map_nil, askR, hrh, h5, List.headD_cons, hq.1]
    · have hk1 : k ∉ D := fun e => hk (by simp [e])
      have hk2 : y ≠ k := fun e => hk (by simp [e])
      rw [findW_put, if_neg hk2]
      exact a2 k hk1
    · rw [hag, List.map_append, List.map_append, g1]; rfl
    · refine List.pairwise_append.2 ⟨g2, by simp, fun p hp q hq => ?_⟩
      obtain rfl := List.mem_singleton.1 hq
      have := (g3 p hp).2
      show p.2.2 < cnt1 + 1
      omega
    · rcases List.mem_append.1 hp with hp | hp
      · have := g3 p hp; omega
      · obtain rfl := List.mem_singleton.1 hp
        have := a5.1
        show cnt < cnt1 + 1 ∧ cnt1 + 1 ≤ cnt1 + 1
        omega
    · rw [hag] at hb
      rw [qOf_put]
      rcases List.mem_append.1 hb with hb | hb
      · have hk := againP_key hb
        rw [h4] at hk
        have hk2 : ¬ y = b.1 := fun e => n2 (by rw [e]; exact hk)
        rw [if_neg hk2]
        exact a4 b hb
      · obtain rfl := List.mem_singleton.1 hb
        rw [if_pos rfl]
/-- The order of a key. -/
def ordOf (C : List (ByteArray × (Int × Int))) (k : ByteArray) : Int := (entAt C k).2
theorem kdo_ref {L : List EntW} {C : List (ByteArray × (Int × Int))} {R : List EntR} (eq : R.map EntR.p = refP L C) (ha : C.Pairwise (fun p q => p.1 ≠ q.1)) : R.map (kdo (ordOf C)) = C := by
  refine List.ext_getElem (by rw [List.length_map, ref_len eq]) (fun i h1 h2 => ?_)
  rw [List.getElem_map]
  have hi : i < R.length := by rw [List.length_map] at h1; exact h1
  obtain ⟨hc, r1, _, r3⟩ := ref_at eq i hi
  unfold kdo ordOf
  have hm : (C[i].1, C[i].2) ∈ C := List.getElem_mem hc
  rw [r1, r3, entAt_mem ha hm]
theorem due_both {L L' : List EntW} {C C' : List (ByteArray × (Int × Int))} {cnt cnt' : Int} {R OR RR G : List EntR} {now at_ : Int} {D : List ByteArray} {A : List AskT} (hi : WInv L C cnt R) (sync : (C.map (·.1)).Perm (L.map (·.key))) (ha : C.Pairwise (fun p q => p.1 ≠ q.1)) (hLa : L.Pairwise (fun p q => p.key ≠ q.key))
    (hp : D.Perm ((C.filter (fun p => !decide (now < p.2.1))).map (·.1))) (hs : DueSorted C D) (hd : DRun at_ L (C.filter (fun p => decide (now < p.2.1))) cnt D A L' C' cnt')
    (hP : Picked (R.map (kdo (ordOf C))) now (OR.map (kdo (ordOf C))) (RR.map (kdo (ordOf C)))) (hn : ∀ e ∈ RR, now < e.due) (hpm : (OR ++ RR).Perm R) (hG : G.map EntR.p = againP at_ OR) :
    A = OR.map askR ∧ WInv L' C' cnt' (RR ++ G) ∧ cnt' ≤ cnt + C.length := by
  rw [kdo_ref hi.eq ha] at hP
  obtain ⟨d1, d2, d3⟩ := hP.done ha (fun p hp => by
    obtain ⟨e, he, rfl⟩ := List.mem_map.1 hp
    exact hn e he)
  have hmem : ∀ x ∈ D, ∃ v, (x, v) ∈ C := due_mem hp
  have hDO : D = (OR.map (kdo (ordOf C))).map (·.1) := due_unique ha hi.ord (hp.trans d1.symm) hmem hs d2
  have hDk : OR.map EntR.key = D := by rw [hDO, List.map_map]; rfl
  have hCn : (C.map (·.1)).Nodup := by
    rw [List.nodup_iff_pairwise_ne, List.pairwise_map]
    exact ha
  have hDn : D.Nodup := (hp.nodup_iff).2 (hCn.sublist ((List.filter_sublist).map _))
  have hent : ∀ e ∈ R, (findW L e.key).map EntW.q = some (e.ver, e.has) := fun e he => by
    obtain ⟨i, hi1, rfl⟩ := List.mem_iff_getElem.1 he
    obtain ⟨hc, r1, r2, _⟩ := ref_at hi.eq i hi1
    have h4 : C[i].1 ∈ L.map (·.key) := sync.mem_iff.1 (List.mem_map.2 ⟨_, List.getElem_mem hc, rfl⟩)
    obtain ⟨w, hw, hwk⟩ := List.mem_map.1 h4
    have hf : findW L C[i].1 = some w := by rw [← hwk]; exact findW_mem hLa hw
    rw [r1, hf]
    rw [qOf_some hf] at r2
    rw [r2]; rfl
  have hR := drun_ref hd OR hDk hDn (fun e he => hent e (hpm.mem_iff.1 (by simp [he])))
  obtain ⟨G', rfl, g1, g2, g3⟩ := hR.out
  have hDl : D.length ≤ C.length := by rw [hp.length_eq, List.length_map]; exact List.length_filter_le _ _
  have hle := hR.le
  refine ⟨hR.ask, ⟨?_, ?_, ?_, by have := hi.pos; omega⟩, by omega⟩
  · rw [List.map_append, refP_append, hG]
    congr 1
    · rw [← d3]
      unfold refP
      rw [List.map_map]
      refine List.map_congr_left (fun e he => ?_)
      have h6 := hent e (hpm.mem_iff.1 (by simp [he]))
      have hk : e.key ∉ D := fun hk => by
        rw [← hDk] at hk
        obtain ⟨o, ho, hok⟩ := List.mem_map.1 hk
        have hnd : ((OR ++ RR).map EntR.key).Nodup := by
          have e1 : R.map EntR.key = C.map (·.1) := by
            have e2 := kdo_ref hi.eq ha
            conv => rhs; rw [← e2]
            rw [List.map_map]; rfl
          refine ((hpm.map EntR.key).nodup_iff).2 ?_
          rw [e1]; exact hCn
        rw [List.map_append, List.nodup_append] at hnd
        exact hnd.2.2 _ (List.mem_map.2 ⟨o, ho, hok⟩) _ (List.mem_map.2 ⟨e, he, rfl⟩) rfl
      have h7 : qOf L' e.key = (e.ver, e.has) := by
        unfold qOf
        rw [hR.same _ hk, h6]; rfl
      simp only [Function.comp_apply, kdo, EntR.p]
      rw [h7]
    · unfold refP
      have h8 : ∀ (l : List (ByteArray × Nat × List Int × Int)) (G' : List (ByteArray × (Int × Int))), (∀ a ∈ l, qOf L' a.1 = (a.2.1, a.2.2.1)) → G'.map (fun p => (p.1, p.2.1)) = l.map (fun a => (a.1, a.2.2.2)) → l = G'.map (fun p => (p.1, (qOf L' p.1).1, (qOf L' p.1).2, p.2.1)) := by
        intro l
        induction l with
        | nil => intro G' _ h; rw [List.map_eq_nil_iff.1 h]; rfl
        | cons a l ih =>
          intro G' hq h
          cases G' with
          | nil => cases h
          | cons p G' =>
            simp only [List.map_cons, List.cons.injEq, Prod.mk.injEq] at h
            rw [List.map_cons, ← ih G' (fun a ha => hq a (by simp [ha])) h.2]
            have h9 := hq a (by simp)
            rw [h.1.1, h9, h.1.2]
      exact h8 _ _ hR.q g1
  · refine List.pairwise_append.2 ⟨hi.ord.filter _, g2, fun p hp q hq => ?_⟩
    have h1 := hi.le p (List.mem_filter.1 hp).1
    have h2 := g3 q hq
    omega
  · intro p hp
    rcases List.mem_append.1 hp with hp | hp
    · have h1 := hi.le p (List.mem_filter.1 hp).1
      omega
    · exact (g3 p hp).2
end Go.Proofs.Ytefadkmdfhjaeaa
/-! bellhoplaw18.same. -/
namespace Go.Proofs.Ytefadkmdfhjaeaa
open Go.Conc Go.RowKit Go.Maps

/-- Is an entry of the key and version among the first so many? -/
def thereB (R : List EntR) (key : ByteArray) (ver : Nat) : Bool := R.any (fun e => decide (e.key = key) && decide (e.ver = ver))
theorem there_snoc (R : List EntR) (key : ByteArray) (ver : Nat) (k : Nat) (hk : k < R.length) : thereB (R.take (k + 1)) key ver = (thereB (R.take k) key ver || (decide (R[k].key = key) && decide (R[k].ver = ver))) := by
  unfold thereB
  rw [List.take_add_one, List.getElem?_eq_getElem hk, Option.toList_some, List.any_append, List.any_cons, List.any_nil, Bool.or_false]
theorem less_rise {a b : ByteArray} (h : a.data.toList < b.data.toList) : Op.bytesLess a.toList b.toList = true := by
  rw [Proofs.bytesLess_eq, ByteArray.toList_eq, ByteArray.toList_eq]
  exact decide_eq_true h
set_option maxRecDepth 100000 in
set_option maxHeartbeats 4000000 in
theorem same18_any (w : World) (B : Nat) (v u : Value) (S : List EntW) (R : List EntR) (h : Sl w 2 v S.length (S.flatMap idW)) (hu : REnts w B u R) (hl : S.length = R.length) (hm : ∀ s ∈ S, ∃ r ∈ R, r.key = s.key ∧ r.ver = s.ver) (hs : S.Pairwise (fun p q => p.key.data.toList < q.key.data.toList)) :
    Calls Try.prog 17 #[v, u] w fun e w' => e = .returned (.bool true) ∧ Only (fun _ => False) w w' := by
  obtain ⟨a, cap, rfl, h1, h2, h3⟩ := Sl.cells idW_length h
  obtain ⟨a2, cap2, rfl, g1, g2, g3⟩ := Sl.cells entRC_length hu.row.sl
  unfold maxLen at h2 g2
  rw [hl] at h1 ⊢
  have HSR := Lib.hid hl
  have HC := Lib.hid h3
  have HE := Lib.hid g3
  have HM := Lib.hid hm
  have HS := Lib.hid hs
  clear h3 g3 hm hs
  clear h hu hl
  go_enter Try.func17, Try.ntmps17
  go_wp2_with fail
  go_loopg [5] R.length (fun g v5 wr => ∃ i : Nat, v5 = .int .i64 i ∧ i ≤ R.length ∧ Only (fun _ => False) w wr ∧ g = R.length - i)
  case atStart => exact ⟨0, rfl, Nat.zero_le _, Only.refl _ _, rfl⟩
  case round =>
    obtain ⟨i, rfl, hi, ho, hg⟩ := hrel
    have Hg := Lib.hid hg
    have HO := Lib.hid ho
    clear hg ho
    by_cases hlt : i < R.length
    · -- round
      have hlt' : (i : Int) < (R.length : Int) := by omega
      have hiS : i < S.length := by rw [HSR.out]; exact hlt
      have hlS : (i : Int) < (R.length : Int) := by omega
      obtain ⟨b, off, rfl, hc0⟩ := HC.out.once (by omega)
      have hci := hc0 i hiS
      have p0 : w.cell? ⟨b, off + i * 2, none⟩ = some (.string S[i].key) := hci 0 _ rfl
      have p1 : w.cell? ⟨b, off + i * 2 + 1, none⟩ = some (.int .u64 S[i].ver) := hci 1 _ rfl
      have hfound : thereB R S[i].key S[i].ver = true := by
        obtain ⟨r, hr, h1, h2⟩ := HM.out S[i] (List.getElem_mem hiS)
        unfold thereB
        rw [List.any_eq_true]
        exact ⟨r, hr, by simp [h1, h2]⟩
      have hprev : ∀ j (hj : j + 1 = i), Op.bytesLess (S[j]'(by omega)).key.toList S[i].key.toList = true ∧ w.cell? ⟨b, off + j * 2, none⟩ = some (.string (S[j]'(by omega)).key) := fun j hj => ⟨by
        have := List.pairwise_iff_getElem.1 HS.out j i (by omega) hiS (by omega)
        exact less_rise this, hc0 j (by omega) 0 _ rfl⟩
      have HFD := Lib.hid hfound
      have HPV := Lib.hid hprev
      have HP0 := Lib.hid p0
      have HP1 := Lib.hid p1
      clear hfound hprev p0 p1
      clear hci
      generalize hki : S[i].key = ki at *
      generalize hvi : S[i].ver = vi at *
      clear hki hvi
      go_wp2_with fail
      go_loopg [6, 7] R.length (fun g v6 v7 wx => ∃ k : Nat, v7 = .int .i64 k ∧ k ≤ R.length ∧ v6 = .bool (thereB (R.take k) ki vi) ∧ Only (fun _ => False) w wx ∧ g = R.length - k)
      case atStart => exact ⟨0, rfl, Nat.zero_le _, rfl, HO.out, rfl⟩
      case round =>
        obtain ⟨k, rfl, hk, rfl, hox, hg2⟩ := hrel
        have Hg2 := Lib.hid hg2
        have HOX := Lib.hid hox
        clear hg2 hox
        have p0 := HOX.out.cell HP0.out id
        have p1 := HOX.out.cell HP1.out id
        by_cases hkl : k < R.length
        · -- scan
          have hkl' : (k : Int) < (R.length : Int) := by omega
          obtain ⟨b2, off2, rfl, hce⟩ := HE.out.at k hkl
          have q0 : wr.cell? ⟨b2, off2 + k * 4, none⟩ = some (.string R[k].key) := HOX.out.cell (hce 0 _ rfl) id
          have q1 : wr.cell? ⟨b2, off2 + k * 4 + 1, none⟩ = some (.int .u64 R[k].ver) := HOX.out.cell (hce 1 _ rfl) id
          have HTS := Lib.hid (there_snoc R ki vi k hkl)
          clear hce hc0
          generalize R[k].key = kk at *
          generalize R[k].ver = vk at *
          generalize thereB (R.take k) ki vi = tb at *
          go_upto_region 10 with (fail)
          cases tb with
          | true =>
            have HV := Lib.hid (show thereB (R.take (k + 1)) ki vi = true by rw [HTS.out]; rfl)
            go_quiet (fail)
            go_wp2_with fail
            go_roundg (R.length - (k + 1))
            case measure => rw [Hg2.out]; omega
            case rel => exact ⟨k + 1, by go_num, by omega, by rw [HV.out], HOX.out.drewN _, rfl⟩
          | false =>
            by_cases hx : kk = ki
            · have hxb := str_eq hx
              by_cases hy : vk = vi
              · have HV := Lib.hid (show thereB (R.take (k + 1)) ki vi = true by rw [HTS.out, decide_eq_true hx, decide_eq_true hy]; rfl)
                have hyb : ((vk : Int) == (vi : Int)) = true := by rw [hy]; simp
                clear hx hy
                go_quiet (fail)
                go_wp2_with fail
                go_roundg (R.length - (k + 1))
                case measure => rw [Hg2.out]; omega
                case rel => exact ⟨k + 1, by go_num, by omega, by rw [HV.out], HOX.out.drewN _, rfl⟩
              · have HV := Lib.hid (show thereB (R.take (k + 1)) ki vi = false by rw [HTS.out, decide_eq_false hy, Bool.and_false]; rfl)
                have hyb : ((vk : Int) == (vi : Int)) = false := by simpa using fun e => hy (Int.ofNat.inj e)
                clear hx hy
                go_quiet (fail)
                go_wp2_with fail
                go_roundg (R.length - (k + 1))
                case measure => rw [Hg2.out]; omega
                case rel => exact ⟨k + 1, by go_num, by omega, by rw [HV.out], HOX.out.drewN _, rfl⟩
            · have hxb := str_ne hx
              have HV := Lib.hid (show thereB (R.take (k + 1)) ki vi = false by rw [HTS.out, decide_eq_false hx, Bool.false_and]; rfl)
              clear hx
              go_quiet (fail)
              go_wp2_with fail
              go_roundg (R.length - (k + 1))
              case measure => rw [Hg2.out]; omega
              case rel => exact ⟨k + 1, by go_num, by omega, by rw [HV.out], HOX.out.drewN _, rfl⟩
        · -- done
          have hkl' : ¬ (k : Int) < (R.length : Int) := by omega
          rw [List.take_of_length_le (by omega), HFD.out]
          clear hc0 p1
          by_cases h0 : i = 0
          · subst h0
            have d0 : decide ((0 : Int) < 0) = false := by decide
            go_upto_region 11 with (fail)
            go_quiet (fail)
            go_wp2_with fail
            go_roundg (R.length - 1)
            case measure => rw [Hg.out]; omega
            case rel => exact ⟨1, by go_num, by omega, HOX.out.drewN _, rfl⟩
          · obtain ⟨j, rfl⟩ : ∃ j, i = j + 1 := ⟨i - 1, by omega⟩
            obtain ⟨hb, hcp⟩ := HPV.out j rfl
            have r0 := HOX.out.cell hcp id
            generalize (S[j]'(by omega)).key = kp at *
            have d0 : decide ((0 : Int) < (j : Int) + 1) = true := decide_eq_true (by omega)
            have e3 : IntKind.i64.wrap ((j : Int) + 1 - 1) = (j : Int) := by rw [IntKind.wrap_i64]; omega
            have e4 : (j : Int) < (R.length : Int) := by omega
            go_upto_region 11 with (fail)
            go_quiet (fail)
            go_wp2_with fail
            go_roundg (R.length - (j + 1 + 1))
            case measure => rw [Hg.out]; omega
            case rel => exact ⟨j + 1 + 1, by go_num, by omega, HOX.out.drewN _, rfl⟩
    · -- end
      have hlt' : ¬ (i : Int) < (R.length : Int) := by omega
      go_wp2_with fail
      go_ret
      exact ⟨rfl, HO.out⟩
end Go.Proofs.Ytefadkmdfhjaeaa
/-! WantPlays: each step on both, as contracts. -/
namespace Go.Proofs.Ytefadkmdfhjaeaa
open Go.Conc Go.RowKit Go.Maps

structure PAt (w1 w : World) (x kb c cb M : Nat) (wq : Int) (n : Nat) (L : List EntW) (C : List (ByteArray × (Int × Int))) (cnt : Int) (R : List EntR) (vR : Value) : Prop where
  run : WRun w1 w x kb c cb wq cnt L C
  box : w.heap[M]? = some (.cells #[.int .i64 wq, vR] 43 (0, 0))
  ents : REnts w (M + 1) vR R
  inv : WInv L C cnt R
  cnt_le : cnt ≤ 65 * n
  len : R.length ≤ 64
  foot : ∀ i, footW kb c cb i → i < M
  n_le : n ≤ 90
/-- The two agree, n acts behind. -/
structure PSt (w1 w : World) (x kb c cb M : Nat) (wq : Int) (n : Nat) : Prop where
  out : ∃ L C cnt R vR, PAt w1 w x kb c cb M wq n L C cnt R vR
section
variable {w1 w w' : World} {x kb c cb M n : Nat} {wq : Int} {L : List EntW} {C : List (ByteArray × (Int × Int))} {cnt : Int} {R : List EntR} {vR : Value}
theorem PAt.new (h : PAt w1 w x kb c cb M wq n L C cnt R vR) (ho : Only (fun _ => False) w w') : PAt w1 w' x kb c cb M wq n L C cnt R vR :=
  ⟨h.run.new ho, ho.old h.box id, h.ents.new ho, h.inv, h.cnt_le, h.len, h.foot, h.n_le⟩
theorem PSt.new (h : PSt w1 w x kb c cb M wq n) (ho : Only (fun _ => False) w w') : PSt w1 w' x kb c cb M wq n := by
  obtain ⟨L, C, cnt, R, vR, h⟩ := h.out
  exact ⟨L, C, cnt, R, vR, h.new ho⟩
theorem PAt.lens (h : PAt w1 w x kb c cb M wq n L C cnt R vR) : C.length ≤ 64 ∧ L.length ≤ 64 ∧ 0 ≤ cnt ∧ cnt ≤ 5850 := by
  have h1 := ref_len h.inv.eq
  have h2 := h.run.at_.sync.length_eq
  rw [List.length_map, List.length_map] at h2
  have := h.len
  have := h.cnt_le
  have := h.n_le
  have := h.inv.pos
  omega
theorem PAt.boxlt (h : PAt w1 w x kb c cb M wq n L C cnt R vR) : M + 1 ≤ w.heap.size := lt_of_block h.box
theorem PAt.capart (h : PAt w1 w x kb c cb M wq n L C cnt R vR) : C.Pairwise (fun p q => p.1 ≠ q.1) := h.run.at_.clk.map.apart
theorem PAt.has (h : PAt w1 w x kb c cb M wq n L C cnt R vR) : ∀ e ∈ R, e.has.length ≤ 1000 ∧ e.has ≠ [] := fun e he => by
  obtain ⟨i, hi, rfl⟩ := List.mem_iff_getElem.1 he
  obtain ⟨hc, r1, r2, _⟩ := ref_at h.inv.eq i hi
  have h4 : C[i].1 ∈ L.map (·.key) := h.run.at_.sync.mem_iff.1 (List.mem_map.2 ⟨_, List.getElem_mem hc, rfl⟩)
  obtain ⟨q, hq, hqk⟩ := List.mem_map.1 h4
  have hf : findW L C[i].1 = some q := by rw [← hqk]; exact findW_mem h.run.at_.mid.apart hq
  rw [qOf_some hf] at r2
  simp only [Prod.mk.injEq] at r2
  obtain ⟨_, s2, s3⟩ := h.run.at_.small q hq
  rw [r2.2]
  exact ⟨by omega, s3⟩
/-- The program's side has gone on. -/
theorem PAt.prog (h : PAt w1 w x kb c cb M wq n L C cnt R vR) (ho : Only (footW kb c cb) w w') : w'.heap[M]? = some (.cells #[.int .i64 wq, vR] 43 (0, 0)) ∧ REnts w' (M + 1) vR R :=
  ⟨ho.old h.box (fun hf => by have := h.foot M hf; omega), h.ents.kept ho (fun k hk => by have := h.foot k hk; omega)⟩
theorem WRun.boxed {L' : List EntW} {C' : List (ByteArray × (Int × Int))} {cnt' : Int} {cs : Array Value} (h : WRun w1 w x kb c cb wq cnt' L' C') (hM : w.heap[M]? = some (.cells cs 43 (0, 0))) (hl : w1.heap.size ≤ M) (hf : ∀ i, footW kb c cb i → i < M) (ho : Only (fun i => i = M) w w') : WRun w1 w' x kb c cb wq cnt' L' C' := by
  have hx : ¬ x = M := fun e => by
    have h1 := h.at_.blk
    rw [e, hM] at h1
    simp only [Option.some.injEq, Obj.cells.injEq] at h1
    exact absurd h1.2.1 (by decide)
  have hkb : ¬ kb = M := fun e => by have := hf kb (.inl rfl); omega
  have hc : ¬ c = M := fun e => by have := hf c (.inr (.inl rfl)); omega
  have hcb : ¬ cb = M := fun e => by have := hf cb (.inr (.inr rfl)); omega
  exact ⟨⟨ho.old h.at_.blk hx, h.at_.keys.kept ho hkb, fun e he => row_kept (h.at_.rows e he) ho (cells_not hM (by decide)), h.at_.clk.kept ho hc hcb, h.at_.sync, h.at_.ne, h.at_.small⟩, h.only.tr ho (fun i hi e => by omega), h.foot⟩
/-- Both sides have gone on: the reference's Want is laid into its box. -/
structure PNext (w1 w2 : World) (x kb c cb M : Nat) (wq : Int) (n : Nat) (v' : Value) : Prop where
  sl : ∃ a k cp, v' = .slice a k cp
  out : ∀ w3, Only (fun i => i = M) w2 w3 → w3.heap[M]? = some (.cells #[.int .i64 wq, v'] 43 (0, 0)) → PSt w1 w3 x kb c cb M wq n
theorem PNext.mk' {w2 : World} {L' : List EntW} {C' : List (ByteArray × (Int × Int))} {cnt' : Int} {R' : List EntR} {v' vR : Value} (hr : WRun w1 w2 x kb c cb wq cnt' L' C') (hM : w2.heap[M]? = some (.cells #[.int .i64 wq, vR] 43 (0, 0))) (hl : w1.heap.size ≤ M) (hf : ∀ i, footW kb c cb i → i < M) (he : REnts w2 (M + 1) v' R') (hi : WInv L' C' cnt' R') (hc : cnt' ≤ 65 * (n : Int)) (hl64 : R'.length ≤ 64) (hn : n ≤ 90) : PNext w1 w2 x kb c cb M wq n v' := by
  obtain ⟨_, a, cp, e, _⟩ := he.row.sl
  exact ⟨⟨a, _, cp, e⟩, fun w3 ho hb => ⟨L', C', cnt', R', v', ⟨hr.boxed hM hl hf ho, hb, he.kept ho (fun k e => by omega), hi, hc, hl64, hf, hn⟩⟩⟩
/-- Heard, the program's; then the reference's. -/
structure PHeard (w1 w w' : World) (x kb c cb M : Nat) (wq : Int) (n : Nat) (key : ByteArray) (ver : Nat) (fr now : Int) (e : Ending) : Prop where
  out : ∃ b vR, e = .returned (.bool b) ∧ w'.heap[M]? = some (.cells #[.int .i64 wq, vR] 43 (0, 0)) ∧ Only (footW kb c cb) w w' ∧ (∃ a k cp, vR = .slice a k cp) ∧
    ∀ wz, Only (fun _ => False) w' wz → Calls Try.prog 16 #[rwV wq vR, .string key, .int .u64 ver, .int .i64 fr, .int .i64 now] wz fun e2 w2 => ∃ v', e2 = .returned (.tuple #[rwV wq v', .bool b]) ∧ Only (fun _ => False) wz w2 ∧ PNext w1 w2 x kb c cb M wq (n + 1) v'
theorem p_heard (h : PSt w1 w x kb c cb M wq n) (hl : w1.heap.size ≤ M) (hn : n + 1 ≤ 90) (hw0 : 0 ≤ wq) (hw1 : wq ≤ 1000) (key : ByteArray) (hk : key.size ≤ maxLen) (ver : Nat) (fr now : Int) (hnow : -9223372036854775808 ≤ now) :
    Calls Try.prog 8 #[.pointer (some ⟨x, 0, none⟩), .agg #[.string key, .int .u64 ver], .int .i64 fr, .int .i64 now] w fun e w' => PHeard w1 w w' x kb c cb M wq n key ver fr now e := by
  obtain ⟨L, C, cnt, R, vR, h⟩ := h.out
  obtain ⟨l1, l2, l3, l4⟩ := h.lens
  refine (wrun_heard h.run key hk ver fr now hw0 hw1 hnow l3 (by omega) (by omega)).mono ?_
  rintro e w' hh
  obtain ⟨b, L', C', cnt', rfl, hs, hr, ho, _⟩ := hh.out
  obtain ⟨hb, hre⟩ := h.prog ho
  have hsl : ∃ a k cp, vR = .slice a k cp := by obtain ⟨_, a, cp, e, _⟩ := h.ents.row.sl; exact ⟨a, _, cp, e⟩
  refine ⟨b, vR, rfl, hb, ho, hsl, fun wz hz => ?_⟩
  refine (rheard18_any wz (M + 1) wq vR R (hre.new hz) (Nat.le_trans h.boxlt (Nat.le_trans ho.size hz.size)) (by have := h.len; omega) key ver fr now hw0 hw1 hnow).mono ?_
  rintro e2 w2 hq
  obtain ⟨v', R', b', rfl, hst, he2, ho2⟩ := hq.out
  obtain ⟨rfl, hi, hc⟩ := heard_both h.inv h.run.at_.sync h.capart hs hst
  refine ⟨v', rfl, ho2, PNext.mk' ((hr.new hz).new ho2) (ho2.old (hz.old hb id) id) hl h.foot he2 hi (by have := h.cnt_le; omega) ?_ hn⟩
  have h1 := ref_len hi.eq
  rw [h1]
  rcases hs with ⟨_, _, e3, _⟩ | ⟨_, _, _, ⟨_, e3, _, e4, _⟩ | ⟨_, _, e3, _⟩⟩
  · rw [e3]; exact l1
  · rw [e4, List.length_append]; simp; omega
  · rw [e3]; exact l1
/-- Got. -/
structure PGot (w1 w w' : World) (x kb c cb M : Nat) (wq : Int) (n : Nat) (key : ByteArray) (ver : Nat) (e : Ending) : Prop where
  out : ∃ b vR, e = .returned (.bool b) ∧ w'.heap[M]? = some (.cells #[.int .i64 wq, vR] 43 (0, 0)) ∧ Only (footW kb c cb) w w' ∧ (∃ a k cp, vR = .slice a k cp) ∧
    ∀ wz, Only (fun _ => False) w' wz → Calls Try.prog 12 #[rwV wq vR, .string key, .int .u64 ver] wz fun e2 w2 => ∃ v', e2 = .returned (.tuple #[rwV wq v', .bool b]) ∧ Only (fun _ => False) wz w2 ∧ PNext w1 w2 x kb c cb M wq (n + 1) v'
theorem p_got (h : PSt w1 w x kb c cb M wq n) (hl : w1.heap.size ≤ M) (hn : n + 1 ≤ 90) (key : ByteArray) (hk : key.size ≤ maxLen) (ver : Nat) :
    Calls Try.prog 11 #[.pointer (some ⟨x, 0, none⟩), .agg #[.string key, .int .u64 ver]] w fun e w' => PGot w1 w w' x kb c cb M wq n key ver e := by
  obtain ⟨L, C, cnt, R, vR, h⟩ := h.out
  obtain ⟨l1, l2, l3, l4⟩ := h.lens
  refine (wgot_any w x kb c cb wq cnt L C h.run.at_ key hk ver).mono ?_
  rintro e w' ⟨rfl, ho, hat⟩
  have hr := h.run.step hat ho
  obtain ⟨hb, hre⟩ := h.prog ho
  have hsl : ∃ a k cp, vR = .slice a k cp := by obtain ⟨_, a, cp, e, _⟩ := h.ents.row.sl; exact ⟨a, _, cp, e⟩
  refine ⟨_, vR, rfl, hb, ho, hsl, fun wz hz => ?_⟩
  refine (rgot18_any wz (M + 1) wq vR R (hre.new hz) (Nat.le_trans h.boxlt (Nat.le_trans ho.size hz.size)) (by have := h.len; omega) key ver).mono ?_
  rintro e2 w2 hq
  obtain ⟨v', R', b', rfl, hst, he2, ho2⟩ := hq.out
  obtain ⟨hbb, hi⟩ := got_both h.inv h.run.at_.sync h.capart hst
  rw [hbb] at hi hr
  rw [hbb]
  refine ⟨v', rfl, ho2, PNext.mk' ((hr.new hz).new ho2) (ho2.old (hz.old hb id) id) hl h.foot he2 hi (by have := h.cnt_le; omega) ?_ hn⟩
  rw [ref_len hi.eq]
  split
  · exact Nat.le_trans (List.length_filter_le _ _) l1
  · exact l1
/-- Lost. -/
structure PLost (w1 w w' : World) (x kb c cb M : Nat) (wq : Int) (n : Nat) (nd : Int) (e : Ending) : Prop where
  out : ∃ vR, e = .returned (.tuple #[]) ∧ w'.heap[M]? = some (.cells #[.int .i64 wq, vR] 43 (0, 0)) ∧ Only (footW kb c cb) w w' ∧ (∃ a k cp, vR = .slice a k cp) ∧
    ∀ wz, Only (fun _ => False) w' wz → Calls Try.prog 14 #[rwV wq vR, .int .i64 nd] wz fun e2 w2 => ∃ v', e2 = .returned (rwV wq v') ∧ Only (fun _ => False) wz w2 ∧ PNext w1 w2 x kb c cb M wq (n + 1) v'
theorem p_lost (h : PSt w1 w x kb c cb M wq n) (hl : w1.heap.size ≤ M) (hn : n + 1 ≤ 90) (nd : Int) :
    Calls Try.prog 13 #[.pointer (some ⟨x, 0, none⟩), .int .i64 nd] w fun e w' => PLost w1 w w' x kb c cb M wq n nd e := by
  obtain ⟨L, C, cnt, R, vR, h⟩ := h.out
  obtain ⟨l1, l2, l3, l4⟩ := h.lens
  refine (wlost_any w x kb c cb wq cnt L C h.run.at_ (by omega) nd).mono ?_
  rintro e w' ⟨rfl, hpost⟩
  obtain ⟨L', hat, hla, ho, _⟩ := hpost.out
  have hr := h.run.step hat ho
  obtain ⟨hb, hre⟩ := h.prog ho
  have hsl : ∃ a k cp, vR = .slice a k cp := by obtain ⟨_, a, cp, e, _⟩ := h.ents.row.sl; exact ⟨a, _, cp, e⟩
  refine ⟨vR, rfl, hb, ho, hsl, fun wz hz => ?_⟩
  refine (rlost18_any wz (M + 1) wq vR R (hre.new hz) (Nat.le_trans h.boxlt (Nat.le_trans ho.size hz.size)) (by have := h.len; omega) (fun e he => (h.has e he).1) nd).mono ?_
  rintro e2 w2 hq
  obtain ⟨v', R', rfl, hst, he2, ho2⟩ := hq.out
  have hi := lost_both h.inv h.run.at_.sync hla hst
  refine ⟨v', rfl, ho2, PNext.mk' ((hr.new hz).new ho2) (ho2.old (hz.old hb id) id) hl h.foot he2 hi (by have := h.cnt_le; omega) ?_ hn⟩
  rw [ref_len hi.eq]
  exact Nat.le_trans (List.length_filter_le _ _) l1
/-- Due: the asks are the same. -/
structure PDue (w1 w w' : World) (x kb c cb M : Nat) (wq : Int) (n : Nat) (now : Int) (e : Ending) : Prop where
  out : ∃ (v vR : Value) (A : List AskT), e = .returned v ∧ w'.heap[M]? = some (.cells #[.int .i64 wq, vR] 43 (0, 0)) ∧ Only (footW kb c cb) w w' ∧ (∃ a k cp, vR = .slice a k cp) ∧ A.length ≤ 64 ∧ SlB w' (M + 1) 3 v A.length (A.flatMap askC) ∧
    ∀ wz, Only (fun _ => False) w' wz → Calls Try.prog 15 #[rwV wq vR, .int .i64 now] wz fun e2 w2 => ∃ v' va, e2 = .returned (.tuple #[rwV wq v', va]) ∧ Only (fun _ => False) wz w2 ∧ SlB w2 (M + 1) 3 va A.length (A.flatMap askC) ∧ PNext w1 w2 x kb c cb M wq (n + 1) v'
theorem p_due (h : PSt w1 w x kb c cb M wq n) (hl : w1.heap.size ≤ M) (hn : n + 1 ≤ 90) (hw0 : 0 ≤ wq) (hw1 : wq ≤ 1000) (now : Int) (hnow : -9223372036854775808 ≤ now) :
    Calls Try.prog 9 #[.pointer (some ⟨x, 0, none⟩), .int .i64 now] w fun e w' => PDue w1 w w' x kb c cb M wq n now e := by
  obtain ⟨L, C, cnt, R, vR, h⟩ := h.out
  obtain ⟨l1, l2, l3, l4⟩ := h.lens
  refine (wdue_any w x kb c cb wq cnt L C h.run.at_ now hw0 hw1 hnow l3 (by omega) (by omega)).mono ?_
  rintro e w' ⟨v, rfl, hd⟩
  obtain ⟨D, A, L', C', cnt', hp, hs, hdr, hat, ho, hrow⟩ := hd.out
  have hr := h.run.step hat ho
  obtain ⟨hb, hre⟩ := h.prog ho
  have hsl : ∃ a k cp, vR = .slice a k cp := by obtain ⟨_, a, cp, e, _⟩ := h.ents.row.sl; exact ⟨a, _, cp, e⟩
  have hAD : A.length ≤ 64 := by
    have h9 : A.length = D.length := by
      clear hp hs hat hrow hr
      induction hdr with
      | nil => rfl
      | drop _ _ _ ih => rw [List.length_append, List.length_append, ih]; rfl
      | keep _ _ _ _ ih => rw [List.length_append, List.length_append, ih]; rfl
    rw [h9, hp.length_eq, List.length_map]
    exact Nat.le_trans (List.length_filter_le _ _) l1
  refine ⟨v, vR, A, rfl, hb, ho, hsl, hAD, SlB.of_owns hrow h.boxlt, fun wz hz => ?_⟩
  refine (rdue18_any wz (M + 1) wq vR R (hre.new hz) (Nat.le_trans h.boxlt (Nat.le_trans ho.size hz.size)) (by have := h.len; omega) h.has (ordOf C) (by rw [kdo_ref h.inv.eq h.capart]; exact h.inv.ord) now hw0 hw1 hnow).mono ?_
  rintro e2 w2 hq
  obtain ⟨v', va, OR, RR, G, rfl, hP, hnn, hpm, he2, hG, hask, ho2⟩ := hq.out
  obtain ⟨hA, hi, hc⟩ := due_both h.inv h.run.at_.sync h.capart h.run.at_.mid.apart hp hs hdr hP hnn hpm hG
  have hAl : A.length = OR.length := by rw [hA, List.length_map]
  refine ⟨v', va, rfl, ho2, by rw [hAl, hA]; exact hask, PNext.mk' ((hr.new hz).new ho2) (ho2.old (hz.old hb id) id) hl h.foot he2 hi (by have := h.cnt_le; omega) ?_ hn⟩
  have h8 : OR.length + RR.length = R.length := by have := hpm.length_eq; rwa [List.length_append] at this
  have h9 : G.length ≤ OR.length := by
    have := congrArg List.length hG
    rw [List.length_map] at this
    rw [this]
    unfold againP
    rw [List.length_map]
    exact List.length_filter_le _ _
  have := h.len
  rw [List.length_append]
  omega
/-- Ids, and what the reference has. -/
structure PIds (w w' : World) (M : Nat) (wq : Int) (e : Ending) : Prop where
  out : ∃ v, e = .returned v ∧ Only (fun _ => False) w w' ∧ ∀ wz vR, Only (fun _ => False) w' wz → w.heap[M]? = some (.cells #[.int .i64 wq, vR] 43 (0, 0)) → Calls Try.prog 17 #[v, vR] wz fun e2 w2 => e2 = .returned (.bool true) ∧ Only (fun _ => False) wz w2
theorem p_ids (h : PSt w1 w x kb c cb M wq n) : Calls Try.prog 10 #[.pointer (some ⟨x, 0, none⟩)] w fun e w' => PIds w w' M wq e := by
  obtain ⟨L, C, cnt, R, vR, h⟩ := h.out
  obtain ⟨l1, l2, l3, l4⟩ := h.lens
  refine (wids_any w x kb c cb wq cnt L C h.run.at_ (by omega)).mono ?_
  rintro e w' ⟨v, rfl, ho, S, hS, hrow⟩
  refine ⟨v, rfl, ho, fun wz vR' hz hb => ?_⟩
  have e1 : vR' = vR := by
    have h1 := h.box
    rw [hb] at h1
    simp only [Option.some.injEq, Obj.cells.injEq] at h1
    have := h1.1
    simpa using this
  subst e1
  have hlen : S.length = R.length := by
    have h1 := h.run.at_.sync.length_eq
    rw [List.length_map, List.length_map] at h1
    rw [hS.1.length_eq, ref_len h.inv.eq]
    exact h1.symm
  refine same18_any wz (M + 1) v vR' S R ((Sl.of_owns hrow).new hz) ((h.ents.new ho).new hz) hlen (fun s hs => ?_) hS.2
  have hsL : s ∈ L := hS.1.mem_iff.1 hs
  have hf := findW_mem h.run.at_.mid.apart hsL
  obtain ⟨i, hi, _, _, r1, r2, _, _, _⟩ := ref_some h.inv.eq h.run.at_.sync hf
  exact ⟨R[i], List.getElem_mem hi, r1, r2⟩
end
end Go.Proofs.Ytefadkmdfhjaeaa
