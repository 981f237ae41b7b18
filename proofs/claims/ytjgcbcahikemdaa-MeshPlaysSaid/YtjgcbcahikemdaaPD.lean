/- MeshPlays: the contracts of both sides on one structure. -/
import Derived.Test.YtjgcbcahikemdaaPC
import Derived.Test.YtjgcbcahikemdaaPA
import Derived.Test.YtjgcbcahikemdaaSortW
import Derived.Deep.RegionHeld3
import Derived.Test.YtjgcbcahikemdaaPB
import Derived.Deep.CutBlock
/-! MeshPlays, plainly: the reference's ways as a function, what each act does to it. -/
namespace Go.Proofs.Ytjgcbcahikemdaa
open Go.Conc Go.RowKit Go.Maps

/-- Two lists that rise strictly and have the same members are one. -/
theorem lt_ext {α : Type} {lt : α → α → Prop} (hi : ∀ a, ¬ lt a a) (ha : ∀ a b, lt a b → ¬ lt b a) : ∀ {L M : List α}, L.Pairwise lt → M.Pairwise lt → (∀ x, x ∈ L ↔ x ∈ M) → L = M
  | [], M, _, _, h => by
    cases M with
    | nil => rfl
    | cons b M => exact absurd ((h b).2 List.mem_cons_self) (by simp)
  | a :: L, [], _, _, h => absurd ((h a).1 List.mem_cons_self) (by simp)
  | a :: L, b :: M, hL, hM, h => by
    obtain ⟨l1, l2⟩ := List.pairwise_cons.1 hL
    obtain ⟨m1, m2⟩ := List.pairwise_cons.1 hM
    have hab : a = b := by
      rcases List.mem_cons.1 ((h a).1 List.mem_cons_self) with e | e
      · exact e
      · rcases List.mem_cons.1 ((h b).2 List.mem_cons_self) with e2 | e2
        · exact e2.symm
        · exact absurd (m1 a e) (ha a b (l1 b e2))
    subst hab
    rw [lt_ext hi ha l2 m2 (fun x => ⟨fun hx => ?_, fun hx => ?_⟩)]
    · rcases List.mem_cons.1 ((h x).1 (List.mem_cons_of_mem _ hx)) with e | e
      · subst e; exact absurd (l1 x hx) (hi x)
      · exact e
    · rcases List.mem_cons.1 ((h x).2 (List.mem_cons_of_mem _ hx)) with e | e
      · subst e; exact absurd (m1 x hx) (hi x)
      · exact e
theorem nodup_leW {α : Type} [DecidableEq α] : ∀ (l K : List α), l.Nodup → (∀ x ∈ l, x ∈ K) → l.length ≤ K.length
  | [], _, _, _ => Nat.zero_le _
  | x :: l, K, h, hs => by
    obtain ⟨h1, h2⟩ := List.nodup_cons.1 h
    have hx := hs x (by simp)
    have := nodup_leW l (K.erase x) h2 (fun y hy => by
      have hne : y ≠ x := fun e => h1 (e ▸ hy)
      exact (List.mem_erase_of_ne hne).2 (hs y (by simp [hy])))
    rw [List.length_erase_of_mem hx] at this
    have := List.length_pos_of_mem hx
    simp
    omega
/-- A way of the reference: its items, and where they lie. -/
structure WayR where
  frm : Int
  dst : Int
  l : List (Bool × ByteArray)
  v : Value
def wayRC (e : WayR) : List Value := [.int .i64 e.frm, .int .i64 e.dst, e.v]
theorem wayRC_length (e : WayR) : (wayRC e).length = 3 := rfl
def atW (a b : Int) (e : WayR) : Bool := decide (e.frm = a) && decide (e.dst = b)
theorem atW_iff {a b : Int} {e : WayR} : atW a b e = true ↔ e.frm = a ∧ e.dst = b := by unfold atW; simp
def findW (R : List WayR) (a b : Int) : Option WayR := R.find? (atW a b)
def getW (R : List WayR) (a b : Int) : List (Bool × ByteArray) := match findW R a b with | some e => e.l | none => []
def dropW (R : List WayR) (a b : Int) : List WayR := R.filter (fun e => !atW a b e)
def setW (R : List WayR) (a b : Int) (l : List (Bool × ByteArray)) (v : Value) : List WayR := dropW R a b ++ [⟨a, b, l, v⟩]
theorem setW_len (R : List WayR) (a b : Int) (l : List (Bool × ByteArray)) (v : Value) : (setW R a b l v).length ≤ R.length + 1 := by
  unfold setW dropW
  rw [List.length_append]
  have := List.length_filter_le (fun e => !atW a b e) R
  simp
  omega
theorem drop_snoc (R : List WayR) (a b : Int) (k : Nat) (hk : k < R.length) : dropW (R.take (k + 1)) a b = dropW (R.take k) a b ++ if atW a b R[k] then [] else [R[k]] := by
  unfold dropW
  rw [List.take_add_one, List.getElem?_eq_getElem hk, List.filter_append]
  congr 1
  cases h : atW a b R[k] <;> simp [h]
theorem get_setW (R : List WayR) (a b : Int) (l : List (Bool × ByteArray)) (v : Value) (x y : Int) : getW (setW R a b l v) x y = setG (getW R) a b l x y := by
  unfold getW setG findW setW dropW
  rw [List.find?_append]
  by_cases h : x = a ∧ y = b
  · obtain ⟨rfl, rfl⟩ := h
    rw [if_pos ⟨rfl, rfl⟩]
    have h1 : (R.filter (fun e => !atW x y e)).find? (atW x y) = none := by
      rw [List.find?_eq_none]
      intro e he
      have := (List.mem_filter.1 he).2
      simpa using this
    rw [h1]
    have h2 : atW x y ⟨x, y, l, v⟩ = true := atW_iff.2 ⟨rfl, rfl⟩
    simp [h2]
  · rw [if_neg h]
    have h1 : (R.filter (fun e => !atW a b e)).find? (atW x y) = R.find? (atW x y) := by
      rw [List.find?_filter]
      congr 1
      funext e
      cases h3 : atW x y e with
      | false => simp
      | true =>
        have h4 : atW a b e = false := by
          cases h5 : atW a b e with
          | false => rfl
          | true =>
            have e1 := atW_iff.1 h3
            have e2 := atW_iff.1 h5
            exact absurd ⟨e1.1.symm.trans e2.1, e1.2.symm.trans e2.2⟩ h
        simp [h4]
    rw [h1]
    have h2 : atW x y ⟨a, b, l, v⟩ = false := by
      cases h5 : atW x y ⟨a, b, l, v⟩ with
      | false => rfl
      | true =>
        have e2 := atW_iff.1 h5
        exact absurd ⟨e2.1.symm, e2.2.symm⟩ h
    have h3 : ([⟨a, b, l, v⟩] : List WayR).find? (atW x y) = none := by simp [h2]
    rw [h3, Option.or_none]
/-- What the law knows at the head of its loop. -/
structure PlayI (lv lvR : List Int) (G : Ways) (R : List WayR) : Prop where
  nd : lv.Nodup
  ndR : lvR.Nodup
  mem : ∀ x, x ∈ lv ↔ x ∈ lvR
  rng : ∀ x ∈ lv, 1 ≤ x ∧ x ≤ 4
  get : ∀ x y, getW R x y = G x y
  sup : ∀ x y, G x y ≠ [] → (-4 ≤ x ∧ x ≤ 4) ∧ -4 ≤ y ∧ y ≤ 4
section
variable {lv lvR : List Int} {G : Ways} {R : List WayR}
theorem PlayI.len (h : PlayI lv lvR G R) : lv.length ≤ 4 := by
  have h1 : ∀ x ∈ lv, x ∈ [(1 : Int), 2, 3, 4] := fun x hx => by have := h.rng x hx; simp; omega
  exact nodup_leW lv [1, 2, 3, 4] h.nd h1
theorem PlayI.upd (h : PlayI lv lvR G R) {a b : Int} (ha : -4 ≤ a ∧ a ≤ 4) (hb : -4 ≤ b ∧ b ≤ 4) (l : List (Bool × ByteArray)) (v : Value) : PlayI lv lvR (setG G a b l) (setW R a b l v) := by
  refine ⟨h.nd, h.ndR, h.mem, h.rng, fun x y => ?_, fun x y hx => ?_⟩
  · rw [get_setW]
    unfold setG
    split
    · rfl
    · exact h.get x y
  · unfold setG at hx
    split at hx
    · rename_i e
      rw [e.1, e.2]
      exact ⟨ha, hb⟩
    · exact h.sup x y hx
theorem PlayI.up (h : PlayI lv lvR G R) {a : Int} (h1 : 1 ≤ a) (h4 : a ≤ 4) : PlayI (upL lv a) (if a ∈ lvR then lvR else lvR ++ [a]) G R := by
  have hnd : (upL lv a).Nodup := by
    unfold upL
    rw [List.nodup_append]
    refine ⟨h.nd.filter _, by simp, fun x hx y hy => ?_⟩
    rw [List.mem_singleton] at hy
    subst hy
    have := (List.mem_filter.1 hx).2
    simpa using this
  refine ⟨hnd, ?_, fun x => ?_, fun x hx => ?_, h.get, h.sup⟩
  · split
    · exact h.ndR
    · rename_i hn
      rw [List.nodup_append]
      refine ⟨h.ndR, by simp, fun x hx y hy => ?_⟩
      rw [List.mem_singleton] at hy
      subst hy
      intro e
      subst e
      exact hn hx
  · rw [mem_upL, h.mem x]
    split
    · rename_i hm
      constructor
      · rintro (e | rfl)
        · exact e
        · exact hm
      · exact .inl
    · simp
  · rcases mem_upL.1 hx with e | rfl
    · exact h.rng x e
    · exact ⟨h1, h4⟩
/-- The ways while a node goes down: K the numbers that were passed. -/
def downF (G : Ways) (a : Int) (live K : List Int) : Ways := fun x y => if y = a ∧ x ∈ K then [] else if x = a ∧ y ∈ K ∧ y ∈ live then [(true, ⟨#[]⟩)] else G x y
theorem downF_nil (G : Ways) (a : Int) (live : List Int) : downF G a live [] = G := by
  funext x y
  unfold downF
  rw [if_neg (fun h => by cases h.2), if_neg (fun h => by cases h.2.1)]
theorem downF_yes {G : Ways} {a : Int} {live K : List Int} (k : Int) (hk : k ∈ live) (ha : a ∉ live) : brk1 (setG (downF G a live K) k a []) a k = downF G a live (K ++ [k]) := by
  have hka : k ≠ a := fun e => ha (e ▸ hk)
  funext x y
  unfold brk1 setG downF
  simp only [List.mem_append, List.mem_singleton]
  by_cases h1 : x = a ∧ y = k
  · rw [if_pos h1, if_neg (fun h => hka (h1.2.symm.trans h.1)), if_pos ⟨h1.1, .inr h1.2, h1.2 ▸ hk⟩]
  · rw [if_neg h1]
    by_cases h2 : x = k ∧ y = a
    · rw [if_pos h2, if_pos ⟨h2.2, .inr h2.1⟩]
    · rw [if_neg h2]
      by_cases h3 : y = a ∧ x ∈ K
      · rw [if_pos h3, if_pos ⟨h3.1, .inl h3.2⟩]
      · have r1 : ¬ (y = a ∧ (x ∈ K ∨ x = k)) := fun h => h.2.elim (fun e => h3 ⟨h.1, e⟩) (fun e => h2 ⟨e, h.1⟩)
        rw [if_neg h3, if_neg r1]
        by_cases h4 : x = a ∧ y ∈ K ∧ y ∈ live
        · rw [if_pos h4, if_pos ⟨h4.1, .inl h4.2.1, h4.2.2⟩]
        · have r2 : ¬ (x = a ∧ (y ∈ K ∨ y = k) ∧ y ∈ live) := fun h => h.2.1.elim (fun e => h4 ⟨h.1, e, h.2.2⟩) (fun e => h1 ⟨h.1, e⟩)
          rw [if_neg h4, if_neg r2]
theorem downF_no {G : Ways} {a : Int} {live K : List Int} (k : Int) (hk : k ∉ live) : setG (downF G a live K) k a [] = downF G a live (K ++ [k]) := by
  funext x y
  unfold setG downF
  simp only [List.mem_append, List.mem_singleton]
  by_cases h2 : x = k ∧ y = a
  · rw [if_pos h2, if_pos ⟨h2.2, .inr h2.1⟩]
  · rw [if_neg h2]
    by_cases h3 : y = a ∧ x ∈ K
    · rw [if_pos h3, if_pos ⟨h3.1, .inl h3.2⟩]
    · have r1 : ¬ (y = a ∧ (x ∈ K ∨ x = k)) := fun h => h.2.elim (fun e => h3 ⟨h.1, e⟩) (fun e => h2 ⟨e, h.1⟩)
      rw [if_neg h3, if_neg r1]
      by_cases h4 : x = a ∧ y ∈ K ∧ y ∈ live
      · rw [if_pos h4, if_pos ⟨h4.1, .inl h4.2.1, h4.2.2⟩]
      · have r2 : ¬ (x = a ∧ (y ∈ K ∨ y = k) ∧ y ∈ live) := fun h => h.2.1.elim (fun e => h4 ⟨h.1, e, h.2.2⟩) (fun e => hk (e ▸ h.2.2))
        rw [if_neg h4, if_neg r2]
/-- So many numbers from -4 on. -/
def fromL (k : Nat) : List Int := (List.range k).map (fun i : Nat => (i : Int) - 4)
theorem fromL_snoc (k : Nat) : fromL (k + 1) = fromL k ++ [(k : Int) - 4] := by unfold fromL; rw [List.range_succ, List.map_append]; rfl
theorem mem_from {k : Nat} {x : Int} : x ∈ fromL k ↔ -4 ≤ x ∧ x < (k : Int) - 4 := by
  unfold fromL
  rw [List.mem_map]
  constructor
  · rintro ⟨i, hi, rfl⟩
    rw [List.mem_range] at hi
    omega
  · intro h
    exact ⟨(x + 4).toNat, List.mem_range.2 (by omega), by omega⟩
theorem mem_from9 {x : Int} : x ∈ fromL 9 ↔ -4 ≤ x ∧ x ≤ 4 := by rw [mem_from]; omega
theorem PlayI.down_end (h : PlayI lv lvR G R) {a : Int} {live : List Int} (hl : ∀ x, x ∈ live ↔ x ∈ lv ∧ x ≠ a) : downF G a live (fromL 9) = downG lv G a := by
  funext x y
  unfold downF downG
  by_cases h1 : y = a
  · rw [if_pos h1]
    by_cases h2 : x ∈ fromL 9
    · rw [if_pos ⟨h1, h2⟩]
    · rw [if_neg (fun e => h2 e.2)]
      have h3 : ¬ (x = a ∧ y ∈ fromL 9 ∧ y ∈ live) := fun e => ((hl y).1 e.2.2).2 h1
      rw [if_neg h3]
      cases hg : G x y with
      | nil => rfl
      | cons p q => exact absurd (mem_from9.2 (h.sup x y (by rw [hg]; simp)).1) h2
  · rw [if_neg (fun e => h1 e.1), if_neg h1]
    by_cases h2 : x = a ∧ y ∈ lv
    · have := h.rng y h2.2
      rw [if_pos h2, if_pos ⟨h2.1, mem_from9.2 (by omega), (hl y).2 ⟨h2.2, h1⟩⟩]
    · rw [if_neg h2, if_neg (fun e => h2 ⟨e.1, ((hl y).1 e.2.2).1⟩)]
theorem PlayI.down (h : PlayI lv lvR G R) {a : Int} (ha : -4 ≤ a ∧ a ≤ 4) {R' : List WayR} (hg : ∀ x y, getW R' x y = downG lv G a x y) : PlayI (outL lv a) (lvR.filter (fun k => !decide (k = a))) (downG lv G a) R' := by
  refine ⟨h.nd.filter _, h.ndR.filter _, fun x => ?_, fun x hx => h.rng x (List.mem_filter.1 hx).1, hg, fun x y hx => ?_⟩
  · unfold outL
    rw [List.mem_filter, List.mem_filter, h.mem x]
  · unfold downG at hx
    split at hx
    · exact absurd rfl hx
    · split at hx
      · rename_i e
        have := h.rng y e.2
        rw [e.1]
        exact ⟨ha, by omega⟩
      · exact h.sup x y hx
theorem out_snoc (l : List Int) (a : Int) (k : Nat) (hk : k < l.length) : (l.take (k + 1)).filter (fun x => !decide (x = a)) = (l.take k).filter (fun x => !decide (x = a)) ++ if l[k] = a then [] else [l[k]] := by
  rw [List.take_add_one, List.getElem?_eq_getElem hk, List.filter_append]
  congr 1
  by_cases h : l[k] = a <;> simp [h]
end
/-- The ways on which something is, in rising order. -/
def lexLt (p q : Int × Int) : Prop := p.1 < q.1 ∨ p.1 = q.1 ∧ p.2 < q.2
theorem lex_irrefl (p : Int × Int) : ¬ lexLt p p := by unfold lexLt; omega
theorem lex_asymm (p q : Int × Int) (h : lexLt p q) : ¬ lexLt q p := by unfold lexLt at *; omega
def rowWays (G : Ways) (a : Int) (k : Nat) : List (Int × Int) := ((fromL k).filter (fun b => decide (0 < (G a b).length))).map (fun b => (a, b))
def allWays (G : Ways) (j : Nat) : List (Int × Int) := (fromL j).flatMap (fun a => rowWays G a 9)
theorem rowWays_snoc (G : Ways) (a : Int) (k : Nat) : rowWays G a (k + 1) = rowWays G a k ++ if 0 < (G a ((k : Int) - 4)).length then [(a, (k : Int) - 4)] else [] := by
  unfold rowWays
  rw [fromL_snoc, List.filter_append, List.map_append]
  congr 1
  by_cases h : 0 < (G a ((k : Int) - 4)).length <;> simp [h]
theorem allWays_snoc (G : Ways) (j : Nat) : allWays G (j + 1) = allWays G j ++ rowWays G ((j : Int) - 4) 9 := by
  unfold allWays
  rw [fromL_snoc, List.flatMap_append]
  simp
theorem fromL_rises (k : Nat) : (fromL k).Pairwise (· < ·) := by
  induction k with
  | zero => exact List.Pairwise.nil
  | succ k ih =>
    rw [fromL_snoc, List.pairwise_append]
    refine ⟨ih, by simp, fun x hx y hy => ?_⟩
    rw [List.mem_singleton] at hy
    have := mem_from.1 hx
    omega
theorem mem_rowWays {G : Ways} {a : Int} {k : Nat} {p : Int × Int} : p ∈ rowWays G a k ↔ p.1 = a ∧ p.2 ∈ fromL k ∧ 0 < (G p.1 p.2).length := by
  unfold rowWays
  rw [List.mem_map]
  constructor
  · rintro ⟨b, hb, rfl⟩
    rw [List.mem_filter] at hb
    exact ⟨rfl, hb.1, by simpa using hb.2⟩
  · rintro ⟨rfl, h2, h3⟩
    exact ⟨p.2, List.mem_filter.2 ⟨h2, by simpa using h3⟩, rfl⟩
theorem mem_allWays {G : Ways} {j : Nat} {p : Int × Int} : p ∈ allWays G j ↔ p.1 ∈ fromL j ∧ p.2 ∈ fromL 9 ∧ 0 < (G p.1 p.2).length := by
  unfold allWays
  rw [List.mem_flatMap]
  constructor
  · rintro ⟨a, ha, hp⟩
    obtain ⟨rfl, h2, h3⟩ := mem_rowWays.1 hp
    exact ⟨ha, h2, h3⟩
  · rintro ⟨h1, h2, h3⟩
    exact ⟨_, h1, mem_rowWays.2 ⟨rfl, h2, h3⟩⟩
theorem allWays_rises (G : Ways) : ∀ j, (allWays G j).Pairwise lexLt
  | 0 => List.Pairwise.nil
  | j + 1 => by
    rw [allWays_snoc, List.pairwise_append]
    refine ⟨allWays_rises G j, ?_, fun p hp q hq => ?_⟩
    · unfold rowWays
      rw [List.pairwise_map]
      exact ((fromL_rises 9).filter _).imp (fun h => .inr ⟨rfl, h⟩)
    · have h1 := mem_from.1 (mem_allWays.1 hp).1
      have h2 := (mem_rowWays.1 hq).1
      exact .inl (by omega)
theorem rowWays_len (G : Ways) (a : Int) (k : Nat) : (rowWays G a k).length ≤ k := by
  unfold rowWays
  rw [List.length_map]
  have := List.length_filter_le (fun b => decide (0 < (G a b).length)) (fromL k)
  unfold fromL at this ⊢
  simpa using this
theorem allWays_len (G : Ways) : ∀ j, (allWays G j).length ≤ 9 * j
  | 0 => Nat.le_refl _
  | j + 1 => by
    rw [allWays_snoc, List.length_append]
    have := allWays_len G j
    have := rowWays_len G ((j : Int) - 4) 9
    omega
end Go.Proofs.Ytjgcbcahikemdaa
/-! cmp.Compare, cmp.Or at ints; the order of Ways; slices.SortFunc at pairs. -/
namespace Go.Proofs.Ytjgcbcahikemdaa
open Go.Conc Go.RowKit Go.Maps Go.Sort

def cmpI (x y : Int) : Int := if x < y then -1 else if y < x then 1 else 0
theorem nan_any (w : World) (x : Int) : Calls Try.prog 69 #[.int .i64 x] w fun e w' => e = .returned (.bool false) ∧ w = w' := by
  go_enter Try.func69, Try.ntmps69
  go_wp2_with fail
  go_ret
  exact ⟨rfl, rfl⟩
theorem compare_any (w : World) (x y : Int) : Calls Try.prog 45 #[.int .i64 x, .int .i64 y] w fun e w' => e = .returned (.int .i64 (cmpI x y)) ∧ w = w' := by
  have H := Lib.hid nan_any
  have HC := Lib.hid (show ∀ q, q = cmpI x y → q = cmpI x y from fun _ h => h)
  by_cases h1 : x < y
  · have HV := Lib.hid (show cmpI x y = -1 from if_pos h1)
    go_enter Try.func45, Try.ntmps45
    go_wp2_with fail
    refine (H.out _ _).mono ?_
    rintro e w2 ⟨rfl, rfl⟩
    go_wp2_with fail
    refine (H.out _ _).mono ?_
    rintro e w2 ⟨rfl, rfl⟩
    go_wp2_with fail
    go_ret
    exact ⟨by rw [HV.out]; rfl, rfl⟩
  · by_cases h2 : y < x
    · have HV := Lib.hid (show cmpI x y = 1 by unfold cmpI; rw [if_neg h1, if_pos h2])
      go_enter Try.func45, Try.ntmps45
      go_wp2_with fail
      refine (H.out _ _).mono ?_
      rintro e w2 ⟨rfl, rfl⟩
      go_wp2_with fail
      refine (H.out _ _).mono ?_
      rintro e w2 ⟨rfl, rfl⟩
      go_wp2_with fail
      go_ret
      exact ⟨by rw [HV.out]; rfl, rfl⟩
    · have HV := Lib.hid (show cmpI x y = 0 by unfold cmpI; rw [if_neg h1, if_neg h2])
      go_enter Try.func45, Try.ntmps45
      go_wp2_with fail
      refine (H.out _ _).mono ?_
      rintro e w2 ⟨rfl, rfl⟩
      go_wp2_with fail
      refine (H.out _ _).mono ?_
      rintro e w2 ⟨rfl, rfl⟩
      go_wp2_with fail
      go_ret
      exact ⟨by rw [HV.out]; rfl, rfl⟩
def orL (l : List Int) : Int := (l.find? (fun x => !decide (x = 0))).getD 0
set_option maxRecDepth 100000 in
theorem or_any (w : World) (v : Value) (l : List Int) (h : Sl w 1 v l.length (rowI l)) : Calls Try.prog 43 #[v] w fun e w' => e = .returned (.int .i64 (orL l)) ∧ w = w' := by
  obtain ⟨_, a, cap, rfl, _, _, _⟩ := id h
  obtain ⟨_, h1, h2, h3⟩ := h.intsAt
  unfold maxLen at h2
  have HC := Lib.hid h3
  clear h3
  clear h
  go_enter Try.func43, Try.ntmps43
  go_wp2_with fail
  go_loopg [8] l.length (fun g v8 wr => ∃ k : Nat, v8 = .int .i64 k ∧ k ≤ l.length ∧ w = wr ∧ (∀ j (hj : j < l.length), j < k → l[j] = 0) ∧ g = l.length - k)
  case atStart => exact ⟨0, rfl, Nat.zero_le _, rfl, fun j _ h => absurd h (by omega), rfl⟩
  case round =>
    obtain ⟨k, rfl, hk, rfl, hno, hg⟩ := hrel
    have Hg := Lib.hid hg
    have HNO := Lib.hid hno
    clear hg hno
    by_cases hlt : k < l.length
    · obtain ⟨b, off, rfl, hc⟩ := HC.out.at k hlt
      have hlt' : (k : Int) < (l.length : Int) := by omega
      have HF := Lib.hid (show ∀ y, l[k] = y → y ≠ 0 → orL l = y from fun y hy hy0 => by
        unfold orL
        have : l.find? (fun x => !decide (x = 0)) = some l[k] := by
          rw [List.find?_eq_some_iff_getElem]
          exact ⟨by rw [hy]; simpa using hy0, k, hlt, rfl, fun j hj => by rw [HNO.out j (by omega) hj]; rfl⟩
        rw [this, hy]
        rfl)
      have HT := Lib.hid (show ∀ y, l[k] = y → y = 0 → ∀ j (hj : j < l.length), j < k + 1 → l[j] = 0 from fun y hy hy0 j hj hjk => by
        by_cases e : j = k
        · subst e; rw [hy]; exact hy0
        · exact HNO.out j hj (by omega))
      generalize hL : l[k] = y at *
      have HL := Lib.hid hL
      clear hL
      by_cases hy : y = 0
      · subst hy
        have HV := Lib.hid (HT.out 0 rfl rfl)
        go_wp2_with fail
        go_roundg (l.length - (k + 1))
        case measure => rw [Hg.out]; omega
        case rel => exact ⟨k + 1, by go_num, by omega, rfl, HV.out, rfl⟩
      · have HV := Lib.hid (HF.out y rfl hy)
        have hyb : (y != 0) = true := by simpa using hy
        clear hy
        go_wp2_with fail
        go_ret
        exact ⟨by rw [HV.out]; rfl, rfl⟩
    · have hlt' : ¬ (k : Int) < (l.length : Int) := by omega
      have HV := Lib.hid (show orL l = 0 by
        unfold orL
        have : l.find? (fun x => !decide (x = 0)) = none := by
          rw [List.find?_eq_none]
          intro x hx
          obtain ⟨j, hj, rfl⟩ := List.getElem_of_mem hx
          rw [HNO.out j hj (by omega)]
          decide
        rw [this]
        rfl)
      go_wp2_with fail
      go_ret
      exact ⟨by rw [HV.out]; rfl, rfl⟩
/-- The world of old, so many draws on, with new blocks behind it. -/
def Grown (W w : World) : Prop := ∃ q os, w = grow (W.drewN q) os
theorem Grown.refl (W : World) : Grown W W := ⟨0, #[], by rw [grow_empty]; rfl⟩
theorem Grown.drew {W w : World} (h : Grown W w) : Grown W w.drew := by
  obtain ⟨q, os, rfl⟩ := h
  exact ⟨q + 1, os, rfl⟩
theorem Grown.drewN {W w : World} (h : Grown W w) (n : Nat) : Grown W (w.drewN n) := by
  obtain ⟨q, os, rfl⟩ := h
  refine ⟨q + n, os, ?_⟩
  show grow ((W.drewN q).drewN n) os = _
  congr 1
  simp [World.drewN, Nat.add_assoc]
theorem Grown.alloc {W w : World} (h : Grown W w) (o : Obj) : Grown W (w.alloc o) := by
  obtain ⟨q, os, rfl⟩ := h
  exact ⟨q, os ++ #[o], by rw [alloc_eq_grow, grow_grow]⟩
theorem Grown.trans {a b c : World} (h : Grown a b) (k : Grown b c) : Grown a c := by
  obtain ⟨q2, os2, rfl⟩ := k
  obtain ⟨q3, os3, h3⟩ := h.drewN q2
  rw [h3]
  exact ⟨q3, os3 ++ os2, by rw [grow_grow]⟩
theorem Grown.only {W w : World} (h : Grown W w) : Only (fun _ => False) W w := by
  obtain ⟨q, os, rfl⟩ := h
  refine ((Only.refl (fun _ => False) W).drewN q).trans ⟨rfl, rfl, rfl, by show _ ≤ (_ ++ os).size; simp, fun k hk _ => ?_⟩
  show (_ ++ os)[k]? = _
  rw [Array.getElem?_append_left hk]
theorem heldG {W w' : World} {C : World → Prop} (hC : ∀ w', Grown W w' → C w') (h : Grown W w') : Grown W w' ∧ C w' := ⟨h, hC _ h⟩
def wC (p : Int × Int) : List Value := [.int .i64 p.1, .int .i64 p.2]
theorem wC_length (p : Int × Int) : (wC p).length = 2 := rfl
theorem wC_one (p : Int × Int) : ∀ u ∈ wC p, u.oneCell' = true := by
  intro u hu
  simp only [wC, List.mem_cons, List.not_mem_nil, or_false] at hu
  rcases hu with rfl | rfl <;> rfl
def cmpW (p q : Int × Int) : Int := orL [cmpI p.1 q.1, cmpI p.2 q.2]
theorem cmpW_lt (p q : Int × Int) : ltOf cmpW p q = decide (p.1 < q.1 ∨ p.1 = q.1 ∧ p.2 < q.2) := by
  unfold ltOf cmpW orL cmpI
  by_cases h1 : p.1 < q.1
  · simp [h1]
  · by_cases h2 : q.1 < p.1
    · have : ¬ p.1 = q.1 := by omega
      simp [h1, h2, this]
    · have : p.1 = q.1 := by omega
      by_cases h3 : p.2 < q.2
      · simp [this, h3]
      · by_cases h4 : q.2 < p.2
        · simp [this, h3, h4]
        · simp [this, h3, h4]
theorem cmpW_swo : SWO (ltOf cmpW) where
  irrefl x := by rw [cmpW_lt]; simp
  trans x y z h1 h2 := by
    rw [cmpW_lt] at *
    simp at *
    omega
  ntrans x y z h1 h2 := by
    rw [cmpW_lt] at *
    simp at *
    omega
set_option maxRecDepth 100000 in
set_option maxHeartbeats 2000000 in
theorem ways1_any (p q : Int × Int) (w : World) : Calls Try.prog 64 #[.agg #[.int .i64 p.1, .int .i64 p.2], .agg #[.int .i64 q.1, .int .i64 q.2]] w fun e w' => e = .returned (.int .i64 (cmpW p q)) ∧ Grown w w' := by
  obtain ⟨a, b⟩ := p
  obtain ⟨c, d⟩ := q
  have HV := Lib.hid (show cmpW (a, b) (c, d) = orL [cmpI a c, cmpI b d] from rfl)
  generalize cmpW (a, b) (c, d) = R at *
  simp only
  obtain ⟨W, hW⟩ : ∃ W, W = (w.alloc (.cells #[.int .i64 a, .int .i64 b] 75)).alloc (.cells #[.int .i64 c, .int .i64 d] 75) := ⟨_, rfl⟩
  have hg : Grown w W := by rw [hW]; exact ((Grown.refl w).alloc _).alloc _
  have hb1 : W.heap[w.heap.size]? = some (.cells #[.int .i64 a, .int .i64 b] 75 (0, 0)) := by rw [hW]; exact blk_old (heap_alloc_new w _)
  have hb2 : W.heap[w.heap.size + 1]? = some (.cells #[.int .i64 c, .int .i64 d] 75 (0, 0)) := by
    rw [hW]
    have := heap_alloc_new (w.alloc (.cells #[.int .i64 a, .int .i64 b] 75)) (.cells #[.int .i64 c, .int .i64 d] 75)
    simpa using this
  have x0 : W.cell? ⟨w.heap.size, 0, none⟩ = some (.int .i64 a) := cell_at hb1 0
  have x1 : W.cell? ⟨w.heap.size, 1, none⟩ = some (.int .i64 b) := cell_at hb1 1
  have y0 : W.cell? ⟨(w.heap.size + 1), 0, none⟩ = some (.int .i64 c) := cell_at hb2 0
  have y1 : W.cell? ⟨(w.heap.size + 1), 1, none⟩ = some (.int .i64 d) := cell_at hb2 1
  have HCC : ∀ w', Grown W w' → w'.cell? ⟨w.heap.size, 0, none⟩ = some (.int .i64 a) ∧ w'.cell? ⟨w.heap.size, 1, none⟩ = some (.int .i64 b) ∧ w'.cell? ⟨w.heap.size + 1, 0, none⟩ = some (.int .i64 c) ∧ w'.cell? ⟨w.heap.size + 1, 1, none⟩ = some (.int .i64 d) := fun w' h => ⟨h.only.cell x0 id, h.only.cell x1 id, h.only.cell y0 id, h.only.cell y1 id⟩
  have HCM := Lib.hid compare_any
  have HG := Lib.hid hg
  have HC0 := Lib.hid HCC
  clear HCC
  clear hb1 hb2 hg
  go_enter Try.func64, Try.ntmps64
  go_upto_region 1 with (fail)
  rw [← hW]
  clear hW
  have HOR := Lib.hid (fun w' (B : Nat) (h : w'.heap[B]? = some (.cells #[.int .i64 (cmpI a c), .int .i64 (cmpI b d)] 3 (0, 0))) => or_any w' (.slice (some ⟨B, 0, none⟩) 2 2) [cmpI a c, cmpI b d] ⟨rfl, _, _, rfl, Nat.le_refl _, by unfold maxLen; decide, .inr ⟨B, 0, rfl, fun j u hu => by rw [cell_at h]; simpa [rowI] using hu⟩⟩)
  rw [← HV.out] at HOR
  go_region_held3 (fun w' => Grown W w' ∧ w'.cell? ⟨w.heap.size, 0, none⟩ = some (.int .i64 a) ∧ w'.cell? ⟨w.heap.size, 1, none⟩ = some (.int .i64 b) ∧ w'.cell? ⟨w.heap.size + 1, 0, none⟩ = some (.int .i64 c) ∧ w'.cell? ⟨w.heap.size + 1, 1, none⟩ = some (.int .i64 d))
    ((go_split_ands; (refine heldG HC0.out ?_); (repeat (first | (with_reducible assumption) | (with_reducible exact Grown.refl _) | (with_reducible refine Grown.drew ?_) | (with_reducible refine Grown.alloc ?_ _)))))
    (first
      | (go_at_call 45; (with_reducible refine (HCM.out _ _ _).mono ?_); rintro e w6 ⟨rfl, rfl⟩)
      | (go_at_call 43; (with_reducible refine (HOR.out _ _ ?_).mono ?_); (· (apply Eq.trans; (case h₁ => repeat (first | (with_reducible assumption) | (with_reducible exact heap_alloc_new _ _) | (with_reducible apply blk_new; (repeat (first | (with_reducible rfl) | (with_reducible apply sz_set) | (with_reducible apply sz_alloc) | (with_reducible apply sz_drew))); done) | (with_reducible apply blk_same) | (with_reducible apply blk_ne; case hn => (first | assumption | omega)) | (with_reducible apply blk_old) | (with_reducible apply blk_drew))); (case h₂ => rfl))); rintro e w6 ⟨rfl, rfl⟩))
  all_goals
    go_split_ands
    go_wp2_with fail
    go_ret
    exact ⟨rfl, HG.out.trans (by (repeat (first | (with_reducible assumption) | (with_reducible exact Grown.refl _) | (with_reducible refine Grown.drew ?_) | (with_reducible refine Grown.alloc ?_ _))))⟩
theorem infoPair : (Try.prog.info? 75).map (fun i => (i.zero, i.size, i.bytes)) = some (some (.agg #[.int .i64 0, .int .i64 0]), 2, 16) := by kernel_rfl
theorem put_otherK (enc : Int × Int → List Value) (w : World) (g : Nat) (d : Array (Int × Int)) (k : Nat) (h : k ≠ g) : (putRowK enc 2 w g 0 d).heap[k]? = w.heap[k]? := by
  show (w.heap.modify g (onCells (putCells id 0 (flatK enc 2 d))))[k]? = _
  rw [Array.getElem?_modify, if_neg (fun e => h e.symm)]
theorem sortK_only (enc : Int × Int → List Value) (w : World) (g m : Nat) (d : Array (Int × Int)) (os : Array Obj) : Only (fun i => i = g) w (sortWorldK enc 2 w g 0 m d os) := by
  have h1 : Only (fun i => i = g) w (putRowK enc 2 (Sort.ahead w m) g 0 d) := ⟨rfl, rfl, rfl, by simp [putRowK], fun k _ hn => put_otherK enc _ g d k hn⟩
  refine h1.trans ⟨rfl, rfl, rfl, by show _ ≤ (_ ++ os).size; simp, fun k hk _ => ?_⟩
  show (_ ++ os)[k]? = _
  rw [Array.getElem?_append_left hk]
theorem perm_of_in {d d' : Array (Int × Int)} (h : PermIn 0 d.size d d') : d'.toList.Perm d.toList := by
  obtain ⟨h1, _, h2⟩ := h
  have e1 : d'.extract 0 d.size = d' := by rw [← h1]; simp
  have e2 : d.extract 0 d.size = d := by simp
  rwa [e1, e2] at h2
/-- slices.SortFunc at the call's own row of pairs that differ. -/
theorem sortw_any (w : World) (base g cap : Nat) (S : List (Int × Int)) (hown : w.ownsRow base 75 2 (.slice (some ⟨g, 0, none⟩) S.length cap) S.length (S.flatMap wC)) (hnd : S.Nodup) (hl : S.length ≤ 1000000) :
    Calls Try.prog 63 #[.slice (some ⟨g, 0, none⟩) S.length cap, .func (.func 64) #[] #[]] w fun e w' => e = .returned (.tuple #[]) ∧ ∃ T : List (Int × Int), T.Perm S ∧ T.Pairwise lexLt ∧ Only (fun i => i = g) w w' ∧ Sl w' 2 (.slice (some ⟨g, 0, none⟩) S.length cap) T.length (T.flatMap wC) := by
  have eg : ∀ args w, (callFunc 64 args).run Try.prog w = .ok (.enter 64 args) w := enters_of Try.func64 (by kernel_rfl) rfl
  obtain ⟨hbg, hgb, hcap, hcm, hcells⟩ : base ≤ g ∧ g < w.heap.size ∧ S.length ≤ cap ∧ cap ≤ maxLen ∧ ∀ j u, (S.flatMap wC)[j]? = some u → w.cell? ⟨g, j, none⟩ = some u ∧ w.frozen? ⟨g, j, none⟩ = false := by
    rcases hown.2 with ⟨h2, _⟩ | ⟨g', cap', cur, hv, hb, hg, hnc, hcm, hcs, ht⟩
    · cases h2
    · cases hv
      refine ⟨hb, lt_of_block hg, hnc, hcm, fun j u hu => ⟨?_, free_at hg _⟩⟩
      have hj : j < (S.flatMap wC).length := (List.getElem?_eq_some_iff.1 hu).1
      rw [fl_length wC_length] at hj
      rw [← ht, List.getElem?_take, if_pos hj] at hu
      rw [cell_at hg]
      simpa using hu
  have hsz : S.toArray.size = S.length := by simp
  have hH : HoldsK wC 2 w g 0 S.toArray := by
    intro j hj
    rw [size_flatK, hsz] at hj
    have e1 : (S.flatMap wC)[j]? = some (flatK wC 2 S.toArray)[j]! := by
      rw [get_flatK _ _ _ _ (by rw [hsz]; exact hj)]
      have hq : j / 2 < S.length := by omega
      have hr : j % 2 < 2 := by omega
      have h1 := fl_get wC_length S (j / 2) hq (j % 2) hr
      rw [show j / 2 * 2 + j % 2 = j by omega] at h1
      rw [h1]
      have h2 : S.toArray[j / 2]! = S[j / 2] := by rw [getElem!_pos _ _ (by rw [hsz]; exact hq)]; simp
      rw [h2]
      rw [List.getElem?_eq_getElem (by rw [wC_length]; exact hr), getElem!_pos _ _ (by rw [wC_length]; exact hr)]
    rw [Nat.zero_add]
    exact hcells j _ e1
  have hcon := AnyQ.slices_SortFunc Try.sortW 2 Try.isAgg75 Try.sizeOf75 wC wC_length wC_one cmpW cmpW_swo 64 #[] g 0 cap S.toArray w eg (fun m os dk _ x y => (ways1_any x y _).mono (fun _ _ h => h)) hH hgb (by rw [hsz]; omega)
  rw [hsz] at hcon
  refine hcon.mono ?_
  rintro e w' ⟨rfl, d', n, os, hp, hs, rfl⟩
  have hd' : d'.size = S.length := by have := hp.1; simpa using this
  have hpm : d'.toList.Perm S := by
    have := perm_of_in (d := S.toArray) (by rw [hsz]; exact hp)
    simpa using this
  refine ⟨rfl, d'.toList, hpm, ?_, sortK_only _ _ _ _ _ _, ?_⟩
  · have hnd' : d'.toList.Nodup := hpm.nodup_iff.2 hnd
    rw [List.pairwise_iff_getElem]
    intro i j hi hj hij
    have h1 := hs i j (Nat.zero_le _) hij (by simpa [hd'] using hj)
    rw [cmpW_lt] at h1
    have hi' : i < d'.size := by simpa using hi
    have hj' : j < d'.size := by simpa using hj
    rw [getElem!_pos d' j hj', getElem!_pos d' i hi'] at h1
    have hne : d'.toList[i] ≠ d'.toList[j] := List.pairwise_iff_getElem.1 hnd' i j hi hj hij
    have h3 : d'.toList[i] = d'[i] := by simp
    have h4 : d'.toList[j] = d'[j] := by simp
    rw [h3, h4] at hne ⊢
    unfold lexLt
    simp at h1
    by_cases e1 : d'[i].1 < d'[j].1
    · exact .inl e1
    · have e2 : d'[i].1 = d'[j].1 := by omega
      refine .inr ⟨e2, ?_⟩
      have e3 := h1.2 e2.symm
      have e4 : d'[i].2 ≠ d'[j].2 := fun e => hne (Prod.ext e2 e)
      omega
  · have hk := holdsK_sortWorldK_c wC 2 w g 0 S.toArray d' n os hH hgb (by rw [hsz]; exact hd')
    have hlen : d'.toList.length = S.length := by simpa using hd'
    refine ⟨fl_length wC_length _, _, cap, by rw [hlen], by rw [hlen]; exact hcap, hcm, .inr ⟨g, 0, rfl, fun j u hu => ?_⟩⟩
    have hj : j < (d'.toList.flatMap wC).length := (List.getElem?_eq_some_iff.1 hu).1
    rw [fl_length wC_length, hlen] at hj
    have h1 := (hk j (by rw [size_flatK, hd']; exact hj)).1
    rw [h1]
    rw [get_flatK _ _ _ _ (by rw [hd']; exact hj)]
    have hq : j / 2 < d'.toList.length := by omega
    have hr : j % 2 < 2 := by omega
    have h2 := fl_get wC_length d'.toList (j / 2) hq (j % 2) hr
    rw [show j / 2 * 2 + j % 2 = j by omega, hu] at h2
    rw [List.getElem?_eq_getElem (by rw [wC_length]; exact hr)] at h2
    have h3 : d'[j / 2]! = d'.toList[j / 2] := by rw [getElem!_pos _ _ (by omega)]; simp
    rw [h3, getElem!_pos _ _ (by rw [wC_length]; exact hr)]
    exact h2.symm
end Go.Proofs.Ytjgcbcahikemdaa
/-! Ways of a mesh. -/
namespace Go.Proofs.Ytjgcbcahikemdaa
open Go.Conc Go.RowKit Go.Maps
open Go.ChangeMaps (rising_of_pairwise)

def waysOf (L : PMap) (T : List (Int × Int)) : Prop := T.Pairwise lexLt ∧ ∀ p, p ∈ T ↔ getM L p.1 p.2 ≠ []
/-- What Ways returns. -/
def WaysP (w w' : World) (G : Ways) (e : Ending) : Prop := ∃ (v : Value) (T : List (Int × Int)), e = .returned v ∧ Only (fun _ => False) w w' ∧ Sl w' 2 v T.length (T.flatMap wC) ∧ T.Pairwise lexLt ∧ ∀ p : Int × Int, p ∈ T ↔ G p.1 p.2 ≠ []
/-- The ways that a range has met. -/
structure Met (L : PMap) (left : Lit → Bool) (S : List (Int × Int)) : Prop where
  nd : S.Nodup
  sub : ∀ p ∈ S, (∃ o, (p, o) ∈ L) ∧ left (keyL Try.prog 108 wayV p) = false ∧ getM L p.1 p.2 ≠ []
  all : ∀ e ∈ L, left (keyL Try.prog 108 wayV e.1) = false → getM L e.1.1 e.1.2 ≠ [] → e.1 ∈ S
theorem Met.len {L : PMap} {left : Lit → Bool} {S : List (Int × Int)} (h : Met L left S) : S.length ≤ L.length := by
  have := nodup_leW S (L.map (·.1)) h.nd (fun x hx => by
    obtain ⟨⟨o, ho⟩, _⟩ := h.sub x hx
    exact List.mem_map.2 ⟨_, ho, rfl⟩)
  simpa using this
theorem Met.step {w : World} {pb : Nat} {L : PMap} (hm : WMap w pb L) {left : Lit → Bool} {S : List (Int × Int)} (h : Met L left S) {k : Int × Int} {o : Option PipeD} (hk : (k, o) ∈ L) {kl : Lit} (hkl : keyOf Try.prog 108 (wayV k) = some kl) (hl : left kl = true) (hne : getM L k.1 k.2 ≠ []) : Met L (fun z => left z && !z.sameKey kl) (S ++ [k]) := by
  have e1 : keyL Try.prog 108 wayV k = kl := keyL_of hkl
  have hnS : k ∉ S := fun hs => by
    have := (h.sub k hs).2.1
    rw [e1, hl] at this
    cases this
  refine ⟨?_, fun p hp => ?_, fun e he hf hg => ?_⟩
  · rw [List.nodup_append]
    exact ⟨h.nd, by simp, fun x hx y hy => by rw [List.mem_singleton] at hy; subst hy; intro e; subst e; exact hnS hx⟩
  · rcases List.mem_append.1 hp with hp | hp
    · obtain ⟨q1, q2, q3⟩ := h.sub p hp
      exact ⟨q1, by simp [q2], q3⟩
    · rw [List.mem_singleton] at hp
      subst hp
      refine ⟨⟨o, hk⟩, ?_, hne⟩
      rw [e1]
      have : kl.sameKey kl = true := by
        have := wayKeyed.key hkl
        exact WideAt.sameKey_self this
      simp [this]
  · simp only [Bool.and_eq_false_iff, Bool.not_eq_false'] at hf
    rcases hf with hf | hf
    · exact List.mem_append.2 (.inl (h.all e he hf hg))
    · have h3 := WideAt.sameKey_eq hf
      rw [← e1] at h3
      by_cases hek : e.1 = k
      · rw [hek]; simp
      · have h4 : keyL Try.prog 108 wayV e.1 ≠ keyL Try.prog 108 wayV (k, o).1 := keyL_ne wayKeyed wayInj (hm.keys e he) (hm.keys (k, o) hk) hek
        exact absurd h3 h4
theorem Met.skip {w : World} {pb : Nat} {L : PMap} (hm : WMap w pb L) {left : Lit → Bool} {S : List (Int × Int)} (h : Met L left S) {k : Int × Int} {o : Option PipeD} (hk : (k, o) ∈ L) {kl : Lit} (hkl : keyOf Try.prog 108 (wayV k) = some kl) (hne : getM L k.1 k.2 = []) : Met L (fun z => left z && !z.sameKey kl) S := by
  have e1 : keyL Try.prog 108 wayV k = kl := keyL_of hkl
  refine ⟨h.nd, fun p hp => ?_, fun e he hf hg => ?_⟩
  · obtain ⟨q1, q2, q3⟩ := h.sub p hp
    exact ⟨q1, by simp [q2], q3⟩
  · simp only [Bool.and_eq_false_iff, Bool.not_eq_false'] at hf
    rcases hf with hf | hf
    · exact h.all e he hf hg
    · have h3 := WideAt.sameKey_eq hf
      rw [← e1] at h3
      by_cases hek : e.1 = k
      · rw [hek] at hg; exact absurd hne hg
      · have h4 : keyL Try.prog 108 wayV e.1 ≠ keyL Try.prog 108 wayV (k, o).1 := keyL_ne wayKeyed wayInj (hm.keys e he) (hm.keys (k, o) hk) hek
        exact absurd h3 h4
theorem ranges_two {P : Program} {k : TypeId} {R : Value → Option (DataW Value × List MemPlace)} {b r n : Nat} {D : DataW Value} {left : Lit → Bool} {cnt : Nat} {w w' : World} (h : w.ranges P k R b r n D left cnt) (h1 : w'.heap[b]? = w.heap[b]?) (h2 : w'.heap[r]? = w.heap[r]?) : w'.ranges P k R b r n D left cnt := by
  unfold World.ranges at *
  rw [h1, h2]
  exact h
set_option maxRecDepth 100000 in
set_option maxHeartbeats 4000000 in
theorem mways_any (w : World) (m lb pb : Nat) (lv : List Int) (L : PMap) (h : MeshAt w m lb pb lv L) (hL : L.length ≤ 100000) : Calls Try.prog 38 #[.pointer (some ⟨m, 0, none⟩)] w fun e w' => WaysP w w' (getM L) e := by
  obtain ⟨i0, hi0, iz0, iz1, iz2⟩ := info_parts infoPair
  have c1 : w.cell? ⟨m, 1, none⟩ = some (.map (some pb)) := cell_at h.blk 1
  have HM := Lib.hid h
  have HE := Lib.hid (fun x c kl => h.pipes.entry wayKeyed wayInj (x := x) (c := c) (kl := kl))
  have hown := h.pipes.own
  have hst : Met L (Maps.has (mapD Try.prog 108 wayV ptrV L)) [] := by
    refine ⟨List.nodup_nil, (fun _ h => by cases h), fun p hp hf _ => ?_⟩
    have : Maps.has (mapD Try.prog 108 wayV ptrV L) (keyL Try.prog 108 wayV p.1) = true := by
      refine Maps.has_true_of_atKey (y := .held (ptrV p.2)) (fun z => ?_)
      obtain ⟨l, hl⟩ := h.pipes.keys p hp
      have ha := WideShapes.atKey_sorted (L.map (entL Try.prog 108 wayV ptrV)) (rising_of_pairwise _ (sorted_sorted wayKeyed.one _ h.pipes.kinds (h.pipes.ents wayKeyed wayInj))) (keyL Try.prog 108 wayV p.1) (by rw [keyL_of hl]; exact wayKeyed.key hl)
      exact ha.2 (entL Try.prog 108 wayV ptrV p) (List.mem_map.2 ⟨_, hp, rfl⟩) rfl z
    rw [this] at hf
    cases hf
  have HST := Lib.hid hst
  clear h hst
  go_enter Try.func38, Try.ntmps38
  go_wp2_with (first
    | (at_range; refine wpList_range_own _ rfl _ 103 rfl 108 106 wayKeyed Try.underlying103 _ pb _ _ rfl hown ?_; intro w0 hrg0 hg0 hs0)
    | fail)
  go_frame
  have ho0 := (Only.refl (fun _ => False) w).grown hg0 (fun k hk => by cases hk)
  clear c1 hown
  go_loopw [3] (fun v3 wr => ∃ (left : Lit → Bool) (cnt : Nat) (S : List (Int × Int)), wr.ranges Try.prog 108 heldE pb w.heap.size L.length (mapD Try.prog 108 wayV ptrV L) left cnt ∧ Only (fun _ => False) w wr ∧ wr.ownsRow w.heap.size 75 2 v3 S.length (S.flatMap wC) ∧ Met L left S)
    (fun _ wr => wr.rangeLeft pb w.heap.size)
  case atStart => exact ⟨_, _, [], hrg0, ho0, World.ownsRow_nil _ _ _ _, HST.out⟩
  case round =>
    obtain ⟨left, cnt, S, hrg, hgw, hrow, hmet⟩ := hrel
    have hSl := hmet.len
    clear hrg0 hg0 hs0 ho0
    have HROW := Lib.hid hrow
    have HMET := Lib.hid hmet
    obtain ⟨sa, sc, rfl, _⟩ := Sl.cells wC_length (Sl.of_owns hrow)
    clear hrow hmet
    go_wp2_with (first
      | (at_next; refine wpList_next_ranges _ rfl _ rfl 108 wayKeyed heldE (fun v => v) (fun v => v) (fun key kl _ => ⟨key, rfl⟩) (fun v y _ => ⟨v, rfl⟩) pb w.heap.size _ _ _ _ rfl hrg ?_ ?_)
      | fail)
    · -- done
      intro _ hl0
      have HL0 := Lib.hid hl0
      clear hrg hl0
      have hF : ∀ p : Int × Int, p ∈ S ↔ getM L p.1 p.2 ≠ [] := fun p => by
        refine ⟨fun hp => (HMET.out.sub p hp).2.2, fun hp => ?_⟩
        have hex : ∃ o, lookL L p = some o := by
          unfold getM at hp
          cases hk : lookL L p with
          | none => rw [show (p.1, p.2) = p from rfl, hk] at hp; exact absurd rfl hp
          | some o => exact ⟨o, rfl⟩
        obtain ⟨o, ho⟩ := hex
        exact HMET.out.all (p, o) (look_mem ho) (HL0.out _) hp
      have HF := Lib.hid hF
      have HGW := Lib.hid hgw
      clear hF hgw
      rcases HROW.out.2 with ⟨he, hxs⟩ | ⟨g, cap, cur, he, hgb, hg, _⟩
      · have hS : S = [] := by
          cases S with
          | nil => rfl
          | cons x S => cases hxs
        subst hS
        cases he
        have HP := Lib.hid (show WaysP w wr (getM L) (.returned (.slice none 0 0)) from ⟨_, [], rfl, HGW.out, Sl.nil _ _, List.Pairwise.nil, HF.out⟩)
        clear hxs
        go_wp2_with fail
        refine (sortW_nil _ _).mono ?_
        rintro e w' ⟨rfl, rfl⟩
        go_wp2_with fail
        go_ret
        exact HP.out
      · have hgl := lt_of_block hg
        cases he
        have HSRT := Lib.hid (fun w' (ho : Only (fun _ => False) wr w') => sortw_any w' w.heap.size g sc S (owns_only HROW.out ho (fun _ _ => id)) HMET.out.nd (by omega))
        have HGB := Lib.hid hgb
        clear hgb hgl hg
        go_wp2_with fail
        refine (HSRT.out _ (Only.refl _ _)).mono ?_
        rintro e w' ⟨rfl, T, hTS, hTp, ho2, hsl⟩
        have hoF : Only (fun _ => False) w w' := HGW.out.tr ho2 (fun i hi e => by have := HGB.out; omega)
        have hTl : T.length = S.length := hTS.length_eq
        have hP : WaysP w w' (getM L) (.returned (.slice (some ⟨g, 0, none⟩) S.length sc)) := ⟨_, T, rfl, hoF, by rw [← hTl] at hsl; rw [← hTl]; exact hsl, hTp, fun p => (hTS.mem_iff).trans (HF.out p)⟩
        have HP := Lib.hid hP
        clear hP
        clear hTS hTp ho2 hsl hoF hTl
        go_wp2_with fail
        go_ret
        exact HP.out
    · -- more
      intro x c kl yd yp w1 cnt1 hkey hlk hR hat hrg1 hlt hg1 hs1 hen
      have hy : yd = .held c := by
        unfold heldE at hR
        exact (Prod.mk.inj (Option.some.inj hR)).1.symm
      subst hy
      obtain ⟨⟨⟨a, b⟩, o⟩, hp, rfl, rfl⟩ := HE.out x c kl hkey hat
      obtain ⟨d, e, hpp, _⟩ := HM.out.pipe _ hp
      simp only at e
      subst e
      have hgd : getM L a b = d.l := by
        have := lookL_of_mem HM.out.pipes.apart hp
        unfold getM
        rw [this]
      have hgw1 := hgw.grown hg1 (fun k hk => by cases hk; exact Or.inl (Nat.le_refl _))
      have hgr : Only (fun i => i = w.heap.size) wr w1 := (Only.refl (fun i => i = w.heap.size) wr).grown hg1 (fun k hk => by cases hk; exact Or.inr rfl)
      have hrow1 : w1.ownsRow w.heap.size 75 2 (.slice sa S.length sc) S.length (S.flatMap wC) := owns_kept HROW.out hgr (fun k hk e => by
        obtain ⟨es, clock, since, seen, c0, _, _, _, _, hit, _⟩ := hrg
        rcases HROW.out.2 with ⟨he, _⟩ | ⟨g, cap, cur, he, _, hg, _⟩
        · rw [he] at hk; cases hk
        · rw [he] at hk
          simp only [Value.ownBlock, Option.some.injEq] at hk
          have e2 : k = w.heap.size := e
          rw [hk, e2, hit] at hg
          cases hg)
      have HPP := Lib.hid hpp
      have HSTEP := Lib.hid (fun hne => HMET.out.step HM.out.pipes hp hkey hlk hne)
      have HSKIP := Lib.hid (fun hne => HMET.out.skip HM.out.pipes hp hkey hne)
      have HW1 := Lib.hid hgw1
      have HR1 := Lib.hid hrg1
      have HR0 := Lib.hid hrg
      have HLT := Lib.hid hlt
      have HROW1 := Lib.hid hrow1
      have HGD := Lib.hid hgd
      clear hgw1 hrg1 hrg hlt hrow1 hgd
      clear hp hgw hkey hlk hR hat hg1 hgr
      simp only [wayV, ptrV] at hen ⊢
      have HL := Lib.hid (fun w' (ho : Only (fun _ => False) w w') => len_n w' d.p d.c (items d.l) d.l.length (HPP.out.kept ho id id) (by simp [items]))
      obtain ⟨W2, hW2⟩ : ∃ W2, W2 = w1.alloc (.cells #[.int .i64 a, .int .i64 b] 108) := ⟨_, rfl⟩
      have hbW2 : W2.heap[w1.heap.size]? = some (.cells #[.int .i64 a, .int .i64 b] 108 (0, 0)) := by rw [hW2]; exact heap_alloc_new w1 _
      have hoW2 : Only (fun _ => False) w1 W2 := by rw [hW2]; exact (Only.refl _ _).alloc _
      have hsW2 : W2.heap.size = w1.heap.size + 1 := by rw [hW2]; simp
      have HW2 := Lib.hid hW2
      have hr2 := ranges_at HR1.out hoW2
      have hrow2 := owns_only HROW1.out hoW2 (fun _ _ => id)
      have x0 : W2.cell? ⟨w1.heap.size, 0, none⟩ = some (.int .i64 a) := cell_at hbW2 0
      have x1 : W2.cell? ⟨w1.heap.size, 1, none⟩ = some (.int .i64 b) := cell_at hbW2 1
      have ho2 := HW1.out.trans hoW2
      have HR2 := Lib.hid hr2
      have HROW2 := Lib.hid hrow2
      have HO2 := Lib.hid ho2
      clear hr2 hrow2 ho2
      clear hoW2 hbW2 hsW2 hW2
      rw [hs1] at x0 x1
      go_upto_region 7 with (fail)
      rw [← HW2.out]
      by_cases hne : 0 < d.l.length
      · have hgt : (d.l.length : Int) > 0 := by omega
        have HMS := Lib.hid (HSTEP.out (by rw [HGD.out]; exact List.length_pos_iff.1 hne))
        clear hne hpp
        go_wp2_with fail
        refine (HL.out _ HO2.out).mono ?_
        rintro e w' ⟨rfl, rfl⟩
        go_wp2_with (at_builtin; refine Wait.mk ?_)
        refine Wait.go (wpList_append_src _ rfl (.tmp 21) (.tmp 27) 74 74 rfl w.heap.size 75 i0 _ 2 16 Try.underlying74 hi0 iz0 iz1 iz2 rfl _ S.length (S.flatMap wC) rfl ?own4 _ 1 (wC (a, b)) rfl ?src4 ?m4 ?b4 ?base4 ?_)
        case own4 => exact HROW2.out.alloc _
        case src4 => exact Src.ofSlice _ Try.underlying74 _ _ _ _ rfl (news_new _ _ _) (wC_one (a, b))
        case m4 => unfold maxLen; omega
        case b4 => omega
        case base4 => have := HO2.out.size; simp; omega
        intro v6 w6 own6 gr6 _
        have gr6 : (W2.alloc (.cells (wC (a, b)).toArray 75)).grownBy w6 (Value.slice sa S.length sc).ownBlock := gr6
        have ho6 : Only (fun _ => False) w w6 := (HO2.out.alloc _).own (HROW2.out.alloc _) (Nat.le_refl _) gr6
        have hpb := HR2.out.owns.lt
        have hrl := HR2.out.lt
        have hr6 : w6.ranges Try.prog 108 heldE pb w.heap.size L.length (mapD Try.prog 108 wayV ptrV L) (fun z => left z && !z.sameKey kl) cnt1 := by
          refine ranges_two HR2.out ?_ ?_
          · refine (gr6.block pb (by simp; omega) (fun e => ?_)).trans (Below.heap_alloc _ _ _ hpb)
            have h1 := (HROW2.out.lt pb e.symm).1
            have h2 := HM.out.pipes.lt
            omega
          · refine (gr6.block w.heap.size (by simp; omega) (fun e => ?_)).trans (Below.heap_alloc _ _ _ hrl)
            obtain ⟨es, clock, since, seen, c0, _, _, _, _, hit, _⟩ := HR2.out
            rcases HROW2.out.2 with ⟨he, _⟩ | ⟨g, cap, cur, he, _, hg, _⟩
            · rw [he] at e; cases e
            · rw [he] at e
              simp only [Value.ownBlock, Option.some.injEq] at e
              rw [← e, hit] at hg
              cases hg
        have hrow6 : w6.ownsRow w.heap.size 75 2 v6 (S ++ [(a, b)]).length ((S ++ [(a, b)]).flatMap wC) := by
          rw [List.length_append, List.flatMap_append, List.flatMap_singleton]
          exact own6
        have HR6 := Lib.hid hr6
        have HROW6 := Lib.hid hrow6
        have HO6 := Lib.hid ho6
        clear hr6 hrow6 ho6
        clear gr6 own6 hpb hrl x0 x1
        go_wp2_with fail
        go_roundw
        case rel => exact ⟨_, _, _, HR6.out, HO6.out, HROW6.out, HMS.out⟩
        case measure => rw [HR6.out.left_eq, HR0.out.left_eq]; exact HLT.out
      · have hgt : ¬ (d.l.length : Int) > 0 := by omega
        have HMS := Lib.hid (HSKIP.out (by rw [HGD.out]; exact List.length_eq_zero_iff.1 (by omega)))
        clear hne hpp
        go_wp2_with fail
        refine (HL.out _ HO2.out).mono ?_
        rintro e w' ⟨rfl, rfl⟩
        clear x0 x1
        go_wp2_with fail
        go_roundw
        case rel => exact ⟨_, _, _, HR2.out, HO2.out, HROW2.out, HMS.out⟩
        case measure => rw [HR2.out.left_eq, HR0.out.left_eq]; exact HLT.out
end Go.Proofs.Ytjgcbcahikemdaa
/-! bellhopref08: Get, Set, Broken. -/
namespace Go.Proofs.Ytjgcbcahikemdaa
open Go.Conc Go.RowKit Go.Maps

theorem infoRWay : (Try.prog.info? 111).map (fun i => (i.zero, i.size, i.bytes)) = some (some (.agg #[.int .i64 0, .int .i64 0, .slice none 0 0]), 3, 40) := by kernel_rfl
/-- A slice of the reference's items. -/
def ItemSl (w : World) (v : Value) (l : List (Bool × ByteArray)) : Prop := Sl w 2 v l.length (flat l)
theorem ItemSl.form {w : World} {v : Value} {l : List (Bool × ByteArray)} (h : ItemSl w v l) : ∃ a c, v = .slice a l.length c := by
  obtain ⟨_, a, c, rfl, _⟩ := h
  exact ⟨a, c, rfl⟩
theorem ItemSl.new {w w' : World} {v : Value} {l : List (Bool × ByteArray)} (h : ItemSl w v l) (ho : Only (fun _ => False) w w') : ItemSl w' v l := Sl.new h ho
theorem Sl.keptC {w w' : World} {size n : Nat} {v : Value} {xs : List Value} (h : Sl w size v n xs) (hc : CellsKept w w') : Sl w' size v n xs := by
  obtain ⟨h1, a, cap, h2, h3, h4, h5⟩ := h
  refine ⟨h1, a, cap, h2, h3, h4, ?_⟩
  rcases h5 with h5 | ⟨b, off, h5, h6⟩
  · exact .inl h5
  · exact .inr ⟨b, off, h5, fun j u hu => hc.cell (h6 j u hu)⟩
/-- The reference's ways. -/
structure RWs (w : World) (v : Value) (R : List WayR) : Prop where
  row : Sl w 3 v R.length (R.flatMap wayRC)
  its : ∀ e ∈ R, ItemSl w e.v e.l
theorem RWs.keptC {w w' : World} {v : Value} {R : List WayR} (h : RWs w v R) (hc : CellsKept w w') : RWs w' v R := ⟨h.row.keptC hc, fun e he => Sl.keptC (h.its e he) hc⟩
theorem RWs.new {w w' : World} {v : Value} {R : List WayR} (h : RWs w v R) (ho : Only (fun _ => False) w w') : RWs w' v R := ⟨h.row.new ho, fun e he => (h.its e he).new ho⟩
theorem RWs.nil (w : World) : RWs w (.slice none 0 0) [] := ⟨Sl.nil _ _, fun _ h => by cases h⟩
theorem wayRC_one {w : World} {e : WayR} (h : ItemSl w e.v e.l) : ∀ u ∈ wayRC e, u.oneCell' = true := by
  intro u hu
  simp only [wayRC, List.mem_cons, List.not_mem_nil, or_false] at hu
  rcases hu with rfl | rfl | rfl
  · rfl
  · rfl
  · obtain ⟨a, c, h2⟩ := h.form
    rw [h2]
    rfl
theorem onlyCells {w w' : World} (h : Only (fun _ => False) w w') : CellsKept w w' := fun _ _ _ _ hq => h.old hq id
theorem rbrk_any (w : World) : Calls Try.prog 30 #[] w fun e w' => ∃ v, e = .returned v ∧ Only (fun _ => False) w w' ∧ ItemSl w' v [(true, ⟨#[]⟩)] := by
  have hsl : ∀ (w : World), Sl (w.alloc (.cells #[.bool true, .string ⟨#[]⟩] 63)) 2 (.slice (some ⟨w.heap.size, 0, none⟩) 1 1) 1 (flat [(true, ⟨#[]⟩)]) := fun w => Sl.fresh w _ _ 1 2 rfl (by unfold maxLen; decide)
  go_enter Try.func30, Try.ntmps30
  go_wp2_with fail
  go_ret
  exact ⟨_, rfl, (Only.refl _ _).alloc _, hsl w⟩
theorem findW_at {R : List WayR} {a b : Int} {k : Nat} (hk : k < R.length) (h : atW a b R[k] = true) (hn : ∀ j (hj : j < R.length), j < k → atW a b R[j] = false) : getW R a b = R[k].l := by
  unfold getW findW
  have : R.find? (atW a b) = some R[k] := by
    rw [List.find?_eq_some_iff_getElem]
    exact ⟨h, k, hk, rfl, fun j hj => by rw [hn j (by omega) hj]; rfl⟩
  rw [this]
theorem findW_none {R : List WayR} {a b : Int} (hn : ∀ j (hj : j < R.length), atW a b R[j] = false) : getW R a b = [] := by
  unfold getW findW
  have : R.find? (atW a b) = none := by
    rw [List.find?_eq_none]
    intro e he
    obtain ⟨j, hj, rfl⟩ := List.getElem_of_mem he
    rw [hn j hj]
    decide
  rw [this]
set_option maxRecDepth 100000 in
set_option maxHeartbeats 1000000 in
theorem rget08_any (w : World) (v : Value) (R : List WayR) (h : RWs w v R) (a b : Int) :
    Calls Try.prog 27 #[v, .int .i64 a, .int .i64 b] w fun e w' => ∃ v', e = .returned v' ∧ w = w' ∧ ItemSl w v' (getW R a b) := by
  obtain ⟨sa, cap, rfl, h1, h2, h3⟩ := Sl.cells wayRC_length h.row
  unfold maxLen at h2
  have hits := h.its
  have HC := Lib.hid h3
  have HI := Lib.hid hits
  clear h3 hits
  go_enter Try.func27, Try.ntmps27
  go_wp2_with fail
  go_loopg [7] R.length (fun g v7 wr => ∃ k : Nat, v7 = .int .i64 k ∧ k ≤ R.length ∧ w = wr ∧ (∀ j (hj : j < R.length), j < k → atW a b R[j] = false) ∧ g = R.length - k)
  case atStart => exact ⟨0, rfl, Nat.zero_le _, rfl, fun j _ h => absurd h (by omega), rfl⟩
  case round =>
    obtain ⟨k, rfl, hk, rfl, hno, hg⟩ := hrel
    have Hg := Lib.hid hg
    have HNO := Lib.hid hno
    clear hg hno
    by_cases hlt : k < R.length
    · obtain ⟨lb, off, rfl, hc⟩ := HC.out.at k hlt
      have hlt' : (k : Int) < (R.length : Int) := by omega
      have HF := Lib.hid (fun h => findW_at (a := a) (b := b) hlt h HNO.out)
      have HIT := HI.out _ (List.getElem_mem hlt)
      have HAT := Lib.hid (show ∀ q, atW a b R[k] = q → ∀ j (hj : j < R.length), j < k + 1 → q = false → atW a b R[j] = false from fun q hq j hj hjk e => by
        by_cases e2 : j = k
        · subst e2; rw [hq]; exact e
        · exact HNO.out j hj (by omega))
      have HIF := Lib.hid (atW_iff (a := a) (b := b) (e := R[k]))
      generalize hQ : atW a b R[k] = q at *
      have p0 := hc 0 _ rfl
      have p1 := hc 1 _ rfl
      have p2 := hc 2 _ rfl
      simp only [Nat.add_zero] at p0
      clear hQ hc
      generalize R[k].frm = f at *
      generalize R[k].dst = d at *
      generalize R[k].v = vv at *
      generalize R[k].l = ll at *
      obtain ⟨va, vc, rfl⟩ := HIT.form
      have HITT := Lib.hid HIT
      clear HIT
      by_cases hf : f = a
      · subst hf
        by_cases hd : d = b
        · subst hd
          have HV := Lib.hid (HF.out (HIF.out.2 ⟨rfl, rfl⟩))
          go_wp2_with fail
          go_ret
          exact ⟨_, rfl, rfl, by rw [HV.out]; exact HITT.out⟩
        · have hq : q = false := by
            cases hq : q
            · rfl
            · exact absurd (HIF.out.1 hq).2 hd
          have HV := Lib.hid (fun j hj hjk => HAT.out q rfl j hj hjk hq)
          clear hq
          go_wp2_with fail
          go_roundg (R.length - (k + 1))
          case measure => rw [Hg.out]; omega
          case rel => exact ⟨k + 1, by go_num, by omega, rfl, HV.out, rfl⟩
      · have hq : q = false := by
          cases hq : q
          · rfl
          · exact absurd (HIF.out.1 hq).1 hf
        have HV := Lib.hid (fun j hj hjk => HAT.out q rfl j hj hjk hq)
        clear hq
        go_wp2_with fail
        go_roundg (R.length - (k + 1))
        case measure => rw [Hg.out]; omega
        case rel => exact ⟨k + 1, by go_num, by omega, rfl, HV.out, rfl⟩
    · have hlt' : ¬ (k : Int) < (R.length : Int) := by omega
      have HV := Lib.hid (findW_none (a := a) (b := b) (fun j hj => HNO.out j hj (by omega)))
      go_wp2_with fail
      go_ret
      exact ⟨_, rfl, rfl, by rw [HV.out]; exact Sl.nil _ _⟩
end Go.Proofs.Ytjgcbcahikemdaa
/-! bellhopref08: Set. -/
namespace Go.Proofs.Ytjgcbcahikemdaa
open Go.Conc Go.RowKit Go.Maps

set_option maxRecDepth 100000 in
set_option maxHeartbeats 2000000 in
theorem rset08_any (w : World) (v : Value) (R : List WayR) (h : RWs w v R) (hR : R.length ≤ 100000) (a b : Int) (u : Value) (l : List (Bool × ByteArray)) (hu : ItemSl w u l) :
    Calls Try.prog 28 #[v, .int .i64 a, .int .i64 b, u] w fun e w' => ∃ v', e = .returned v' ∧ Only (fun _ => False) w w' ∧ RWs w' v' (setW R a b l u) := by
  obtain ⟨i0, hi0, iz0, iz1, iz2⟩ := info_parts infoRWay
  obtain ⟨sa, cap, rfl, h1, h2, h3⟩ := Sl.cells wayRC_length h.row
  obtain ⟨ua, uc, rfl⟩ := hu.form
  unfold maxLen at h2
  have hits := h.its
  have HC := Lib.hid h3
  have HI := Lib.hid hits
  have HU := Lib.hid hu
  clear h3 hits hu
  clear h
  go_enter Try.func28, Try.ntmps28
  go_wp2_with fail
  go_loopg [9, 10] R.length (fun g v9 v10 wr => ∃ k : Nat, v10 = .int .i64 k ∧ k ≤ R.length ∧ Only (fun _ => False) w wr ∧ wr.ownsRow w.heap.size 111 3 v9 (dropW (R.take k) a b).length ((dropW (R.take k) a b).flatMap wayRC) ∧ g = R.length - k)
  case atStart => exact ⟨0, rfl, Nat.zero_le _, Only.refl _ _, World.ownsRow_nil _ _ _ _, rfl⟩
  case round =>
    obtain ⟨k, rfl, hk, ho, hrow, hg⟩ := hrel
    have Hg := Lib.hid hg
    have HO := Lib.hid ho
    have HROW := Lib.hid hrow
    clear hg ho hrow
    by_cases hlt : k < R.length
    · -- round
      obtain ⟨lb, off, rfl, hc⟩ := HC.out.at k hlt
      have hlt' : (k : Int) < (R.length : Int) := by omega
      have HTS := Lib.hid (drop_snoc R a b k hlt)
      have HOL := Lib.hid (show (dropW (R.take k) a b).length ≤ 100000 from Nat.le_trans (List.length_filter_le _ _) (by rw [List.length_take]; omega))
      generalize dropW (R.take k) a b = D at *
      have HIT := (HI.out _ (List.getElem_mem hlt)).new HO.out
      have HIF := Lib.hid (atW_iff (a := a) (b := b) (e := R[k]))
      have p0 := HO.out.cell (hc 0 _ rfl) id
      have p1 := HO.out.cell (hc 1 _ rfl) id
      have p2 := HO.out.cell (hc 2 _ rfl) id
      simp only [Nat.add_zero] at p0
      clear hc
      generalize hE : R[k] = e at *
      obtain ⟨f, d, ll, vv⟩ := e
      simp only at p0 p1 p2 HIT HIF
      obtain ⟨va, vc, rfl⟩ := HIT.form
      have HITT := Lib.hid HIT
      clear HIT
      clear hE
      by_cases hf : f = a
      · have hf2 : a = f := hf.symm
        subst hf2
        by_cases hd : d = b
        · have hd2 : b = d := hd.symm
          subst hd2
          have hy := HIF.out.2 ⟨rfl, rfl⟩
          have hrow : wr.ownsRow w.heap.size 111 3 u9 (dropW (R.take (k + 1)) a b).length ((dropW (R.take (k + 1)) a b).flatMap wayRC) := by
            rw [HTS.out, if_pos hy, List.append_nil]
            exact HROW.out
          have HR6 := Lib.hid hrow
          clear hrow
          clear hy
          go_wp2_with fail
          go_roundg (R.length - (k + 1))
          case measure => rw [Hg.out]; omega
          case rel => exact ⟨k + 1, by go_num, by omega, HO.out, HR6.out, rfl⟩
        · have hne : ¬ atW a b ⟨a, d, ll, .slice va ll.length vc⟩ = true := fun e => hd (HIF.out.1 e).2
          go_wp2_with (at_builtin; refine Wait.mk ?_)
          refine Wait.go (wpList_append_src _ rfl (.tmp 33) (.tmp 38) 52 52 rfl w.heap.size 111 i0 _ 3 40 Try.underlying52 hi0 iz0 iz1 iz2 rfl _ D.length (D.flatMap wayRC) rfl ?own4 _ 1 (wayRC ⟨a, d, ll, .slice va ll.length vc⟩) rfl ?src4 ?m4 ?b4 ?base4 ?_)
          case own4 => exact HROW.out.alloc _
          case src4 => exact Src.ofSlice _ Try.underlying52 _ _ _ _ rfl (news_new _ _ _) (wayRC_one (e := ⟨a, d, ll, .slice va ll.length vc⟩) HITT.out)
          case m4 => have := HOL.out; unfold maxLen; omega
          case b4 => have := HOL.out; omega
          case base4 => have := HO.out.size; simp; omega
          intro v6 w6 own6 gr6 _
          have ho6 : Only (fun _ => False) w w6 := (HO.out.alloc _).own (HROW.out.alloc _) (Nat.le_refl _) gr6
          have hl6 : w6.ownsRow w.heap.size 111 3 v6 (dropW (R.take (k + 1)) a b).length ((dropW (R.take (k + 1)) a b).flatMap wayRC) := by
            rw [HTS.out, if_neg hne, List.length_append, List.flatMap_append, List.flatMap_singleton]
            exact own6
          have HO6 := Lib.hid ho6
          have HR6 := Lib.hid hl6
          clear ho6 hl6
          clear gr6
          go_wp2_with fail
          go_roundg (R.length - (k + 1))
          case measure => rw [Hg.out]; omega
          case rel => exact ⟨k + 1, by go_num, by omega, HO6.out, HR6.out, rfl⟩
      · have hne : ¬ atW a b ⟨f, d, ll, .slice va ll.length vc⟩ = true := fun e => hf (HIF.out.1 e).1
        go_wp2_with (at_builtin; refine Wait.mk ?_)
        refine Wait.go (wpList_append_src _ rfl (.tmp 33) (.tmp 38) 52 52 rfl w.heap.size 111 i0 _ 3 40 Try.underlying52 hi0 iz0 iz1 iz2 rfl _ D.length (D.flatMap wayRC) rfl ?own4 _ 1 (wayRC ⟨f, d, ll, .slice va ll.length vc⟩) rfl ?src4 ?m4 ?b4 ?base4 ?_)
        case own4 => exact HROW.out.alloc _
        case src4 => exact Src.ofSlice _ Try.underlying52 _ _ _ _ rfl (news_new _ _ _) (wayRC_one (e := ⟨f, d, ll, .slice va ll.length vc⟩) HITT.out)
        case m4 => have := HOL.out; unfold maxLen; omega
        case b4 => have := HOL.out; omega
        case base4 => have := HO.out.size; simp; omega
        intro v6 w6 own6 gr6 _
        have ho6 : Only (fun _ => False) w w6 := (HO.out.alloc _).own (HROW.out.alloc _) (Nat.le_refl _) gr6
        have hl6 : w6.ownsRow w.heap.size 111 3 v6 (dropW (R.take (k + 1)) a b).length ((dropW (R.take (k + 1)) a b).flatMap wayRC) := by
          rw [HTS.out, if_neg hne, List.length_append, List.flatMap_append, List.flatMap_singleton]
          exact own6
        have HO6 := Lib.hid ho6
        have HR6 := Lib.hid hl6
        clear ho6 hl6
        clear gr6
        go_wp2_with fail
        go_roundg (R.length - (k + 1))
        case measure => rw [Hg.out]; omega
        case rel => exact ⟨k + 1, by go_num, by omega, HO6.out, HR6.out, rfl⟩
    · have hlt' : ¬ (k : Int) < (R.length : Int) := by omega
      have HRW := HROW.out
      rw [List.take_of_length_le (by omega)] at HRW
      have HOL := Lib.hid (show (dropW R a b).length ≤ 100000 from Nat.le_trans (List.length_filter_le _ _) hR)
      have HSUB := Lib.hid (show ∀ e ∈ dropW R a b, ItemSl w e.v e.l from fun e he => HI.out e (List.mem_filter.1 he).1)
      have HSET := Lib.hid (show setW R a b l (.slice ua l.length uc) = dropW R a b ++ [⟨a, b, l, .slice ua l.length uc⟩] from rfl)
      generalize dropW R a b = D at *
      have HRW2 := Lib.hid HRW
      clear HRW
      clear HROW
      go_wp2_with (at_builtin; refine Wait.mk ?_)
      refine Wait.go (wpList_append_src _ rfl (.tmp 40) (.tmp 45) 52 52 rfl w.heap.size 111 i0 _ 3 40 Try.underlying52 hi0 iz0 iz1 iz2 rfl _ D.length (D.flatMap wayRC) rfl ?own4 _ 1 (wayRC ⟨a, b, l, .slice ua l.length uc⟩) rfl ?src4 ?m4 ?b4 ?base4 ?_)
      case own4 => exact HRW2.out.alloc _
      case src4 => exact Src.ofSlice _ Try.underlying52 _ _ _ _ rfl (news_new _ _ _) (wayRC_one (e := ⟨a, b, l, .slice ua l.length uc⟩) HU.out)
      case m4 => have := HOL.out; unfold maxLen; omega
      case b4 => have := HOL.out; omega
      case base4 => have := HO.out.size; simp; omega
      intro v6 w6 own6 gr6 _
      have ho6 : Only (fun _ => False) w w6 := (HO.out.alloc _).own (HRW2.out.alloc _) (Nat.le_refl _) gr6
      have hF : RWs w6 v6 (setW R a b l (.slice ua l.length uc)) := by
        rw [HSET.out]
        refine ⟨?_, fun e he => ?_⟩
        · rw [List.length_append, List.flatMap_append, List.flatMap_singleton]
          exact Sl.of_owns own6
        · rcases List.mem_append.1 he with he | he
          · exact (HSUB.out e he).new ho6
          · rw [List.mem_singleton] at he
            subst he
            exact HU.out.new ho6
      have HO6 := Lib.hid ho6
      have HFF := Lib.hid hF
      clear ho6 hF
      clear gr6 own6
      go_wp2_with fail
      go_ret
      exact ⟨v6, rfl, HO6.out, HFF.out⟩
end Go.Proofs.Ytjgcbcahikemdaa
/-! bellhopref03: Has, Same, Sorted. -/
namespace Go.Proofs.Ytjgcbcahikemdaa
open Go.Conc Go.RowKit

set_option maxRecDepth 100000 in
theorem r03has_any (w : World) (v : Value) (l : List Int) (h : Sl w 1 v l.length (rowI l)) (x : Int) :
    Calls Try.prog 25 #[v, .int .i64 x] w fun e w' => e = .returned (.bool (decide (x ∈ l))) ∧ w = w' := by
  obtain ⟨_, a, cap, rfl, _, _, _⟩ := id h
  obtain ⟨_, h1, h2, h3⟩ := h.intsAt
  unfold maxLen at h2
  have HC := Lib.hid h3
  clear h3
  clear h
  go_enter Try.func25, Try.ntmps25
  go_wp2_with fail
  go_loopg [5] l.length (fun g v5 wr => ∃ k : Nat, v5 = .int .i64 k ∧ k ≤ l.length ∧ w = wr ∧ x ∉ l.take k ∧ g = l.length - k)
  case atStart => exact ⟨0, rfl, Nat.zero_le _, rfl, by simp, rfl⟩
  case round =>
    obtain ⟨k, rfl, hk, rfl, hno, hg⟩ := hrel
    have Hg := Lib.hid hg
    have HNO := Lib.hid hno
    clear hg hno
    by_cases hlt : k < l.length
    · obtain ⟨b, off, rfl, hc⟩ := HC.out.at k hlt
      have hlt' : (k : Int) < (l.length : Int) := by omega
      have HTK := Lib.hid (show (x ∈ l.take (k + 1)) ↔ (x ∈ l.take k ∨ l[k] = x) by rw [List.take_add_one, List.getElem?_eq_getElem hlt, Option.toList_some, List.mem_append, List.mem_singleton]; exact or_congr Iff.rfl eq_comm)
      have HM := Lib.hid (show l[k] ∈ l from List.getElem_mem hlt)
      generalize l[k] = y at *
      by_cases hy : y = x
      · subst hy
        have HV := Lib.hid (show decide (y ∈ l) = true from decide_eq_true HM.out)
        go_wp2_with fail
        go_ret
        exact ⟨by rw [HV.out]; rfl, rfl⟩
      · have HV := Lib.hid (show x ∉ l.take (k + 1) from fun e => (HTK.out.1 e).elim HNO.out hy)
        go_wp2_with fail
        go_roundg (l.length - (k + 1))
        case measure => rw [Hg.out]; omega
        case rel => exact ⟨k + 1, by go_num, by omega, rfl, HV.out, rfl⟩
    · have hlt' : ¬ (k : Int) < (l.length : Int) := by omega
      have hn := HNO.out
      rw [List.take_of_length_le (by omega)] at hn
      have HV := Lib.hid (show decide (x ∈ l) = false from decide_eq_false hn)
      clear hn hk hlt
      go_wp2_with fail
      go_ret
      exact ⟨by rw [HV.out]; rfl, rfl⟩
set_option maxRecDepth 100000 in
theorem r03same_eq (w : World) (va vb : Value) (l : List Int) (ha : Sl w 1 va l.length (rowI l)) (hb : Sl w 1 vb l.length (rowI l)) :
    Calls Try.prog 34 #[va, vb] w fun e w' => e = .returned (.bool true) ∧ Only (fun _ => False) w w' := by
  obtain ⟨_, a, cap, rfl, _, _, _⟩ := id ha
  obtain ⟨_, b, cap', rfl, _, _, _⟩ := id hb
  obtain ⟨_, h1, h2, h3⟩ := ha.intsAt
  obtain ⟨_, k1, k2, k3⟩ := hb.intsAt
  unfold maxLen at h2 k2
  have HC := Lib.hid h3
  have HD := Lib.hid k3
  clear h3 k3
  clear ha hb
  go_enter Try.func34, Try.ntmps34
  go_wp2_with fail
  go_loopg [5] l.length (fun g v5 wr => ∃ k : Nat, v5 = .int .i64 k ∧ k ≤ l.length ∧ Only (fun _ => False) w wr ∧ g = l.length - k)
  case atStart => exact ⟨0, rfl, Nat.zero_le _, Only.refl _ _, rfl⟩
  case round =>
    obtain ⟨k, rfl, hk, ho, hg⟩ := hrel
    have Hg := Lib.hid hg
    have HO := Lib.hid ho
    clear hg ho
    by_cases hlt : k < l.length
    · obtain ⟨ba, oa, rfl, hc⟩ := HC.out.at k hlt
      obtain ⟨bb, ob, rfl, hd⟩ := HD.out.at k hlt
      have p0 := HO.out.cell hc id
      have q0 := HO.out.cell hd id
      have hlt' : (k : Int) < (l.length : Int) := by omega
      have hk0 : (0 : Int) ≤ (k : Int) := by omega
      generalize l[k] = y at *
      clear hc hd
      go_wp2_with fail
      go_quiet (fail)
      go_wp2_with fail
      go_roundg (l.length - (k + 1))
      case measure => rw [Hg.out]; omega
      case rel => exact ⟨k + 1, by go_num, by omega, HO.out.drewN _, rfl⟩
    · have hlt' : ¬ (k : Int) < (l.length : Int) := by omega
      go_wp2_with fail
      go_ret
      exact ⟨rfl, HO.out⟩
/-- A row of ints into which one is stored. -/
theorem owns_setI {w : World} {base g n cap : Nat} {e : TypeId} {L : List Int} (h : w.ownsRow base e 1 (.slice (some ⟨g, 0, none⟩) n cap) n (rowI L)) (k : Nat) (x : Int) :
    (w.setCell ⟨g, k, none⟩ (.int .i64 x)).ownsRow base e 1 (.slice (some ⟨g, 0, none⟩) n cap) n (rowI (L.set k x)) := by
  obtain ⟨h1, h2⟩ := h
  refine ⟨by simpa [rowI] using h1, ?_⟩
  rcases h2 with ⟨h2, _⟩ | ⟨g', cap', cur, hv, hb, hg, hnc, hcm, hcs, ht⟩
  · cases h2
  · simp only [Value.slice.injEq, Option.some.injEq, Addr.mk.injEq] at hv
    obtain ⟨⟨rfl, -, -⟩, -, rfl⟩ := hv
    refine .inr ⟨g, cap, _, rfl, hb, set_at hg k _, hnc, hcm, by simpa using hcs, ?_⟩
    rw [Array.toList_setIfInBounds, List.take_set, ht]
    simp [rowI, List.map_set]
theorem owns_freeI {w : World} {base g n cap : Nat} {e : TypeId} {xs : List Value} (h : w.ownsRow base e 1 (.slice (some ⟨g, 0, none⟩) n cap) n xs) (k : Nat) : w.frozen? ⟨g, k, none⟩ = false := by
  rcases h.2 with ⟨h2, _⟩ | ⟨g', cap', cur, hv, hb, hg, _⟩
  · cases h2
  · simp only [Value.slice.injEq, Option.some.injEq, Addr.mk.injEq] at hv
    obtain ⟨⟨rfl, -, -⟩, -, rfl⟩ := hv
    exact free_at hg k
/-- A list that is sorted but for one place: P before it, Q behind it, all of Q greater. -/
structure Mid (L : List Int) (i k : Nat) (P : List Int) (x : Int) (Q R : List Int) : Prop where
  eq : L = P ++ x :: Q ++ R
  lp : P.length = k
  lq : k + Q.length = i
  srt : (P ++ Q).Pairwise (· ≤ ·)
  gt : ∀ q ∈ Q, x < q
theorem Mid.start {L : List Int} {i : Nat} (hi : i < L.length) (hs : (L.take i).Pairwise (· ≤ ·)) : Mid L i i (L.take i) L[i] [] (L.drop (i + 1)) := by
  refine ⟨?_, by rw [List.length_take]; omega, rfl, by simpa using hs, by simp⟩
  rw [List.append_assoc, List.singleton_append]
  rw [← List.drop_eq_getElem_cons hi, List.take_append_drop]
theorem Mid.swap {L : List Int} {i k : Nat} {P : List Int} {p x : Int} {Q R : List Int} (h : Mid L i (k + 1) (P ++ [p]) x Q R) (hx : x < p) : Mid ((L.set k x).set (k + 1) p) i k P x (p :: Q) R := by
  have hlp : P.length = k := by have := h.lp; simpa using this
  refine ⟨?_, hlp, by have := h.lq; simp; omega, by have := h.srt; simpa using this, fun q hq => ?_⟩
  · rw [h.eq]
    subst hlp
    simp
  · rcases List.mem_cons.1 hq with rfl | hq
    · exact hx
    · exact h.gt q hq
theorem Mid.done {L : List Int} {i k : Nat} {P : List Int} {x : Int} {Q R : List Int} (h : Mid L i k P x Q R) (hx : ∀ p ∈ P, p ≤ x) : (L.take (i + 1)).Pairwise (· ≤ ·) := by
  have hl : (P ++ x :: Q).length = i + 1 := by have h1 := h.lp; have h2 := h.lq; simp; omega
  rw [h.eq, ← hl, List.take_left]
  have h1 := List.pairwise_append.1 h.srt
  rw [List.pairwise_append]
  refine ⟨h1.1, List.pairwise_cons.2 ⟨fun q hq => by have := h.gt q hq; omega, h1.2.1⟩, fun p hp y hy => ?_⟩
  rcases List.mem_cons.1 hy with rfl | hy
  · exact hx p hp
  · exact h1.2.2 p hp y hy
theorem Mid.below {L : List Int} {i k : Nat} {P : List Int} {p x : Int} {Q R : List Int} (h : Mid L i (k + 1) (P ++ [p]) x Q R) (hx : ¬ x < p) : ∀ q ∈ P ++ [p], q ≤ x := fun q hq => by
  have h1 := (List.pairwise_append.1 (List.pairwise_append.1 h.srt).1).2.2
  rcases List.mem_append.1 hq with hq | hq
  · have := h1 q hq p (by simp)
    omega
  · rw [List.mem_singleton] at hq
    omega
theorem perm_set {L : List Int} {k : Nat} {P Q R : List Int} {p x : Int} (h1 : L = P ++ p :: x :: Q ++ R) (hk : P.length = k) : ((L.set k x).set (k + 1) p).Perm L := by
  subst h1
  subst hk
  have : (((P ++ p :: x :: Q ++ R).set P.length x).set (P.length + 1) p) = P ++ x :: p :: Q ++ R := by simp
  rw [this]
  exact (List.Perm.append_left P (List.Perm.swap p x Q)).append_right R
end Go.Proofs.Ytjgcbcahikemdaa
/-! bellhopref03: Sorted. -/
namespace Go.Proofs.Ytjgcbcahikemdaa
open Go.Conc Go.RowKit

theorem infoIntS : (Try.prog.info? 3).map (fun i => (i.zero, i.size, i.bytes)) = some (some (.int .i64 0), 1, 8) := by kernel_rfl
theorem owns_slice {w : World} {base size n : Nat} {e : TypeId} {v : Value} {xs : List Value} (h : w.ownsRow base e size v n xs) (hn : 0 < n) : ∃ g cap, v = .slice (some ⟨g, 0, none⟩) n cap ∧ base ≤ g ∧ g < w.heap.size := by
  rcases h.2 with ⟨_, h2⟩ | ⟨g, cap, cur, rfl, hb, hg, _⟩
  · omega
  · exact ⟨g, cap, rfl, hb, lt_of_block hg⟩
theorem owns_cellI {w : World} {base g n cap : Nat} {e : TypeId} {L : List Int} (h : w.ownsRow base e 1 (.slice (some ⟨g, 0, none⟩) n cap) n (rowI L)) (k : Nat) (hk : k < L.length) : w.cell? ⟨g, k, none⟩ = some (.int .i64 L[k]) := by
  have := h.cells (g := g) rfl k _ (rowI_at L k hk)
  simpa [Addr.add_lit] using this
theorem owns_drewI {w : World} {base size n : Nat} {e : TypeId} {v : Value} {xs : List Value} (h : w.ownsRow base e size v n xs) (q : Nat) : (w.drewN q).ownsRow base e size v n xs := owns_only h ((Only.refl (fun _ => False) w).drewN q) (fun _ _ => id)
def SortP (w w' : World) (l : List Int) (e : Ending) : Prop := ∃ v' T, e = .returned v' ∧ Only (fun _ => False) w w' ∧ w'.ownsRow w.heap.size 3 1 v' T.length (rowI T) ∧ T.Perm l ∧ T.Pairwise (· ≤ ·)
theorem Mid.at {L : List Int} {i k : Nat} {P : List Int} {p x : Int} {Q R : List Int} (h : Mid L i (k + 1) (P ++ [p]) x Q R) : L[k]? = some p ∧ L[k + 1]? = some x ∧ P.length = k := by
  have hl : P.length = k := by have := h.lp; simpa using this
  rw [h.eq]
  subst hl
  simp
set_option maxRecDepth 100000 in
set_option maxHeartbeats 2000000 in
theorem r03sorted_any (w : World) (v : Value) (l : List Int) (h : Sl w 1 v l.length (rowI l)) (hl : l.length ≤ 100000) :
    Calls Try.prog 36 #[v] w fun e w' => SortP w w' l e := by
  obtain ⟨i0, hi0, iz0, iz1, iz2⟩ := info_parts infoIntS
  have hsrc := Sl.src (P := Try.prog) (tx := 46) Try.underlying46 (h.new ((Only.refl (fun _ => False) w).alloc (.cells #[] 3))) (rowI_one l)
  obtain ⟨_, a, cap, rfl, _, _, _⟩ := id h
  have HSRC := Lib.hid hsrc
  clear hsrc
  clear h
  go_enter Try.func36, Try.ntmps36
  go_wp2_with (at_builtin; refine Wait.mk ?_)
  refine Wait.go (wpList_append_src _ rfl (.tmp 6) (.tmp 7) 46 46 rfl w.heap.size 3 i0 _ 1 8 Try.underlying46 hi0 iz0 iz1 iz2 rfl _ 0 [] rfl (owns_empty w 3 1) _ l.length (rowI l) rfl ?src ?m ?b ?base ?_)
  case src => exact HSRC.out
  case m => unfold maxLen; omega
  case b => omega
  case base => simp
  intro v1 w1 own1 gr1 _
  simp only [Nat.zero_add, List.nil_append] at own1
  have ho1 : Only (fun _ => False) w w1 := ((Only.refl (fun _ => False) w).alloc _).own (owns_empty w 3 1) (Nat.le_refl _) gr1
  clear gr1 HSRC
  by_cases hl0 : l.length = 0
  · have hln : l = [] := List.length_eq_zero_iff.1 hl0
    subst hln
    obtain ⟨a1, c1, rfl⟩ : ∃ a1 c1, v1 = .slice a1 0 c1 := by obtain ⟨_, a1, c1, h, _⟩ := Sl.of_owns own1; exact ⟨a1, c1, h⟩
    have HF := Lib.hid (And.intro ho1 own1)
    clear own1 ho1
    go_wp2_with fail
    go_loopg [4] 0 (fun g v4 wr => v4 = .int .i64 1 ∧ w1 = wr ∧ g = 0)
    case atStart => exact ⟨rfl, rfl, rfl⟩
    case round =>
      obtain ⟨rfl, rfl, hg⟩ := hrel
      go_wp2_with fail
      go_ret
      exact ⟨.slice a1 0 c1, [], rfl, HF.out.1, HF.out.2, List.Perm.refl _, List.Pairwise.nil⟩
  · obtain ⟨g, gc, rfl, hgb, hgl⟩ := owns_slice own1 (by omega)
    have HGB := Lib.hid hgb
    have HO1 := Lib.hid ho1
    have HOWN := Lib.hid own1
    clear ho1 own1
    have hl1 : 0 < l.length := by omega
    clear hl0 hgb hgl
    go_wp2_with fail
    go_loopg [4] (l.length - 1) (fun gg v4 wr => ∃ (i : Nat) (L : List Int), v4 = .int .i64 i ∧ 1 ≤ i ∧ i ≤ l.length ∧ Only (fun _ => False) w wr ∧ wr.ownsRow w.heap.size 3 1 (.slice (some ⟨g, 0, none⟩) l.length gc) l.length (rowI L) ∧ L.length = l.length ∧ L.Perm l ∧ (L.take i).Pairwise (· ≤ ·) ∧ gg = l.length - i)
    case atStart =>
      refine ⟨1, l, rfl, by omega, by omega, HO1.out, HOWN.out, rfl, List.Perm.refl _, ?_, rfl⟩
      match l, hl1 with
      | x :: l', _ => simp
    case round =>
      obtain ⟨i, L, rfl, hi1, hi, ho, hrow, hLl, hperm, hsrt, hg⟩ := hrel
      have Hg := Lib.hid hg
      have HO := Lib.hid ho
      have HROW := Lib.hid hrow
      have HPERM := Lib.hid hperm
      have HSRT := Lib.hid hsrt
      clear hg ho hrow hperm hsrt
      have HLL := Lib.hid hLl
      clear hLl
      by_cases hlt : i < l.length
      · -- inner
        have hlt' : (i : Int) < (l.length : Int) := by omega
        go_wp2_with fail
        go_loopg [5] i (fun gg v5 wr2 => ∃ (k : Nat) (L2 : List Int) (P : List Int) (x : Int) (Q R : List Int), v5 = .int .i64 k ∧ k ≤ i ∧ Only (fun _ => False) w wr2 ∧ wr2.ownsRow w.heap.size 3 1 (.slice (some ⟨g, 0, none⟩) l.length gc) l.length (rowI L2) ∧ L2.length = l.length ∧ L2.Perm l ∧ Mid L2 i k P x Q R ∧ gg = k)
        case atStart => exact ⟨i, L, _, _, _, _, rfl, Nat.le_refl _, HO.out, HROW.out, HLL.out, HPERM.out, Mid.start (by have := HLL.out; omega) HSRT.out, rfl⟩
        case round =>
          obtain ⟨k, L2, P, x, Q, R, rfl, hk, ho2, hrow2, hLl2, hperm2, hmid, hgk⟩ := hrel
          have Hgk := Lib.hid hgk
          have HO2 := Lib.hid ho2
          have HROW2 := Lib.hid hrow2
          have HPERM2 := Lib.hid hperm2
          have HMID := Lib.hid hmid
          have HLL2 := Lib.hid hLl2
          clear hgk ho2 hrow2 hperm2 hmid hLl2
          cases k with
          | zero =>
            have hP0 : P = [] := List.length_eq_zero_iff.1 HMID.out.lp
            have HD := Lib.hid (HMID.out.done (fun p hp => by rw [hP0] at hp; cases hp))
            go_upto_region 6 with (fail)
            go_quiet (fail)
            obtain ⟨wa, hwa⟩ : ∃ wa, wa = wr.drewN nq := ⟨_, rfl⟩
            rw [← hwa]
            have hoA : Only (fun _ => False) w wa := by rw [hwa]; exact HO2.out.drewN _
            have hrA : wa.ownsRow w.heap.size 3 1 (.slice (some ⟨g, 0, none⟩) l.length gc) l.length (rowI L2) := by rw [hwa]; exact owns_drewI HROW2.out _
            have HOA := Lib.hid hoA
            have HRA := Lib.hid hrA
            clear hoA hrA
            clear hwa hP0
            go_wp2_with fail
            go_roundg (l.length - (i + 1))
            case measure => rw [Hg.out]; omega
            case rel => exact ⟨i + 1, L2, by go_num, by omega, by omega, HOA.out, HRA.out, HLL2.out, HPERM2.out, HD.out, rfl⟩
          | succ k =>
            have hPl := HMID.out.lp
            obtain ⟨P', p, rfl⟩ : ∃ P' p, P = P' ++ [p] := ⟨_, _, (List.dropLast_concat_getLast (by intro e; subst e; cases hPl)).symm⟩
            obtain ⟨e1, e2, e3⟩ := HMID.out.at
            have hk1 : k + 1 < L2.length := (List.getElem?_eq_some_iff.1 e2).1
            have c1 := owns_cellI HROW2.out k (by omega)
            have c2 := owns_cellI HROW2.out (k + 1) hk1
            rw [show L2[k] = p from Option.some.inj ((List.getElem?_eq_getElem (by omega)).symm.trans e1)] at c1
            rw [show L2[k + 1] = x from Option.some.inj ((List.getElem?_eq_getElem hk1).symm.trans e2)] at c2
            have hcast : ((k + 1 : Nat) : Int) = (k : Int) + 1 := by omega
            rw [hcast]
            have hwk : IntKind.i64.wrap ((k : Int) + 1 - 1) = (k : Int) := by rw [IntKind.wrap_i64]; omega
            have hk0 : (0 : Int) < (k : Int) + 1 := by omega
            have hk2 : (0 : Int) ≤ (k : Int) := by omega
            have hkl : (k : Int) + 1 < (l.length : Int) := by have := HLL2.out; omega
            have hkl2 : (k : Int) < (l.length : Int) := by omega
            have HE3 := Lib.hid e3
            clear e1 e2 e3 hPl hcast
            by_cases hx : x < p
            · have HX := Lib.hid hx
              have HPS := Lib.hid (show ((L2.set k x).set (k + 1) p).Perm L2 from perm_set (P := P') (Q := Q) (R := R) (by rw [HMID.out.eq]; simp) HE3.out)
              have HMS := Lib.hid (HMID.out.swap hx)
              have f1 := owns_freeI HROW2.out k
              have f2 := owns_freeI HROW2.out (k + 1)
              go_upto_region 6 with (fail)
              go_quiet (fail)
              obtain ⟨wa, hwa⟩ : ∃ wa, wa = wr.drewN nq := ⟨_, rfl⟩
              rw [← hwa]
              have hoA : Only (fun _ => False) w wa := by rw [hwa]; exact HO2.out.drewN _
              have hrA : wa.ownsRow w.heap.size 3 1 (.slice (some ⟨g, 0, none⟩) l.length gc) l.length (rowI L2) := by rw [hwa]; exact owns_drewI HROW2.out _
              have c1 : wa.cell? ⟨g, k, none⟩ = some (.int .i64 p) := by rw [hwa]; simpa using c1
              have c2 : wa.cell? ⟨g, k + 1, none⟩ = some (.int .i64 x) := by rw [hwa]; simpa using c2
              have f1 := owns_freeI hrA k
              have f2 := owns_freeI hrA (k + 1)
              have HOA := Lib.hid hoA
              have HRA := Lib.hid hrA
              clear hoA hrA
              clear hwa
              go_upto_region 8 with (fail)
              go_region
              all_goals (
                go_wp2_with fail
                go_roundg k
                case measure => rw [Hgk.out]; omega
                case rel =>
                  refine ⟨k, (L2.set k x).set (k + 1) p, P', x, p :: Q, R, rfl, by omega, ((HOA.out.setCell (p := ⟨g, k, none⟩) (.inl HGB.out) _).setCell (p := ⟨g, k + 1, none⟩) (.inl HGB.out) _).drew, ?_, by rw [List.length_set, List.length_set]; exact HLL2.out, HPS.out.trans HPERM2.out, HMS.out, rfl⟩
                  exact owns_only (owns_setI (owns_setI HRA.out k x) (k + 1) p) ((Only.refl (fun _ => False) _).drew) (fun _ _ => id))
            · have HX := Lib.hid hx
              have HD := Lib.hid (HMID.out.done (HMID.out.below hx))
              go_upto_region 6 with (fail)
              go_quiet (fail)
              obtain ⟨wa, hwa⟩ : ∃ wa, wa = wr.drewN nq := ⟨_, rfl⟩
              rw [← hwa]
              have hoA : Only (fun _ => False) w wa := by rw [hwa]; exact HO2.out.drewN _
              have hrA : wa.ownsRow w.heap.size 3 1 (.slice (some ⟨g, 0, none⟩) l.length gc) l.length (rowI L2) := by rw [hwa]; exact owns_drewI HROW2.out _
              have HOA := Lib.hid hoA
              have HRA := Lib.hid hrA
              clear hoA hrA
              clear hwa c1 c2
              go_wp2_with fail
              go_roundg (l.length - (i + 1))
              case measure => rw [Hg.out]; omega
              case rel => exact ⟨i + 1, L2, by go_num, by omega, by omega, HOA.out, HRA.out, HLL2.out, HPERM2.out, HD.out, rfl⟩
      · have hlt' : ¬ (i : Int) < (l.length : Int) := by omega
        have HS := Lib.hid (show L.Pairwise (· ≤ ·) by have := HSRT.out; rwa [List.take_of_length_le (by have := HLL.out; omega)] at this)
        go_wp2_with fail
        go_ret
        refine ⟨.slice (some ⟨g, 0, none⟩) l.length gc, L, rfl, HO.out, ?_, HPERM.out, HS.out⟩
        rw [HLL.out]
        exact HROW.out
end Go.Proofs.Ytjgcbcahikemdaa
/-! MeshPlays: what the law holds between its acts. -/
namespace Go.Proofs.Ytjgcbcahikemdaa
open Go.Conc Go.RowKit Go.Maps

set_option maxRecDepth 100000 in
theorem mnodes_srt (w : World) (m lb pb : Nat) (lv : List Int) (L : PMap) (h : MeshAt w m lb pb lv L) (hl : lv.length ≤ 1000000) :
    Calls Try.prog 35 #[.pointer (some ⟨m, 0, none⟩)] w fun e w' => ∃ (v : Value) (ss : List Int), e = .returned v ∧ Only (fun _ => False) w w' ∧ ss.Perm lv ∧ Sl w' 1 v ss.length (rowI ss) ∧ ss.Pairwise (· ≤ ·) := by
  have c0 : w.cell? ⟨m, 0, none⟩ = some (.map (some lb)) := cell_at h.blk 0
  have hsz : Maps.size (mapD Try.prog 3 intV Value.bool (lv.map (·, true))) ≤ 1000000 := by rw [size_mapD, List.length_map]; exact hl
  have hsrt := sortedI_any lb _ _ _ w h.live.own (by unfold maxLen; omega) (by omega)
  have hkeys := intKeys_lv h.live
  have HS := Lib.hid hsrt
  have HK := Lib.hid hkeys
  clear hsrt hkeys
  clear hsz h hl
  go_enter Try.func35, Try.ntmps35
  go_wp2_with fail
  refine (lkeys_any (some lb) w).mono ?_
  rintro e w1 ⟨rfl, rfl⟩
  clear c0
  go_wp2_with fail
  refine HS.out.mono ?_
  rintro e w2 ⟨v, ss, rfl, hp, hrow, hnil, hb⟩
  go_wp2_with fail
  go_ret
  refine ⟨v, ss.mergeSort (fun x y => decide (x ≤ y)), rfl, ((Only.refl _ _).alloc _).trans (Only.of_below hb), ((List.mergeSort_perm ss _).trans hp).trans HK.out, ?_, ?_⟩
  · have h3 := Sl.of_owns hrow
    rw [← List.length_mergeSort (le := fun x y => decide (x ≤ y)) ss] at h3
    exact h3
  · have h4 := List.pairwise_mergeSort (le := fun (x y : Int) => decide (x ≤ y)) (fun a b c h1 h2 => by simp at *; omega) (fun a b => by simp; omega) ss
    exact h4.imp (fun h => by simpa using h)
theorem mrun_nodes2 {w w1 : World} {m lb pb : Nat} {lv : List Int} {G : Ways} {n : Nat} (h : MRun w w1 m lb pb lv G n) (hl : lv.length ≤ 1000000) :
    Calls Try.prog 35 #[.pointer (some ⟨m, 0, none⟩)] w1 fun e w' => ∃ (v : Value) (ss : List Int), e = .returned v ∧ Only (fun _ => False) w1 w' ∧ ss.Perm lv ∧ Sl w' 1 v ss.length (rowI ss) ∧ ss.Pairwise (· ≤ ·) := by
  obtain ⟨L, k1, _⟩ := h.out
  exact mnodes_srt w1 m lb pb lv L k1 hl
theorem mdown_no (w : World) (m lb pb : Nat) (lv : List Int) (L : PMap) (h : MeshAt w m lb pb lv L) (n : Int) (hn : (Lit.int .i64 n).wf = true) (hv : n ∉ lv) : Calls Try.prog 31 #[.pointer (some ⟨m, 0, none⟩), .int .i64 n] w fun e w' => e = .returned (.tuple #[]) ∧ Only (fun _ => False) w w' := by
  have HL := Lib.hid (fun w' (ho : Only (fun _ => False) w w') => mlive_no w' m lb pb lv L (h.new ho) n hn hv)
  clear h
  obtain ⟨W, hW⟩ : ∃ W, W = w.alloc (.cells #[.int .i64 n] 3) := ⟨_, rfl⟩
  have hbW : W.heap[w.heap.size]? = some (.cells #[.int .i64 n] 3 (0, 0)) := by rw [hW]; exact heap_alloc_new w _
  have hoW : Only (fun _ => False) w W := by rw [hW]; exact (Only.refl _ _).alloc _
  have hsW : W.heap.size = w.heap.size + 1 := by rw [hW]; simp
  have c0 : W.cell? ⟨w.heap.size, 0, none⟩ = some (.int .i64 n) := cell_at hbW 0
  have HOW := Lib.hid hoW
  clear hoW
  go_enter Try.func31, Try.ntmps31
  go_upto_region 1 with (fail)
  rw [← hW]
  clear hW
  go_wp2_with fail
  refine (HL.out _ HOW.out).mono ?_
  rintro e w' ⟨rfl, rfl⟩
  go_wp2_with fail
  exact bodyPost_ret (v := .tuple #[]) (results_none rfl _ _ _) rfl ⟨rfl, HOW.out⟩
theorem mrun_downno {w w1 : World} {m lb pb : Nat} {lv : List Int} {G : Ways} {n : Nat} (h : MRun w w1 m lb pb lv G n) (a : Int) (ha : (Lit.int .i64 a).wf = true) (hv : a ∉ lv) :
    Calls Try.prog 31 #[.pointer (some ⟨m, 0, none⟩), .int .i64 a] w1 fun e w' => e = .returned (.tuple #[]) ∧ Only (fun _ => False) w1 w' := by
  obtain ⟨L, k1, _⟩ := h.out
  exact mdown_no w1 m lb pb lv L k1 a ha hv
theorem mrun_ways2 {w w1 : World} {m lb pb : Nat} {lv : List Int} {G : Ways} {n : Nat} (h : MRun w w1 m lb pb lv G n) (hn : n ≤ 100000) :
    Calls Try.prog 38 #[.pointer (some ⟨m, 0, none⟩)] w1 fun e w' => WaysP w1 w' G e := by
  obtain ⟨L, k1, k2, k3, rfl, k5, k6⟩ := h.out
  exact mways_any w1 m lb pb lv L k1 (by omega)
/-- Two sorted lists without twice the same that have the same members. -/
theorem sorted_same {l k : List Int} (hl : l.Pairwise (· ≤ ·)) (hk : k.Pairwise (· ≤ ·)) (h1 : l.Nodup) (h2 : k.Nodup) (h : ∀ x, x ∈ l ↔ x ∈ k) : l = k := by
  have up : ∀ {l : List Int}, l.Pairwise (· ≤ ·) → l.Nodup → l.Pairwise (· < ·) := fun {l} a b => (a.and b).imp (fun ⟨p, q⟩ => by omega)
  exact lt_ext (lt := fun a b : Int => a < b) (fun a => by omega) (fun a b h => by omega) (up hl h1) (up hk h2) h
theorem MRun.le {w w' : World} {m lb pb : Nat} {lv : List Int} {G : Ways} {n n' : Nat} (h : MRun w w' m lb pb lv G n) (hn : n ≤ n') : MRun w w' m lb pb lv G n' := by
  obtain ⟨L, k1, k2, k3, k4, k5, k6⟩ := h.out
  exact ⟨L, k1, k2, k3, k4, by omega, k6⟩
/-- What the law holds: a mesh, the reference's live nodes and ways. -/
structure PHold (w1 w : World) (m lb pb : Nat) (v4 v5 : Value) (lv lvR : List Int) (G : Ways) (R : List WayR) (n k : Nat) : Prop where
  inv : PlayI lv lvR G R
  run : MRun w1 w m lb pb lv G n
  live : Sl w 1 v4 lvR.length (rowI lvR)
  ways : RWs w v5 R
  len : R.length ≤ k
theorem PHold.new {w1 w w' : World} {m lb pb : Nat} {v4 v5 : Value} {lv lvR : List Int} {G : Ways} {R : List WayR} {n k : Nat} (h : PHold w1 w m lb pb v4 v5 lv lvR G R n k) (ho : Only (fun _ => False) w w') : PHold w1 w' m lb pb v4 v5 lv lvR G R n k :=
  ⟨h.inv, h.run.new ho, h.live.new ho, h.ways.new ho, h.len⟩
def PSt (w1 w : World) (m lb pb i : Nat) (v4 v5 : Value) : Prop := ∃ lv lvR G R, PHold w1 w m lb pb v4 v5 lv lvR G R (30 * i + 30) (30 * i)
theorem setG_same {G : Ways} {a b : Int} {l : List (Bool × ByteArray)} (h : G a b = l) : setG G a b l = G := by
  funext x y
  unfold setG
  split
  · rename_i e; rw [e.1, e.2, h]
  · rfl
theorem psend_no {lv : List Int} {G : Ways} {a b : Int} {s : ByteArray} (h : ¬ (a ∈ lv ∧ a ≠ b)) : sendG lv G a b s = G := if_neg h
theorem psend_off {lv : List Int} {G : Ways} {a b : Int} {s : ByteArray} (h1 : a ∈ lv) (h2 : a ≠ b) (h3 : b ∉ lv) : sendG lv G a b s = brk1 G b a := by unfold sendG; rw [if_pos ⟨h1, h2⟩, if_neg h3]
theorem psend_ok {lv : List Int} {G : Ways} {a b : Int} {s : ByteArray} (h1 : a ∈ lv) (h2 : a ≠ b) (h3 : b ∈ lv) (h4 : (G a b).length < 64) : sendG lv G a b s = setG G a b (G a b ++ [(false, s)]) := by unfold sendG; rw [if_pos ⟨h1, h2⟩, if_pos h3, if_pos h4]
theorem pbreak_yes {lv : List Int} {G : Ways} {a b : Int} (h1 : a ∈ lv) (h2 : a ≠ b) (h3 : b ∈ lv) : breakG lv G a b = setG (setG G a b [(true, ⟨#[]⟩)]) b a [(true, ⟨#[]⟩)] := by unfold breakG; rw [if_pos ⟨h1, h3, h2⟩]; rfl
theorem pbreak_no {lv : List Int} {G : Ways} {a b : Int} (h : ¬ (a ∈ lv ∧ b ∈ lv ∧ a ≠ b)) : breakG lv G a b = G := if_neg h
theorem psend_full {lv : List Int} {G : Ways} {a b : Int} {s : ByteArray} (h1 : a ∈ lv) (h2 : a ≠ b) (h3 : b ∈ lv) (h4 : ¬ (G a b).length < 64) : sendG lv G a b s = setG (setG G a b [(true, ⟨#[]⟩)]) b a [(true, ⟨#[]⟩)] := by
  unfold sendG
  rw [if_pos ⟨h1, h2⟩, if_pos h3, if_neg h4]
  exact pbreak_yes h1 h2 h3
def liveN (k : Nat) : List Int := (List.range k).map (fun i : Nat => (i : Int) + 1)
theorem liveN_snoc (k : Nat) : liveN (k + 1) = liveN k ++ [(k : Int) + 1] := by unfold liveN; rw [List.range_succ, List.map_append]; rfl
theorem liveN_len (k : Nat) : (liveN k).length = k := by simp [liveN]
theorem play_start : PlayI (lvN 3) (liveN 3) (fun _ _ => []) [] := by
  refine ⟨by decide, by decide, fun x => ?_, fun x hx => ?_, fun _ _ => rfl, fun _ _ h => absurd rfl h⟩
  · rw [show lvN 3 = [1, 2, 3] by decide, show liveN 3 = [1, 2, 3] by decide]
  · rw [show lvN 3 = [1, 2, 3] by decide] at hx
    simp at hx
    omega
theorem own_blk {w : World} {base size n k : Nat} {e : TypeId} {v : Value} {xs : List Value} (h : w.ownsRow base e size v n xs) (hk : v.ownBlock = some k) : base ≤ k ∧ ∃ cs f, w.heap[k]? = some (.cells cs e f) := by
  rcases h.2 with ⟨h2, _⟩ | ⟨g, cap, cur, rfl, hb, hg, _⟩
  · rw [h2] at hk; cases hk
  · have : g = k := by simpa [Value.ownBlock] using hk
    subst this
    exact ⟨hb, _, _, hg⟩
theorem owns_keptC {w w' : World} {base size n : Nat} {e : TypeId} {v : Value} {xs : List Value} (h : w.ownsRow base e size v n xs) (hc : CellsKept w w') : w'.ownsRow base e size v n xs := by
  refine ⟨h.1, ?_⟩
  rcases h.2 with h2 | ⟨g, cap, cur, hv, hb, hg, r⟩
  · exact .inl h2
  · exact .inr ⟨g, cap, cur, hv, hb, hc _ _ _ _ hg, r⟩
/-- A mesh while another row grows. -/
theorem MRun.rowed {w1 w w' : World} {m lb pb : Nat} {lv : List Int} {G : Ways} {c base size n : Nat} {e : TypeId} {v : Value} {xs : List Value} (h : MRun w1 w m lb pb lv G c) (hr : w.ownsRow base e size v n xs) (he1 : e ≠ 105) (he2 : e ≠ 127) (hb : w1.heap.size ≤ base) (hg : w.grownBy w' v.ownBlock) : MRun w1 w' m lb pb lv G c := by
  obtain ⟨L, k1, k2, k3, k4, k5, k6⟩ := h.out
  have ho : Only (fun i => v.ownBlock = some i) w w' := (Only.refl (fun i => v.ownBlock = some i) w).grown hg (fun k e => .inr e)
  refine ⟨L, k1.kept ho (fun e2 => ?_) (fun k hf e2 => ?_) (fun x hx d hd e2 => ?_), k2.own hr hb hg, k3, k4, k5, k6⟩
  · obtain ⟨_, cs, f, h2⟩ := own_blk hr e2
    have h3 := k1.blk
    rw [h2] at h3
    simp only [Option.some.injEq, Obj.cells.injEq] at h3
    exact he1 h3.2.1
  · obtain ⟨_, cs, f, h2⟩ := own_blk hr e2
    exact k1.foot_cells hf h2
  · obtain ⟨d', hd', hp, _⟩ := k1.pipe x hx
    rw [hd] at hd'
    cases hd'
    obtain ⟨_, cs, f, h2⟩ := own_blk hr e2
    have h3 := hp.blk
    rw [h2] at h3
    simp only [Option.some.injEq, Obj.cells.injEq] at h3
    exact he2 h3.2.1
end Go.Proofs.Ytjgcbcahikemdaa
/-! MeshPlays: the contracts of both sides on one structure. -/
namespace Go.Proofs.Ytjgcbcahikemdaa
open Go.Conc Go.RowKit Go.Maps

/-- A mesh, the reference's live nodes and its ways: what lies where. -/
structure PMid (w1 w : World) (m lb pb : Nat) (v4 v5 : Value) (lv lvR : List Int) (G : Ways) (R : List WayR) (n k : Nat) : Prop where
  run : MRun w1 w m lb pb lv G n
  live : Sl w 1 v4 lvR.length (rowI lvR)
  ways : RWs w v5 R
  len : R.length ≤ k
theorem MRun.le64 {w w1 : World} {m lb pb : Nat} {lv : List Int} {G : Ways} {n : Nat} (h : MRun w w1 m lb pb lv G n) (a b : Int) : (G a b).length ≤ 64 := by
  obtain ⟨L, k1, k2, k3, rfl, k5, k6⟩ := h.out
  unfold getM
  split
  · rename_i d hd
    obtain ⟨d', e, _, hl⟩ := k1.pipe _ (look_mem hd)
    have e : some d = some d' := e
    cases e
    exact hl
  · exact Nat.zero_le _
section
variable {w1 w w' : World} {m lb pb : Nat} {v4 v5 : Value} {lv lvR lv' : List Int} {G G' : Ways} {R : List WayR} {n k n' : Nat}
theorem PHold.mid (h : PHold w1 w m lb pb v4 v5 lv lvR G R n k) : PMid w1 w m lb pb v4 v5 lv lvR G R n k := ⟨h.run, h.live, h.ways, h.len⟩
theorem PMid.hold (h : PMid w1 w m lb pb v4 v5 lv lvR G R n k) (hi : PlayI lv lvR G R) {n' k' : Nat} (hn : n ≤ n') (hk : k ≤ k') : PHold w1 w m lb pb v4 v5 lv lvR G R n' k' := ⟨hi, h.run.le hn, h.live, h.ways, Nat.le_trans h.len hk⟩
theorem PMid.new (h : PMid w1 w m lb pb v4 v5 lv lvR G R n k) (ho : Only (fun _ => False) w w') : PMid w1 w' m lb pb v4 v5 lv lvR G R n k := ⟨h.run.new ho, h.live.new ho, h.ways.new ho, h.len⟩
theorem PMid.kept (h : PMid w1 w m lb pb v4 v5 lv lvR G R n k) (hr : MRun w1 w' m lb pb lv' G' n') (hc : CellsKept w w') : PMid w1 w' m lb pb v4 v5 lv' lvR G' R n' k := ⟨hr, Sl.keptC h.live hc, h.ways.keptC hc, h.len⟩
theorem PMid.form4 (h : PMid w1 w m lb pb v4 v5 lv lvR G R n k) : ∃ a c, v4 = .slice a lvR.length c := by
  obtain ⟨_, a, c, h, _⟩ := h.live
  exact ⟨a, c, h⟩
theorem PMid.form5 (h : PMid w1 w m lb pb v4 v5 lv lvR G R n k) : ∃ a c, v5 = .slice a R.length c := by
  obtain ⟨_, a, c, h, _⟩ := h.ways.row
  exact ⟨a, c, h⟩
theorem PMid.send (h : PMid w1 w m lb pb v4 v5 lv lvR G R n k) (a b : Int) (s : ByteArray) (ha : (Lit.int .i64 a).wf = true) (hb : (Lit.int .i64 b).wf = true) (hn : n < 900000) :
    Calls Try.prog 32 #[.pointer (some ⟨m, 0, none⟩), .int .i64 a, .int .i64 b, .string s] w fun e w' => e = .returned (.tuple #[]) ∧ PMid w1 w' m lb pb v4 v5 lv lvR (sendG lv G a b s) R (n + 3) k := by
  refine (mrun_send h.run a b s ha hb hn).mono ?_
  rintro e w' ⟨rfl, h1, h2⟩
  exact ⟨rfl, h.kept h1 h2⟩
theorem PMid.brk (h : PMid w1 w m lb pb v4 v5 lv lvR G R n k) (a b : Int) (ha : (Lit.int .i64 a).wf = true) (hb : (Lit.int .i64 b).wf = true) (hn : n < 900000) :
    Calls Try.prog 29 #[.pointer (some ⟨m, 0, none⟩), .int .i64 a, .int .i64 b] w fun e w' => e = .returned (.tuple #[]) ∧ PMid w1 w' m lb pb v4 v5 lv lvR (breakG lv G a b) R (n + 2) k := by
  refine (mrun_break h.run a b ha hb hn).mono ?_
  rintro e w' ⟨rfl, h1, h2⟩
  exact ⟨rfl, h.kept h1 h2⟩
theorem PMid.take (h : PMid w1 w m lb pb v4 v5 lv lvR G R n k) (a b : Int) (ha : (Lit.int .i64 a).wf = true) (hb : (Lit.int .i64 b).wf = true) :
    Calls Try.prog 26 #[.pointer (some ⟨m, 0, none⟩), .int .i64 a, .int .i64 b] w fun e w' => ∃ x y ok rest, e = .returned (.tuple #[.agg #[.bool x, .string y], .bool ok]) ∧ Took (G a b) x y ok rest ∧ PMid w1 w' m lb pb v4 v5 lv lvR (setG G a b rest) R n k := by
  refine (mrun_take h.run a b ha hb).mono ?_
  rintro e w' ⟨x, y, ok, rest, rfl, hT, h1, h2⟩
  exact ⟨x, y, ok, rest, rfl, hT, h.kept h1 h2⟩
theorem PMid.up (h : PMid w1 w m lb pb v4 v5 lv lvR G R n k) (a : Int) (ha : a ≤ 65535) (hl : lv.length < 100000) :
    Calls Try.prog 24 #[.pointer (some ⟨m, 0, none⟩), .int .i64 a] w fun e w' => e = .returned (.tuple #[]) ∧ PMid w1 w' m lb pb v4 v5 (if 1 ≤ a then upL lv a else lv) lvR G R n k := by
  by_cases h1 : 1 ≤ a
  · rw [if_pos h1]
    refine (mrun_up h.run a h1 ha hl).mono ?_
    rintro e w' ⟨rfl, h1, h2⟩
    exact ⟨rfl, h.kept h1 h2⟩
  · rw [if_neg h1]
    refine (mup_no w _ a (.inr (.inl (by omega)))).mono ?_
    rintro e w' ⟨rfl, rfl⟩
    exact ⟨rfl, h⟩
theorem PMid.down (h : PMid w1 w m lb pb v4 v5 lv lvR G R n k) (a : Int) (ha : (Lit.int .i64 a).wf = true) (hl : lv.length ≤ 1000) (hn : n < 900000) :
    Calls Try.prog 31 #[.pointer (some ⟨m, 0, none⟩), .int .i64 a] w fun e w' => e = .returned (.tuple #[]) ∧ PMid w1 w' m lb pb v4 v5 (if a ∈ lv then outL lv a else lv) lvR (if a ∈ lv then downG lv G a else G) R (n + 2 * lv.length) k := by
  by_cases h1 : a ∈ lv
  · rw [if_pos h1, if_pos h1]
    refine (mrun_down h.run a ha h1 hl hn).mono ?_
    rintro e w' ⟨rfl, h1, h2⟩
    exact ⟨rfl, h.kept h1 h2⟩
  · rw [if_neg h1, if_neg h1]
    refine (mrun_downno h.run a ha h1).mono ?_
    rintro e w' ⟨rfl, h2⟩
    have h3 := h.new h2
    exact ⟨rfl, ⟨h3.run.le (by omega), h3.live, h3.ways, h3.len⟩⟩
theorem PMid.mlen (h : PMid w1 w m lb pb v4 v5 lv lvR G R n k) (a b : Int) (ha : (Lit.int .i64 a).wf = true) (hb : (Lit.int .i64 b).wf = true) :
    Calls Try.prog 37 #[.pointer (some ⟨m, 0, none⟩), .int .i64 a, .int .i64 b] w fun e w' => e = .returned (.int .i64 (G a b).length) ∧ w = w' := mrun_len h.run a b ha hb
theorem PMid.has (h : PMid w1 w m lb pb v4 v5 lv lvR G R n k) (x : Int) :
    Calls Try.prog 25 #[v4, .int .i64 x] w fun e w' => e = .returned (.bool (decide (x ∈ lvR))) ∧ w = w' := r03has_any w v4 lvR h.live x
theorem PMid.get (h : PMid w1 w m lb pb v4 v5 lv lvR G R n k) (a b : Int) :
    Calls Try.prog 27 #[v5, .int .i64 a, .int .i64 b] w fun e w' => ∃ v', e = .returned v' ∧ w = w' ∧ ItemSl w v' (getW R a b) := rget08_any w v5 R h.ways a b
def SetP (w1 w' : World) (m lb pb : Nat) (v4 : Value) (lv lvR : List Int) (G : Ways) (R : List WayR) (n k : Nat) (e : Ending) : Prop :=
  ∃ sa sc, e = .returned (.slice sa R.length sc) ∧ PMid w1 w' m lb pb v4 (.slice sa R.length sc) lv lvR G R n k
theorem PMid.set (h : PMid w1 w m lb pb v4 v5 lv lvR G R n k) (hk : k ≤ 100000) (a b : Int) (u : Value) (l : List (Bool × ByteArray)) (hu : ItemSl w u l) :
    Calls Try.prog 28 #[v5, .int .i64 a, .int .i64 b, u] w fun e w' => Only (fun _ => False) w w' ∧ SetP w1 w' m lb pb v4 lv lvR G (setW R a b l u) n (k + 1) e := by
  refine (rset08_any w v5 R h.ways (Nat.le_trans h.len hk) a b u l hu).mono ?_
  rintro e w' ⟨v', rfl, ho, hw⟩
  have h2 : PMid w1 w' m lb pb v4 v' lv lvR G (setW R a b l u) n (k + 1) := ⟨h.run.new ho, h.live.new ho, hw, Nat.le_trans (setW_len R a b l u) (by have := h.len; omega)⟩
  obtain ⟨sa, sc, rfl⟩ := h2.form5
  exact ⟨ho, sa, sc, rfl, h2⟩
theorem PMid.rbrk (h : PMid w1 w m lb pb v4 v5 lv lvR G R n k) : Calls Try.prog 30 #[] w fun e w' => ∃ v, e = .returned v ∧ PMid w1 w' m lb pb v4 v5 lv lvR G R n k ∧ ItemSl w' v [(true, ⟨#[]⟩)] := by
  refine (rbrk_any w).mono ?_
  rintro e w' ⟨v, rfl, ho, hi⟩
  exact ⟨v, rfl, h.new ho, hi⟩
end
end Go.Proofs.Ytjgcbcahikemdaa
