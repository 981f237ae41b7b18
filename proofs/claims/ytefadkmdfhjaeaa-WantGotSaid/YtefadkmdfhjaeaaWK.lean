/- WantGot's plain law. -/
import Derived.Test.YtefadkmdfhjaeaaWI
import Derived.Test.YtefadkmdfhjaeaaWD
import Derived.Test.YtefadkmdfhjaeaaWC
/-! WantGot's plain law. -/
namespace Go.Proofs.Ytefadkmdfhjaeaa
open Go.Conc Go.RowKit Go.Maps

/-- The key of a number. -/
def letK (k : Nat) : ByteArray := bytesOf [97 + (k : Int)]
theorem letK_size (k : Nat) : (letK k).size = 1 := rfl
theorem letK_inj {j k : Nat} (hj : j < 8) (hk : k < 8) (h : letK j = letK k) : j = k := by
  have h1 := congrArg (fun b : ByteArray => b.data.toList) h
  simp only [letK, bytesOf, List.map_cons, List.map_nil, List.cons.injEq, and_true] at h1
  have h2 := congrArg UInt8.toNat h1
  rw [UInt8.toNat_ofNat', UInt8.toNat_ofNat'] at h2
  omega
theorem letK_lt {j k : Nat} (hk : k < 8) (h : j < k) : (letK j).data.toList < (letK k).data.toList := by
  show [UInt8.ofNat (97 + (j : Int)).toNat] < [UInt8.ofNat (97 + (k : Int)).toNat]
  refine List.Lex.rel ?_
  rw [UInt8.lt_iff_toNat_lt, UInt8.toNat_ofNat', UInt8.toNat_ofNat']
  omega
theorem conv18 (w : World) (B : Nat) (x : Int) (hB : B = w.heap.size) : (convert 59 9 (.slice (some ⟨B, 0, none⟩) 1 1)).run Try.prog (w.alloc (.cells #[.int .u8 x] 5)) = .ok (.string (bytesOf [x])) (w.alloc (.cells #[.int .u8 x] 5)) :=
  run_bytes_new Try.underlying59 Try.underlying5 Try.underlying9 w B [x] 1 hB rfl (by unfold maxLen; omega)
theorem conv18d (w : World) (B : Nat) (x : Int) (hB : B = w.heap.size) : (convert 59 9 (.slice (some ⟨B, 0, none⟩) 1 1)).run Try.prog (w.alloc (.cells #[.int .u8 x] 5)).drew = .ok (.string (bytesOf [x])) (w.alloc (.cells #[.int .u8 x] 5)).drew :=
  run_bytes_new_drew Try.underlying59 Try.underlying5 Try.underlying9 w B [x] 1 hB rfl (by unfold maxLen; omega)
/-- Of each key the version, if it has one and is not dead. -/
structure GAt (L : List EntW) (best : Nat → Nat) (dead : Nat → Bool) : Prop where
  at_ : ∀ k, k < 8 → (findW L (letK k)).map EntW.q = if best k = 0 ∨ dead k = true then none else some (best k, [1 + ((k % 2 : Nat) : Int)])
  only : ∀ e ∈ L, ∃ k, k < 8 ∧ e.key = letK k
theorem GAt.start : GAt [] (fun _ => 0) (fun _ => false) := ⟨fun k _ => by simp [findW], fun e he => by cases he⟩
theorem GAt.congr {L : List EntW} {b b' : Nat → Nat} {d d' : Nat → Bool} (h : GAt L b d) (hb : ∀ k, k < 8 → b k = b' k) (hd : ∀ k, k < 8 → d k = d' k) : GAt L b' d' :=
  ⟨fun k hk => by rw [h.at_ k hk, hb k hk, hd k hk], h.only⟩
theorem findW_none_of {L : List EntW} {k : ByteArray} (h : (findW L k).map EntW.q = none) : findW L k = none := by
  cases hf : findW L k with
  | none => rfl
  | some e => rw [hf] at h; cases h
theorem findW_some_of {L : List EntW} {k : ByteArray} {q : Nat × List Int} (h : (findW L k).map EntW.q = some q) : ∃ e, findW L k = some e ∧ e.ver = q.1 ∧ e.has = q.2 := by
  cases hf : findW L k with
  | none => rw [hf] at h; cases h
  | some e =>
    rw [hf] at h
    simp only [Option.map_some, Option.some.injEq] at h
    exact ⟨e, rfl, by rw [← h]; rfl, by rw [← h]; rfl⟩
def setB (b : Nat → Nat) (k v : Nat) : Nat → Nat := fun j => if j = k then v else b j
theorem heard_got {L L' : List EntW} {C C' : List (ByteArray × (Int × Int))} {cnt cnt' at_ : Int} {best : Nat → Nat} {k v : Nat} {b : Bool} (h : GAt L best (fun _ => false)) (hk : k < 8) (hv : 1 ≤ v) (hC : C.length < 64) (h1 : HStep L C cnt L' C' cnt' (letK k) v (1 + ((k % 2 : Nat) : Int)) at_ b) :
    GAt L' (setB best k (max (best k) v)) (fun _ => false) ∧ C'.length ≤ C.length + 1 ∧ cnt ≤ cnt' ∧ cnt' ≤ cnt + 1 := by
  have hfr1 : ¬ (1 + ((k % 2 : Nat) : Int) < 1) := by omega
  have hfr2 : ¬ (65535 < 1 + ((k % 2 : Nat) : Int)) := by omega
  have hat := h.at_ k hk
  have hput : ∀ (e : EntW), e.key = letK k → e.has = [1 + ((k % 2 : Nat) : Int)] → e.ver = max (best k) v → GAt (putW L e) (setB best k (max (best k) v)) (fun _ => false) := fun e k1 k2 k3 => by
    refine ⟨fun j hj => ?_, fun e' he => ?_⟩
    · rw [findW_put, k1]
      by_cases hjk : j = k
      · subst hjk
        have hm : ¬ max (best j) v = 0 := by omega
        rw [if_pos rfl]
        simp [setB, EntW.q, k2, k3, hm]
      · rw [if_neg (fun e9 => hjk (letK_inj hk hj e9).symm), h.at_ j hj]
        simp [setB, hjk]
    · rcases List.mem_append.1 he with he | he
      · exact h.only e' (List.mem_filter.1 he).1
      · obtain rfl := List.mem_singleton.1 he
        exact ⟨k, hk, k1⟩
  have hsame : max (best k) v = best k → GAt L (setB best k (max (best k) v)) (fun _ => false) := fun e => h.congr (fun j _ => by unfold setB; split <;> simp_all) (fun _ _ => rfl)
  by_cases h0 : best k = 0
  · rw [if_pos (.inl h0)] at hat
    have hf := findW_none_of hat
    rcases h1 with ⟨_, _, _, _, f⟩ | ⟨_, _, _, f⟩
    · exfalso
      rcases f with f | f | ⟨_, f⟩ | ⟨e, f, _⟩
      · exact hfr1 f
      · exact hfr2 f
      · exact absurd hC (Nat.not_lt.2 f)
      · rw [hf] at f; cases f
    · rcases f with ⟨_, _, ⟨a, cap, e1⟩, e2, e3⟩ | ⟨e, f, _⟩
      · rw [e1, e2, e3, ← putW_new (e := ⟨letK k, v, [1 + ((k % 2 : Nat) : Int)], a, cap⟩) hf]
        exact ⟨hput _ rfl rfl (by simp only; omega), by simp, by omega, by omega⟩
      · rw [hf] at f; cases f
  · rw [if_neg (by simp [h0])] at hat
    obtain ⟨e, hf, v1, v2⟩ := findW_some_of hat
    simp only at v1 v2
    rcases h1 with ⟨_, e1, e2, e3, f⟩ | ⟨_, _, _, f⟩
    · have hlt : v < best k := by
        rcases f with f | f | ⟨f, _⟩ | ⟨e', f, g⟩
        · exact absurd f hfr1
        · exact absurd f hfr2
        · rw [hf] at f; cases f
        · rw [hf] at f; cases f
          rcases g with g | ⟨_, g, _⟩
          · omega
          · exact absurd (by rw [v2]; simp) g
      rw [e1, e2, e3]
      exact ⟨hsame (by omega), by omega, by omega, by omega⟩
    · rcases f with ⟨f, _⟩ | ⟨e', f, e2, e3, g⟩
      · rw [hf] at f; cases f
      · rw [hf] at f; cases f
        rw [e2, e3]
        rcases g with ⟨g, a, cap, e1⟩ | ⟨g, _, e1⟩ | ⟨_, g, _⟩
        · rw [e1]
          exact ⟨hput _ rfl rfl (by simp only; omega), by omega, by omega, by omega⟩
        · rw [e1]
          exact ⟨hsame (by omega), by omega, by omega, by omega⟩
        · exact absurd (by rw [v2]; simp) g
theorem got_got {L : List EntW} {best : Nat → Nat} {dead : Nat → Bool} {k : Nat} (h : GAt L best dead) (hk : k < 8) (hd : dead k = false) :
    gotB L (letK k) (best k) = decide (0 < best k) ∧ GAt (if decide (0 < best k) then dropW L (letK k) else L) best (fun j => dead j || decide (j = k)) := by
  have hat := h.at_ k hk
  by_cases h0 : best k = 0
  · rw [if_pos (.inl h0)] at hat
    have hf := findW_none_of hat
    rw [decide_eq_false (by omega)]
    refine ⟨by unfold gotB; rw [hf], ⟨fun j hj => ?_, h.only⟩⟩
    rw [if_neg (by decide), h.at_ j hj]
    by_cases hjk : j = k
    · subst hjk; simp [h0]
    · simp [hjk]
  · rw [if_neg (by simp [h0, hd])] at hat
    obtain ⟨e, hf, v1, v2⟩ := findW_some_of hat
    simp only at v1
    rw [decide_eq_true (by omega)]
    refine ⟨by unfold gotB; rw [hf]; simp [v1], ⟨fun j hj => ?_, fun e he => ?_⟩⟩
    · rw [if_pos rfl, findW_drop]
      by_cases hjk : j = k
      · subst hjk; simp
      · rw [if_neg (fun e9 => hjk (letK_inj hk hj e9).symm), h.at_ j hj]
        simp [hjk]
    · rw [if_pos rfl] at he
      exact h.only e (List.mem_filter.1 he).1
theorem lost_got {L L' : List EntW} {best : Nat → Nat} {dead : Nat → Bool} {n : Nat} (h : GAt L best dead) (hn : n < 2) (hl : LostAt (1 + (n : Int)) L (L.map (·.key)) L') : GAt L' best (fun k => dead k || decide (k % 2 = n)) := by
  have hin : ∀ k, (inD (L.map (·.key)) k = false → findW L k = none) := fun k hk => by
    cases hf : findW L k with
    | none => rfl
    | some e =>
      obtain ⟨hm, he⟩ := findW_some hf
      have := (inD_iff (L.map (·.key)) k).2 (List.mem_map.2 ⟨e, hm, he⟩)
      rw [hk] at this; cases this
  have hq : ∀ k, (findW L' k).map EntW.q = ((findW L k).map EntW.q).bind (lostQ (1 + (n : Int))) := fun k => by
    rw [hl.out k]
    cases hb : inD (L.map (·.key)) k with
    | true => rfl
    | false => rw [hin k hb]; rfl
  refine ⟨fun k hk => ?_, fun e he => ?_⟩
  · rw [hq, h.at_ k hk]
    by_cases h0 : best k = 0 ∨ dead k = true
    · rw [if_pos h0, if_pos (by rcases h0 with h0 | h0 <;> simp [h0])]; rfl
    · rw [if_neg h0]
      by_cases hkn : k % 2 = n
      · subst hkn
        rw [if_pos (by simp)]
        simp [lostQ, lessN]
      · have hne : ¬ (1 + ((k % 2 : Nat) : Int) = 1 + (n : Int)) := by omega
        have h2 : ¬ (best k = 0 ∨ (dead k || decide (k % 2 = n)) = true) := by simp [hkn] at h0 ⊢; exact h0
        rw [if_neg h2]
        show lostQ (1 + (n : Int)) (best k, [1 + ((k % 2 : Nat) : Int)]) = _
        unfold lostQ lessN
        rw [List.filter_cons_of_pos (by simpa using hne)]
        simp
  · cases hf : findW L e.key with
    | some e0 =>
      obtain ⟨hm, hk⟩ := findW_some hf
      obtain ⟨k, hk8, hkk⟩ := h.only e0 hm
      exact ⟨k, hk8, hk.symm.trans hkk⟩
    | none =>
      exfalso
      have h1 := hq e.key
      rw [hf] at h1
      have h2 : findW L' e.key = none := findW_none_of h1
      exact findW_none h2 e he rfl
/-- Which keys are told, in order. -/
def liveG (best : Nat → Nat) (dead : Nat → Bool) (n : Nat) : List Nat := (List.range n).filter (fun k => !(decide (best k = 0) || dead k))
theorem liveG_succ (best : Nat → Nat) (dead : Nat → Bool) (k : Nat) : liveG best dead (k + 1) = if (decide (best k = 0) || dead k) = true then liveG best dead k else liveG best dead k ++ [k] := by
  unfold liveG
  rw [List.range_succ, List.filter_append]
  cases h : (decide (best k = 0) || dead k)
  · rw [if_neg (by decide), List.filter_cons_of_pos (by simpa using h)]; rfl
  · rw [if_pos rfl, List.filter_cons_of_neg (by simp [h])]; simp
theorem liveG_at (best : Nat → Nat) (dead : Nat → Bool) {k n : Nat} (hk : k < n) (hl : (decide (best k = 0) || dead k) = false) : (liveG best dead n)[(liveG best dead k).length]? = some k := by
  induction n with
  | zero => omega
  | succ n ih =>
    by_cases hkn : k = n
    · subst hkn
      rw [liveG_succ, if_neg (by rw [hl]; decide), List.getElem?_append_right (Nat.le_refl _)]
      simp
    · have h1 := ih (by omega)
      have h2 := (List.getElem?_eq_some_iff.1 h1).1
      rw [liveG_succ]
      split
      · exact h1
      · rw [List.getElem?_append_left h2]; exact h1
theorem sorted_same {α : Type} (lt : α → α → Prop) (has : ∀ a b, lt a b → lt b a → False) : ∀ {l m : List α}, l.Pairwise lt → m.Pairwise lt → (∀ x, x ∈ l ↔ x ∈ m) → l = m
  | [], [], _, _, _ => rfl
  | [], b :: m, _, _, h => absurd ((h b).2 (by simp)) (by simp)
  | a :: l, [], _, _, h => absurd ((h a).1 (by simp)) (by simp)
  | a :: l, b :: m, hl, hm, h => by
    obtain ⟨l1, l2⟩ := List.pairwise_cons.1 hl
    obtain ⟨m1, m2⟩ := List.pairwise_cons.1 hm
    have hab : a = b := by
      rcases List.mem_cons.1 ((h a).1 (by simp)) with e | e
      · exact e
      · rcases List.mem_cons.1 ((h b).2 (by simp)) with e2 | e2
        · exact e2.symm
        · exact (has _ _ (l1 b e2) (m1 a e)).elim
    subst hab
    congr 1
    refine sorted_same lt has l2 m2 (fun x => ⟨fun hx => ?_, fun hx => ?_⟩)
    · rcases List.mem_cons.1 ((h x).1 (by simp [hx])) with e | e
      · subst e; exact (has _ _ (l1 x hx) (l1 x hx)).elim
      · exact e
    · rcases List.mem_cons.1 ((h x).2 (by simp [hx])) with e | e
      · subst e; exact (has _ _ (m1 x hx) (m1 x hx)).elim
      · exact e
theorem told_got {L S : List EntW} {best : Nat → Nat} {dead : Nat → Bool} (h : GAt L best dead) (hap : L.Pairwise (fun p q => p.key ≠ q.key)) (hs : SortedW S L) : S.map (fun e => (e.key, e.ver)) = (liveG best dead 8).map (fun k => (letK k, best k)) := by
  have hkeys : S.map (·.key) = (liveG best dead 8).map letK := by
    refine sorted_same (fun a b : ByteArray => a.data.toList < b.data.toList) (fun a b h1 h2 => absurd h2 (List.lt_asymm h1)) ?_ ?_ (fun x => ⟨fun hx => ?_, fun hx => ?_⟩)
    · rw [List.pairwise_map]; exact hs.2
    · rw [List.pairwise_map]
      unfold liveG
      refine List.Pairwise.imp_of_mem ?_ ((List.pairwise_lt_range (n := 8)).filter _)
      intro a b ha hb hab
      exact letK_lt (List.mem_range.1 (List.mem_filter.1 hb).1) hab
    · obtain ⟨e, he, rfl⟩ := List.mem_map.1 hx
      have heL := hs.1.mem_iff.1 he
      obtain ⟨k, hk, hek⟩ := h.only e heL
      have h1 := h.at_ k hk
      rw [← hek, findW_mem hap heL] at h1
      refine List.mem_map.2 ⟨k, List.mem_filter.2 ⟨List.mem_range.2 hk, ?_⟩, hek.symm⟩
      by_cases h0 : best k = 0 ∨ dead k = true
      · rw [if_pos h0] at h1; cases h1
      · simpa using h0
    · obtain ⟨k, hkm, rfl⟩ := List.mem_map.1 hx
      obtain ⟨hk, hl⟩ := List.mem_filter.1 hkm
      have hk8 := List.mem_range.1 hk
      have h1 := h.at_ k hk8
      rw [if_neg (by simpa using hl)] at h1
      obtain ⟨e, hf, _⟩ := findW_some_of h1
      obtain ⟨hm, hek⟩ := findW_some hf
      exact List.mem_map.2 ⟨e, hs.1.mem_iff.2 hm, hek⟩
  refine List.ext_getElem (by have := congrArg List.length hkeys; simpa using this) (fun i h1 h2 => ?_)
  rw [List.getElem_map, List.getElem_map]
  have hi : i < S.length := by simpa using h1
  have hi2 : i < (liveG best dead 8).length := by simpa using h2
  have hk : S[i].key = letK (liveG best dead 8)[i] := by
    have h3 : (S.map (·.key))[i]'(by simpa using hi) = ((liveG best dead 8).map letK)[i]'(by simpa using hi2) := by simp only [hkeys]
    rwa [List.getElem_map, List.getElem_map] at h3
  have hmem := List.getElem_mem hi2
  obtain ⟨hkr, hl⟩ := List.mem_filter.1 (show (liveG best dead 8)[i] ∈ (List.range 8).filter _ from hmem)
  have h4 := h.at_ _ (List.mem_range.1 hkr)
  rw [if_neg (by simpa using hl), ← hk, findW_mem hap (hs.1.mem_iff.1 (List.getElem_mem hi))] at h4
  simp only [Option.map_some, EntW.q, Option.some.injEq, Prod.mk.injEq] at h4
  rw [hk, h4.1]
end Go.Proofs.Ytefadkmdfhjaeaa
