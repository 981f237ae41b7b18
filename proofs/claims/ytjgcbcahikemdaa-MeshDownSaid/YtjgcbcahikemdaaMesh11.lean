/- A mesh: the ways to a node are struck. -/
import Derived.Test.YtjgcbcahikemdaaMesh10
namespace Go.Proofs.Ytjgcbcahikemdaa
open Go.Conc Go.RowKit Go.Maps
open Go.ChangeMaps (notKey rising_of_pairwise)

theorem del_mapD {α β : Type} [DecidableEq α] {P : Program} {k : TypeId} {κ : α → Value} {ε : β → Value} {w : World} {b : Nat} {L : List (α × β)} (h : MapIs P k κ ε w b L) (K : Keyed P k) (hκ : ∀ a b, κ a = κ b → a = b) {x : α} {kl : Lit} (hkl : keyOf P k (κ x) = some kl) : (mapD P k κ ε L).del kl = mapD P k κ ε (dropL L x) := by
  unfold mapD
  rw [DataW.del_eq]
  congr 1
  refine (sorted_del K.one h.kinds (h.ents K hκ) ?_).symm
  have : (dropL L x).map (entL P k κ ε) = (L.map (entL P k κ ε)).filter (notKey kl) := by
    rw [List.filter_map]
    congr 1
    refine List.filter_congr (fun p hp => ?_)
    have hi : notKey kl (entL P k κ ε p) = true ↔ keyL P k κ p.1 ≠ kl := notKey_iff (K.key hkl)
    rw [Function.comp_apply, Bool.eq_iff_iff, hi]
    constructor
    · intro hp'
      rw [← keyL_of hkl]
      exact keyL_ne K hκ (h.keys p hp) ⟨_, hkl⟩ (by simpa using hp')
    · intro hne
      have : p.1 ≠ x := by rintro e1; exact hne (by rw [e1]; exact keyL_of hkl)
      simpa using this
  rw [this]
/-- A map under a range, of which some entries have been struck. -/
theorem MapIs.of_ranges {α β : Type} {P : Program} {k : TypeId} {κ : α → Value} {ε : β → Value} {w w' : World} {b r n : Nat} {L : List (α × β)} {q : α × β → Bool} {left : Lit → Bool} {cnt : Nat} (h : MapIs P k κ ε w b L) (hr : w'.ranges P k heldE b r n (mapD P k κ ε (L.filter q)) left cnt) : MapIs P k κ ε w' b (L.filter q) := by
  refine ⟨?_, h.apart.filter _, fun p hp => h.keys p (List.mem_filter.1 hp).1⟩
  have := own_tight hr.owns
  rwa [size_mapD] at this
set_option maxRecDepth 100000 in
theorem del1_any (w : World) (a b n : Int) (o : Value) (q : Nat) (hc : w.cell? ⟨q, 0, none⟩ = some (.int .i64 n)) : Calls Try.prog 58 #[.agg #[.int .i64 a, .int .i64 b], o, .pointer (some ⟨q, 0, none⟩)] w fun e w' => e = .returned (.bool (b == n)) ∧ Only (fun _ => False) w w' := by
  obtain ⟨W, hW⟩ : ∃ W, W = w.alloc (.cells #[.int .i64 a, .int .i64 b] 108) := ⟨_, rfl⟩
  have hbW : W.heap[w.heap.size]? = some (.cells #[.int .i64 a, .int .i64 b] 108 (0, 0)) := by rw [hW]; exact heap_alloc_new w _
  have hoW : Only (fun _ => False) w W := by rw [hW]; exact (Only.refl _ _).alloc _
  have hsW : W.heap.size = w.heap.size + 1 := by rw [hW]; simp
  have x1 : W.cell? ⟨w.heap.size, 1, none⟩ = some (.int .i64 b) := cell_at hbW 1
  have hcW := hoW.cell hc id
  have HO := Lib.hid hoW
  have HW := Lib.hid hW
  clear hW hoW hbW hsW hc
  go_enter Try.func58, Try.ntmps58
  go_upto_region 1 with (fail)
  rw [← HW.out]
  go_wp2_with fail
  go_ret
  exact ⟨rfl, HO.out⟩
/-- The entry that has come, struck or not. -/
theorem entry_q {w : World} {pb : Nat} {L : PMap} (h : WMap w pb L) {n : Int} {q : (Int × Int) × Option PipeD → Bool} {left : Lit → Bool} {kl : Lit} {p0 : (Int × Int) × Option PipeD} (hp0 : p0 ∈ L) (hkl : keyOf Try.prog 108 (wayV p0.1) = some kl)
    (h2 : ∀ p ∈ L, q p = true → p.1.2 = n → left (keyL Try.prog 108 wayV p.1) = true) (q' : (Int × Int) × Option PipeD → Bool) (hq : ∀ p ∈ L, q' p = true → q p = true) (hne : ∀ p ∈ L, q' p = true → p.1.2 = n → p.1 ≠ p0.1) :
    ∀ p ∈ L, q' p = true → p.1.2 = n → (left (keyL Try.prog 108 wayV p.1) && !(keyL Try.prog 108 wayV p.1).sameKey kl) = true := by
  intro p hp hqp hn
  rw [h2 p hp (hq p hp hqp) hn]
  have h3 : keyL Try.prog 108 wayV p.1 ≠ keyL Try.prog 108 wayV p0.1 := keyL_ne wayKeyed wayInj (h.keys p hp) (h.keys p0 hp0) (hne p hp hqp hn)
  rw [keyL_of hkl] at h3
  cases hs : (keyL Try.prog 108 wayV p.1).sameKey kl
  · rfl
  · exact absurd (WideAt.sameKey_eq hs) h3
set_option maxRecDepth 100000 in
set_option maxHeartbeats 4000000 in
theorem delw_any (w : World) (pb : Nat) (L : PMap) (h : WMap w pb L) (n : Int) (qb : Nat) (hc : w.cell? ⟨qb, 0, none⟩ = some (.int .i64 n)) (hqb : qb ≠ pb) :
    Calls Try.prog 57 #[.map (some pb), .func (.func 58) #[] #[.pointer (some ⟨qb, 0, none⟩)]] w fun e w' => e = .returned (.tuple #[]) ∧ WMap w' pb (L.filter (fun p => !decide (p.1.2 = n))) ∧ Only (fun i => i = pb) w w' := by
  have HM := Lib.hid h
  have HC := Lib.hid hc
  have hown := h.own
  clear h hc
  go_enter Try.func57, Try.ntmps57
  go_wp2_with (first
    | (at_range; refine wpList_range_own _ rfl _ 103 rfl 108 106 wayKeyed Try.underlying103 _ pb _ _ rfl hown ?_; intro w0 hrg0 hg0 hs0)
    | fail)
  go_frame
  have ho0 : Only (fun i => i = pb) w w0 := ((Only.refl (fun _ => False) w).grown hg0 (fun k hk => by cases hk)).weaken (fun _ _ => False.elim)
  have e0 : L = L.filter (fun _ => true) := (List.filter_eq_self.2 (fun _ _ => rfl)).symm
  have hrg0' : w0.ranges Try.prog 108 heldE pb w.heap.size L.length (mapD Try.prog 108 wayV ptrV (L.filter (fun _ => true))) (Maps.has (mapD Try.prog 108 wayV ptrV L)) (Maps.size (mapD Try.prog 108 wayV ptrV L)) := by rw [← e0]; exact hrg0
  have hst : ∀ p ∈ L, (fun _ => true) p = true → p.1.2 = n → Maps.has (mapD Try.prog 108 wayV ptrV L) (keyL Try.prog 108 wayV p.1) = true := by
    intro p hp _ _
    refine Maps.has_true_of_atKey (y := .held (ptrV p.2)) (fun z => ?_)
    obtain ⟨l, hl⟩ := HM.out.keys p hp
    have ha := WideShapes.atKey_sorted (L.map (entL Try.prog 108 wayV ptrV)) (rising_of_pairwise _ (sorted_sorted wayKeyed.one _ HM.out.kinds (HM.out.ents wayKeyed wayInj))) (keyL Try.prog 108 wayV p.1) (by rw [keyL_of hl]; exact wayKeyed.key hl)
    exact ha.2 (entL Try.prog 108 wayV ptrV p) (List.mem_map.2 ⟨_, hp, rfl⟩) rfl z
  clear hown hrg0 e0
  go_loopw [5] (fun _ wr => ∃ (q : (Int × Int) × Option PipeD → Bool) (left : Lit → Bool) (cnt : Nat), wr.ranges Try.prog 108 heldE pb w.heap.size L.length (mapD Try.prog 108 wayV ptrV (L.filter q)) left cnt ∧ Only (fun i => i = pb) w wr ∧ (∀ p ∈ L, p.1.2 ≠ n → q p = true) ∧ (∀ p ∈ L, q p = true → p.1.2 = n → left (keyL Try.prog 108 wayV p.1) = true))
    (fun _ wr => wr.rangeLeft pb w.heap.size)
  case atStart => exact ⟨fun _ => true, _, _, hrg0', ho0, fun _ _ _ => rfl, hst⟩
  case round =>
    obtain ⟨q, left, cnt, hrg, hgw, hq1, hq2⟩ := hrel
    clear hrg0' hg0 hs0 ho0 hst
    go_wp2_with (first
      | (at_next; refine wpList_next_ranges _ rfl _ rfl 108 wayKeyed heldE (fun v => v) (fun v => v) (fun key kl _ => ⟨key, rfl⟩) (fun v y _ => ⟨v, rfl⟩) pb w.heap.size _ _ _ _ rfl hrg ?_ ?_)
      | fail)
    · intro _ hl0
      have hF := HM.out.of_ranges hrg
      have e1 : L.filter q = L.filter (fun p => !decide (p.1.2 = n)) := List.filter_congr (fun p hp => by
        by_cases hn : p.1.2 = n
        · rw [decide_eq_true hn]
          cases hqp : q p
          · rfl
          · have := hq2 p hp hqp hn
            rw [hl0] at this
            cases this
        · rw [decide_eq_false hn]; exact hq1 p hp hn)
      rw [e1] at hF
      clear hrg e1 hq1 hq2
      go_wp2_with fail
      go_end0
      exact ⟨rfl, hF, hgw⟩
    · intro x c kl yd yp w1 cnt1 hkey hlk hR hat hrg1 hlt hg1 hs1 hen
      have hy : yd = .held c := by
        unfold heldE at hR
        exact (Prod.mk.inj (Option.some.inj hR)).1.symm
      subst hy
      have hMr := HM.out.of_ranges hrg
      obtain ⟨⟨⟨a, b⟩, o⟩, hp, rfl, rfl⟩ := hMr.entry wayKeyed wayInj hkey hat
      have hpL := (List.mem_filter.1 hp).1
      have hgw1 := hgw.grown hg1 (fun k hk => by cases hk; exact Or.inl (Nat.le_refl _))
      have hc1 := hgw1.cell HC.out hqb
      have HD1 := Lib.hid (fun w' (ho : Only (fun _ => False) w1 w') => del1_any w' a b n (ptrV o) qb (ho.cell hc1 id))
      have HEQ := Lib.hid (fun q' => entry_q HM.out (n := n) (q := q) (left := left) hpL hkey hq2 q')
      have HQ1 := Lib.hid hq1
      have HMR := Lib.hid hMr
      have HW1 := Lib.hid hgw1
      have HR0 := Lib.hid hrg
      have HLT := Lib.hid hlt
      have HPL := Lib.hid hpL
      have HKY := Lib.hid hkey
      clear hq1 hMr hgw1 hrg hlt hpL hkey
      clear hq2 hp hgw hat hg1 hc1 hR hlk
      simp only [wayV] at hen ⊢
      by_cases hbn : b = n
      · subst hbn
        have HD2 := Lib.hid (fun w' (ho : Only (fun _ => False) w1 w') => HD1.out w' ho)
        rw [show (b == b) = true by simp] at HD2
        clear HD1
        go_wp2_with fail
        obtain ⟨W2, hW2⟩ : ∃ W2, W2 = w1.alloc (.cells #[.int .i64 a, .int .i64 b] 108) := ⟨_, rfl⟩
        have hbW2 : W2.heap[w1.heap.size]? = some (.cells #[.int .i64 a, .int .i64 b] 108 (0, 0)) := by rw [hW2]; exact heap_alloc_new w1 _
        have hoW2 : Only (fun _ => False) w1 W2 := by rw [hW2]; exact (Only.refl _ _).alloc _
        have hsW2 : W2.heap.size = w1.heap.size + 1 := by rw [hW2]; simp
        rw [hs1] at hbW2
        rw [← hW2]
        clear hW2 hen
        refine (HD2.out _ hoW2).mono ?_
        rintro e w2 ⟨rfl, ho2⟩
        have hb2 := ho2.old hbW2 id
        have x0 : w2.cell? ⟨wr.heap.size, 0, none⟩ = some (.int .i64 a) := cell_at hb2 0
        have x1 : w2.cell? ⟨wr.heap.size, 1, none⟩ = some (.int .i64 b) := cell_at hb2 1
        have ho12 := hoW2.trans ho2
        have hrg2 := ranges_at hrg1 ho12
        have hkey := HKY.out
        have HW2 := Lib.hid (HW1.out.trans (ho12.weaken (T := fun i => i = pb) (fun _ _ => False.elim)))
        clear hb2 hoW2 hbW2 ho2 ho12 hrg1 hs1 hsW2
        go_wp2_with (first
          | (at_delete; refine wpList_delete_ranges _ rfl _ _ 103 108 rfl 106 wayKeyed Try.underlying103 heldE pb w.heap.size L.length _ _ _ rfl hrg2 _ _ rfl hkey ?_; intro w3 cnt3 hrg3 hle hturn; go_frame)
          | fail)
        rw [strike_twice, del_mapD HMR.out wayKeyed wayInj hkey] at hrg3
        have e1 : dropL (L.filter q) (a, b) = L.filter (fun p => !decide (p.1 = (a, b)) && q p) := by unfold dropL; rw [List.filter_filter]
        have hr3 : w3.ranges Try.prog 108 heldE pb w.heap.size L.length (mapD Try.prog 108 wayV ptrV (L.filter (fun p => !decide (p.1 = (a, b)) && q p))) (fun z => left z && !z.sameKey kl) cnt3 := by rw [← e1]; exact hrg3
        have hw3 := HW2.out.grown hturn.grown (fun k hk => by cases hk; exact Or.inr rfl)
        have hA : ∀ p ∈ L, p.1.2 ≠ b → (!decide (p.1 = (a, b)) && q p) = true := fun p hp hne => by
          rw [decide_eq_false (fun e => hne (by rw [e])), HQ1.out p hp hne]
          rfl
        have hB := HEQ.out (fun p => !decide (p.1 = (a, b)) && q p) (fun p _ h => by simp at h; exact h.2) (fun p _ h _ => by simp at h; exact h.1)
        go_roundw
        case rel => exact ⟨_, _, cnt3, hr3, hw3, hA, hB⟩
        case measure => rw [hr3.left_eq, HR0.out.left_eq]; have := HLT.out; omega
      · have HD2 := Lib.hid (fun w' (ho : Only (fun _ => False) w1 w') => HD1.out w' ho)
        rw [show (b == n) = false by simpa using hbn] at HD2
        clear HD1
        go_wp2_with fail
        obtain ⟨W2, hW2⟩ : ∃ W2, W2 = w1.alloc (.cells #[.int .i64 a, .int .i64 b] 108) := ⟨_, rfl⟩
        have hbW2 : W2.heap[w1.heap.size]? = some (.cells #[.int .i64 a, .int .i64 b] 108 (0, 0)) := by rw [hW2]; exact heap_alloc_new w1 _
        have hoW2 : Only (fun _ => False) w1 W2 := by rw [hW2]; exact (Only.refl _ _).alloc _
        have hsW2 : W2.heap.size = w1.heap.size + 1 := by rw [hW2]; simp
        rw [← hW2]
        clear hW2 hen hbW2 hsW2
        refine (HD2.out _ hoW2).mono ?_
        rintro e w2 ⟨rfl, ho2⟩
        have ho12 := hoW2.trans ho2
        have hr3 := ranges_at hrg1 ho12
        have hw3 := HW1.out.trans (ho12.weaken (T := fun i => i = pb) (fun _ _ => False.elim))
        have hB := HEQ.out q (fun p _ h => h) (fun p _ _ hn e => hbn (by rw [e] at hn; exact hn))
        clear hoW2 ho2 ho12 hrg1 hs1
        go_wp2_with fail
        go_roundw
        case rel => exact ⟨_, _, cnt1, hr3, hw3, HQ1.out, hB⟩
        case measure => rw [hr3.left_eq, HR0.out.left_eq]; exact HLT.out
end Go.Proofs.Ytjgcbcahikemdaa
