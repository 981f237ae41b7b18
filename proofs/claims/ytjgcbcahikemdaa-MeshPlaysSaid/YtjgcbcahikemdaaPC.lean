/- A slice of structs that came in (bellhoplaw08.Act), as a list. -/
import Derived.Test.YtjgcbcahikemdaaPB
import Derived.Test.YtjgcbcahikemdaaIterI
import Derived.Maps.RangeWalk
import Derived.Shelf.SlIterI.Nil
import Derived.Shelf.SlIterI.Sorted
import Derived.Shelf.SortM.Plain
import Derived.Shelf.SortM.SortNone
import Derived.Test.YtjgcbcahikemdaaPA
/-! A mesh: Nodes. -/
namespace Go.Proofs.Ytjgcbcahikemdaa
open Go.Conc Go.RowKit Go.Maps Go.Sort Go.Shelf

theorem sortsI (m : Nat) : AnyZI.SortsIn Try.prog Try.sortedI_ren Fence.wide m :=
  ⟨fun blk off cap ss W hH hblk hsz => callsIn_wide.2 (AnyM.slices_Sort_int Try.sortI blk off cap ss W hH hblk hsz),
   fun p cap W => callsIn_wide.2 (AnyM.slices_Sort_int_none Try.sortI p cap W)⟩
theorem lkeys_any (mb : Option Nat) (W : World) : Calls Try.prog 61 #[.map mb] W fun e w' => e = .returned (.func (.func 78) #[] #[.pointer (some ⟨W.heap.size, 0, none⟩)]) ∧ w' = W.alloc (.cells #[.map mb] 102) :=
  callsIn_wide.1 (AnyZI.keys_in Try.keysL Fence.wide 5 trivial rfl mb W)
theorem sortedI_any {H : Type} (b nn : Nat) (D0 : DataW H) (R : Value → Option (DataW H × List MemPlace)) (w : World) (hown : w.ownsMap Try.prog 3 R b nn D0) (hmax : Maps.size D0 ≤ maxLen) (hbytes : Maps.size D0 * 8 ≤ 140737488355328) :
    Calls Try.prog 60 #[.func (.func 78) #[] #[.pointer (some ⟨w.heap.size, 0, none⟩)]] (w.alloc (.cells #[.map (some b)] 102)) fun e w' => ∃ (v : Value) (ss : List Int), e = .returned v ∧ ss.Perm (intKeys D0) ∧
      w'.ownsRow (w.alloc (.cells #[.map (some b)] 102)).heap.size 3 1 v ss.length ((ss.mergeSort (fun x y => decide (x ≤ y))).map encZ) ∧ (v = .slice none 0 0 ↔ ss = []) ∧ Below (w.alloc (.cells #[.map (some b)] 102)).heap.size (w.alloc (.cells #[.map (some b)] 102)) w' := by
  have hbl := hown.lt
  have hseq : SeqGives Fence.wide 2 Try.prog 78 #[.pointer (some ⟨w.heap.size, 0, none⟩)] encZ (fun ss => ss.Perm (intKeys D0)) (Maps.size D0) (w.alloc (.cells #[.map (some b)] 102)) :=
    AnyZI.keys_gives (ρ := Try.keysL_ren) { Try.keysL with } Fence.wide _ trivial rfl (by omega) w.heap.size b nn D0 _ (by simp) (by simp) (by
      obtain ⟨es, clock, hb, Ft, hs, hD⟩ := hown
      exact ⟨es, clock, (Below.heap_alloc _ _ b hbl).trans hb, Ft, hs, hD⟩)
  exact callsIn_wide.1 (AnyZI.sorted_in Try.sortedI Fence.wide 5 trivial trivial trivial trivial rfl (by omega) (sortsI _) (enters_of Try.func77 (by kernel_rfl) rfl) 78 #[.pointer (some ⟨w.heap.size, 0, none⟩)] trivial (enters_of Try.func78 (by kernel_rfl) rfl) _ _ hmax hbytes _ hseq)
theorem intKeys_lv {w : World} {b : Nat} {lv : List Int} (h : LMap w b lv) : (intKeys (mapD Try.prog 3 intV Value.bool (lv.map (·, true)))).Perm lv := by
  have h1 : (((lv.map (·, true)).map (entL Try.prog 3 intV Value.bool)).foldr DataW.insert []).Perm ((lv.map (·, true)).map (entL Try.prog 3 intV Value.bool)) := WideShapes.sorted_perm _
  have h2 := h1.map (fun p => Go.intOf p.1)
  refine h2.trans ?_
  rw [List.map_map, List.map_map]
  refine List.Perm.of_eq ?_
  conv => rhs; rw [← List.map_id lv]
  refine List.map_congr_left (fun x hx => ?_)
  obtain ⟨l, hl⟩ := h.keys (x, true) (List.mem_map.2 ⟨x, hx, rfl⟩)
  simp only [Function.comp_apply, entL]
  rw [keyL_of hl]
  obtain ⟨y, hy1, hy2, _⟩ := Maps.keyOf_int_inv Try.underlying3 hl
  rw [hy2]
  have : intV x = intV y := hy1
  exact (intInj _ _ this).symm
set_option maxRecDepth 100000 in
theorem mnodes_any (w : World) (m lb pb : Nat) (lv : List Int) (L : PMap) (h : MeshAt w m lb pb lv L) (hl : lv.length ≤ 1000000) :
    Calls Try.prog 35 #[.pointer (some ⟨m, 0, none⟩)] w fun e w' => ∃ (v : Value) (ss : List Int), e = .returned v ∧ Only (fun _ => False) w w' ∧ ss.Perm lv ∧ w'.ownsRow w.heap.size 3 1 v ss.length (ss.map intV) := by
  have c0 : w.cell? ⟨m, 0, none⟩ = some (.map (some lb)) := cell_at h.blk 0
  have hsz : Maps.size (mapD Try.prog 3 intV Value.bool (lv.map (·, true))) ≤ 1000000 := by rw [size_mapD, List.length_map]; exact hl
  have hsrt := sortedI_any lb _ _ _ w h.live.own (by unfold maxLen; omega) (by omega)
  have hkeys := intKeys_lv h.live
  have HS := Lib.hid hsrt
  have HK := Lib.hid hkeys
  clear hsrt hkeys
  clear hsz h hl
  go_enter Try.func35, Try.ntmps35
  go_wp2_with fail
  refine (lkeys_any (some lb) w).mono ?_
  rintro e w1 ⟨rfl, rfl⟩
  clear c0
  go_wp2_with fail
  refine HS.out.mono ?_
  rintro e w2 ⟨v, ss, rfl, hp, hrow, hnil, hb⟩
  go_wp2_with fail
  go_ret
  refine ⟨v, ss.mergeSort (fun x y => decide (x ≤ y)), rfl, ((Only.refl _ _).alloc _).trans (Only.of_below hb), ((List.mergeSort_perm ss _).trans hp).trans HK.out, ?_⟩
  have h3 := ownsRow_base_a hrow (show w.heap.size ≤ _ by simp)
  rw [← List.length_mergeSort (le := fun x y => decide (x ≤ y)) ss] at h3
  exact h3
end Go.Proofs.Ytjgcbcahikemdaa
/-! A mesh: the ways to a node are struck. -/
namespace Go.Proofs.Ytjgcbcahikemdaa
open Go.Conc Go.RowKit Go.Maps
open Go.ChangeMaps (notKey rising_of_pairwise)

theorem del_mapD {α β : Type} [DecidableEq α] {P : Program} {k : TypeId} {κ : α → Value} {ε : β → Value} {w : World} {b : Nat} {L : List (α × β)} (h : MapIs P k κ ε w b L) (K : Keyed P k) (hκ : ∀ a b, κ a = κ b → a = b) {x : α} {kl : Lit} (hkl : keyOf P k (κ x) = some kl) : (mapD P k κ ε L).del kl = mapD P k κ ε (dropL L x) := by
  unfold mapD
  rw [DataW.del_eq]
  congr 1
  refine (sorted_del K.one h.kinds (h.ents K hκ) ?_).symm
  have : (dropL L x).map (entL P k κ ε) = (L.map (entL P k κ ε)).filter (notKey kl) := by
    rw [List.filter_map]
    congr 1
    refine List.filter_congr (fun p hp => ?_)
    have hi : notKey kl (entL P k κ ε p) = true ↔ keyL P k κ p.1 ≠ kl := notKey_iff (K.key hkl)
    rw [Function.comp_apply, Bool.eq_iff_iff, hi]
    constructor
    · intro hp'
      rw [← keyL_of hkl]
      exact keyL_ne K hκ (h.keys p hp) ⟨_, hkl⟩ (by simpa using hp')
    · intro hne
      have : p.1 ≠ x := by rintro e1; exact hne (by rw [e1]; exact keyL_of hkl)
      simpa using this
  rw [this]
/-- A map under a range, of which some entries have been struck. -/
theorem MapIs.of_ranges {α β : Type} {P : Program} {k : TypeId} {κ : α → Value} {ε : β → Value} {w w' : World} {b r n : Nat} {L : List (α × β)} {q : α × β → Bool} {left : Lit → Bool} {cnt : Nat} (h : MapIs P k κ ε w b L) (hr : w'.ranges P k heldE b r n (mapD P k κ ε (L.filter q)) left cnt) : MapIs P k κ ε w' b (L.filter q) := by
  refine ⟨?_, h.apart.filter _, fun p hp => h.keys p (List.mem_filter.1 hp).1⟩
  have := own_tight hr.owns
  rwa [size_mapD] at this
set_option maxRecDepth 100000 in
theorem del1_any (w : World) (a b n : Int) (o : Value) (q : Nat) (hc : w.cell? ⟨q, 0, none⟩ = some (.int .i64 n)) : Calls Try.prog 58 #[.agg #[.int .i64 a, .int .i64 b], o, .pointer (some ⟨q, 0, none⟩)] w fun e w' => e = .returned (.bool (b == n)) ∧ Only (fun _ => False) w w' := by
  obtain ⟨W, hW⟩ : ∃ W, W = w.alloc (.cells #[.int .i64 a, .int .i64 b] 108) := ⟨_, rfl⟩
  have hbW : W.heap[w.heap.size]? = some (.cells #[.int .i64 a, .int .i64 b] 108 (0, 0)) := by rw [hW]; exact heap_alloc_new w _
  have hoW : Only (fun _ => False) w W := by rw [hW]; exact (Only.refl _ _).alloc _
  have hsW : W.heap.size = w.heap.size + 1 := by rw [hW]; simp
  have x1 : W.cell? ⟨w.heap.size, 1, none⟩ = some (.int .i64 b) := cell_at hbW 1
  have hcW := hoW.cell hc id
  have HO := Lib.hid hoW
  have HW := Lib.hid hW
  clear hW hoW hbW hsW hc
  go_enter Try.func58, Try.ntmps58
  go_upto_region 1 with (fail)
  rw [← HW.out]
  go_wp2_with fail
  go_ret
  exact ⟨rfl, HO.out⟩
/-- The entry that has come, struck or not. -/
theorem entry_q {w : World} {pb : Nat} {L : PMap} (h : WMap w pb L) {n : Int} {q : (Int × Int) × Option PipeD → Bool} {left : Lit → Bool} {kl : Lit} {p0 : (Int × Int) × Option PipeD} (hp0 : p0 ∈ L) (hkl : keyOf Try.prog 108 (wayV p0.1) = some kl)
    (h2 : ∀ p ∈ L, q p = true → p.1.2 = n → left (keyL Try.prog 108 wayV p.1) = true) (q' : (Int × Int) × Option PipeD → Bool) (hq : ∀ p ∈ L, q' p = true → q p = true) (hne : ∀ p ∈ L, q' p = true → p.1.2 = n → p.1 ≠ p0.1) :
    ∀ p ∈ L, q' p = true → p.1.2 = n → (left (keyL Try.prog 108 wayV p.1) && !(keyL Try.prog 108 wayV p.1).sameKey kl) = true := by
  intro p hp hqp hn
  rw [h2 p hp (hq p hp hqp) hn]
  have h3 : keyL Try.prog 108 wayV p.1 ≠ keyL Try.prog 108 wayV p0.1 := keyL_ne wayKeyed wayInj (h.keys p hp) (h.keys p0 hp0) (hne p hp hqp hn)
  rw [keyL_of hkl] at h3
  cases hs : (keyL Try.prog 108 wayV p.1).sameKey kl
  · rfl
  · exact absurd (WideAt.sameKey_eq hs) h3
set_option maxRecDepth 100000 in
set_option maxHeartbeats 4000000 in
theorem delw_any (w : World) (pb : Nat) (L : PMap) (h : WMap w pb L) (n : Int) (qb : Nat) (hc : w.cell? ⟨qb, 0, none⟩ = some (.int .i64 n)) (hqb : qb ≠ pb) :
    Calls Try.prog 57 #[.map (some pb), .func (.func 58) #[] #[.pointer (some ⟨qb, 0, none⟩)]] w fun e w' => e = .returned (.tuple #[]) ∧ WMap w' pb (L.filter (fun p => !decide (p.1.2 = n))) ∧ Only (fun i => i = pb) w w' := by
  have HM := Lib.hid h
  have HC := Lib.hid hc
  have hown := h.own
  clear h hc
  go_enter Try.func57, Try.ntmps57
  go_wp2_with (first
    | (at_range; refine wpList_range_own _ rfl _ 103 rfl 108 106 wayKeyed Try.underlying103 _ pb _ _ rfl hown ?_; intro w0 hrg0 hg0 hs0)
    | fail)
  go_frame
  have ho0 : Only (fun i => i = pb) w w0 := ((Only.refl (fun _ => False) w).grown hg0 (fun k hk => by cases hk)).weaken (fun _ _ => False.elim)
  have e0 : L = L.filter (fun _ => true) := (List.filter_eq_self.2 (fun _ _ => rfl)).symm
  have hrg0' : w0.ranges Try.prog 108 heldE pb w.heap.size L.length (mapD Try.prog 108 wayV ptrV (L.filter (fun _ => true))) (Maps.has (mapD Try.prog 108 wayV ptrV L)) (Maps.size (mapD Try.prog 108 wayV ptrV L)) := by rw [← e0]; exact hrg0
  have hst : ∀ p ∈ L, (fun _ => true) p = true → p.1.2 = n → Maps.has (mapD Try.prog 108 wayV ptrV L) (keyL Try.prog 108 wayV p.1) = true := by
    intro p hp _ _
    refine Maps.has_true_of_atKey (y := .held (ptrV p.2)) (fun z => ?_)
    obtain ⟨l, hl⟩ := HM.out.keys p hp
    have ha := WideShapes.atKey_sorted (L.map (entL Try.prog 108 wayV ptrV)) (rising_of_pairwise _ (sorted_sorted wayKeyed.one _ HM.out.kinds (HM.out.ents wayKeyed wayInj))) (keyL Try.prog 108 wayV p.1) (by rw [keyL_of hl]; exact wayKeyed.key hl)
    exact ha.2 (entL Try.prog 108 wayV ptrV p) (List.mem_map.2 ⟨_, hp, rfl⟩) rfl z
  clear hown hrg0 e0
  go_loopw [5] (fun _ wr => ∃ (q : (Int × Int) × Option PipeD → Bool) (left : Lit → Bool) (cnt : Nat), wr.ranges Try.prog 108 heldE pb w.heap.size L.length (mapD Try.prog 108 wayV ptrV (L.filter q)) left cnt ∧ Only (fun i => i = pb) w wr ∧ (∀ p ∈ L, p.1.2 ≠ n → q p = true) ∧ (∀ p ∈ L, q p = true → p.1.2 = n → left (keyL Try.prog 108 wayV p.1) = true))
    (fun _ wr => wr.rangeLeft pb w.heap.size)
  case atStart => exact ⟨fun _ => true, _, _, hrg0', ho0, fun _ _ _ => rfl, hst⟩
  case round =>
    obtain ⟨q, left, cnt, hrg, hgw, hq1, hq2⟩ := hrel
    clear hrg0' hg0 hs0 ho0 hst
    go_wp2_with (first
      | (at_next; refine wpList_next_ranges _ rfl _ rfl 108 wayKeyed heldE (fun v => v) (fun v => v) (fun key kl _ => ⟨key, rfl⟩) (fun v y _ => ⟨v, rfl⟩) pb w.heap.size _ _ _ _ rfl hrg ?_ ?_)
      | fail)
    · intro _ hl0
      have hF := HM.out.of_ranges hrg
      have e1 : L.filter q = L.filter (fun p => !decide (p.1.2 = n)) := List.filter_congr (fun p hp => by
        by_cases hn : p.1.2 = n
        · rw [decide_eq_true hn]
          cases hqp : q p
          · rfl
          · have := hq2 p hp hqp hn
            rw [hl0] at this
            cases this
        · rw [decide_eq_false hn]; exact hq1 p hp hn)
      rw [e1] at hF
      clear hrg e1 hq1 hq2
      go_wp2_with fail
      go_end0
      exact ⟨rfl, hF, hgw⟩
    · intro x c kl yd yp w1 cnt1 hkey hlk hR hat hrg1 hlt hg1 hs1 hen
      have hy : yd = .held c := by
        unfold heldE at hR
        exact (Prod.mk.inj (Option.some.inj hR)).1.symm
      subst hy
      have hMr := HM.out.of_ranges hrg
      obtain ⟨⟨⟨a, b⟩, o⟩, hp, rfl, rfl⟩ := hMr.entry wayKeyed wayInj hkey hat
      have hpL := (List.mem_filter.1 hp).1
      have hgw1 := hgw.grown hg1 (fun k hk => by cases hk; exact Or.inl (Nat.le_refl _))
      have hc1 := hgw1.cell HC.out hqb
      have HD1 := Lib.hid (fun w' (ho : Only (fun _ => False) w1 w') => del1_any w' a b n (ptrV o) qb (ho.cell hc1 id))
      have HEQ := Lib.hid (fun q' => entry_q HM.out (n := n) (q := q) (left := left) hpL hkey hq2 q')
      have HQ1 := Lib.hid hq1
      have HMR := Lib.hid hMr
      have HW1 := Lib.hid hgw1
      have HR0 := Lib.hid hrg
      have HLT := Lib.hid hlt
      have HPL := Lib.hid hpL
      have HKY := Lib.hid hkey
      clear hq1 hMr hgw1 hrg hlt hpL hkey
      clear hq2 hp hgw hat hg1 hc1 hR hlk
      simp only [wayV] at hen ⊢
      by_cases hbn : b = n
      · subst hbn
        have HD2 := Lib.hid (fun w' (ho : Only (fun _ => False) w1 w') => HD1.out w' ho)
        rw [show (b == b) = true by simp] at HD2
        clear HD1
        go_wp2_with fail
        obtain ⟨W2, hW2⟩ : ∃ W2, W2 = w1.alloc (.cells #[.int .i64 a, .int .i64 b] 108) := ⟨_, rfl⟩
        have hbW2 : W2.heap[w1.heap.size]? = some (.cells #[.int .i64 a, .int .i64 b] 108 (0, 0)) := by rw [hW2]; exact heap_alloc_new w1 _
        have hoW2 : Only (fun _ => False) w1 W2 := by rw [hW2]; exact (Only.refl _ _).alloc _
        have hsW2 : W2.heap.size = w1.heap.size + 1 := by rw [hW2]; simp
        rw [hs1] at hbW2
        rw [← hW2]
        clear hW2 hen
        refine (HD2.out _ hoW2).mono ?_
        rintro e w2 ⟨rfl, ho2⟩
        have hb2 := ho2.old hbW2 id
        have x0 : w2.cell? ⟨wr.heap.size, 0, none⟩ = some (.int .i64 a) := cell_at hb2 0
        have x1 : w2.cell? ⟨wr.heap.size, 1, none⟩ = some (.int .i64 b) := cell_at hb2 1
        have ho12 := hoW2.trans ho2
        have hrg2 := ranges_at hrg1 ho12
        have hkey := HKY.out
        have HW2 := Lib.hid (HW1.out.trans (ho12.weaken (T := fun i => i = pb) (fun _ _ => False.elim)))
        clear hb2 hoW2 hbW2 ho2 ho12 hrg1 hs1 hsW2
        go_wp2_with (first
          | (at_delete; refine wpList_delete_ranges _ rfl _ _ 103 108 rfl 106 wayKeyed Try.underlying103 heldE pb w.heap.size L.length _ _ _ rfl hrg2 _ _ rfl hkey ?_; intro w3 cnt3 hrg3 hle hturn; go_frame)
          | fail)
        rw [strike_twice, del_mapD HMR.out wayKeyed wayInj hkey] at hrg3
        have e1 : dropL (L.filter q) (a, b) = L.filter (fun p => !decide (p.1 = (a, b)) && q p) := by unfold dropL; rw [List.filter_filter]
        have hr3 : w3.ranges Try.prog 108 heldE pb w.heap.size L.length (mapD Try.prog 108 wayV ptrV (L.filter (fun p => !decide (p.1 = (a, b)) && q p))) (fun z => left z && !z.sameKey kl) cnt3 := by rw [← e1]; exact hrg3
        have hw3 := HW2.out.grown hturn.grown (fun k hk => by cases hk; exact Or.inr rfl)
        have hA : ∀ p ∈ L, p.1.2 ≠ b → (!decide (p.1 = (a, b)) && q p) = true := fun p hp hne => by
          rw [decide_eq_false (fun e => hne (by rw [e])), HQ1.out p hp hne]
          rfl
        have hB := HEQ.out (fun p => !decide (p.1 = (a, b)) && q p) (fun p _ h => by simp at h; exact h.2) (fun p _ h _ => by simp at h; exact h.1)
        go_roundw
        case rel => exact ⟨_, _, cnt3, hr3, hw3, hA, hB⟩
        case measure => rw [hr3.left_eq, HR0.out.left_eq]; have := HLT.out; omega
      · have HD2 := Lib.hid (fun w' (ho : Only (fun _ => False) w1 w') => HD1.out w' ho)
        rw [show (b == n) = false by simpa using hbn] at HD2
        clear HD1
        go_wp2_with fail
        obtain ⟨W2, hW2⟩ : ∃ W2, W2 = w1.alloc (.cells #[.int .i64 a, .int .i64 b] 108) := ⟨_, rfl⟩
        have hbW2 : W2.heap[w1.heap.size]? = some (.cells #[.int .i64 a, .int .i64 b] 108 (0, 0)) := by rw [hW2]; exact heap_alloc_new w1 _
        have hoW2 : Only (fun _ => False) w1 W2 := by rw [hW2]; exact (Only.refl _ _).alloc _
        have hsW2 : W2.heap.size = w1.heap.size + 1 := by rw [hW2]; simp
        rw [← hW2]
        clear hW2 hen hbW2 hsW2
        refine (HD2.out _ hoW2).mono ?_
        rintro e w2 ⟨rfl, ho2⟩
        have ho12 := hoW2.trans ho2
        have hr3 := ranges_at hrg1 ho12
        have hw3 := HW1.out.trans (ho12.weaken (T := fun i => i = pb) (fun _ _ => False.elim))
        have hB := HEQ.out q (fun p _ h => h) (fun p _ _ hn e => hbn (by rw [e] at hn; exact hn))
        clear hoW2 ho2 ho12 hrg1 hs1
        go_wp2_with fail
        go_roundw
        case rel => exact ⟨_, _, cnt1, hr3, hw3, HQ1.out, hB⟩
        case measure => rw [hr3.left_eq, HR0.out.left_eq]; exact HLT.out
end Go.Proofs.Ytjgcbcahikemdaa
/-! A mesh: Down. -/
namespace Go.Proofs.Ytjgcbcahikemdaa
open Go.Conc Go.RowKit Go.Maps

/-- delete, as one step of a region that draws. -/
theorem step_mapDrop {α β : Type} [DecidableEq α] {P : Program} {k : TypeId} {κ : α → Value} {ε : β → Value} {b : Nat} {L : List (α × β)} {w : World} {ops : Array Oper} {o : Oper} {a : Act} {K : Act → World → Prop} {Q : Exit → Act → World → Prop} {E : Prop} (hg : o.guard = none) (m x : Operand) (t : TypeId)
    (hop : o.op = Op.call { callee := Callee.builtin Builtin.delete, args := #[m, x], argTypes := #[t, k] }) {e : TypeId} (h : MapIs P k κ ε w b L) (Ky : Keyed P k) (hκ : ∀ a b, κ a = κ b → a = b)
    (ht : P.underlying t = some (.map k e)) (hm : a.eval m = .map (some b)) {y : α} (hx : a.eval x = κ y) (hy : KeyOk P k κ y)
    (hK : ∀ w', MapIs P k κ ε w' b (dropL L y) → Only (fun i => i = b) w w' → K (a.put o.dst (.tuple #[])) w') : if Region.wanted o (yielded ops a.tmps) = true then Oper.wp P o a w K Q else E := by
  have hw : Region.wanted o (yielded ops a.tmps) = true := by simp [Region.wanted, hg]
  rw [if_pos hw]
  obtain ⟨w', hrun, r1, r2⟩ := h.drop Ky hκ ht hy o.type
  unfold Oper.wp
  simp [execOp, hop, resolve, invoke, builtin, hm, hx, hrun, Result.andThen]
  exact hK w' r1 r2
def outL (lv : List Int) (n : Int) : List Int := lv.filter (fun k => !decide (k = n))
def downG (lv : List Int) (G : Ways) (n : Int) : Ways := fun x y => if y = n then [] else if x = n ∧ y ∈ lv then [(true, ⟨#[]⟩)] else G x y
theorem out_drop (lv : List Int) (n : Int) : dropL (lv.map (fun k => (k, true))) n = (outL lv n).map (fun k => (k, true)) := by
  unfold dropL outL
  rw [List.filter_map]
  rfl
/-- The ways to a node are struck. -/
theorem MeshAt.strike {w w' : World} {m lb pb : Nat} {lv : List Int} {L : PMap} (h : MeshAt w m lb pb lv L) (q : (Int × Int) × Option PipeD → Bool) (ho : Only (fun i => i = pb) w w') (hm : WMap w' pb (L.filter q)) : MeshAt w' m lb pb lv (L.filter q) := by
  refine ⟨ho.old h.blk (fun e => h.m_not (.inr (.inl e))), h.live.kept ho h.ne, hm, h.ne, fun e he => ?_, h.chans.filter _, h.lives⟩
  obtain ⟨d, h1, hp, h3⟩ := h.pipe e (List.mem_filter.1 he).1
  refine ⟨d, h1, hp.kept ho (fun e => ?_) (fun e => ?_), h3⟩
  · obtain ⟨es, c, hb⟩ := map_not h.pipes
    rw [← e, hp.blk] at hb; cases hb
  · obtain ⟨es, c, hb⟩ := map_not h.pipes
    obtain ⟨s, r, hb2⟩ := hp.chan
    rw [← e, hb2] at hb; cases hb
theorem look_strike (L : PMap) (n : Int) (k : Int × Int) : lookL (L.filter (fun p => !decide (p.1.2 = n))) k = if k.2 = n then none else lookL L k := by
  by_cases hk : k.2 = n
  · rw [if_pos hk]
    refine lookL_of_none (fun p hp e => ?_)
    have := (List.mem_filter.1 hp).2
    rw [e, decide_eq_true hk] at this
    cases this
  · rw [if_neg hk]
    unfold lookL
    congr 1
    rw [List.find?_filter]
    congr 1
    funext p
    by_cases e : p.1 = k
    · rw [decide_eq_true e, e, decide_eq_false hk]; rfl
    · rw [decide_eq_false e]; simp
theorem get_strike (L : PMap) (n x y : Int) : getM (L.filter (fun p => !decide (p.1.2 = n))) x y = if y = n then [] else getM L x y := by
  unfold getM
  rw [look_strike]
  by_cases h : y = n
  · rw [if_pos h, if_pos h]
  · rw [if_neg h, if_neg h]
theorem MPost.andThen {w w1 w2 : World} {m lb pb : Nat} {lv : List Int} {L L1 : PMap} {G : Ways} {n k : Nat} (h2 : Step (foot lb pb L) (foot lb pb L1) w w1) (h3 : L1.length ≤ L.length + n) (hp : MPost w1 w2 m lb pb lv L1 G k) : MPost w w2 m lb pb lv L G (n + k) := by
  obtain ⟨L2, q1, q2, q3, q4⟩ := hp.out
  exact ⟨L2, q1, h2.trans q2, q3, by omega⟩
/-- Behind j nodes. -/
def downJ (G : Ways) (n : Int) (S : List Int) : Ways := fun x y => if y = n ∧ x ∈ S then [] else if x = n ∧ y ∈ S then [(true, ⟨#[]⟩)] else G x y
theorem downJ_nil (G : Ways) (n : Int) : downJ G n [] = G := by
  funext x y
  unfold downJ
  rw [if_neg (fun h => by cases h.2), if_neg (fun h => by cases h.2)]
theorem downJ_step (G : Ways) (n k : Int) (S : List Int) (hk : k ≠ n) (hn : n ∉ S) : brk1 (setG (downJ G n S) k n []) n k = downJ G n (S ++ [k]) := by
  funext x y
  unfold brk1 setG downJ
  simp only [List.mem_append, List.mem_singleton]
  by_cases h1 : x = n ∧ y = k
  · obtain ⟨rfl, rfl⟩ := h1
    rw [if_pos ⟨rfl, rfl⟩, if_neg (fun h => hk h.1), if_pos ⟨rfl, .inr rfl⟩]
  · rw [if_neg h1]
    by_cases h2 : x = k ∧ y = n
    · rw [if_pos h2, if_pos ⟨h2.2, .inr h2.1⟩]
    · rw [if_neg h2]
      by_cases h3 : y = n ∧ x ∈ S
      · rw [if_pos h3, if_pos ⟨h3.1, .inl h3.2⟩]
      · have h5 : ¬ (y = n ∧ (x ∈ S ∨ x = k)) := fun h => by
          rcases h.2 with e | e
          · exact h3 ⟨h.1, e⟩
          · exact h2 ⟨e, h.1⟩
        rw [if_neg h3, if_neg h5]
        by_cases h4 : x = n ∧ y ∈ S
        · rw [if_pos h4, if_pos ⟨h4.1, .inl h4.2⟩]
        · have h6 : ¬ (x = n ∧ (y ∈ S ∨ y = k)) := fun h => by
            rcases h.2 with e | e
            · exact h4 ⟨h.1, e⟩
            · exact h1 ⟨h.1, e⟩
          rw [if_neg h4, if_neg h6]
theorem down_end (G : Ways) (n : Int) (lv ss : List Int) (hp : ss.Perm (outL lv n)) (x y : Int) : (if y = n then [] else downJ G n ss x y) = downG lv G n x y := by
  unfold downJ downG
  by_cases h : y = n
  · rw [if_pos h, if_pos h]
  · rw [if_neg h, if_neg h, if_neg (fun e => h e.1)]
    have e : y ∈ ss ↔ y ∈ lv := by rw [hp.mem_iff]; unfold outL; simp [h]
    by_cases h2 : x = n ∧ y ∈ lv
    · rw [if_pos h2, if_pos ⟨h2.1, e.2 h2.2⟩]
    · rw [if_neg h2, if_neg (fun h3 => h2 ⟨h3.1, e.1 h3.2⟩)]
end Go.Proofs.Ytjgcbcahikemdaa
/-! A mesh: the walk of Down. -/
namespace Go.Proofs.Ytjgcbcahikemdaa
open Go.Conc Go.RowKit Go.Maps

theorem CellsKept.cell {w w' : World} (h : CellsKept w w') {b i : Nat} {v : Value} (hc : w.cell? ⟨b, i, none⟩ = some v) : w'.cell? ⟨b, i, none⟩ = some v := by
  cases hb : w.heap[b]? with
  | none => simp [World.cell?, hb] at hc
  | some o =>
    cases o with
    | cells cs t f =>
      have h2 := h b cs t f hb
      rw [cell_at hb] at hc
      rw [cell_at h2]
      exact hc
    | _ => simp [World.cell?, hb] at hc
theorem CellsKept.trans {a b c : World} (h : CellsKept a b) (k : CellsKept b c) : CellsKept a c := fun q cs t f hq => k q cs t f (h q cs t f hq)
/-- Cells are kept where only the mesh's blocks were written. -/
theorem MPost.cells {w1 w2 : World} {m lb pb : Nat} {lv lv' : List Int} {L : PMap} {G : Ways} {k : Nat} (h1 : MeshAt w1 m lb pb lv' L) (hp : MPost w1 w2 m lb pb lv L G k) : CellsKept w1 w2 := fun q cs t f hq => by
  obtain ⟨L', k1, k2, k3, k4⟩ := hp.out
  exact k2.only.old hq (fun hf => h1.foot_cells hf hq)
def cellI (k : Int) : List Value := [.int .i64 k]
theorem cellI_length (k : Int) : (cellI k).length = 1 := rfl
set_option maxRecDepth 100000 in
set_option maxHeartbeats 4000000 in
theorem mdown_any (w : World) (m lb pb : Nat) (lv : List Int) (L : PMap) (h : MeshAt w m lb pb lv L) (n : Int) (hn : (Lit.int .i64 n).wf = true) (hv : n ∈ lv) (hlv : lv.length ≤ 1000) (hL : L.length < 900000) :
    Calls Try.prog 31 #[.pointer (some ⟨m, 0, none⟩), .int .i64 n] w fun e w' => e = .returned (.tuple #[]) ∧ MPost w w' m lb pb (outL lv n) L (downG lv (getM L) n) (2 * lv.length) := by
  obtain ⟨W, hW⟩ : ∃ W, W = w.alloc (.cells #[.int .i64 n] 3) := ⟨_, rfl⟩
  have hbW : W.heap[w.heap.size]? = some (.cells #[.int .i64 n] 3 (0, 0)) := by rw [hW]; exact heap_alloc_new w _
  have hoW : Only (fun _ => False) w W := by rw [hW]; exact (Only.refl _ _).alloc _
  have hsW : W.heap.size = w.heap.size + 1 := by rw [hW]; simp
  have h1 := h.new hoW
  have hQm : w.heap.size ≠ m := fun e => by have := lt_of_block h.blk; omega
  have HLV := Lib.hid (mlive_yes W m lb pb lv L h1 n hn hv)
  have x0 : W.cell? ⟨w.heap.size, 0, none⟩ = some (.int .i64 n) := cell_at hbW 0
  have c0 : W.cell? ⟨m, 0, none⟩ = some (.map (some lb)) := cell_at h1.blk 0
  have hl1 : lb ≠ w.heap.size := fun e => by have := h.live.lt; omega
  have hl2 : lb ≠ m := fun e => by
    obtain ⟨es, c, hb⟩ := map_not h.live
    rw [e, h.blk] at hb
    cases hb
  have HQl := Lib.hid (show lb ≠ w.heap.size ∧ lb ≠ m ∧ lb < w.heap.size from ⟨hl1, hl2, h.live.lt⟩)
  have HO := Lib.hid hoW
  have HW := Lib.hid hW
  have HB := Lib.hid hbW
  have H1 := Lib.hid h1
  have HN := Lib.hid hn
  clear hoW hW hbW h1 hn
  clear hsW hv hl1 hl2
  go_enter Try.func31, Try.ntmps31
  go_upto_region 1 with (fail)
  rw [← HW.out]
  go_wp2_with fail
  refine HLV.out.mono ?_
  rintro e w' ⟨rfl, rfl⟩
  go_upto_region 2 with (fail)
  go_cut [14] (fun _ wx => LMap wx lb (outL lv n) ∧ Only (fun i => i = lb) W wx)
  case first =>
    go_region_held3 (fun w' => w'.cell? ⟨w.heap.size, 0, none⟩ = some (.int .i64 n) ∧ w'.cell? ⟨m, 0, none⟩ = some (.map (some lb)))
      (first | exact ⟨x0, c0⟩ | exact ⟨ho2.cell x0 (fun e => HQl.out.1 (Eq.symm e)), ho2.cell c0 (fun e => HQl.out.2.1 (Eq.symm e))⟩)
      (first | (refine step_mapDrop rfl (.tmp 13) (.tmp 14) 102 rfl (H1.out.live.at rfl) intKeyed intInj Try.underlying102 rfl rfl (intOk HN.out) ?_; intro w2 hm2 ho2))
    all_goals
      go_wp2_with fail
      go_meet
      refine ⟨?_, ho2.os, ho2.tape, ho2.output, ho2.size, ho2.block⟩
      have h9 := hm2
      rw [out_drop] at h9
      exact h9
  case rest =>
    obtain ⟨hlm, hol⟩ := hcut
    have h2 : MeshAt wc m lb pb (outL lv n) L := H1.out.withLive hol hlm (fun k hk => H1.out.lives k (List.mem_filter.1 hk).1)
    have hbq := hol.old HB.out (fun e => HQl.out.1 (Eq.symm e))
    have hlo : (outL lv n).length ≤ lv.length := List.length_filter_le _ _
    have HND := Lib.hid (mnodes_any wc m lb pb (outL lv n) L h2 (by omega))
    have hol' : Only (foot lb pb L) w wc := (HO.out.weaken (fun _ _ => False.elim)).trans (hol.weaken (fun i _ e => .inl e))
    have H2 := Lib.hid h2
    have HBQ := Lib.hid hbq
    have HLO := Lib.hid hlo
    have HOL := Lib.hid hol'
    clear h2 hbq hlo hol'
    clear x0 c0 hol hlm
    go_wp2_with fail
    refine HND.out.mono ?_
    rintro e w3 ⟨v, ss, rfl, ho3, hpm, hrow⟩
    have hsl : Sl w3 1 v ss.length (ss.flatMap cellI) := by
      have := Sl.of_owns hrow
      rwa [show ss.map intV = ss.flatMap cellI by rw [List.map_eq_flatMap]; rfl] at this
    obtain ⟨sa, scap, rfl, s1, s2, hc⟩ := Sl.cells cellI_length hsl
    unfold maxLen at s2
    have hss : ss.length ≤ lv.length := by rw [hpm.length_eq]; exact HLO.out
    have hnod : True ∧ ∀ k ∈ ss, k ≠ n ∧ (Lit.int .i64 k).wf = true := ⟨trivial, fun k hk => by
      have h9 := hpm.mem_iff.1 hk
      have h10 := H2.out.lives k h9
      exact ⟨by simpa using (List.mem_filter.1 h9).2, wf64 (by omega) (by omega)⟩⟩
    have h3 := H2.out.new ho3
    have hb3 := ho3.old HBQ.out id
    have hP0 : MPost w w3 m lb pb (outL lv n) L (downJ (getM L) n (ss.take 0)) (2 * 0) := ⟨L, h3, ⟨(HOL.out.trans (ho3.weaken (fun _ _ => False.elim))), fun k hk => .inl hk⟩, fun x y => by rw [List.take_zero, downJ_nil], by omega⟩
    have HC := Lib.hid hc
    have HSS := Lib.hid hss
    have HNOD := Lib.hid hnod
    have H3 := Lib.hid h3
    have HB3 := Lib.hid hb3
    have HP0 := Lib.hid hP0
    have HPM := Lib.hid hpm
    clear hc hss hnod h3 hb3 hP0 hpm
    clear hsl hrow ho3
    go_wp2_with fail
    go_loopg [18] ss.length (fun gk v18 wr => ∃ j : Nat, v18 = .int .i64 j ∧ j ≤ ss.length ∧ MPost w wr m lb pb (outL lv n) L (downJ (getM L) n (ss.take j)) (2 * j) ∧ CellsKept w3 wr ∧ gk = ss.length - j)
    case atStart => exact ⟨0, rfl, Nat.zero_le _, HP0.out, CellsKept.refl _, rfl⟩
    case round =>
      obtain ⟨j, rfl, hj, hp, hck, hg⟩ := hrel
      by_cases hlt : j < ss.length
      · have hlt' : (j : Int) < (ss.length : Int) := by omega
        obtain ⟨bb, off, rfl, hcc⟩ := HC.out.at j hlt
        have hc3 : w3.cell? ⟨bb, off + j, none⟩ = some (.int .i64 ss[j]) := by
          have := hcc 0 _ rfl
          simpa using this
        have y0 := hck.cell hc3
        have q0 : wr.cell? ⟨w.heap.size, 0, none⟩ = some (.int .i64 n) := cell_at (hck _ _ _ _ HB3.out) 0
        obtain ⟨hkn, hkw⟩ := HNOD.out.2 ss[j] (List.getElem_mem hlt)
        have hstep : brk1 (setG (downJ (getM L) n (ss.take j)) ss[j] n []) n ss[j] = downJ (getM L) n (ss.take (j + 1)) := by
          rw [downJ_step _ _ _ _ hkn (fun h => (HNOD.out.2 n (List.mem_of_mem_take h)).1 rfl), List.take_add_one, List.getElem?_eq_getElem hlt]
          rfl
        obtain ⟨Lj, p1, p2, p3, p4⟩ := hp.out
        have hS := HSS.out
        have HPI := Lib.hid (mpipe_any wr m lb pb (outL lv n) Lj p1 ss[j] n hkw HN.out (by omega))
        have HPJ := Lib.hid (fun w' L' (h' : MeshAt w' m lb pb (outL lv n) L') (hn' : L'.length < 1000000) => mpipe_any w' m lb pb (outL lv n) L' h' n ss[j] HN.out hkw hn')
        generalize ss[j] = k at *
        have HST := Lib.hid hstep
        have Hg := Lib.hid hg
        have HCK := Lib.hid hck
        have P1 := Lib.hid p1
        have P2 := Lib.hid p2
        have P3 := Lib.hid p3
        have P4 := Lib.hid p4
        clear hstep hg hck p1 p2 p3 p4
        clear hc3 hcc hp hkw hkn
        go_wp2_with fail
        refine HPI.out.mono ?_
        rintro e w4 ⟨v, rfl, hv⟩
        unfold PipePost at hv
        obtain ⟨L1, d, rfl, k1, k2, k3, k4, k5, k6⟩ := hv
        obtain ⟨d', e1, k7, k8⟩ := k1.pipe _ (look_mem k3)
        cases e1
        have hk4 : CellsKept wr w4 := fun q cs t f hq => k2.only.old hq (fun hf => P1.out.foot_cells hf hq)
        have HP2 := Lib.hid (clear_any w4 d.p d.c d.l k7)
        have HK := Lib.hid (fun w2 ho hp => PipePost.upd (w2 := w2) k1 k2 k3 k5 k6 ho hp (show ([] : List (Bool × ByteArray)).length ≤ 64 by decide))
        have q1 := hk4.cell q0
        clear k1 k2 k3 k4 k5 k6 k7 k8 y0 q0
        go_wp2_with fail
        refine HP2.out.mono ?_
        rintro e w5 ⟨rfl, ho5, hp5⟩
        have hp1 := HK.out w5 ho5 hp5
        have hk5 := hp1.cells P1.out
        obtain ⟨L2, r1, r2, r3, r4⟩ := hp1.out
        have hP4 := P4.out
        have q2 : w5.cell? ⟨w.heap.size, 0, none⟩ = some (.int .i64 n) := cell_at ((HCK.out.trans hk5) _ _ _ _ HB3.out) 0
        have HPI2 := Lib.hid (HPJ.out w5 L2 r1 (by omega))
        have R1 := Lib.hid r1
        have R2 := Lib.hid r2
        have R3 := Lib.hid r3
        have R4 := Lib.hid r4
        have HK5 := Lib.hid hk5
        clear r1 r2 r3 r4 hk5
        clear q1 hp1 ho5 hp5 hk4
        go_wp2_with fail
        refine HPI2.out.mono ?_
        rintro e w6 ⟨v, rfl, hv⟩
        unfold PipePost at hv
        obtain ⟨L1, d, rfl, k1, k2, k3, k4, k5, k6⟩ := hv
        obtain ⟨d', e1, k7, k8⟩ := k1.pipe _ (look_mem k3)
        cases e1
        have HP6 := Lib.hid (break_any w6 d.p d.c d.l k7)
        have HK6 := Lib.hid (fun w2 ho hp => PipePost.upd (w2 := w2) k1 k2 k3 k5 k6 ho hp (show [(true, (⟨#[]⟩ : ByteArray))].length ≤ 64 by decide))
        clear k1 k2 k3 k4 k5 k6 k7 k8 q2
        go_wp2_with fail
        refine HP6.out.mono ?_
        rintro e w7 ⟨rfl, ho7, hp7⟩
        have hp2 := HK6.out w7 ho7 hp7
        have hk7 := HCK.out.trans (HK5.out.trans (hp2.cells R1.out))
        obtain ⟨L4, t1, t2, t3, t4⟩ := hp2.out
        have hF : MPost w w7 m lb pb (outL lv n) L (downJ (getM L) n (ss.take (j + 1))) (2 * (j + 1)) := by
          refine ⟨L4, t1, P2.out.trans (R2.out.trans t2), fun x y => ?_, by have := P4.out; have := R4.out; omega⟩
          rw [← HST.out, t3]
          unfold brk1 setG
          split
          · rfl
          · rw [R3.out]
            unfold setG
            rw [P3.out]
        have HF := Lib.hid hF
        have HK7 := Lib.hid hk7
        clear hF hk7
        clear ho7 hp7 hp2 t1 t2 t3 t4
        go_wp2_with fail
        go_roundg (ss.length - (j + 1))
        case measure => rw [Hg.out]; omega
        case rel => exact ⟨j + 1, by go_num, by omega, HF.out, HK7.out, rfl⟩
      · have hlt' : ¬ (j : Int) < (ss.length : Int) := by omega
        obtain rfl : j = ss.length := by omega
        rw [List.take_length] at hp
        obtain ⟨L1, p1, p2, p3, p4⟩ := hp.out
        have c1 : wr.cell? ⟨m, 1, none⟩ = some (.map (some pb)) := cell_at p1.blk 1
        have q0 : wr.cell? ⟨w.heap.size, 0, none⟩ = some (.int .i64 n) := cell_at (hck _ _ _ _ HB3.out) 0
        have hqp : w.heap.size ≠ pb := fun e => by have := h.pipes.lt; omega
        have HD := Lib.hid (delw_any wr pb L1 p1.pipes n w.heap.size q0 hqp)
        have P1 := Lib.hid p1
        have P2 := Lib.hid p2
        have P3 := Lib.hid p3
        have P4 := Lib.hid p4
        clear p1 p2 p3 p4
        clear hp hck hg q0 hlt hj
        go_wp2_with fail
        refine HD.out.mono ?_
        rintro e w8 ⟨rfl, hm8, ho8⟩
        have h8 := P1.out.strike _ ho8 hm8
        have H8 := Lib.hid h8
        have HO8 := Lib.hid ho8
        clear h8 ho8
        clear hm8 c1
        go_wp2_with fail
        go_end0
        refine ⟨rfl, _, H8.out, ⟨P2.out.only.tr HO8.out (fun i _ e => .inr (.inl e)), fun k hk => P2.out.next k ?_⟩, fun x y => ?_, ?_⟩
        · rcases hk with hk | hk | ⟨e, he, hk⟩
          · exact .inl hk
          · exact .inr (.inl hk)
          · exact .inr (.inr ⟨e, (List.mem_filter.1 he).1, hk⟩)
        · rw [get_strike, P3.out]
          exact down_end (getM L) n lv ss HPM.out x y
        · have h1 := List.length_filter_le (fun p : (Int × Int) × Option PipeD => !decide (p.1.2 = n)) L1
          have := P4.out
          have := HSS.out
          omega
end Go.Proofs.Ytjgcbcahikemdaa
/-! A mesh that a call made: Down, Nodes; what MeshDown asks of it. -/
namespace Go.Proofs.Ytjgcbcahikemdaa
open Go.Conc Go.RowKit Go.Maps

theorem MPost.run2 {w w1 w2 : World} {m lb pb : Nat} {lv lv' : List Int} {L : PMap} {G : Ways} {n k : Nat} (h1 : MeshAt w1 m lb pb lv L) (h2 : Only (fun _ => False) w w1) (h3 : ∀ k, foot lb pb L k → w.heap.size ≤ k) (h5 : L.length ≤ n) (h6 : w.heap.size ≤ m) (hp : MPost w1 w2 m lb pb lv' L G k) : MRun w w2 m lb pb lv' G (n + k) ∧ CellsKept w1 w2 := by
  obtain ⟨L', k1, k2, k3, k4⟩ := hp.out
  refine ⟨⟨L', k1, h2.tr k2.only (fun i hi hf => absurd (h3 i hf) (by omega)), fun i hf => ?_, funext fun x => funext fun y => k3 x y, by omega, h6⟩, fun q cs t f hq => ?_⟩
  · rcases k2.next i hf with h | h
    · exact h3 i h
    · exact Nat.le_trans h2.size h
  · exact k2.only.old hq (fun hf => h1.foot_cells hf hq)
theorem mrun_down {w w1 : World} {m lb pb : Nat} {lv : List Int} {G : Ways} {n : Nat} (h : MRun w w1 m lb pb lv G n) (a : Int) (ha : (Lit.int .i64 a).wf = true) (hv : a ∈ lv) (hl : lv.length ≤ 1000) (hn : n < 900000) :
    Calls Try.prog 31 #[.pointer (some ⟨m, 0, none⟩), .int .i64 a] w1 fun e w' => e = .returned (.tuple #[]) ∧ MRun w w' m lb pb (outL lv a) (downG lv G a) (n + 2 * lv.length) ∧ CellsKept w1 w' := by
  obtain ⟨L, k1, k2, k3, rfl, k5, k6⟩ := h.out
  refine (mdown_any w1 m lb pb lv L k1 a ha hv hl (by omega)).mono ?_
  rintro e w' ⟨rfl, hp⟩
  exact ⟨rfl, hp.run2 k1 k2 k3 k5 k6⟩
theorem mrun_nodes {w w1 : World} {m lb pb : Nat} {lv : List Int} {G : Ways} {n : Nat} (h : MRun w w1 m lb pb lv G n) (hl : lv.length ≤ 1000000) :
    Calls Try.prog 35 #[.pointer (some ⟨m, 0, none⟩)] w1 fun e w' => ∃ a cap, e = .returned (.slice a lv.length cap) ∧ Only (fun _ => False) w1 w' := by
  obtain ⟨L, k1, _⟩ := h.out
  refine (mnodes_any w1 m lb pb lv L k1 hl).mono ?_
  rintro e w' ⟨v, ss, rfl, ho, hp, hrow⟩
  obtain ⟨_, a, cap, rfl, _⟩ := Sl.of_owns hrow
  rw [hp.length_eq]
  exact ⟨a, cap, rfl, ho⟩
def lvN : Nat → List Int
  | 0 => []
  | k + 1 => upL (lvN k) ((k : Int) + 1)
theorem lvN_four : lvN 4 = [1, 2, 3, 4] := by decide
/-- Text of a node that is not there. -/
theorem send_lost {lv : List Int} {G : Ways} {k d : Int} (s : ByteArray) (hk : k ∈ lv) (hd : d ∉ lv) (hkd : k ≠ d) (hG : G d k = [(true, ⟨#[]⟩)]) : sendG lv G k d s = G := by
  unfold sendG
  rw [if_pos ⟨hk, hkd⟩, if_neg hd]
  funext x y
  unfold brk1 setG
  split
  · rename_i e; rw [e.1, e.2, hG]
  · rfl
theorem break_lost {lv : List Int} {G : Ways} {k d : Int} (hd : d ∉ lv) : breakG lv G k d = G := if_neg (fun e => hd e.2.1)
theorem down_to (lv : List Int) (G : Ways) (d k : Int) : downG lv G d k d = [] := if_pos rfl
theorem down_from (lv : List Int) (G : Ways) (d k : Int) (hk : k ∈ lv) (hkd : k ≠ d) : downG lv G d d k = [(true, ⟨#[]⟩)] := by
  unfold downG
  rw [if_neg hkd, if_pos ⟨rfl, hk⟩]
/-- What the last round needs of the ways still to come. -/
def Fresh (G : Ways) (d : Int) (i : Nat) : Prop := ∀ k : Nat, i ≤ k → 1 ≤ k → k ≤ 4 → (k : Int) ≠ d → G d k = [(true, ⟨#[]⟩)] ∧ G k d = []
abbrev sNew : ByteArray := ⟨#[110, 101, 119]⟩
abbrev sBk : ByteArray := ⟨#[98, 97, 99, 107]⟩
abbrev sLost : ByteArray := ⟨#[108, 111, 115, 116]⟩
/-- An act that came in. -/
structure ActD where
  what : Int
  na : Int
  nb : Int
  tx : ByteArray
def actDC (a : ActD) : List Value := [.int .i64 a.what, .int .i64 a.na, .int .i64 a.nb, .string a.tx]
theorem actDC_length (a : ActD) : (actDC a).length = 4 := rfl
end Go.Proofs.Ytjgcbcahikemdaa
/-! A slice of structs that came in (bellhoplaw08.Act), as a list. -/
namespace Go.Proofs.Ytjgcbcahikemdaa
open Go.Conc Go.RowKit Go.ChangeShapes Go.WideShapes Go.ChangeAt Go.WideMaps Go.WideElems

/-- What is known of an element that came in. -/
def rowP_sl_actsD (a : ActD) : Prop := (Lit.int .i64 a.what).wf = true ∧ (Lit.int .i64 a.na).wf = true ∧ (Lit.int .i64 a.nb).wf = true ∧ a.tx.size ≤ maxLen
theorem rows_sl_actsD : ∀ rows : List (List Value), (∀ r ∈ rows, r.length = 4 ∧ ∃ a : ActD, r = actDC a ∧ rowP_sl_actsD a) →
    ∃ l : List ActD, rows.length = l.length ∧ rows.flatten = l.flatMap actDC ∧ ∀ a ∈ l, rowP_sl_actsD a
  | [], _ => ⟨[], rfl, rfl, by simp⟩
  | r :: rows, h => by
    obtain ⟨l, h1, h2, h3⟩ := rows_sl_actsD rows (fun r' h' => h r' (by simp [h']))
    obtain ⟨_, a, rfl, h4⟩ := h r (by simp)
    refine ⟨a :: l, by simp [h1], by simp [h2], fun b hb => ?_⟩
    rcases List.mem_cons.1 hb with rfl | hb
    · exact h4
    · exact h3 b hb
set_option maxRecDepth 100000 in
theorem sl_actsD {H : Type} {enc : TypeId × Value → H} {w : World} {base : Nat} {held : Bool} {v : Value} {d : DataW H} {ps : List MemPlace} (hok : Value.okWide Try.prog w .any base 49 v) (h : DataW.Trod enc Try.prog w 0 (fun _ => true) held 49 v d ps) :
    ∃ l : List ActD, Sl w 4 v l.length (l.flatMap actDC) ∧ ∀ a ∈ l, rowP_sl_actsD a := by
  have hc : Try.prog.cellsOf 55 = 4 := by kernel_rfl
  have cint : Try.prog.cellsOf 3 = 1 := by kernel_rfl
  have cstr : Try.prog.cellsOf 9 = 1 := by kernel_rfl
  obtain ⟨rows, h1, h2⟩ := sl_structs (Q := fun r => ∃ a : ActD, r = actDC a ∧ rowP_sl_actsD a) Try.underlying49 hc (by decide) hok h (fun n cs x hx => by
    obtain ⟨xs, m, _, _, hl, hlen, hel⟩ := DataW.trod_struct Try.underlying55 hx
    rw [hc] at hl
    match cs, hl with
    | [k0, k1, k2, k3], _ =>
      match xs, hlen with
      | [y0, y1, y2, y3], _ =>
        have e0 : DataW.trod enc Try.prog w 0 (fun _ => true) held m 3 ((([k0, k1, k2, k3] : List Value).drop 0).take (Try.prog.cellsOf 3)) = some y0 := hel 0 _ rfl
        rw [cint] at e0
        have f0 : DataW.trod enc Try.prog w 0 (fun _ => true) held m 3 [k0] = some y0 := e0
        have e1 : DataW.trod enc Try.prog w 0 (fun _ => true) held m 3 ((([k0, k1, k2, k3] : List Value).drop 1).take (Try.prog.cellsOf 3)) = some y1 := hel 1 _ rfl
        rw [cint] at e1
        have f1 : DataW.trod enc Try.prog w 0 (fun _ => true) held m 3 [k1] = some y1 := e1
        have e2 : DataW.trod enc Try.prog w 0 (fun _ => true) held m 3 ((([k0, k1, k2, k3] : List Value).drop 2).take (Try.prog.cellsOf 3)) = some y2 := hel 2 _ rfl
        rw [cint] at e2
        have f2 : DataW.trod enc Try.prog w 0 (fun _ => true) held m 3 [k2] = some y2 := e2
        have e3 : DataW.trod enc Try.prog w 0 (fun _ => true) held m 9 ((([k0, k1, k2, k3] : List Value).drop 3).take (Try.prog.cellsOf 9)) = some y3 := hel 3 _ rfl
        rw [cstr] at e3
        have f3 : DataW.trod enc Try.prog w 0 (fun _ => true) held m 9 [k3] = some y3 := e3
        obtain ⟨z0, g0, _, w0⟩ := DataW.trod_int Try.underlying3 f0
        obtain ⟨z1, g1, _, w1⟩ := DataW.trod_int Try.underlying3 f1
        obtain ⟨z2, g2, _, w2⟩ := DataW.trod_int Try.underlying3 f2
        obtain ⟨z3, g3, _, w3⟩ := DataW.trod_string Try.underlying9 f3
        cases g0
        cases g1
        cases g2
        cases g3
        exact ⟨⟨z0, z1, z2, z3⟩, rfl, ⟨w0, w1, w2, w3⟩⟩)
  obtain ⟨l, e1, e2, e3⟩ := rows_sl_actsD rows h2
  rw [e1, e2] at h1
  exact ⟨l, h1, e3⟩
end Go.Proofs.Ytjgcbcahikemdaa
