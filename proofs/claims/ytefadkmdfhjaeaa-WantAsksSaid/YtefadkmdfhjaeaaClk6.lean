/- A clock's keys, sorted by when they are due. -/
import Derived.Test.YtefadkmdfhjaeaaClk5
import Derived.Test.YtefadkmdfhjaeaaRowl
import Derived.Test.YtefadkmdfhjaeaaShelfC
namespace Go.Proofs.Ytefadkmdfhjaeaa
open Go.Conc Go.RowKit Go.Maps Go.Sort Go.Shelf

structure KeyB where
  val : ByteArray
  ok : val.size ≤ maxLen
instance : Inhabited KeyB := ⟨⟨⟨#[]⟩, Nat.zero_le _⟩⟩
def encK (k : KeyB) : Value := .string k.val
def cfK (L : List (ByteArray × (Int × Int))) (x y : KeyB) : Int := cfC L x.1 y.1
theorem keysB : ∀ (d : List ByteArray), (∀ x ∈ d, x.size ≤ maxLen) → ∃ dk : List KeyB, dk.map KeyB.val = d
  | [], _ => ⟨[], rfl⟩
  | x :: d, h => by
    obtain ⟨dk, hd⟩ := keysB d (fun y hy => h y (List.mem_cons_of_mem _ hy))
    exact ⟨⟨x, h x (by simp)⟩ :: dk, by rw [List.map_cons, hd]⟩
/-- Before: an earlier tick, of the same tick an earlier order. -/
def ltE (p q : Int × Int) : Prop := p.1 < q.1 ∨ (p.1 = q.1 ∧ p.2 < q.2)
instance (p q : Int × Int) : Decidable (ltE p q) := by unfold ltE; infer_instance
theorem cfC_neg (L : List (ByteArray × (Int × Int))) (x y : ByteArray) : cfC L x y < 0 ↔ ltE (entAt L x) (entAt L y) := by
  unfold cfC orZ cmpZ ltE
  generalize (entAt L x).1 = a
  generalize (entAt L x).2 = o
  generalize (entAt L y).1 = a2
  generalize (entAt L y).2 = o2
  by_cases h1 : a < a2 <;> by_cases h2 : a2 < a <;> by_cases h3 : o < o2 <;> by_cases h4 : o2 < o <;> simp [h1, h2, h3, h4] <;> omega
theorem cf_swo (L : List (ByteArray × (Int × Int))) : SWO (ltOf (cfK L)) where
  irrefl x := by
    have h : ¬ cfK L x x < 0 := by unfold cfK; rw [cfC_neg]; unfold ltE; omega
    simpa [ltOf] using h
  trans x y z h1 h2 := by
    have a : cfK L x y < 0 := by simpa [ltOf] using h1
    have b : cfK L y z < 0 := by simpa [ltOf] using h2
    have h : cfK L x z < 0 := by unfold cfK at *; rw [cfC_neg] at *; unfold ltE at *; omega
    simpa [ltOf] using h
  ntrans x y z h1 h2 := by
    have a : ¬ cfK L x y < 0 := by simpa [ltOf] using h1
    have b : ¬ cfK L y z < 0 := by simpa [ltOf] using h2
    have h : ¬ cfK L x z < 0 := by unfold cfK at *; rw [cfC_neg] at *; unfold ltE at *; omega
    simpa [ltOf] using h

/-- Sorted by when they are due. -/
def DueSorted (L : List (ByteArray × (Int × Int))) (d : List ByteArray) : Prop := d.Pairwise (fun x y => ¬ ltE (entAt L y) (entAt L x))
theorem strKeys_mapD (L : List (ByteArray × (Int × Int))) (hs : ∀ p ∈ L, p.1.size ≤ maxLen) : (strKeys (mapD Try.prog 9 Value.string entC L)).Perm (L.map (fun p => p.1.data.toList)) := by
  have h1 : ((L.map (entL Try.prog 9 Value.string entC)).foldr DataW.insert []).Perm (L.map (entL Try.prog 9 Value.string entC)) := WideShapes.sorted_perm _
  have h2 := h1.map (fun p => strOf p.1)
  refine h2.trans ?_
  rw [List.map_map]
  refine List.Perm.of_eq (List.map_congr_left (fun p hp => ?_))
  simp only [Function.comp_apply, entL]
  rw [keyL_of (WideMaps.keyOf_string_mk Try.underlying9 (hs p hp))]
  rfl
theorem enter_keys1 : ∀ args w, (callFunc 49 args).run Try.prog w = .ok (.enter 49 args) w := enters_of Try.func49 (by kernel_rfl) rfl
theorem enter_due1 : ∀ args w, (callFunc 37 args).run Try.prog w = .ok (.enter 37 args) w := enters_of Try.func37 (by kernel_rfl) rfl
theorem collect_clk (W : World) (Bm b : Nat) (L : List (ByteArray × (Int × Int))) (hm : CMap W b L) (hBm : W.cell? ⟨Bm, 0, none⟩ = some (.map (some b))) (hs : ∀ p ∈ L, p.1.size ≤ maxLen) (hL : L.length < 1000000) :
    Calls Try.prog 43 #[.func (.func 49) #[] #[.pointer (some ⟨Bm, 0, none⟩)]] W fun e w' => ∃ v d, e = .returned v ∧ d.Perm (L.map (·.1)) ∧ Only (fun _ => False) W w' ∧ w'.ownsRow W.heap.size 9 1 v d.length (d.map Value.string) ∧ (v = .slice none 0 0 ↔ d = []) := by
  have hseq := AnyZ.keys_gives (ρ := Try.keysS_ren) { Try.keysS with } Fence.wide 1 trivial rfl (by omega) Bm b L.length _ W (World.block_lt_of_cell? _ _ hBm) hBm hm.own
  have hcon := callsIn_wide.1 (AnyZ.collect_in Try.collectS Fence.wide 3 trivial trivial rfl (by omega) 49 #[.pointer (some ⟨Bm, 0, none⟩)] trivial enter_keys1 _ _ (by rw [size_mapD]; unfold maxLen; omega) (by rw [size_mapD]; omega) W hseq)
  refine hcon.mono ?_
  rintro e w' ⟨v, ss, rfl, hS, hrow, hnil, hb⟩
  have hp := hS.trans (strKeys_mapD L hs)
  have hp2 := hp.map (fun l : List UInt8 => (⟨l.toArray⟩ : ByteArray))
  rw [List.map_map] at hp2
  refine ⟨v, ss.map (fun l => ⟨l.toArray⟩), rfl, ?_, Only.of_below hb, ?_, ?_⟩
  · refine hp2.trans (List.Perm.of_eq (List.map_congr_left (fun p _ => ?_)))
    simp
  · rw [List.length_map, List.map_map]
    exact hrow
  · rw [hnil]; simp

set_option maxRecDepth 100000 in
set_option maxHeartbeats 2000000 in
theorem sorted_clk (W : World) (Bm B1 c b : Nat) (L : List (ByteArray × (Int × Int))) (hm : CMap W b L) (hBm : W.cell? ⟨Bm, 0, none⟩ = some (.map (some b))) (h1 : W.cell? ⟨B1, 0, none⟩ = some (.pointer (some ⟨c, 0, none⟩)))
    (hc : W.cell? ⟨c, 0, none⟩ = some (.map (some b))) (hs : ∀ p ∈ L, p.1.size ≤ maxLen) (hL : L.length < 1000000) :
    Calls Try.prog 35 #[.func (.func 49) #[] #[.pointer (some ⟨Bm, 0, none⟩)], .func (.func 37) #[] #[.pointer (some ⟨B1, 0, none⟩)]] W fun e w' => ∃ v d, e = .returned v ∧ d.Perm (L.map (·.1)) ∧ DueSorted L d ∧ Only (fun _ => False) W w' ∧ w'.ownsRow W.heap.size 9 1 v d.length (d.map Value.string) ∧ (v = .slice none 0 0 ↔ d = []) := by
  have hcol := collect_clk W Bm b L hm hBm hs hL
  go_enter Try.func35, Try.ntmps35
  go_wp2_with fail
  refine hcol.mono ?_
  rintro e w1 ⟨v, d, rfl, hp, ho, hrow, hnil⟩
  have hm1 := hm.kept ho id
  have g1 := ho.cell h1 id
  have gc := ho.cell hc id
  have hsort : Calls Try.prog 48 #[v, .func (.func 37) #[] #[.pointer (some ⟨B1, 0, none⟩)]] w1 fun e w' => e = .returned (.tuple #[]) ∧ ∃ d', d'.Perm (L.map (·.1)) ∧ DueSorted L d' ∧ Only (fun _ => False) W w' ∧ w'.ownsRow W.heap.size 9 1 v d'.length (d'.map Value.string) ∧ (v = .slice none 0 0 ↔ d' = []) := by
    by_cases hv : v = .slice none 0 0
    · have hd := hnil.1 hv
      subst hd hv
      refine (AnyF.slices_SortFunc_none { Try.sortFS with } none 0 _ w1).mono ?_
      rintro e w' ⟨rfl, rfl⟩
      exact ⟨rfl, [], hp, List.Pairwise.nil, ho, hrow, by simp⟩
    · have hsz : ∀ x ∈ d, x.size ≤ maxLen := fun x hx => by
        obtain ⟨p, hp', rfl⟩ := List.mem_map.1 (hp.mem_iff.1 hx)
        exact hs p hp'
      obtain ⟨dk, hdk⟩ := keysB d hsz
      subst hdk
      rcases hrow.2 with ⟨h2, _⟩ | ⟨g, cap, cur, rfl, hb, hg, hnc, hcm, hcs, ht⟩
      · exact absurd h2 hv
      have hrow2 : w1.ownsRow W.heap.size 9 1 (.slice (some ⟨g, 0, none⟩) dk.toArray.size cap) dk.toArray.size (dk.toArray.toList.map encK) := by
        have := hrow
        rw [List.length_map, List.map_map] at this
        exact this
      obtain ⟨hH, hgl, _⟩ := row_holds hrow2
      have hcmp : CmpLays1 Try.prog 37 #[.pointer (some ⟨B1, 0, none⟩)] encK (cfK L) g 0 dk.toArray.size w1 := by
        intro m os dk' _ x y
        have ho2 := sortWorld_only encK w1 g m dk' os
        have hne : ∀ k, k < W.heap.size → ¬ k = g := fun k hk e => by omega
        have n1 : ¬ B1 = g := hne _ (World.block_lt_of_cell? _ _ h1)
        have n2 : ¬ c = g := hne _ (World.block_lt_of_cell? _ _ hc)
        have n3 : ¬ b = g := hne _ hm.lt
        exact due1_any _ B1 c b L (ho2.cell g1 n1) (ho2.cell gc n2) (hm1.kept ho2 n3) x.1 y.1 x.2 y.2
      have hcon := Any.slices_SortFunc Try.sortFS encK (fun _ => rfl) (cfK L) (cf_swo L) 37 #[.pointer (some ⟨B1, 0, none⟩)] g 0 cap dk.toArray w1 enter_due1 hcmp hH hgl (by
        have := hp.length_eq
        simp at this ⊢
        omega)
      have e1 : ((dk.map KeyB.val).length) = dk.toArray.size := by simp
      rw [e1]
      refine hcon.mono ?_
      rintro e w' ⟨rfl, d', n, os, ⟨hsz', _, hperm⟩, hsorted, rfl⟩
      have hpl : d'.toList.Perm dk := by
        have := hperm
        simp only [Array.extract_size] at this
        rw [show (d'.extract 0 dk.toArray.size) = d' by rw [← hsz']; exact Array.extract_size] at this
        simpa using this
      refine ⟨rfl, d'.toList.map KeyB.val, (hpl.map _).trans hp, ?_, ?_, ?_, ?_⟩
      · unfold DueSorted
        rw [List.pairwise_map, List.pairwise_iff_getElem]
        intro i j hi hj hij
        have hi' : i < d'.size := by simpa using hi
        have hj' : j < d'.size := by simpa using hj
        have h := hsorted i j (Nat.zero_le _) hij (by omega)
        rw [getElem!_pos d' i hi', getElem!_pos d' j hj'] at h
        rw [← cfC_neg]
        have h' : ¬ cfK L d'[j] d'[i] < 0 := by simpa [ltOf] using h
        simpa [cfK] using h'
      · exact ho.tr (sortWorld_only encK w1 g n d' os) (fun i hi e => by omega)
      · have r1 := put_row (w := Sort.ahead w1 n) (enc := encK) hrow2 rfl d' hsz' d'.size (Nat.le_refl _)
        have r2 := owns_only r1 (grow_only _ os) (fun _ _ => id)
        rw [List.take_of_length_le (by simp)] at r2
        have e2 : (d'.toList.map KeyB.val).length = d'.size := by simp
        have e3 : ((d'.toList.map KeyB.val).map Value.string) = d'.toList.map encK := by rw [List.map_map]; rfl
        rw [e2, e3, ← hsz']
        exact r2
      · constructor
        · intro h; cases h
        · intro h
          have e2 : d'.toList = [] := List.map_eq_nil_iff.1 h
          rw [e2] at hpl
          cases hnil.2 (by rw [← List.Perm.nil_eq hpl]; rfl)
  go_wp2_with fail
  refine hsort.mono ?_
  rintro e w2 ⟨rfl, d', h1, h2, h3, h4, h5⟩
  go_wp2_with fail
  go_ret
  exact ⟨v, d', rfl, h1, h2, h3, h4, h5⟩
end Go.Proofs.Ytefadkmdfhjaeaa
