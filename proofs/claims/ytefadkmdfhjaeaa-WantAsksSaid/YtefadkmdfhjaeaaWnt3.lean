/- What is wanted: Ids. -/
import Derived.Test.YtefadkmdfhjaeaaWnt2
import Derived.Test.YtefadkmdfhjaeaaIterS
import Derived.Test.YtefadkmdfhjaeaaGen
import Derived.Shelf.SlIter.Nil
import Derived.Shelf.SortM.Plain
import Derived.Shelf.SortM.SortNone
import Derived.Sort.KeysCollected
namespace Go.Proofs.Ytefadkmdfhjaeaa
open Go.Conc Go.RowKit Go.Maps Go.Sort Go.Shelf

theorem sortsS (m : Nat) : AnyZ.SortsIn Try.prog Try.sortedS_ren Fence.wide m :=
  ⟨fun blk off cap ss W hH hblk hsz => callsIn_wide.2 (AnyM.slices_Sort_string Try.sortS blk off cap ss W hH hblk hsz),
   fun p cap W => callsIn_wide.2 (AnyM.slices_Sort_string_none Try.sortS p cap W)⟩
theorem nkeys_any (mb : Option Nat) (W : World) : Calls Try.prog 25 #[.map mb] W fun e w' => e = .returned (.func (.func 45) #[] #[.pointer (some ⟨W.heap.size, 0, none⟩)]) ∧ w' = W.alloc (.cells #[.map mb] 64) :=
  callsIn_wide.1 (AnyZ.keys_in Try.keysN Fence.wide 5 trivial rfl mb W)
theorem nsorted_any {H : Type} (b nn : Nat) (D0 : DataW H) (R : Value → Option (DataW H × List MemPlace)) (w : World) (hown : w.ownsMap Try.prog 9 R b nn D0) (hmax : Maps.size D0 ≤ maxLen) (hbytes : Maps.size D0 * 16 ≤ 140737488355328) :
    Calls Try.prog 24 #[.func (.func 45) #[] #[.pointer (some ⟨w.heap.size, 0, none⟩)]] (w.alloc (.cells #[.map (some b)] 64)) fun e w' => ∃ (v : Value) (ss : List (List UInt8)), e = .returned v ∧ ss.Perm (strKeys D0) ∧
      w'.ownsRow (w.alloc (.cells #[.map (some b)] 64)).heap.size 9 1 v ss.length ((ss.mergeSort (fun x y => decide (x ≤ y))).map encStr) ∧ (v = .slice none 0 0 ↔ ss = []) ∧ Below (w.alloc (.cells #[.map (some b)] 64)).heap.size (w.alloc (.cells #[.map (some b)] 64)) w' := by
  have hbl := hown.lt
  have hseq : SeqGives Fence.wide 2 Try.prog 45 #[.pointer (some ⟨w.heap.size, 0, none⟩)] encStr (fun ss => ss.Perm (strKeys D0)) (Maps.size D0) (w.alloc (.cells #[.map (some b)] 64)) :=
    AnyZ.keys_gives (ρ := Try.keysN_ren) { Try.keysN with } Fence.wide _ trivial rfl (by omega) w.heap.size b nn D0 _ (by simp) (by simp) (by
      obtain ⟨es, clock, hb, Ft, hs, hD⟩ := hown
      exact ⟨es, clock, (Below.heap_alloc _ _ b hbl).trans hb, Ft, hs, hD⟩)
  exact callsIn_wide.1 (AnyZ.sorted_in Try.sortedS Fence.wide 5 trivial trivial trivial trivial rfl (by omega) (sortsS _) (enters_of Try.func44 (by kernel_rfl) rfl) 45 #[.pointer (some ⟨w.heap.size, 0, none⟩)] trivial (enters_of Try.func45 (by kernel_rfl) rfl) _ _ hmax hbytes _ hseq)
theorem strKeys_prsW {L : List EntW} (hs : ∀ e ∈ L, e.key.size ≤ maxLen) : (strKeys (mapD Try.prog 9 Value.string (fun v : Value => v) (prsW L))).Perm (L.map (fun e => e.key.data.toList)) := by
  have h1 : (((prsW L).map (entL Try.prog 9 Value.string (fun v : Value => v))).foldr DataW.insert []).Perm ((prsW L).map (entL Try.prog 9 Value.string (fun v : Value => v))) := WideShapes.sorted_perm _
  have h2 := h1.map (fun p => strOf p.1)
  refine h2.trans ?_
  unfold prsW
  rw [List.map_map, List.map_map]
  refine List.Perm.of_eq (List.map_congr_left (fun x hx => ?_))
  simp only [Function.comp_apply, entL]
  rw [keyL_of (WideMaps.keyOf_string_mk Try.underlying9 (hs x hx))]
  rfl
/-- The entries, by their keys: how a sorted list of the keys' bytes reads. -/
theorem sorted_ents (L : List EntW) (hap : L.Pairwise (fun p q => p.key ≠ q.key)) {ss : List (List UInt8)} (hp : ss.Perm (L.map (fun e => e.key.data.toList))) : ∃ S : List EntW, S.Perm L ∧ S.Pairwise (fun p q => p.key.data.toList < q.key.data.toList) ∧ ss.mergeSort (fun x y => decide (x ≤ y)) = S.map (fun e => e.key.data.toList) := by
  let le : EntW → EntW → Bool := fun p q => decide (p.key.data.toList ≤ q.key.data.toList)
  have htr : ∀ a b c : EntW, le a b = true → le b c = true → le a c = true := fun a b c h1 h2 => decide_eq_true (List.le_trans (of_decide_eq_true h1) (of_decide_eq_true h2))
  have htot : ∀ a b : EntW, (le a b || le b a) = true := fun a b => by
    rcases List.le_total a.key.data.toList b.key.data.toList with h | h
    · show (decide _ || decide _) = true
      rw [decide_eq_true h]; rfl
    · show (decide _ || decide _) = true
      rw [decide_eq_true h, Bool.or_true]
  have hS := List.mergeSort_perm L le
  have hpw := List.pairwise_mergeSort (le := le) htr htot L
  have hap2 : (L.mergeSort le).Pairwise (fun p q => p.key ≠ q.key) := (hS.pairwise_iff (fun {_ _} h => Ne.symm h)).2 hap
  refine ⟨L.mergeSort le, hS, ?_, ?_⟩
  · refine (hpw.and hap2).imp (fun {a b} h => ?_)
    have h1 : a.key.data.toList ≤ b.key.data.toList := of_decide_eq_true h.1
    have h2 : a.key.data.toList ≠ b.key.data.toList := fun e => h.2 (by
      have : a.key.data = b.key.data := Array.toList_inj.1 e
      cases ha : a.key; cases hb : b.key
      rw [ha, hb] at this
      exact congrArg ByteArray.mk this)
    show a.key.data.toList < b.key.data.toList
    rcases List.le_iff_lt_or_eq.1 h1 with h | h
    · exact h
    · exact absurd h h2
  · have h1 : (ss.mergeSort (fun x y => decide (x ≤ y))).Pairwise (fun x y => decide (x ≤ y) = true) := List.pairwise_mergeSort (le := fun x y : List UInt8 => decide (x ≤ y)) (fun a b c hab hbc => decide_eq_true (List.le_trans (of_decide_eq_true hab) (of_decide_eq_true hbc))) (fun a b => by
      rcases List.le_total a b with h | h
      · show (decide (a ≤ b) || decide (b ≤ a)) = true
        rw [decide_eq_true h]; rfl
      · show (decide (a ≤ b) || decide (b ≤ a)) = true
        rw [decide_eq_true h, Bool.or_true]) ss
    have h2 : ((L.mergeSort le).map (fun e => e.key.data.toList)).Pairwise (fun x y => decide (x ≤ y) = true) := by
      rw [List.pairwise_map]
      exact hpw
    exact (((List.mergeSort_perm ss _).trans hp).trans (hS.map _).symm).eq_of_pairwise (fun a b _ _ hab hba => List.le_antisymm (of_decide_eq_true hab) (of_decide_eq_true hba)) h1 h2
theorem infoIdW : (Try.prog.info? 29).map (fun i => (i.zero, i.size, i.bytes)) = some (some (.agg #[.string ⟨#[]⟩, .int .u64 0]), 2, 24) := by kernel_rfl
theorem fieldW0 (v : Nat) (a : Option Addr) (n c : Nat) (w : World) : (Instr.field 70 (.agg #[.int .u64 v, .slice a n c]) 0).run Try.prog w = .ok (.int .u64 v) w := by kernel_rfl
def idW (e : EntW) : List Value := [.string e.key, .int .u64 e.ver]
theorem idW_one (e : EntW) : ∀ u ∈ idW e, u.oneCell' = true := by
  intro u hu
  simp only [idW, List.mem_cons, List.not_mem_nil, or_false] at hu
  rcases hu with rfl | rfl <;> rfl
theorem wids_nil (w : World) : Calls Try.prog 10 #[.pointer none] w fun e w' => e = .returned (.slice none 0 0) ∧ w = w' := by
  go_enter Try.func10, Try.ntmps10
  go_wp2_with fail
  go_ret
  exact ⟨rfl, rfl⟩
def keyC (e : EntW) : List Value := [.string e.key]
theorem keyC_length (e : EntW) : (keyC e).length = 1 := rfl
theorem WantAt.apart {w : World} {x kb c cb : Nat} {wait cnt : Int} {L : List EntW} {C : List (ByteArray × (Int × Int))} (h : WantAt w x kb c cb wait cnt L C) : L.Pairwise (fun p q => p.key ≠ q.key) := by
  have := h.keys.apart
  unfold prsW at this
  rw [List.pairwise_map] at this
  exact this
theorem findW_mem {L : List EntW} (ha : L.Pairwise (fun p q => p.key ≠ q.key)) {e : EntW} (h : e ∈ L) : findW L e.key = some e := by
  induction L with
  | nil => cases h
  | cons p L ih =>
    obtain ⟨h1, h2⟩ := List.pairwise_cons.1 ha
    unfold findW
    rcases List.mem_cons.1 h with rfl | h
    · simp
    · rw [List.find?_cons_of_neg (by simpa using h1 e h)]
      exact ih h2 h
/-- Sorted entries. -/
def SortedW (S L : List EntW) : Prop := S.Perm L ∧ S.Pairwise (fun p q => p.key.data.toList < q.key.data.toList)
set_option maxRecDepth 100000 in
set_option maxHeartbeats 4000000 in
theorem wids_any (w : World) (x kb c cb : Nat) (wait cnt : Int) (L : List EntW) (C : List (ByteArray × (Int × Int))) (h : WantAt w x kb c cb wait cnt L C) (hL : L.length ≤ 1000) :
    Calls Try.prog 10 #[.pointer (some ⟨x, 0, none⟩)] w fun e w' => ∃ v, e = .returned v ∧ Only (fun _ => False) w w' ∧ ∃ S, SortedW S L ∧ w'.ownsRow w.heap.size 29 2 v S.length (S.flatMap idW) := by
  obtain ⟨i0, hi0, iz0, iz1, iz2⟩ := info_parts infoIdW
  have c0 : w.cell? ⟨x, 0, none⟩ = some (.map (some kb)) := cell_at h.blk 0
  have hsz : Maps.size (mapD Try.prog 9 Value.string (fun v : Value => v) (prsW L)) ≤ 1000 := by rw [size_mapD]; unfold prsW; rw [List.length_map]; exact hL
  have hsrt := nsorted_any kb _ _ _ w h.keys.own (by unfold maxLen; omega) (by omega)
  have HSK := Lib.hid (strKeys_prsW (L := L) (fun e he => (h.small e he).1))
  have HS := Lib.hid hsrt
  have HH := Lib.hid h
  clear hsrt h
  clear hsz
  go_enter Try.func10, Try.ntmps10
  go_wp2_with fail
  refine (nkeys_any (some kb) w).mono ?_
  rintro e w1 ⟨rfl, rfl⟩
  clear c0
  go_wp2_with fail
  refine HS.out.mono ?_
  rintro e w2 ⟨v, ss, rfl, hp, hrow, hnil, hb⟩
  obtain ⟨S, hS1, hS2, hS3⟩ := sorted_ents L HH.out.apart (hp.trans HSK.out)
  have ho2 : Only (fun _ => False) w w2 := ((Only.refl _ _).alloc _).trans (Only.of_below hb)
  have hlen : ss.length = S.length := by rw [← List.length_mergeSort (le := fun x y => decide (x ≤ y)) ss, hS3, List.length_map]
  rw [hS3, hlen, List.map_map] at hrow
  have hsl : Sl w2 1 v S.length (S.flatMap keyC) := by
    have h9 := Sl.of_owns hrow
    rw [show S.map (encStr ∘ fun e => e.key.data.toList) = S.flatMap keyC by rw [List.map_eq_flatMap]; rfl] at h9
    exact h9
  obtain ⟨ka, kcap, rfl, k1, k2, k3⟩ := Sl.cells keyC_length hsl
  unfold maxLen at k2
  have hSL : S.length ≤ 1000 := by rw [hS1.length_eq]; exact hL
  have hlook : ∀ e ∈ S, ∀ w', Only (fun _ => False) w2 w' → (Instr.lookup 64 (.map (some kb)) (.string e.key) false).run Try.prog w' = .ok (.agg #[.int .u64 e.ver, .slice e.a e.has.length e.cap]) w' := fun e he w' ho => by
    have hm := hS1.mem_iff.1 he
    have := (HH.out.keys.kept (ho2.trans ho) id).look strKeyed strInj Try.underlying64 (z := Value.agg #[.int .u64 0, .slice none 0 0]) (zeroW w') (strOk (HH.out.small e hm).1) false
    rw [look_prsW, findW_mem HH.out.apart hm] at this
    exact this
  have hx0 : ∀ w', Only (fun _ => False) w2 w' → w'.cell? ⟨x, 0, none⟩ = some (.map (some kb)) := fun w' ho => cell_at ((ho2.trans ho).old HH.out.blk id) 0
  have hsw : SortedW S L := ⟨hS1, hS2⟩
  have HO2 := Lib.hid ho2
  have HK := Lib.hid k3
  have HSW := Lib.hid hsw
  have HLK := Lib.hid hlook
  have HX0 := Lib.hid hx0
  have HSL := Lib.hid hSL
  clear ho2 k3 hsw hlook hx0 hSL
  clear hrow hsl hS1 hS2 hS3 hp hnil hb hlen
  go_wp2_with fail
  go_loopg [3, 15] S.length (fun g v3 v15 wr => ∃ k : Nat, v15 = .int .i64 k ∧ k ≤ S.length ∧ Only (fun _ => False) w2 wr ∧ wr.ownsRow w2.heap.size 29 2 v3 (S.take k).length ((S.take k).flatMap idW) ∧ g = S.length - k)
  case atStart => exact ⟨0, rfl, Nat.zero_le _, Only.refl _ _, World.ownsRow_nil w2 _ _ _, rfl⟩
  case round =>
    obtain ⟨k, rfl, hk, ho, hown, hg⟩ := hrel
    have Hg := Lib.hid hg
    have HO := Lib.hid ho
    have HW := Lib.hid hown
    clear hg ho hown
    by_cases hlt : k < S.length
    · obtain ⟨bb, off, ha, hcc⟩ := HK.out.at k hlt
      subst ha
      have y0 : wr.cell? ⟨bb, off + k, none⟩ = some (.string S[k].key) := by
        have h9 := HO.out.cell (hcc 0 _ rfl) id
        simpa using h9
      have htk : S.take (k + 1) = S.take k ++ [S[k]] := by rw [List.take_add_one, List.getElem?_eq_getElem hlt]; rfl
      have hln : (S.take k).length = k := by simp; omega
      have hlk := HLK.out S[k] (List.getElem_mem hlt) wr HO.out
      have x0 := HX0.out wr HO.out
      have HTK := Lib.hid htk
      have HLN := Lib.hid hln
      clear htk hln
      generalize S[k] = e at *
      obtain ⟨ky, vr, hs, sa, scp⟩ := e
      simp only at y0 hlk
      have hfl := fieldW0 vr sa hs.length scp wr
      have hlt' : (k : Int) < (S.length : Int) := by omega
      clear hcc
      go_wp2_with (at_builtin; refine Wait.mk ?_)
      refine Wait.go (wpList_append_src _ rfl (.tmp 19) (.tmp 29) 37 37 rfl w2.heap.size 29 i0 _ 2 24 Try.underlying37 hi0 iz0 iz1 iz2 rfl _ (S.take k).length ((S.take k).flatMap idW) rfl (HW.out.alloc _) _ 1 (idW ⟨ky, vr, hs, sa, scp⟩) rfl ?src4 ?m4 ?b4 ?base4 ?_)
      case src4 => exact Src.ofSlice _ Try.underlying37 _ _ _ _ rfl (news_new _ _ _) (idW_one _)
      case m4 => have := HLN.out; have := HSL.out; unfold maxLen; omega
      case b4 => have := HLN.out; have := HSL.out; omega
      case base4 => have h1 := HO.out.size; simp; omega
      intro v4 w5 own4 gr4 hv4
      have ho5 : Only (fun _ => False) w2 w5 := (HO.out.alloc _).own (HW.out.alloc _) (Nat.le_refl _) gr4
      have HO5 := Lib.hid ho5
      have HW5 := Lib.hid own4
      clear ho5 own4
      clear y0 hlk x0 hfl gr4 hv4
      go_wp2_with fail
      go_roundg (S.length - (k + 1))
      case measure => rw [Hg.out]; omega
      case rel =>
        refine ⟨k + 1, by go_num, by omega, HO5.out, ?_, rfl⟩
        rw [HTK.out, List.length_append, List.flatMap_append]
        have e1 : [EntW.mk ky vr hs sa scp].flatMap idW = idW ⟨ky, vr, hs, sa, scp⟩ := by simp
        rw [e1]
        exact HW5.out
    · have hke : k = S.length := by omega
      have hlt' : ¬ (k : Int) < (S.length : Int) := by omega
      have hW := HW.out
      rw [hke, List.take_length] at hW
      have HW2 := Lib.hid hW
      clear hW
      clear hke
      go_wp2_with fail
      go_ret
      exact ⟨_, rfl, HO2.out.trans HO.out, S, HSW.out, ownsRow_base_a HW2.out HO2.out.size⟩
end Go.Proofs.Ytefadkmdfhjaeaa
