/- A mesh: Nodes. -/
import Derived.Test.YtjgcbcahikemdaaMesh7
import Derived.Test.YtjgcbcahikemdaaIterI
import Derived.Maps.RangeWalk
import Derived.Shelf.SlIterI.Nil
import Derived.Shelf.SlIterI.Sorted
import Derived.Shelf.SortM.Plain
import Derived.Shelf.SortM.SortNone
namespace Go.Proofs.Ytjgcbcahikemdaa
open Go.Conc Go.RowKit Go.Maps Go.Sort Go.Shelf

theorem sortsI (m : Nat) : AnyZI.SortsIn Try.prog Try.sortedI_ren Fence.wide m :=
  ⟨fun blk off cap ss W hH hblk hsz => callsIn_wide.2 (AnyM.slices_Sort_int Try.sortI blk off cap ss W hH hblk hsz),
   fun p cap W => callsIn_wide.2 (AnyM.slices_Sort_int_none Try.sortI p cap W)⟩
theorem lkeys_any (mb : Option Nat) (W : World) : Calls Try.prog 61 #[.map mb] W fun e w' => e = .returned (.func (.func 78) #[] #[.pointer (some ⟨W.heap.size, 0, none⟩)]) ∧ w' = W.alloc (.cells #[.map mb] 102) :=
  callsIn_wide.1 (AnyZI.keys_in Try.keysL Fence.wide 5 trivial rfl mb W)
theorem sortedI_any {H : Type} (b nn : Nat) (D0 : DataW H) (R : Value → Option (DataW H × List MemPlace)) (w : World) (hown : w.ownsMap Try.prog 3 R b nn D0) (hmax : Maps.size D0 ≤ maxLen) (hbytes : Maps.size D0 * 8 ≤ 140737488355328) :
    Calls Try.prog 60 #[.func (.func 78) #[] #[.pointer (some ⟨w.heap.size, 0, none⟩)]] (w.alloc (.cells #[.map (some b)] 102)) fun e w' => ∃ (v : Value) (ss : List Int), e = .returned v ∧ ss.Perm (intKeys D0) ∧
      w'.ownsRow (w.alloc (.cells #[.map (some b)] 102)).heap.size 3 1 v ss.length ((ss.mergeSort (fun x y => decide (x ≤ y))).map encZ) ∧ (v = .slice none 0 0 ↔ ss = []) ∧ Below (w.alloc (.cells #[.map (some b)] 102)).heap.size (w.alloc (.cells #[.map (some b)] 102)) w' := by
  have hbl := hown.lt
  have hseq : SeqGives Fence.wide 2 Try.prog 78 #[.pointer (some ⟨w.heap.size, 0, none⟩)] encZ (fun ss => ss.Perm (intKeys D0)) (Maps.size D0) (w.alloc (.cells #[.map (some b)] 102)) :=
    AnyZI.keys_gives (ρ := Try.keysL_ren) { Try.keysL with } Fence.wide _ trivial rfl (by omega) w.heap.size b nn D0 _ (by simp) (by simp) (by
      obtain ⟨es, clock, hb, Ft, hs, hD⟩ := hown
      exact ⟨es, clock, (Below.heap_alloc _ _ b hbl).trans hb, Ft, hs, hD⟩)
  exact callsIn_wide.1 (AnyZI.sorted_in Try.sortedI Fence.wide 5 trivial trivial trivial trivial rfl (by omega) (sortsI _) (enters_of Try.func77 (by kernel_rfl) rfl) 78 #[.pointer (some ⟨w.heap.size, 0, none⟩)] trivial (enters_of Try.func78 (by kernel_rfl) rfl) _ _ hmax hbytes _ hseq)
theorem intKeys_lv {w : World} {b : Nat} {lv : List Int} (h : LMap w b lv) : (intKeys (mapD Try.prog 3 intV Value.bool (lv.map (·, true)))).Perm lv := by
  have h1 : (((lv.map (·, true)).map (entL Try.prog 3 intV Value.bool)).foldr DataW.insert []).Perm ((lv.map (·, true)).map (entL Try.prog 3 intV Value.bool)) := WideShapes.sorted_perm _
  have h2 := h1.map (fun p => Go.intOf p.1)
  refine h2.trans ?_
  rw [List.map_map, List.map_map]
  refine List.Perm.of_eq ?_
  conv => rhs; rw [← List.map_id lv]
  refine List.map_congr_left (fun x hx => ?_)
  obtain ⟨l, hl⟩ := h.keys (x, true) (List.mem_map.2 ⟨x, hx, rfl⟩)
  simp only [Function.comp_apply, entL]
  rw [keyL_of hl]
  obtain ⟨y, hy1, hy2, _⟩ := Maps.keyOf_int_inv Try.underlying3 hl
  rw [hy2]
  have : intV x = intV y := hy1
  exact (intInj _ _ this).symm
set_option maxRecDepth 100000 in
theorem mnodes_any (w : World) (m lb pb : Nat) (lv : List Int) (L : PMap) (h : MeshAt w m lb pb lv L) (hl : lv.length ≤ 1000000) :
    Calls Try.prog 35 #[.pointer (some ⟨m, 0, none⟩)] w fun e w' => ∃ (v : Value) (ss : List Int), e = .returned v ∧ Only (fun _ => False) w w' ∧ ss.Perm lv ∧ w'.ownsRow w.heap.size 3 1 v ss.length (ss.map intV) := by
  have c0 : w.cell? ⟨m, 0, none⟩ = some (.map (some lb)) := cell_at h.blk 0
  have hsz : Maps.size (mapD Try.prog 3 intV Value.bool (lv.map (·, true))) ≤ 1000000 := by rw [size_mapD, List.length_map]; exact hl
  have hsrt := sortedI_any lb _ _ _ w h.live.own (by unfold maxLen; omega) (by omega)
  have hkeys := intKeys_lv h.live
  have HS := Lib.hid hsrt
  have HK := Lib.hid hkeys
  clear hsrt hkeys
  clear hsz h hl
  go_enter Try.func35, Try.ntmps35
  go_wp2_with fail
  refine (lkeys_any (some lb) w).mono ?_
  rintro e w1 ⟨rfl, rfl⟩
  clear c0
  go_wp2_with fail
  refine HS.out.mono ?_
  rintro e w2 ⟨v, ss, rfl, hp, hrow, hnil, hb⟩
  go_wp2_with fail
  go_ret
  refine ⟨v, ss.mergeSort (fun x y => decide (x ≤ y)), rfl, ((Only.refl _ _).alloc _).trans (Only.of_below hb), ((List.mergeSort_perm ss _).trans hp).trans HK.out, ?_⟩
  have h3 := ownsRow_base_a hrow (show w.heap.size ≤ _ by simp)
  rw [← List.length_mergeSort (le := fun x y => decide (x ≤ y)) ss] at h3
  exact h3
end Go.Proofs.Ytjgcbcahikemdaa
