/- A store: its keys, sorted. -/
import Derived.Test.YtianboachknfmaaDoorSto1
import Derived.Test.YtianboachknfmaaDoorIterS
import Derived.Shelf.SlIter.Nil
import Derived.Shelf.SortM.Plain
import Derived.Shelf.SortM.SortNone
import Derived.Sort.KeysCollected
namespace Go.Proofs.YtianboachknfmaaDoor
open Go.Conc Go.RowKit Go.Maps Go.Sort Go.Shelf

theorem sortsS (m : Nat) : AnyZ.SortsIn Tryd.prog Tryd.sortedS_ren Fence.wide m :=
  ⟨fun blk off cap ss W hH hblk hsz => callsIn_wide.2 (AnyM.slices_Sort_string Tryd.sortS blk off cap ss W hH hblk hsz),
   fun p cap W => callsIn_wide.2 (AnyM.slices_Sort_string_none Tryd.sortS p cap W)⟩
theorem mkeys_any (mb : Option Nat) (W : World) : Calls Tryd.prog 97 #[.map mb] W fun e w' => e = .returned (.func (.func 118) #[] #[.pointer (some ⟨W.heap.size, 0, none⟩)]) ∧ w' = W.alloc (.cells #[.map mb] 138) :=
  callsIn_wide.1 (AnyZ.keys_in Tryd.keysR Fence.wide 5 trivial rfl mb W)
theorem sorted_any {H : Type} (b nn : Nat) (D0 : DataW H) (R : Value → Option (DataW H × List MemPlace)) (w : World) (hown : w.ownsMap Tryd.prog 9 R b nn D0) (hmax : Maps.size D0 ≤ maxLen) (hbytes : Maps.size D0 * 16 ≤ 140737488355328) :
    Calls Tryd.prog 80 #[.func (.func 118) #[] #[.pointer (some ⟨w.heap.size, 0, none⟩)]] (w.alloc (.cells #[.map (some b)] 138)) fun e w' => ∃ (v : Value) (ss : List (List UInt8)), e = .returned v ∧ ss.Perm (strKeys D0) ∧
      w'.ownsRow (w.alloc (.cells #[.map (some b)] 138)).heap.size 9 1 v ss.length ((ss.mergeSort (fun x y => decide (x ≤ y))).map encStr) ∧ (v = .slice none 0 0 ↔ ss = []) ∧ Below (w.alloc (.cells #[.map (some b)] 138)).heap.size (w.alloc (.cells #[.map (some b)] 138)) w' := by
  have hbl := hown.lt
  have hseq : SeqGives Fence.wide 2 Tryd.prog 118 #[.pointer (some ⟨w.heap.size, 0, none⟩)] encStr (fun ss => ss.Perm (strKeys D0)) (Maps.size D0) (w.alloc (.cells #[.map (some b)] 138)) :=
    AnyZ.keys_gives (ρ := Tryd.keysR_ren) { Tryd.keysR with } Fence.wide _ trivial rfl (by omega) w.heap.size b nn D0 _ (by simp) (by simp) (by
      obtain ⟨es, clock, hb, Ft, hs, hD⟩ := hown
      exact ⟨es, clock, (Below.heap_alloc _ _ b hbl).trans hb, Ft, hs, hD⟩)
  exact callsIn_wide.1 (AnyZ.sorted_in Tryd.sortedS Fence.wide 5 trivial trivial trivial trivial rfl (by omega) (sortsS _) (enters_of Tryd.func108 (by kernel_rfl) rfl) 118 #[.pointer (some ⟨w.heap.size, 0, none⟩)] trivial (enters_of Tryd.func118 (by kernel_rfl) rfl) _ _ hmax hbytes _ hseq)
def keysS (L : List RecT) : List ByteArray := L.map (·.key)
theorem strKeys_prs {L : List RecT} (hs : ∀ x ∈ L, x.key.size ≤ maxLen) : (strKeys (mapD Tryd.prog 9 Value.string recT (prs L))).Perm (L.map (fun x => x.key.data.toList)) := by
  have h1 : (((prs L).map (entL Tryd.prog 9 Value.string recT)).foldr DataW.insert []).Perm ((prs L).map (entL Tryd.prog 9 Value.string recT)) := WideShapes.sorted_perm _
  have h2 := h1.map (fun p => strOf p.1)
  refine h2.trans ?_
  unfold prs
  rw [List.map_map, List.map_map]
  refine List.Perm.of_eq (List.map_congr_left (fun x hx => ?_))
  simp only [Function.comp_apply, entL]
  rw [keyL_of (WideMaps.keyOf_string_mk Tryd.underlying9 (hs x hx))]
  rfl
theorem merge_keys {L : List RecT} (h : Rising L) {ss : List (List UInt8)} (hp : ss.Perm (L.map (fun x => x.key.data.toList))) : ss.mergeSort (fun x y => decide (x ≤ y)) = L.map (fun x => x.key.data.toList) := by
  have h1 : (ss.mergeSort (fun x y => decide (x ≤ y))).Pairwise (fun x y => decide (x ≤ y) = true) := List.pairwise_mergeSort (le := fun x y : List UInt8 => decide (x ≤ y)) (fun a b c hab hbc => decide_eq_true (List.le_trans (of_decide_eq_true hab) (of_decide_eq_true hbc))) (fun a b => by
    rcases List.le_total a b with h | h
    · show (decide (a ≤ b) || decide (b ≤ a)) = true
      rw [decide_eq_true h]; rfl
    · show (decide (a ≤ b) || decide (b ≤ a)) = true
      rw [decide_eq_true h, Bool.or_true]) ss
  have h2 : (L.map (fun x => x.key.data.toList)).Pairwise (fun x y => decide (x ≤ y) = true) := by
    rw [List.pairwise_map]
    exact h.imp (fun {a b} hab => decide_eq_true (List.le_of_lt hab))
  exact ((List.mergeSort_perm ss _).trans hp).eq_of_pairwise (fun a b _ _ hab hba => List.le_antisymm (of_decide_eq_true hab) (of_decide_eq_true hba)) h1 h2
theorem skeys_nil (w : World) : Calls Tryd.prog 67 #[.pointer none] w fun e w' => e = .returned (.slice none 0 0) ∧ w = w' := by
  go_enter Tryd.func67, Tryd.ntmps67
  go_wp2_with fail
  go_ret
  exact ⟨rfl, rfl⟩
theorem skeys_any (w : World) (s b : Nat) (most ttl r : Int) (L : List RecT) (h : StoreAt w s b most ttl r L) (hs : ∀ x ∈ L, x.key.size ≤ maxLen) :
    Calls Tryd.prog 67 #[.pointer (some ⟨s, 0, none⟩)] w fun e w' => ∃ v, e = .returned v ∧ Only (fun _ => False) w w' ∧ w'.ownsRow w.heap.size 9 1 v L.length (L.map (fun x => .string x.key)) := by
  have c0 : w.cell? ⟨s, 0, none⟩ = some (.map (some b)) := cell_at h.blk 0
  have hsz : Maps.size (mapD Tryd.prog 9 Value.string recT (prs L)) ≤ 48 := by
    rw [size_mapD, prs_length]
    have h1 := h.ok.room
    have h2 := h.ok.mostB
    omega
  have hsrt := sorted_any b _ _ _ w h.map.own (by unfold maxLen; omega) (by omega)
  have HH := Lib.hid h
  have HS := Lib.hid hsrt
  have HZ := Lib.hid hs
  clear h hsrt hs
  clear hsz
  go_enter Tryd.func67, Tryd.ntmps67
  go_wp2_with fail
  refine (mkeys_any (some b) w).mono ?_
  rintro e w1 ⟨rfl, rfl⟩
  clear c0
  go_wp2_with fail
  refine HS.out.mono ?_
  rintro e w2 ⟨v, ss, rfl, hp, hrow, hnil, hb⟩
  go_wp2_with fail
  go_ret
  have hp2 := hp.trans (strKeys_prs HZ.out)
  rw [merge_keys HH.out.ok.rises hp2] at hrow
  refine ⟨v, rfl, ((Only.refl _ _).alloc _).trans (Only.of_below hb), ?_⟩
  have h3 := ownsRow_base_a hrow (show w.heap.size ≤ _ by simp)
  have e1 : ss.length = L.length := by rw [hp2.length_eq, List.length_map]
  rw [e1, List.map_map] at h3
  exact h3
end Go.Proofs.YtianboachknfmaaDoor
