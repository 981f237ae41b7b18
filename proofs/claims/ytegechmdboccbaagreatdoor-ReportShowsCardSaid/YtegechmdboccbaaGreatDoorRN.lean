/- The step from a walk to a row that lists tables, with the world's shape at hand. -/
import Derived.Test.YtegechmdboccbaaGreatDoorRM
import Derived.Deep.RegionHeld3
import Derived.Test.YtegechmdboccbaaGreatDoorRows
import Derived.Stop.LaidErr
import Derived.Lib.LaidTab
import Derived.Stop.Joined
import Derived.MakeChecks
import Derived.Test.YtegechmdboccbaaGreatDoorRA
import Derived.ProofKit
import Derived.OpenShut
import Derived.JoinedCond
import Derived.SizedLaws
import Derived.Deep.Slices
import Derived.Test.YtegechmdboccbaaGreatDoorShelf
import Derived.LaidMore
import Derived.Lay
import Derived.HandedShaped
/-! ReportShows' walk. -/
namespace Go.Proofs.YtegechmdboccbaaGreatDoor
open Go.Conc Go.RowKit Go.Maps

def bareR : List (List UInt8) := [[108, 105, 118, 101], [108, 111, 110, 101, 108, 121], [108, 111, 112, 115, 105, 100, 101, 100], [112, 97, 114, 116, 115], [107, 101, 121, 115], [98, 101, 104, 105, 110, 100], [111, 110, 119, 97, 121], [114, 101, 102, 117, 115, 101, 100]]
theorem bare_words (k : Nat) (hk : k < 8) : wordsR.getD k [] = bareR.getD k [] ++ [32] := by
  rcases (by omega : k = 0 ∨ k = 1 ∨ k = 2 ∨ k = 3 ∨ k = 4 ∨ k = 5 ∨ k = 6 ∨ k = 7) with rfl | rfl | rfl | rfl | rfl | rfl | rfl | rfl <;> rfl
theorem bare_len (k : Nat) (hk : k < 8) : (bareR.getD k []).length ≤ 8 := by
  rcases (by omega : k = 0 ∨ k = 1 ∨ k = 2 ∨ k = 3 ∨ k = 4 ∨ k = 5 ∨ k = 6 ∨ k = 7) with rfl | rfl | rfl | rfl | rfl | rfl | rfl | rfl <;> decide
set_option maxRecDepth 100000 in
set_option maxHeartbeats 8000000 in
theorem law29_any (w : World) (n0 n1 n2 n3 n4 n5 n6 n7 : Int) (hr : ∀ x ∈ [n0, n1, n2, n3, n4, n5, n6, n7], -9223372036854775808 ≤ x ∧ x ≤ 9223372036854775807) (ht : TabW w) :
    Calls Tryz.prog 3 #[.agg #[.int .i64 n0, .int .i64 n1, .int .i64 n2, .int .i64 n3, .int .i64 n4, .int .i64 n5, .int .i64 n6, .int .i64 n7]] w fun e w' => e = .returned (.bool true) ∧ Only (fun _ => False) w w' := by
  obtain ⟨W0, hW0⟩ : ∃ W0, W0 = w.alloc (.cells #[.int .i64 n0, .int .i64 n1, .int .i64 n2, .int .i64 n3, .int .i64 n4, .int .i64 n5, .int .i64 n6, .int .i64 n7] 22) := ⟨_, rfl⟩
  have hbW0 : W0.heap[w.heap.size]? = some (.cells #[.int .i64 n0, .int .i64 n1, .int .i64 n2, .int .i64 n3, .int .i64 n4, .int .i64 n5, .int .i64 n6, .int .i64 n7] 22 (0, 0)) := by rw [hW0]; exact heap_alloc_new w _
  have hoW0 : Only (fun _ => False) w W0 := by rw [hW0]; exact (Only.refl _ _).alloc _
  have hsW0 : W0.heap.size = w.heap.size + 1 := by rw [hW0]; simp
  have hsp := speaks29_any W0 (ht.new hoW0)
  have HSP := Lib.hid hsp
  have HB0 := Lib.hid hbW0
  have HO0 := Lib.hid hoW0
  have HT := Lib.hid ht
  have HR := Lib.hid hr
  clear hsp hbW0 hoW0 ht hr
  clear hsW0
  go_enter Tryz.func3, Tryz.ntmps3
  go_upto_region 1 with (fail)
  rw [← hW0]
  clear hW0
  go_wp2_with fail
  refine HSP.out.mono ?_
  rintro e w1 ⟨rfl, ho1⟩
  have hb1 := ho1.old HB0.out id
  have HO1 := Lib.hid (HO0.out.trans ho1)
  have z0 : w1.cell? ⟨w.heap.size, 0, none⟩ = some (.int .i64 n0) := cell_at hb1 0
  have z1 : w1.cell? ⟨w.heap.size, 1, none⟩ = some (.int .i64 n1) := cell_at hb1 1
  have z2 : w1.cell? ⟨w.heap.size, 2, none⟩ = some (.int .i64 n2) := cell_at hb1 2
  have z3 : w1.cell? ⟨w.heap.size, 3, none⟩ = some (.int .i64 n3) := cell_at hb1 3
  have z4 : w1.cell? ⟨w.heap.size, 4, none⟩ = some (.int .i64 n4) := cell_at hb1 4
  have z5 : w1.cell? ⟨w.heap.size, 5, none⟩ = some (.int .i64 n5) := cell_at hb1 5
  have z6 : w1.cell? ⟨w.heap.size, 6, none⟩ = some (.int .i64 n6) := cell_at hb1 6
  have z7 : w1.cell? ⟨w.heap.size, 7, none⟩ = some (.int .i64 n7) := cell_at hb1 7
  have HB1 := Lib.hid hb1
  clear hb1
  clear ho1
  go_upto_region 4 with (fail)
  obtain ⟨W1, hW1⟩ : ∃ W1, W1 = w1.alloc (.cells #[.int .i64 n0, .int .i64 n1, .int .i64 n2, .int .i64 n3, .int .i64 n4, .int .i64 n5, .int .i64 n6, .int .i64 n7] 25) := ⟨_, rfl⟩
  have hbW1 : W1.heap[w1.heap.size]? = some (.cells #[.int .i64 n0, .int .i64 n1, .int .i64 n2, .int .i64 n3, .int .i64 n4, .int .i64 n5, .int .i64 n6, .int .i64 n7] 25 (0, 0)) := by rw [hW1]; exact heap_alloc_new w1 _
  have hoW1 : Only (fun _ => False) w1 W1 := by rw [hW1]; exact (Only.refl _ _).alloc _
  have hsW1 : W1.heap.size = w1.heap.size + 1 := by rw [hW1]; simp
  rw [← hW1]
  have HB2 := Lib.hid (hoW1.old HB1.out id)
  have HO2 := Lib.hid (HO1.out.trans hoW1)
  have HBR := Lib.hid hbW1
  clear hW1 hsW1 hoW1 hbW1 z0 z1 z2 z3 z4 z5 z6 z7
  go_upto_region 5 with (fail)
  obtain ⟨W2, hW2⟩ : ∃ W2, W2 = W1.alloc (.cells #[.string ⟨#[108, 105, 118, 101]⟩, .string ⟨#[108, 111, 110, 101, 108, 121]⟩, .string ⟨#[108, 111, 112, 115, 105, 100, 101, 100]⟩, .string ⟨#[112, 97, 114, 116, 115]⟩, .string ⟨#[107, 101, 121, 115]⟩, .string ⟨#[98, 101, 104, 105, 110, 100]⟩, .string ⟨#[111, 110, 119, 97, 121]⟩, .string ⟨#[114, 101, 102, 117, 115, 101, 100]⟩] 9) := ⟨_, rfl⟩
  have hbW2 : W2.heap[W1.heap.size]? = some (.cells #[.string ⟨#[108, 105, 118, 101]⟩, .string ⟨#[108, 111, 110, 101, 108, 121]⟩, .string ⟨#[108, 111, 112, 115, 105, 100, 101, 100]⟩, .string ⟨#[112, 97, 114, 116, 115]⟩, .string ⟨#[107, 101, 121, 115]⟩, .string ⟨#[98, 101, 104, 105, 110, 100]⟩, .string ⟨#[111, 110, 119, 97, 121]⟩, .string ⟨#[114, 101, 102, 117, 115, 101, 100]⟩] 9 (0, 0)) := by rw [hW2]; exact heap_alloc_new W1 _
  have hoW2 : Only (fun _ => False) W1 W2 := by rw [hW2]; exact (Only.refl _ _).alloc _
  have hsW2 : W2.heap.size = W1.heap.size + 1 := by rw [hW2]; simp
  rw [← hW2]
  have HB3 := Lib.hid (hoW2.old HB2.out id)
  have HO3 := Lib.hid (HO2.out.trans hoW2)
  have HBR3 := Lib.hid (hoW2.old HBR.out id)
  have HBS := Lib.hid hbW2
  obtain ⟨ns, hNS⟩ : ∃ ns, ns = [n0, n1, n2, n3, n4, n5, n6, n7] := ⟨_, rfl⟩
  have HNS := Lib.hid hNS
  have HRN := Lib.hid (show ∀ x ∈ ns, -9223372036854775808 ≤ x ∧ x ≤ 9223372036854775807 by rw [hNS]; exact HR.out)
  have hcn : ∀ k, k < 8 → W2.cell? ⟨w.heap.size, k, none⟩ = some (.int .i64 (ns.getD k 0)) := fun k hk => by
    rw [cell_at HB3.out k, hNS]
    rcases (by omega : k = 0 ∨ k = 1 ∨ k = 2 ∨ k = 3 ∨ k = 4 ∨ k = 5 ∨ k = 6 ∨ k = 7) with rfl | rfl | rfl | rfl | rfl | rfl | rfl | rfl <;> rfl
  have hcs : ∀ k, k < 8 → W2.cell? ⟨W1.heap.size, k, none⟩ = some (.string ⟨(bareR.getD k []).toArray⟩) := fun k hk => by
    rw [cell_at HBS.out k]
    rcases (by omega : k = 0 ∨ k = 1 ∨ k = 2 ∨ k = 3 ∨ k = 4 ∨ k = 5 ∨ k = 6 ∨ k = 7) with rfl | rfl | rfl | rfl | rfl | rfl | rfl | rfl <;> rfl
  have HCN := Lib.hid hcn
  have HCS := Lib.hid hcs
  clear hcn hcs
  clear hW2 hsW2 hoW2 hbW2 hNS
  go_wp2_with fail
  go_loopg [5, 6] 8 (fun g v5 v6 wr => ∃ k : Nat, v6 = .int .i64 k ∧ k ≤ 8 ∧ v5 = .string ⟨(showR ns k).toArray⟩ ∧ Only (fun _ => False) W2 wr ∧ g = 8 - k)
  case atStart => exact ⟨0, rfl, Nat.zero_le _, rfl, Only.refl _ _, rfl⟩
  case round =>
    obtain ⟨k, rfl, hk, rfl, ho, hg⟩ := hrel
    have HO := Lib.hid ho
    have Hg := Lib.hid hg
    clear ho hg
    by_cases hlt : k < 8
    · have hlt' : (k : Int) < 8 := by omega
      have q1 := HCN.out k hlt
      have q2 := HCS.out k hlt
      have hst : showR ns (k + 1) = showR ns k ++ (bareR.getD k [] ++ [32] ++ Lib.itoa (ns.getD k 0) ++ [10]) := by
        rw [← bare_words k hlt]
        rfl
      have hnr := getD_range HRN.out k
      have hsl := showR_len ns HRN.out k hk
      have hbl := bare_len k hlt
      obtain ⟨nk, hnk⟩ : ∃ nk, nk = ns.getD k 0 := ⟨_, rfl⟩
      rw [← hnk] at q1 hst hnr
      have hil := Lib.itoa_length_le nk hnr.1 hnr.2
      have hdg := fun W => rdigits_any W nk hnr.1 hnr.2
      obtain ⟨S, hS⟩ : ∃ S : ByteArray, S = ⟨(showR ns k).toArray⟩ := ⟨_, rfl⟩
      obtain ⟨B, hB⟩ : ∃ B : ByteArray, B = ⟨(bareR.getD k []).toArray⟩ := ⟨_, rfl⟩
      obtain ⟨D, hD⟩ : ∃ D : ByteArray, D = ⟨(Lib.itoa nk).toArray⟩ := ⟨_, rfl⟩
      have sS : S.size ≤ 400 := by rw [hS]; show (showR ns k).toArray.size ≤ _; simp; omega
      have sB : B.size ≤ 8 := by rw [hB]; show (bareR.getD k []).toArray.size ≤ _; rw [List.size_toArray]; exact hbl
      have sD : D.size ≤ 21 := by rw [hD]; show (Lib.itoa nk).toArray.size ≤ _; rw [List.size_toArray]; exact hil
      rw [← hB] at q2
      rw [← hD] at hdg
      have hEND : (⟨(showR ns (k + 1)).toArray⟩ : ByteArray) = S ++ (B ++ ⟨#[32]⟩ ++ D ++ ⟨#[10]⟩) := by
        rw [hS, hB, hD]
        apply str_ext
        simp only [ByteArray.data_append, Array.toList_append]
        rw [hst]
      have b1 : ¬ 9223372036854775807 < B.size + 1 := by omega
      have b2 : ¬ 9223372036854775807 < B.size + 1 + D.size := by omega
      have b3 : ¬ 9223372036854775807 < B.size + 1 + D.size + 1 := by omega
      have b4 : ¬ 9223372036854775807 < S.size + (B.size + 1 + D.size + 1) := by omega
      have hcc : ∀ w', Only (fun _ => False) wr w' → w'.cell? ⟨W1.heap.size, k, none⟩ = some (.string B) ∧ w'.cell? ⟨w.heap.size, k, none⟩ = some (.int .i64 nk) := fun w' h => ⟨(HO.out.trans h).cell q2 id, (HO.out.trans h).cell q1 id⟩
      rw [← hS]
      have HEND := Lib.hid hEND
      have HDG := Lib.hid hdg
      have HCC := Lib.hid hcc
      clear hEND hdg hcc
      clear hst hnk hS hB hD q1 q2 hnr hil hbl hsl sS sB sD
      go_upto_region 9 with (fail)
      go_region_held3 (fun w' => Only (fun _ => False) wr w' ∧ w'.cell? ⟨W1.heap.size, k, none⟩ = some (.string B) ∧ w'.cell? ⟨w.heap.size, k, none⟩ = some (.int .i64 nk))
        ((go_split_ands; (refine heldO HCC.out ?_); (repeat (first | (with_reducible assumption) | (with_reducible exact Only.refl _ _) | (with_reducible refine Only.drew ?_) | (with_reducible refine Only.alloc ?_ _) | (with_reducible refine onlySet ?_ (by first | (with_reducible assumption) | omega) _) | (with_reducible refine Only.trans ?_ (by with_reducible assumption))))))
        (first
          | (go_at_call 5; (with_reducible refine (HDG.out _).mono ?_); rintro e w6 ⟨rfl, ho6⟩))
      all_goals
        go_split_ands
        have hoz : Only (fun _ => False) wr w6 := by (repeat (first | (with_reducible assumption) | (with_reducible exact Only.refl _ _) | (with_reducible refine Only.drew ?_) | (with_reducible refine Only.alloc ?_ _) | (with_reducible refine onlySet ?_ (by first | (with_reducible assumption) | omega) _) | (with_reducible refine Only.trans ?_ (by with_reducible assumption))))
        go_wp2_with fail
        go_roundg (8 - (k + 1))
        case measure => rw [Hg.out]; omega
        case rel => exact ⟨k + 1, by go_num, by omega, by rw [HEND.out], HO.out.trans hoz, rfl⟩
    · obtain rfl : k = 8 := by omega
      have hbr := HO.out.old HBR3.out id
      have y0 : wr.cell? ⟨w1.heap.size, 0, none⟩ = some (.int .i64 n0) := cell_at hbr 0
      have y1 : wr.cell? ⟨w1.heap.size, 1, none⟩ = some (.int .i64 n1) := cell_at hbr 1
      have y2 : wr.cell? ⟨w1.heap.size, 2, none⟩ = some (.int .i64 n2) := cell_at hbr 2
      have y3 : wr.cell? ⟨w1.heap.size, 3, none⟩ = some (.int .i64 n3) := cell_at hbr 3
      have y4 : wr.cell? ⟨w1.heap.size, 4, none⟩ = some (.int .i64 n4) := cell_at hbr 4
      have y5 : wr.cell? ⟨w1.heap.size, 5, none⟩ = some (.int .i64 n5) := cell_at hbr 5
      have y6 : wr.cell? ⟨w1.heap.size, 6, none⟩ = some (.int .i64 n6) := cell_at hbr 6
      have y7 : wr.cell? ⟨w1.heap.size, 7, none⟩ = some (.int .i64 n7) := cell_at hbr 7
      have hor := HO3.out.trans HO.out
      have hsh := show_any wr n0 n1 n2 n3 n4 n5 n6 n7 HR.out (HT.out.new hor)
      rw [← HNS.out] at hsh
      have hlt' : ¬ ((8 : Nat) : Int) < 8 := by omega
      generalize (⟨(showR ns 8).toArray⟩ : ByteArray) = Z at *
      have HSH := Lib.hid hsh
      have HOR := Lib.hid hor
      clear hsh hor
      clear hbr
      go_wp2_with fail
      refine HSH.out.mono ?_
      rintro e w5 ⟨rfl, ho5⟩
      have hof := rof_any w5 none [] (fun _ => 0) (QC.qcr (qc_nil w5)) (by decide)
      rw [show (((([] : List Int).length : Nat)) : Int) = 0 from rfl] at hof
      unfold reportC at hof
      have he := eq29z
      have HO5 := Lib.hid ho5
      have HOF := Lib.hid hof
      clear ho5 hof
      clear y0 y1 y2 y3 y4 y5 y6 y7
      go_wp2_with fail
      refine HOF.out.mono ?_
      rintro e w6 ⟨rfl, ho6⟩
      have hpt := rparts_any w6 none [] (fun _ => 0) (qc_nil w6) (by decide)
      have HPT := Lib.hid hpt
      have HO6 := Lib.hid ho6
      clear hpt ho6
      go_wp2_with fail
      refine HPT.out.mono ?_
      rintro e w7 ⟨a, cap, rfl, ho7⟩
      have HO7 := Lib.hid ho7
      clear ho7
      clear he
      go_wp2_with fail
      go_ret
      exact ⟨rfl, HOR.out.trans (HO5.out.trans (HO6.out.trans HO7.out))⟩
theorem law29_list (w : World) (zs : List Int) (hl : zs.length = 8) (hb : ∀ z ∈ zs, (Lit.int .i64 z).wf = true) (ht : TabW w) :
    Calls Tryz.prog 3 #[.agg (zs.map (.int .i64)).toArray] w fun e w' => e = .returned (.bool true) ∧ Only (fun _ => False) w w' := by
  have hr : ∀ x ∈ zs, -9223372036854775808 ≤ x ∧ x ≤ 9223372036854775807 := by
    intro x hx
    have := hb x hx
    simp [Lit.wf, IntKind.min, IntKind.max, IntKind.signed, IntKind.bits] at this
    omega
  match zs, hl, hr with
  | [n0, n1, n2, n3, n4, n5, n6, n7], _, hr => exact law29_any w n0 n1 n2 n3 n4 n5 n6 n7 hr ht
end Go.Proofs.YtegechmdboccbaaGreatDoor
/-! From what ReportShows' row lists to the table that strconv reads. -/
namespace Go.Proofs.YtegechmdboccbaaGreatDoor
open Go.Conc Go.RowKit Go.Lib

theorem tabG3 : Tryz.prog.globalNamed "internal/strconv.uint64pow10" = some 0 := by kernel_rfl
theorem tabT3 : (Tryz.prog.globals[0]?).map (·.type) = some 186 := by kernel_rfl
theorem tabCu : Tryz.prog.cellsOf 81 = 1 := by kernel_rfl
theorem tabCt : Tryz.prog.cellsOf 186 = 20 := by kernel_rfl
theorem tabW_of (w : World) (h : laidMetH Tryz.prog Rows.reportShowsRow.laid w) : TabW w := by
  rw [MakeChecks.laidMetH_plain _ _ _ (by kernel_rfl)] at h
  have h0 : laidMet Tryz.prog [("math/bits.deBruijn32tab", Rows.laid_math_bits_deBruijn32tab), ("math/bits.deBruijn64tab", Rows.laid_math_bits_deBruijn64tab), ("internal/strconv.uint64pow10", Rows.laid_internal_strconv_uint64pow10)] w := h
  exact tabIs_of_head (k := .u64) (zs := pow10Tab) tabG3 tabT3 Tryz.underlying186 Tryz.underlying81 tabCu tabCt h0.tail.tail
end Go.Proofs.YtegechmdboccbaaGreatDoor
/-! From a walk that returns true and touches nothing that was there to the row's post; the arguments' readings as 'Sl'. -/
namespace Go.Proofs.YtegechmdboccbaaGreatDoor
open Go.Conc Go.RowKit Go.ChangeShapes Go.WideShapes Go.ChangeAt Go.WideMaps Go.WideElems

theorem trodAll_stays {H : Type} {enc : TypeId × Value → H} {P : Program} (hl : laidOutB P = true) {W W' : World} (hb : Below W.heap.size W W') :
    ∀ (ts : List TypeId) (vs : List Value) (ds : List (DataW H)) (ps : List MemPlace), (∀ t ∈ ts, P.readableRec t = true ∧ t < P.types.size) →
      DataW.TrodAll enc P W 0 (fun _ => true) true ts vs ds ps → (∀ x ∈ ps, x.block < W.heap.size) → DataW.TrodAll enc P W' 0 (fun b => decide (b < W.heap.size)) true ts vs ds ps
  | [], [], [], _, _, h, _ => h
  | t :: ts, v :: vs, d :: ds, _, ht, h, hlt => by
    obtain ⟨p, q, h1, h2, rfl⟩ := h
    obtain ⟨r1, r2⟩ := ht t (by simp)
    exact ⟨p, q, Below.trod hl r1 r2 h1 hb (fun x hx => hlt x (by simp [hx])), trodAll_stays hl hb ts vs ds q (fun t' h' => ht t' (by simp [h'])) h2 (fun x hx => hlt x (by simp [hx])), rfl⟩

/-- THE POST OF A LAW: it has returned true, and below the heap's old size nothing has changed. -/
theorem law_post {H : Type} {enc : TypeId × Value → H} {P : Program} {f : Func} {s : ChangeSpec} {apart fresh handsOn : Bool} {W W' : World} {args : Array Value} {ds gs : List (DataW H)} {before : List MemPlace} {tb : TypeId}
    (hW : DataW.Whole enc P f.params.toList s.vars apart W args.toList ds gs before) (hb : Below W.heap.size W W') (hl : laidOutB P = true) (hr : ∀ t ∈ f.params.toList, P.readableRec t = true ∧ t < P.types.size)
    (hrt : f.resultTypes = #[tb]) (htb : P.underlying tb = some .bool) (hv : s.vars = []) (e1 : (s.fn H (ds ++ gs)).results = [.lit (.bool true)]) (e2 : (s.fn H (ds ++ gs)).args = ds) (e3 : (s.fn H (ds ++ gs)).vars = []) :
    s.post enc P f apart fresh handsOn false W args (.bool true) W' := by
  have hW' := hW
  obtain ⟨p, q, hA, hV, rfl, _, _⟩ := hW
  rw [hv] at hV
  obtain ⟨rfl, rfl⟩ := trodVars_none hV
  simp only [List.append_nil] at hW' e1 e2 e3
  have hlt : ∀ x ∈ p, x.block < W.heap.size := fun x hx => by simpa using hW'.lt x hx
  refine ⟨ds, [], p, [], p, [], hW', ?_, ?_, ?_, hb.frame _, fun h => by cases h⟩
  · rw [List.append_nil, e1, hrt]
    exact trodAll_mk1 (shut_bool htb _)
  · rw [List.append_nil, e2]
    exact trodAll_stays hl hb _ _ _ _ hr hA hlt
  · rw [List.append_nil, e3, hv]
    rfl

theorem spot_of {w : World} {a : Addr} {u : Value} (h : w.cell? a = some u) : a.spot = none := World.cell?_spot h

section
variable {H : Type} {enc : TypeId × Value → H} {P : Program} {w : World} {base : Nat} {spare : Nat → Bool} {held : Bool} {t e : TypeId} {v : Value} {d : DataW H} {ps : List MemPlace}

theorem sl_of_row {size : Nat} {a : Addr} {len cap : Nat} {xs : List Value} (hsz : 0 < size) (hx : xs.length = len * size) (hl : len ≤ cap) (hm : cap ≤ maxLen) (hc : ∀ j u, xs[j]? = some u → w.cell? (a.add j) = some u) : Sl w size (.slice (some a) len cap) len xs := by
  refine ⟨hx, _, cap, rfl, hl, hm, ?_⟩
  by_cases h0 : len = 0
  · exact .inl h0
  · have hpos : 0 < xs.length := by rw [hx]; exact Nat.mul_pos (by omega) hsz
    have h1 := hc 0 xs[0] (by simp)
    obtain ⟨b, off, spot⟩ := a
    have hs : spot = none := by simpa [Addr.add] using World.cell?_spot h1
    subst hs
    exact .inr ⟨b, off, rfl, fun j u hu => by rw [← Addr.add_lit]; exact hc j u hu⟩

/-- A slice of integers that came in. -/
theorem sl_ints {k : IntKind} (ht : P.underlying t = some (.slice e)) (he : P.underlying e = some (.int k)) (hc : P.cellsOf e = 1) (hok : Value.okWide P w .any base t v) (h : DataW.Trod enc P w 0 (fun _ => true) held t v d ps) :
    ∃ zs : List Int, Sl w 1 v zs.length (zs.map (.int k)) ∧ ∀ z ∈ zs, (Lit.int k z).wf = true := by
  obtain ⟨a0, n0, c0, rfl⟩ := okWide_slice ht hok
  obtain ⟨fuel, hf⟩ := h
  rcases open_ints ht he hc hf with ⟨hcs, -⟩ | ⟨a, len', cap', zs, hcs, _, hl, hm, hz, -, hcell, hwz⟩
  · simp [Value.cells] at hcs
    obtain ⟨rfl, rfl, rfl⟩ := hcs
    exact ⟨[], Sl.nil _ _, by simp⟩
  · simp [Value.cells] at hcs
    obtain ⟨rfl, rfl, rfl⟩ := hcs
    simp only [if_true] at hz
    have hlen : (zs.take n0).length = n0 := by rw [List.length_take]; omega
    refine ⟨zs.take n0, ?_, fun z h => hwz z (List.mem_of_mem_take h)⟩
    refine (sl_of_row (by decide) (by simp; omega) hl hm ?_ : Sl w 1 _ n0 _).cast hlen.symm
    intro j u hu
    simp only [List.getElem?_map, Option.map_eq_some_iff] at hu
    obtain ⟨z, hz1, rfl⟩ := hu
    have hj : j < n0 := by have := (List.getElem?_eq_some_iff.1 hz1).1; omega
    rw [hcell j (by omega)]
    rw [List.getElem?_take] at hz1
    rw [if_pos hj] at hz1
    simp [List.getD, hz1]

/-- A slice of strings that came in. -/
theorem sl_strs (ht : P.underlying t = some (.slice e)) (he : P.underlying e = some .string) (hc : P.cellsOf e = 1) (hok : Value.okWide P w .any base t v) (h : DataW.Trod enc P w 0 (fun _ => true) held t v d ps) :
    ∃ ss : List ByteArray, Sl w 1 v ss.length (ss.map .string) ∧ ∀ s ∈ ss, s.size ≤ maxLen := by
  obtain ⟨a0, n0, c0, rfl⟩ := okWide_slice ht hok
  obtain ⟨fuel, hf⟩ := h
  rcases open_strings ht he hc hf with ⟨hcs, -⟩ | ⟨a, len', cap', zs, hcs, _, hl, hm, hz, -, hcell, hwz⟩
  · simp [Value.cells] at hcs
    obtain ⟨rfl, rfl, rfl⟩ := hcs
    exact ⟨[], Sl.nil _ _, by simp⟩
  · simp [Value.cells] at hcs
    obtain ⟨rfl, rfl, rfl⟩ := hcs
    simp only [if_true] at hz
    have hlen : (zs.take n0).length = n0 := by rw [List.length_take]; omega
    refine ⟨zs.take n0, ?_, fun z h => hwz z (List.mem_of_mem_take h)⟩
    refine (sl_of_row (by decide) (by simp; omega) hl hm ?_ : Sl w 1 _ n0 _).cast hlen.symm
    intro j u hu
    simp only [List.getElem?_map, Option.map_eq_some_iff] at hu
    obtain ⟨z, hz1, rfl⟩ := hu
    have hj : j < n0 := by have := (List.getElem?_eq_some_iff.1 hz1).1; omega
    rw [hcell j (by omega)]
    rw [List.getElem?_take] at hz1
    rw [if_pos hj] at hz1
    simp [List.getD, hz1]
theorem sl_strs_cell {fuel : Nat} {x : DataW H × List MemPlace} (ht : P.underlying t = some (.slice e)) (he : P.underlying e = some .string) (hc : P.cellsOf e = 1) (hf : DataW.trod enc P w 0 (fun _ => true) held fuel t [v] = some x) :
    ∃ ss : List ByteArray, Sl w 1 v ss.length (ss.map .string) ∧ ∀ s ∈ ss, s.size ≤ maxLen := by
  rcases open_strings ht he hc hf with ⟨hcs, -⟩ | ⟨a, n0, cap', zs, hcs, _, hl, hm, hz, -, hcell, hwz⟩
  · simp at hcs
    subst hcs
    exact ⟨[], Sl.nil _ _, by simp⟩
  · simp at hcs
    subst hcs
    simp only [if_true] at hz
    have hlen : (zs.take n0).length = n0 := by rw [List.length_take]; omega
    refine ⟨zs.take n0, ?_, fun z h => hwz z (List.mem_of_mem_take h)⟩
    refine (sl_of_row (by decide) (by simp; omega) hl hm ?_ : Sl w 1 _ n0 _).cast hlen.symm
    intro j u hu
    simp only [List.getElem?_map, Option.map_eq_some_iff] at hu
    obtain ⟨z, hz1, rfl⟩ := hu
    have hj : j < n0 := by have := (List.getElem?_eq_some_iff.1 hz1).1; omega
    rw [hcell j (by omega)]
    rw [List.getElem?_take] at hz1
    rw [if_pos hj] at hz1
    simp [List.getD, hz1]
/-- A slice of slices of strings that came in (they may share memory). -/
theorem sl_rows {s : TypeId} (ht : P.underlying t = some (.slice e)) (he : P.underlying e = some (.slice s)) (hs : P.underlying s = some .string) (hc : P.cellsOf e = 1) (hc2 : P.cellsOf s = 1) (hok : Value.okWide P w .any base t v) (h : DataW.Trod enc P w 0 (fun _ => true) held t v d ps) :
    ∃ xs : List Value, Sl w 1 v xs.length xs ∧ ∀ x ∈ xs, ∃ l : List ByteArray, Sl w 1 x l.length (l.map .string) ∧ ∀ s ∈ l, s.size ≤ maxLen := by
  obtain ⟨a0, n0, c0, rfl⟩ := okWide_slice ht hok
  obtain ⟨fuel, hf⟩ := h
  rcases Deep.open_slice1 ht hc hf with ⟨hcs, -⟩ | ⟨a, len', cap', m, n, V, D, Pl, hcs, _, hl, hm, hmm, -, hel⟩
  · simp [Value.cells] at hcs
    obtain ⟨rfl, rfl, rfl⟩ := hcs
    exact ⟨[], Sl.nil _ _, by simp⟩
  · simp [Value.cells] at hcs
    obtain ⟨rfl, rfl, rfl⟩ := hcs
    simp only [if_true] at hmm
    refine ⟨(List.range n0).map V, ?_, fun x hx => ?_⟩
    · refine (sl_of_row (by decide) (by simp) hl hm ?_ : Sl w 1 _ n0 _).cast (by simp)
      intro j u hu
      simp only [List.getElem?_map, Option.map_eq_some_iff] at hu
      obtain ⟨i, hi1, rfl⟩ := hu
      obtain ⟨hi2, hi3⟩ := List.getElem?_eq_some_iff.1 hi1
      simp at hi2 hi3
      subst hi3
      exact (hel j (by omega)).1
    · obtain ⟨i, hi, rfl⟩ := List.mem_map.1 hx
      have hi : i < n0 := by simpa using hi
      exact sl_strs_cell he hs hc2 (hel i (by omega)).2
/-- A slice of bools that came in. -/
theorem sl_bools (ht : P.underlying t = some (.slice e)) (he : P.underlying e = some .bool) (hc : P.cellsOf e = 1) (hok : Value.okWide P w .any base t v) (h : DataW.Trod enc P w 0 (fun _ => true) held t v d ps) :
    ∃ zs : List Bool, Sl w 1 v zs.length (zs.map .bool) := by
  obtain ⟨a0, n0, c0, rfl⟩ := okWide_slice ht hok
  obtain ⟨fuel, hf⟩ := h
  rcases Deep.open_slice1 ht hc hf with ⟨hcs, -⟩ | ⟨a, len', cap', m, n, V, D, Pl, hcs, _, hl, hm, hmm, -, hel⟩
  · simp [Value.cells] at hcs
    obtain ⟨rfl, rfl, rfl⟩ := hcs
    exact ⟨[], Sl.nil _ _⟩
  · simp [Value.cells] at hcs
    obtain ⟨rfl, rfl, rfl⟩ := hcs
    simp only [if_true] at hmm
    have each : ∀ i, i < n0 → ∃ b : Bool, w.cell? (a.add i) = some (.bool b) := by
      intro i hi
      obtain ⟨h1, h2⟩ := hel i (by omega)
      obtain ⟨b, h3, -⟩ := DataW.trod_bool he h2
      simp at h3
      exact ⟨b, by rw [h1, h3]⟩
    obtain ⟨f, hf2⟩ := Deep.choose_lt each
    refine ⟨(List.range n0).map f, ?_⟩
    refine (sl_of_row (by decide) (by simp) hl hm ?_ : Sl w 1 _ n0 _).cast (by simp)
    intro j u hu
    simp only [List.map_map, List.getElem?_map, Option.map_eq_some_iff] at hu
    obtain ⟨i, hi1, rfl⟩ := hu
    obtain ⟨hi2, hi3⟩ := List.getElem?_eq_some_iff.1 hi1
    simp at hi2 hi3
    subst hi3
    simpa using hf2 j hi2
end
end Go.Proofs.YtegechmdboccbaaGreatDoor
/-! Arrays that came in. -/
namespace Go.Proofs.YtegechmdboccbaaGreatDoor
open Go.Conc Go.RowKit Go.ChangeShapes Go.WideShapes Go.ChangeAt Go.WideMaps Go.WideElems

section
variable {H : Type} {enc : TypeId × Value → H} {P : Program} {w : World} {base : Nat} {spare : Nat → Bool} {held : Bool} {t e : TypeId} {v : Value} {d : DataW H} {ps : List MemPlace}

theorem arr_open {n : Nat} (ht : P.underlying t = some (.array n e)) (hc : P.cellsOf e = 1) (hct : P.cellsOf t = n) (hok : Value.okWide P w .any base t v) (h : DataW.Trod enc P w 0 spare held t v d ps) :
    ∃ cs : Array Value, v = .agg cs ∧ cs.size = n ∧ ∀ (i : Nat) (u : Value), cs[i]? = some u → ∃ (m : Nat) (x : DataW H × List MemPlace), DataW.trod enc P w 0 spare held m e [u] = some x := by
  simp only [Value.okWide, ht] at hok
  obtain ⟨cs, rfl, hsz, -⟩ := hok
  obtain ⟨fuel, hf⟩ := h
  obtain ⟨xs, m, _, _, hl, hlen, hel⟩ := DataW.trod_array ht hf
  refine ⟨cs, rfl, by rw [hsz, hct], fun i u hu => ?_⟩
  have hi : i < cs.size := (Array.getElem?_eq_some_iff.1 hu).1
  have hin : i < n := by rw [hsz, hct] at hi; exact hi
  have h1 := hel i hin
  rw [hc, Nat.mul_one] at h1
  have h2 : ((Value.agg cs).cells.toList.drop i).take 1 = [u] := by
    show (cs.toList.drop i).take 1 = [u]
    have hi2 : i < cs.toList.length := by simpa using hi
    rw [List.drop_eq_getElem_cons hi2]
    have := (Array.getElem?_eq_some_iff.1 hu).2
    simp [this]
  rw [h2, List.getElem?_eq_getElem (by omega)] at h1
  exact ⟨m, _, h1⟩
theorem arr_ints {n : Nat} {k : IntKind} (ht : P.underlying t = some (.array n e)) (he : P.underlying e = some (.int k)) (hc : P.cellsOf e = 1) (hct : P.cellsOf t = n) (hok : Value.okWide P w .any base t v) (h : DataW.Trod enc P w 0 spare held t v d ps) :
    ∃ zs : List Int, zs.length = n ∧ v = .agg (zs.map (.int k)).toArray ∧ ∀ z ∈ zs, (Lit.int k z).wf = true := by
  obtain ⟨cs, rfl, hsz, hel⟩ := arr_open ht hc hct hok h
  have each : ∀ i, i < n → ∃ z : Int, cs[i]? = some (.int k z) ∧ (Lit.int k z).wf = true := by
    intro i hi
    have hi2 : i < cs.size := by omega
    obtain ⟨m, x, hx⟩ := hel i cs[i] (by simp [hi2])
    obtain ⟨z, h3, _, h4⟩ := DataW.trod_int he hx
    simp at h3
    exact ⟨z, by rw [Array.getElem?_eq_getElem hi2, h3], h4⟩
  obtain ⟨f, hf2⟩ := Deep.choose_lt each
  refine ⟨(List.range n).map f, by simp, ?_, ?_⟩
  · congr 1
    apply Array.ext
    · simp [hsz]
    · intro i h1 h2
      have := (hf2 i (by omega)).1
      rw [Array.getElem?_eq_getElem h1] at this
      simp only [Option.some.injEq] at this
      simp [this]
  · intro z hz
    obtain ⟨i, hi, rfl⟩ := List.mem_map.1 hz
    exact (hf2 i (by simpa using hi)).2
theorem arr_strs {n : Nat} (ht : P.underlying t = some (.array n e)) (he : P.underlying e = some .string) (hc : P.cellsOf e = 1) (hct : P.cellsOf t = n) (hok : Value.okWide P w .any base t v) (h : DataW.Trod enc P w 0 spare held t v d ps) :
    ∃ zs : List ByteArray, zs.length = n ∧ v = .agg (zs.map .string).toArray ∧ ∀ z ∈ zs, z.size ≤ maxLen := by
  obtain ⟨cs, rfl, hsz, hel⟩ := arr_open ht hc hct hok h
  have each : ∀ i, i < n → ∃ z : ByteArray, cs[i]? = some (.string z) ∧ z.size ≤ maxLen := by
    intro i hi
    have hi2 : i < cs.size := by omega
    obtain ⟨m, x, hx⟩ := hel i cs[i] (by simp [hi2])
    obtain ⟨z, h3, _, h4⟩ := DataW.trod_string he hx
    simp at h3
    exact ⟨z, by rw [Array.getElem?_eq_getElem hi2, h3], h4⟩
  obtain ⟨f, hf2⟩ := Deep.choose_lt each
  refine ⟨(List.range n).map f, by simp, ?_, ?_⟩
  · congr 1
    apply Array.ext
    · simp [hsz]
    · intro i h1 h2
      have := (hf2 i (by omega)).1
      rw [Array.getElem?_eq_getElem h1] at this
      simp only [Option.some.injEq] at this
      simp [this]
  · intro z hz
    obtain ⟨i, hi, rfl⟩ := List.mem_map.1 hz
    exact (hf2 i (by simpa using hi)).2
end
theorem list2 {α : Type} {l : List α} (h : l.length = 2) : ∃ x y, l = [x, y] := by
  match l, h with
  | [x, y], _ => exact ⟨x, y, rfl⟩
theorem list3 {α : Type} {l : List α} (h : l.length = 3) : ∃ x y z, l = [x, y, z] := by
  match l, h with
  | [x, y, z], _ => exact ⟨x, y, z, rfl⟩
theorem list4 {α : Type} {l : List α} (h : l.length = 4) : ∃ x y z u, l = [x, y, z, u] := by
  match l, h with
  | [x, y, z, u], _ => exact ⟨x, y, z, u, rfl⟩
theorem nat_u32 {z : Int} (h : (Lit.int .u32 z).wf = true) : ∃ n : Nat, z = (n : Int) ∧ n < 2 ^ 32 := by
  simp [Lit.wf, IntKind.min, IntKind.max, IntKind.signed, IntKind.bits] at h
  exact ⟨z.toNat, by omega, by omega⟩
theorem nat_u64 {z : Int} (h : (Lit.int .u64 z).wf = true) : ∃ n : Nat, z = (n : Int) ∧ n < 2 ^ 64 := by
  simp [Lit.wf, IntKind.min, IntKind.max, IntKind.signed, IntKind.bits] at h
  exact ⟨z.toNat, by omega, by omega⟩
theorem nat_u16 {z : Int} (h : (Lit.int .u16 z).wf = true) : ∃ n : Nat, z = (n : Int) ∧ n < 65536 := by
  simp [Lit.wf, IntKind.min, IntKind.max, IntKind.signed, IntKind.bits] at h
  exact ⟨z.toNat, by omega, by omega⟩
theorem nat_u8 {z : Int} (h : (Lit.int .u8 z).wf = true) : ∃ n : Nat, z = (n : Int) ∧ n < 256 := by
  simp [Lit.wf, IntKind.min, IntKind.max, IntKind.signed, IntKind.bits] at h
  exact ⟨z.toNat, by omega, by omega⟩
end Go.Proofs.YtegechmdboccbaaGreatDoor
/-! The step from a walk to a row that lists tables, with the world's shape at hand. -/
namespace Go.Proofs.YtegechmdboccbaaGreatDoor
open Go.Conc Go.RowKit Go.ChangeShapes Go.WideShapes Go.ChangeAt

theorem returns_laid {a : Assume} {C : Checked} {os : Os} {f : FuncId} {fn : Func} {s : ChangeSpec} {conds : List PathCond} {apart fresh handsOn again : Bool} {H : Type} {enc : TypeId × Value → H} {X : World → Array Value → Prop}
    (hX : ∀ (w w' : World) (args : Array Value), w.heap = w'.heap → X w args → X w' args) (own : ownKnob C.prog.godebug = none) (started : os.Started) (noInit : C.prog.inits.idxOf? f = none) (hfn : C.prog.funcs[f]? = some fn)
    (witness : ∃ (w : World) (tape : Tape) (i : Input), w.os = os ∧ (w.forCall tape i).Shaped C.prog ∧ i.vars = [] ∧ Input.okWide C.prog (w.forCall tape i) .any w.heap.size f i ∧
      ((s.pre enc C.prog fn conds apart (w.forCall tape i).memory i.args ∧ X (w.forCall tape i).memory i.args) ∧ sizedMet enc C.prog fn (OpenSpec.ofChange s) apart (w.forCall tape i).memory i.args) ∧ a.holds C.prog (lone (Frame.enter C.prog f i.args .normal) [] (w.forCall tape i)))
    (walk : ∀ (W : World) (base : Nat) (args : Array Value) (ds gs : List (DataW H)) (before : List MemPlace),
      (∀ (j : Nat) t v, fn.params[j]? = some t → args[j]? = some v → Value.okWide C.prog W .any base t v) → DataW.Whole enc C.prog fn.params.toList s.vars apart W args.toList ds gs before →
      X W args → W.ShapedOpen C.prog → Calls C.prog f args W fun e W' => ∃ v, e = .returned v ∧ s.post enc C.prog fn apart fresh handsOn again W args v W') :
    ReturnsInHanded a C os f .any (fun w args => (s.pre enc C.prog fn conds apart w args ∧ X w args) ∧ sizedMet enc C.prog fn (OpenSpec.ofChange s) apart w args) (s.post enc C.prog fn apart fresh handsOn again) := by
  refine returnsInHanded_of_calls own started noInit witness fun w tape i _ hsh _ hok hpre _ => ?_
  obtain ⟨_, _, _, fn', h1, _, _, _, _, hval⟩ := hok
  obtain rfl : fn' = fn := Option.some.inj (h1.symm.trans hfn)
  obtain ⟨⟨⟨ds, gs, before, hw, _⟩, hx⟩, _⟩ := hpre
  refine (walk (w.forCall tape i) w.heap.size i.args ds gs before hval (DataW.Whole.of_heap (w' := w.forCall tape i) (by rfl) hw) (hX _ _ _ (by rfl) hx) hsh).mono fun e W' ⟨v, he, hp⟩ => ?_
  subst he
  exact ChangeSpec.post_blind hp
theorem ownD : ownKnob Tryz.prog.godebug = none := by kernel_rfl
theorem laidOutD : laidOutB Tryz.prog = true := by kernel_rfl
end Go.Proofs.YtegechmdboccbaaGreatDoor
