/- The walk of MeshFull. -/
import Derived.Test.YtjgcbcahikemdaaMesh8
namespace Go.Proofs.Ytjgcbcahikemdaa
open Go.Conc Go.RowKit Go.Maps

abbrev sX : ByteArray := ⟨#[120]⟩
abbrev sBack : ByteArray := ⟨#[98, 97, 99, 107]⟩
abbrev lv12 : List Int := upL (upL [] 1) 2
def wayF (i : Nat) : List (Bool × ByteArray) := if i ≤ 64 then List.replicate i (false, sX) else (true, ⟨#[]⟩) :: List.replicate (i - 65) (false, sX)
def backF (i : Nat) : List (Bool × ByteArray) := if i ≤ 64 then [(false, sBack)] else [(true, ⟨#[]⟩)]
def GF (i : Nat) : Ways := fun x y => if x = 1 ∧ y = 2 then wayF i else if x = 2 ∧ y = 1 then backF i else []
theorem GF_zero : sendG lv12 G0 2 1 sBack = GF 0 := by
  unfold sendG
  rw [if_pos (by decide), if_pos (by decide), if_pos (by decide)]
  funext x y
  unfold setG GF backF wayF
  by_cases h : x = 2 ∧ y = 1
  · rw [if_pos h, if_neg (by omega), if_pos h]; rfl
  · rw [if_neg h]
    by_cases h2 : x = 1 ∧ y = 2
    · rw [if_pos h2]; rfl
    · rw [if_neg h2, if_neg h]
theorem wayF_len (i : Nat) : (wayF i).length = if i ≤ 64 then i else i - 64 := by
  unfold wayF
  split
  · simp
  · simp; omega
theorem GF_step (i : Nat) (hi : i < 99) : sendG lv12 (GF i) 1 2 sX = GF (i + 1) := by
  have e12 : GF i 1 2 = wayF i := if_pos ⟨rfl, rfl⟩
  unfold sendG
  rw [if_pos (by decide), if_pos (by decide), e12, wayF_len]
  by_cases h : i = 64
  · subst h
    rw [if_neg (by decide)]
    unfold breakG
    rw [if_pos (by decide)]
    funext x y
    unfold brk1 setG GF backF wayF
    by_cases h : x = 2 ∧ y = 1
    · rw [if_pos h, if_neg (by omega), if_pos h]; rfl
    · rw [if_neg h]
      by_cases h2 : x = 1 ∧ y = 2
      · rw [if_pos h2, if_pos h2]; rfl
      · rw [if_neg h2, if_neg h2, if_neg h2, if_neg h, if_neg h]
  · rw [if_pos (by split <;> omega)]
    funext x y
    have hb : backF (i + 1) = backF i := by
      unfold backF
      by_cases h1 : i ≤ 64
      · rw [if_pos h1, if_pos (by omega)]
      · rw [if_neg h1, if_neg (by omega)]
    have hw : wayF i ++ [(false, sX)] = wayF (i + 1) := by
      unfold wayF
      by_cases h1 : i ≤ 64
      · rw [if_pos h1, if_pos (by omega)]
        exact List.replicate_succ'.symm
      · rw [if_neg h1, if_neg (by omega), show i + 1 - 65 = (i - 65) + 1 by omega, List.replicate_succ', List.cons_append]
    unfold setG GF
    rw [hb, hw]
    by_cases h2 : x = 1 ∧ y = 2
    · rw [if_pos h2, if_pos h2]
    · rw [if_neg h2, if_neg h2, if_neg h2]
set_option maxRecDepth 100000 in
set_option maxHeartbeats 4000000 in
theorem full_any (w : World) (k : Nat) (hk : k < 256) : Calls Try.prog 6 #[.int .u8 k] w fun e w' => e = .returned (.bool true) ∧ Only (fun _ => False) w w' := by
  obtain ⟨c, hc, hc99⟩ : ∃ c : Nat, Int.tmod (k : Int) 100 = (c : Int) ∧ c ≤ 99 := ⟨k % 100, by rw [Int.tmod_eq_emod_of_nonneg (by omega)]; omega, by omega⟩
  have hw1 : IntKind.i64.wrap (k : Int) = k := by rw [IntKind.wrap_i64]; omega
  go_enter Try.func6, Try.ntmps6
  go_wp2_with fail
  refine (speaks08_any w).mono ?_
  rintro e w1 ⟨rfl, ho1⟩
  have HO1 := Lib.hid ho1
  clear ho1
  go_wp2_with fail
  refine (mrun_new w1).mono ?_
  rintro e w2 ⟨m, lb, pb, rfl, h2⟩
  have H2 := Lib.hid (mrun_up h2 1 (by omega) (by omega) (by simp))
  clear h2
  go_wp2_with fail
  refine H2.out.mono ?_
  rintro e w3 ⟨rfl, h3, _⟩
  have H3 := Lib.hid (mrun_up h3 2 (by omega) (by omega) (by decide))
  clear h3 H2
  go_wp2_with fail
  refine H3.out.mono ?_
  rintro e w4 ⟨rfl, h4, _⟩
  have H4 := Lib.hid (mrun_send h4 2 1 sBack (by decide) (by decide) (by omega))
  clear h4 H3
  go_wp2_with fail
  refine H4.out.mono ?_
  rintro e w5 ⟨rfl, h5, _⟩
  have e0 : sendG lv12 (fun _ _ => []) 2 1 sBack = GF 0 := GF_zero
  have h5' : MRun w1 w5 m lb pb lv12 (GF 0) 300 := by
    rw [← e0]
    obtain ⟨L, q1, q2, q3, q4, q5, q6⟩ := h5.out
    exact ⟨L, q1, q2, q3, q4, by omega, q6⟩
  have H5 := Lib.hid h5'
  clear h5'
  clear h5 H4 e0
  go_wp2_with fail
  go_loopg [5] c (fun gk v5 wr => ∃ i : Nat, v5 = .int .i64 i ∧ i ≤ c ∧ MRun w1 wr m lb pb lv12 (GF i) (300 + 3 * i) ∧ gk = c - i)
  case atStart => exact ⟨0, rfl, Nat.zero_le _, H5.out, rfl⟩
  case round =>
    obtain ⟨i, rfl, hi, hr, hg⟩ := hrel
    by_cases hlt : i < c
    · have hlt' : (i : Int) < (c : Int) := by omega
      have HS := Lib.hid (mrun_send hr 1 2 sX (by decide) (by decide) (by omega))
      have HG := Lib.hid (GF_step i (by omega))
      have Hg := Lib.hid hg
      clear hg
      clear hr
      go_wp2_with fail
      refine HS.out.mono ?_
      rintro e w6 ⟨rfl, h6, _⟩
      rw [HG.out] at h6
      have H6 := Lib.hid h6
      clear h6
      go_wp2_with fail
      go_roundg (c - (i + 1))
      case measure => rw [Hg.out]; omega
      case rel => exact ⟨i + 1, by go_num, by omega, H6.out, rfl⟩
    · have hlt' : ¬ (i : Int) < (c : Int) := by omega
      obtain rfl : i = c := by omega
      have HT := Lib.hid (mrun_take hr 2 1 (by decide) (by decide))
      clear hr hg hlt hi
      go_wp2_with fail
      refine HT.out.mono ?_
      rintro e w6 ⟨x, y, ok, rest, rfl, hT, h6, _⟩
      have hbk : GF i 2 1 = backF i := by unfold GF; rw [if_neg (by omega), if_pos ⟨rfl, rfl⟩]
      rw [hbk] at hT
      have hgw : setG (GF i) 2 1 rest 1 2 = wayF i := by unfold setG; rw [if_neg (by omega)]; exact if_pos ⟨rfl, rfl⟩
      obtain ⟨W, hW⟩ : ∃ W, W = w6.alloc (.cells #[.bool x, .string y] 58) := ⟨_, rfl⟩
      have hbW : W.heap[w6.heap.size]? = some (.cells #[.bool x, .string y] 58 (0, 0)) := by rw [hW]; exact heap_alloc_new w6 _
      have hoW : Only (fun _ => False) w6 W := by rw [hW]; exact (Only.refl _ _).alloc _
      have hsW : W.heap.size = w6.heap.size + 1 := by rw [hW]; simp
      have h7 := h6.new hoW
      have HT6 := Lib.hid hT
      have HGW := Lib.hid hgw
      have H7 := Lib.hid h7
      have HBX := Lib.hid hbW
      have HW := Lib.hid hW
      clear hT hgw h7 hbW hW
      clear h6 hbk hoW hsW HT
      go_upto_region 13 with (fail)
      rw [← HW.out]
      go_wp2_with fail
      refine (mup_no W none 1 (.inl rfl)).mono ?_
      rintro e w' ⟨rfl, rfl⟩
      go_wp2_with fail
      refine (mdown_nil W 1).mono ?_
      rintro e wa ⟨rfl, hoa⟩
      have HOA := Lib.hid hoa
      clear hoa
      go_wp2_with fail
      refine (msend_nil wa 1 2 _).mono ?_
      rintro e w' ⟨rfl, rfl⟩
      go_wp2_with fail
      refine (mbreak_nil wa 1 2).mono ?_
      rintro e w' ⟨rfl, rfl⟩
      go_wp2_with fail
      refine (mtake_nil wa 1 2).mono ?_
      rintro e wb ⟨rfl, hob⟩
      obtain ⟨V, hV⟩ : ∃ V, V = wb.alloc (.cells #[.bool false, .string ⟨#[]⟩] 58) := ⟨_, rfl⟩
      have hbV : V.heap[wb.heap.size]? = some (.cells #[.bool false, .string ⟨#[]⟩] 58 (0, 0)) := by rw [hV]; exact heap_alloc_new wb _
      have hoV : Only (fun _ => False) wb V := by rw [hV]; exact (Only.refl _ _).alloc _
      have hsV : V.heap.size = wb.heap.size + 1 := by rw [hV]; simp
      have hoAll := HOA.out.trans (hob.trans hoV)
      have hbX := hoAll.old HBX.out id
      have h8 := H7.out.new hoAll
      have HV := Lib.hid hV
      have HBV := Lib.hid hbX
      have H8 := Lib.hid h8
      clear hbX h8
      clear hoAll hob hoV hsV hV
      go_upto_region 19 with (fail)
      rw [← HV.out]
      go_wp2_with fail
      refine (mlive_nil V 1).mono ?_
      rintro e w' ⟨rfl, rfl⟩
      go_wp2_with fail
      refine (mlen_nil V 1 2).mono ?_
      rintro e w' ⟨rfl, rfl⟩
      go_wp2_with fail
      refine (mnodes_nil V).mono ?_
      rintro e w' ⟨rfl, rfl⟩
      go_wp2_with fail
      refine (mways_nil V).mono ?_
      rintro e w' ⟨rfl, rfl⟩
      have x0 : V.cell? ⟨w6.heap.size, 0, none⟩ = some (.bool x) := cell_at HBV.out 0
      have HL := Lib.hid (mrun_len H8.out 1 2 (by decide) (by decide))
      rw [HGW.out, wayF_len] at HL
      by_cases h64 : i ≤ 64
      · have h64' : (i : Int) ≤ 64 := by omega
        have hT := HT6.out
        unfold backF at hT
        rw [if_pos h64] at hT
        obtain ⟨rfl, rfl, rfl, rfl⟩ := took_one hT
        rw [if_pos h64] at HL
        clear hT h64
        go_wp2_with fail
        refine HL.out.mono ?_
        rintro e w' ⟨rfl, rfl⟩
        clear x0
        go_wp2_with fail
        go_ret
        exact ⟨rfl, HO1.out.trans H8.out.only⟩
      · have h64' : ¬ (i : Int) ≤ 64 := by omega
        have hT := HT6.out
        unfold backF at hT
        rw [if_neg h64] at hT
        obtain ⟨rfl, rfl, rfl, rfl⟩ := took_one hT
        have HT2 := Lib.hid (mrun_take H8.out 1 2 (by decide) (by decide))
        clear hT x0 HL
        go_wp2_with fail
        refine HT2.out.mono ?_
        rintro e w9 ⟨x2, y2, ok2, rest2, rfl, hT2, h9, hck⟩
        rw [HGW.out] at hT2
        unfold wayF at hT2
        rw [if_neg h64] at hT2
        obtain ⟨rfl, rfl, rfl, rfl⟩ := took_one hT2
        have hbX9 := hck _ _ _ _ HBV.out
        obtain ⟨Y, hY⟩ : ∃ Y, Y = w9.alloc (.cells #[.bool true, .string ⟨#[]⟩] 58) := ⟨_, rfl⟩
        have hbY : Y.heap[w9.heap.size]? = some (.cells #[.bool true, .string ⟨#[]⟩] 58 (0, 0)) := by rw [hY]; exact heap_alloc_new w9 _
        have hoY : Only (fun _ => False) w9 Y := by rw [hY]; exact (Only.refl _ _).alloc _
        have hsY : Y.heap.size = w9.heap.size + 1 := by rw [hY]; simp
        have hbX10 := hoY.old hbX9 id
        have x0 : Y.cell? ⟨w6.heap.size, 0, none⟩ = some (.bool true) := cell_at hbX10 0
        have y0 : Y.cell? ⟨w9.heap.size, 0, none⟩ = some (.bool true) := cell_at hbY 0
        have h10 := h9.new hoY
        have HO10 := Lib.hid h10.only
        have HL2 := mrun_len h10 1 2 (by decide) (by decide)
        have e1 : ∀ l, setG (setG (GF i) 2 1 []) 1 2 l 1 2 = l := fun l => if_pos ⟨rfl, rfl⟩
        have e2 : ((List.replicate (i - 65) ((false, sX) : Bool × ByteArray)).length : Int) = (i : Int) - 65 := by rw [List.length_replicate]; omega
        rw [e1, e2] at HL2
        have hw65 : IntKind.i64.wrap ((i : Int) - 65) = (i : Int) - 65 := by rw [IntKind.wrap_i64]; omega
        have HLL := Lib.hid HL2
        have HY := Lib.hid hY
        clear hY h10 e1 e2 HL2 hT2 h9 hck hbX9 hbX10 hbY hoY hsY h64
        go_upto_region 24 with (fail)
        rw [← HY.out]
        go_wp2_with fail
        refine HLL.out.mono ?_
        rintro e w' ⟨rfl, rfl⟩
        clear x0 y0
        go_wp2_with fail
        go_ret
        exact ⟨rfl, HO1.out.trans HO10.out⟩
theorem full_int (w : World) (x : Int) (hx : (Lit.int .u8 x).wf = true) : Calls Try.prog 6 #[.int .u8 x] w fun e w' => e = .returned (.bool true) ∧ Only (fun _ => False) w w' := by
  have h : 0 ≤ x ∧ x ≤ 255 := by
    have h1 : (decide (_ ≤ x) && decide (x ≤ _)) = true := hx
    rw [Bool.and_eq_true] at h1
    exact ⟨of_decide_eq_true h1.1, of_decide_eq_true h1.2⟩
  obtain ⟨k, rfl⟩ : ∃ k : Nat, x = k := ⟨x.toNat, by omega⟩
  exact full_any w k (by omega)
end Go.Proofs.Ytjgcbcahikemdaa
