/- The walk of WantAsks. -/
import Derived.Test.YtefadkmdfhjaeaaWnt12
import Derived.Deep.CutBlock
namespace Go.Proofs.Ytefadkmdfhjaeaa
open Go.Conc Go.RowKit Go.Maps

def u16C (n : Nat) : List Value := [.int .u16 n]
theorem u16C_length (n : Nat) : (u16C n).length = 1 := rfl
set_option maxRecDepth 100000 in
set_option maxHeartbeats 8000000 in
theorem asks18_any (w : World) (v : Value) (l : List Nat) (h : Sl w 1 v l.length (l.flatMap u16C)) (hl : ∀ n ∈ l, n < 65536) (st : Nat) (hst : st < 256) (at_ : Nat) (hat : at_ < 4294967296) : Calls Try.prog 3 #[v, .int .u8 st, .int .u32 at_] w fun e w' => e = .returned (.bool true) ∧ Only (fun _ => False) w w' := by
  obtain ⟨a, cap, rfl, c1, c2, c3⟩ := Sl.cells u16C_length h
  unfold maxLen at c2
  obtain ⟨s, hs, hs9⟩ : ∃ s : Nat, Int.tmod (st : Int) 9 = (s : Int) ∧ s ≤ 8 := ⟨st % 9, by rw [Int.tmod_eq_emod_of_nonneg (by omega)]; omega, by omega⟩
  have hw1 : IntKind.u8.wrap (s : Int) = s := by rw [IntKind.wrap_u8]; omega
  have hw2 : IntKind.i64.wrap (s : Int) = s := by rw [IntKind.wrap_i64]; omega
  have hw3 : IntKind.i64.wrap (at_ : Int) = at_ := by rw [IntKind.wrap_i64]; omega
  have HC := Lib.hid c3
  have HL := Lib.hid hl
  clear c3 hl
  clear h
  go_enter Try.func3, Try.ntmps3
  go_wp2_with fail
  refine (speaks18_any w).mono ?_
  rintro e w1 ⟨rfl, ho1⟩
  have HO1 := Lib.hid ho1
  clear ho1
  go_wp2_with fail
  refine (wrun_new w1 s).mono ?_
  rintro e w2 ⟨x, kb, c, cb, rfl, h2⟩
  rw [show min (max (s : Int) 0) 1000 = s by omega] at h2
  obtain ⟨W, hW⟩ : ∃ W, W = w2.alloc (.cells #[.string sKey, .int .u64 7] 29) := ⟨_, rfl⟩
  have hbW : W.heap[w2.heap.size]? = some (.cells #[.string sKey, .int .u64 7] 29 (0, 0)) := by rw [hW]; exact heap_alloc_new w2 _
  have hoW : Only (fun _ => False) w2 W := by rw [hW]; exact (Only.refl _ _).alloc _
  have hsW : W.heap.size = w2.heap.size + 1 := by rw [hW]; simp
  have hA := (show AAt w1 W x kb c cb s (min (at_ : Int) 4611686018427387904 + s) [] none from ⟨.inl ⟨rfl, rfl, h2.new hoW⟩⟩)
  have HQ := Lib.hid (show ¬ footW kb c cb w2.heap.size from fun e9 => by
    have h8 := h2.at_.keys.lt
    have h7 := lt_of_block h2.at_.clk.blk
    have h6 := h2.at_.clk.map.lt
    rcases e9 with e9 | e9 | e9 <;> omega)
  have HW := Lib.hid hW
  have HA := Lib.hid hA
  have HBW := Lib.hid hbW
  clear hA hbW
  clear h2 hoW hsW hW
  go_upto_region 6 with (fail)
  rw [← HW.out]
  go_upto_block 0 with fail
  have HFT := Lib.hid (show ∀ i, footW kb c cb i → i < W.heap.size from fun i hi => by
    rcases HA.out.out with ⟨_, _, h9⟩ | ⟨h9, _⟩
    · rcases hi with rfl | rfl | rfl
      · exact h9.at_.keys.lt
      · exact lt_of_block h9.at_.clk.blk
      · exact h9.at_.clk.map.lt
    · exact absurd rfl h9)
  have hS1 : w1.heap.size ≤ W.heap.size := HA.out.only.size
  have hS2 : w2.heap.size < W.heap.size := lt_of_block HBW.out
  have HS1 := Lib.hid hS1
  have HS2 := Lib.hid hS2
  clear hS1 hS2
  go_cut [11] (fun v11 wx => ∃ (O : List Int) (a : Option Addr), wx.ownsRow W.heap.size 3 1 v11 O.length (rowI O) ∧ AAt w1 wx x kb c cb s (min (at_ : Int) 4611686018427387904 + s) O a ∧ O.length ≤ 40 ∧ wx.heap[w2.heap.size]? = some (.cells #[.string sKey, .int .u64 7] 29 (0, 0)))
  case first =>
    go_wp2_with fail
    go_loopg [11, 12] 40 (fun gk v11 v12 wr => ∃ (i : Nat) (O : List Int) (a : Option Addr), v12 = .int .i64 i ∧ i ≤ l.length ∧ i ≤ 40 ∧ wr.ownsRow W.heap.size 3 1 v11 O.length (rowI O) ∧ AAt w1 wr x kb c cb s (min (at_ : Int) 4611686018427387904 + s) O a ∧ O.length ≤ i ∧ wr.heap[w2.heap.size]? = some (.cells #[.string sKey, .int .u64 7] 29 (0, 0)) ∧ (∀ g, v11.ownBlock = some g → a.map Addr.block ≠ some g) ∧ W.heap.size ≤ wr.heap.size ∧ gk = 40 - i)
    case atStart => exact ⟨0, [], none, rfl, Nat.zero_le _, Nat.zero_le _, World.ownsRow_nil W _ _ _, HA.out, Nat.zero_le _, HBW.out, fun g hg => (by cases hg), Nat.le_refl _, rfl⟩
    case round =>
      obtain ⟨i, O, a, rfl, hi, hi40, hown, haa, hOi, hbx, hne, hWr, hg⟩ := hrel
      by_cases hlt : i < l.length ∧ i < 40
      · -- round
        obtain ⟨hlt, hlt40⟩ := hlt
        have hlt' : (i : Int) < (l.length : Int) := by omega
        have hlt40' : (i : Int) < 40 := by omega
        obtain ⟨bb, off, rfl, hcc⟩ := HC.out.at i hlt
        have y0 : wr.cell? ⟨bb, off + i, none⟩ = some (.int .u16 l[i]) := by
          have h9 := haa.only.cell (HO1.out.cell (hcc 0 _ rfl) id) id
          simpa using h9
        have hP := HL.out l[i] (List.getElem_mem hlt)
        generalize l[i] = y at *
        obtain ⟨r, hr, hr9⟩ : ∃ r : Nat, Int.tmod (y : Int) 65535 = (r : Int) ∧ r ≤ 65534 := ⟨y % 65535, by rw [Int.tmod_eq_emod_of_nonneg (by omega)]; omega, by omega⟩
        have hw4 : IntKind.i64.wrap (y : Int) = y := by rw [IntKind.wrap_i64]; omega
        have hw5 : IntKind.i64.wrap (r : Int) = r := by rw [IntKind.wrap_i64]; omega
        have hw6 : IntKind.i64.wrap (1 + (r : Int)) = 1 + (r : Int) := by rw [IntKind.wrap_i64]; omega
        have q0 : wr.cell? ⟨w2.heap.size, 0, none⟩ = some (.string sKey) := cell_at hbx 0
        have q1 : wr.cell? ⟨w2.heap.size, 1, none⟩ = some (.int .u64 7) := cell_at hbx 1
        have HHE := Lib.hid (aat_heard haa (1 + (r : Int)) (by omega) (by omega) (by omega) (by omega) (by omega) (by omega))
        have Hg := Lib.hid hg
        have HOWN := Lib.hid hown
        have HAA := Lib.hid haa
        have HBX := Lib.hid hbx
        have HNE := Lib.hid hne
        have HWR := Lib.hid hWr
        clear hg hown haa hbx hne hWr
        clear hcc hP
        go_wp2_with fail
        refine HHE.out.mono ?_
        rintro e w5 ⟨a5, rfl, ha5, ho5, hfr5⟩
        have hrow5 := owns_only HOWN.out ho5 (fun k hk hf => by have := HFT.out _ hf; omega)
        have hbx5 := ho5.old HBX.out HQ.out
        have hne5 : ∀ g, u11.ownBlock = some g → a5.map Addr.block ≠ some g := fun g hg e9 => by
          rcases hfr5 with rfl | h9
          · exact HNE.out g hg e9
          · have h8 := h9 g e9
            have h7 := (HOWN.out.lt g hg).2
            omega
        have hW5 : W.heap.size ≤ w5.heap.size := Nat.le_trans HWR.out ho5.size
        obtain ⟨_, oa, oc, rfl, _⟩ := Sl.of_owns hrow5
        have hN : (1 : Int) + (r : Int) = 1 + (r : Int) := rfl
        generalize (1 : Int) + (r : Int) = n at *
        have hcell : ∀ k (hk : k < O.length), ∃ g, oa = some ⟨g, 0, none⟩ ∧ w5.cell? ⟨g, k, none⟩ = some (.int .i64 O[k]) := fun k hk => by
          obtain ⟨g, gc, e9, h9⟩ := row_cells (ownsRow_base_a hrow5 (Nat.zero_le _)) (fun e9 => by rw [e9] at hk; cases hk)
          have h8 := h9 k hk
          rw [List.getD_eq_getElem?_getD, List.getElem?_eq_getElem hk] at h8
          simp at e9
          exact ⟨g, e9.1, by simpa using h8⟩
        have HA5 := Lib.hid ha5
        have HROW5 := Lib.hid hrow5
        have HBX5 := Lib.hid hbx5
        have HCELL := Lib.hid hcell
        have HNE5 := Lib.hid hne5
        have HW5 := Lib.hid hW5
        clear ha5 hrow5 hbx5 hcell hne5 hW5
        clear hN y0 q0 q1 hw4 hw5 hw6 HHE ho5 hfr5 HNE HOWN
        go_wp2_with fail
        go_loopg [14, 15] O.length (fun gk2 v14 v15 wr2 => ∃ k : Nat, v15 = .int .i64 k ∧ k ≤ O.length ∧ v14 = .bool (decide (n ∈ O.take k)) ∧ w5 = wr2 ∧ gk2 = O.length - k)
        case atStart => exact ⟨0, rfl, Nat.zero_le _, by simp, rfl, rfl⟩
        case round =>
          obtain ⟨k, rfl, hk, rfl, rfl, hg2⟩ := hrel
          by_cases hkl : k < O.length
          · -- look
            have hkl' : (k : Int) < (O.length : Int) := by omega
            obtain ⟨g, rfl, hc0⟩ := HCELL.out k hkl
            have htk : O.take (k + 1) = O.take k ++ [O[k]] := by rw [List.take_add_one, List.getElem?_eq_getElem hkl]; rfl
            have HTK := Lib.hid (show (n ∈ O.take (k + 1)) ↔ (n ∈ O.take k ∨ O[k] = n) by rw [htk, List.mem_append, List.mem_singleton]; exact or_congr Iff.rfl eq_comm)
            generalize O[k] = ok at *
            have Hg2 := Lib.hid hg2
            clear hg2
            clear htk
            by_cases hm : n ∈ O.take k
            · have HF := Lib.hid (show decide (n ∈ O.take (k + 1)) = true from decide_eq_true (HTK.out.2 (.inl hm)))
              rw [decide_eq_true hm]
              clear hm
              go_wp2_with fail
              go_roundg (O.length - (k + 1))
              case measure => rw [Hg2.out]; omega
              case rel => exact ⟨k + 1, by go_num, by omega, by rw [HF.out], rfl, rfl⟩
            · have HF := Lib.hid (show decide (n ∈ O.take (k + 1)) = (ok == n) by
                by_cases he : ok = n
                · rw [decide_eq_true (HTK.out.2 (.inr he))]; simp [he]
                · rw [decide_eq_false (fun h9 => (HTK.out.1 h9).elim hm he)]; simp [he])
              rw [decide_eq_false hm]
              clear hm
              go_wp2_with fail
              go_roundg (O.length - (k + 1))
              case measure => rw [Hg2.out]; omega
              case rel => exact ⟨k + 1, by go_num, by omega, by rw [HF.out], rfl, rfl⟩
          · -- add
            have hkl' : ¬ (k : Int) < (O.length : Int) := by omega
            obtain rfl : k = O.length := by omega
            rw [List.take_length]
            by_cases hm : n ∈ O
            · have HF := Lib.hid (show addO O n = O from if_pos hm)
              rw [decide_eq_true hm]
              clear hm
              go_wp2_with fail
              go_roundg (40 - (i + 1))
              case measure => rw [Hg.out]; omega
              case rel => exact ⟨i + 1, O, a5, by go_num, by omega, by omega, HROW5.out, by have := HA5.out; rw [HF.out] at this; exact this, by omega, HBX5.out, HNE5.out, HW5.out, rfl⟩
            · have HF := Lib.hid (show addO O n = O ++ [n] from if_neg hm)
              rw [decide_eq_false hm]
              obtain ⟨i0, hi0, iz0, iz1, iz2⟩ := info_parts infoIntW
              clear hm
              go_wp2_with (at_builtin; refine Wait.mk ?_)
              refine Wait.go (wpList_append_src _ rfl (.tmp 68) (.tmp 70) 30 30 rfl W.heap.size 3 i0 _ 1 8 Try.underlying30 hi0 iz0 iz1 iz2 rfl _ O.length (rowI O) rfl (HROW5.out.alloc _) _ 1 [.int .i64 n] rfl ?src4 ?m4 ?b4 ?base4 ?_)
              case src4 => exact Src.ofSlice _ Try.underlying30 _ _ _ _ rfl (news_new _ _ _) (by simp [Value.oneCell'])
              case m4 => unfold maxLen; omega
              case b4 => omega
              case base4 => have h2 := HW5.out; simp; omega
              intro v6 w6 own6 gr6 hv6
              have hr6 := HROW5.out.alloc (.cells #[.int .i64 n] 3)
              have ho6 := (Only.refl (fun k => (Value.slice oa O.length oc).ownBlock = some k) _).grown gr6 (fun k e => .inr e)
              have ha6 : AAt w1 w6 x kb c cb s (min (at_ : Int) 4611686018427387904 + s) (O ++ [n]) a5 := by
                have h9 := (HA5.out.new ((Only.refl _ _).alloc (.cells #[.int .i64 n] 3))).grown hr6 HS1.out gr6 HNE5.out
                rwa [HF.out] at h9
              have hbx6 := ho6.old (((Only.refl (fun _ => False) w5).alloc (.cells #[.int .i64 n] 3)).old HBX5.out id) (fun e9 => by
                have h9 := (hr6.lt _ e9).1
                have h8 := HS2.out
                omega)
              have hne6 : ∀ g, v6.ownBlock = some g → a5.map Addr.block ≠ some g := fun g hg e9 => by
                rcases hv6 g hg with h9 | h9
                · exact HNE5.out g h9 e9
                · have h8 := HA5.out.lt g e9
                  simp at h9
                  omega
              have hW6 : W.heap.size ≤ w6.heap.size := by
                have h9 := HW5.out
                have h8 := ho6.size
                simp at h8
                omega
              have hrow6 : w6.ownsRow W.heap.size 3 1 v6 (O ++ [n]).length (rowI (O ++ [n])) := by
                rw [List.length_append]
                unfold rowI at own6 ⊢
                rw [List.map_append]
                exact own6
              have HA6 := Lib.hid ha6
              have HBX6 := Lib.hid hbx6
              have HNE6 := Lib.hid hne6
              have HW6 := Lib.hid hW6
              have HROW6 := Lib.hid hrow6
              clear ha6 hbx6 hne6 hW6 hrow6
              clear hr6 ho6 own6 gr6 hv6
              go_wp2_with fail
              go_roundg (40 - (i + 1))
              case measure => rw [Hg.out]; omega
              case rel => exact ⟨i + 1, O ++ [n], a5, by go_num, by omega, by omega, HROW6.out, HA6.out, by simp; omega, HBX6.out, HNE6.out, HW6.out, rfl⟩
      · -- stop
        have hcase : (¬ (i : Int) < (l.length : Int)) ∨ ((i : Int) < (l.length : Int) ∧ ¬ (i : Int) < 40) := by omega
        have HOWN := Lib.hid hown
        have HAA := Lib.hid haa
        have HBX := Lib.hid hbx
        clear hown haa hbx
        clear hlt hg hne hWr
        rcases hcase with h1 | ⟨h1, h2⟩
        all_goals
          go_wp2_with fail
          go_meet
          exact ⟨O, a, HOWN.out, HAA.out, by omega, HBX.out⟩
  case rest =>
    obtain ⟨O, a, hown, haa, hO40, hbx⟩ := hcut
    have hb := haa.to (by omega)
    rw [show min (at_ : Int) 4611686018427387904 = at_ by omega] at hb
    have hcell : ∀ wz, Only (footW kb c cb) wc wz → ∀ k (hk : k < O.length), ∃ g, (∃ cap9, u11 = .slice (some ⟨g, 0, none⟩) O.length cap9) ∧ wz.cell? ⟨g, k, none⟩ = some (.int .i64 O[k]) := fun wz hz k hk => by
      have h0 := owns_only hown hz (fun k hk hf => by have := HFT.out _ hf; omega)
      obtain ⟨g, gc, e9, h9⟩ := row_cells (ownsRow_base_a h0 (Nat.zero_le _)) (fun e9 => by rw [e9] at hk; cases hk)
      have h8 := h9 k hk
      rw [List.getD_eq_getElem?_getD, List.getElem?_eq_getElem hk] at h8
      exact ⟨g, ⟨gc, e9⟩, by simpa using h8⟩
    obtain ⟨_, oa, oc, rfl, _⟩ := Sl.of_owns hown
    generalize hw3 : wc = w3 at *
    clear hw3
    have HB := Lib.hid hb
    have HCELL := Lib.hid hcell
    have HBX := Lib.hid hbx
    clear hb hcell hbx
    clear hown haa
    go_wp2_with fail
    go_loopg [10, 16] O.length (fun gk v10 v16 wr => ∃ (i : Nat) (t : Int), v16 = .int .i64 i ∧ i ≤ O.length ∧ v10 = .int .i64 t ∧ (at_ : Int) ≤ t ∧ t ≤ at_ + 8 * i ∧ BAt w1 wr x kb c cb s (t + s) (O.drop i) ∧ Only (footW kb c cb) w3 wr ∧ gk = O.length - i)
    case atStart => exact ⟨0, at_, rfl, Nat.zero_le _, rfl, by omega, by omega, HB.out, Only.refl _ _, rfl⟩
    case round =>
      obtain ⟨i, t, rfl, hi, rfl, ht0, ht1, hbt, hox, hg⟩ := hrel
      by_cases hlt : i < O.length
      · have hlt' : (i : Int) < (O.length : Int) := by omega
        have hdr : O.drop i = O[i] :: O.drop (i + 1) := List.drop_eq_getElem_cons hlt
        have hv1 : IntKind.i64.wrap (t + (s : Int)) = t + s := by rw [IntKind.wrap_i64]; omega
        have hv2 : IntKind.i64.wrap (t + (s : Int) - 1) = t + s - 1 := by rw [IntKind.wrap_i64]; omega
        have hmin : min (t + (s : Int)) 4611686018427387904 = t + s := by omega
        have HCE := Lib.hid (fun wz hz => HCELL.out wz hz i hlt)
        have HBT := Lib.hid hbt
        have HOX := Lib.hid hox
        have Hg := Lib.hid hg
        have HDR := Lib.hid hdr
        have HMIN := Lib.hid hmin
        clear hbt hox hg hdr hmin
        have key : ∀ wy, BAt w1 wy x kb c cb s (t + s) (O.drop i) → Only (footW kb c cb) w3 wy → Calls Try.prog 9 #[.pointer (some ⟨x, 0, none⟩), .int .i64 (t + s)] wy fun e w' => BOne w1 wy w' x kb c cb s (t + s + s) O[i] (O.drop (i + 1)) e := fun wy hy _ => by
          rw [HDR.out] at hy
          have h9 := bat_due hy (t + s) (by omega) (by omega) (by omega) (by omega)
          rwa [HMIN.out] at h9
        have KEY := Lib.hid key
        have ERL := Lib.hid (bat_early HBT.out (t + s - 1) (.inl (by omega)) (by omega) (by omega) (by omega))
        generalize O[i] = oi at *
        clear key
        by_cases hs1 : (0 : Int) < (s : Int)
        · -- wait
          have hms : t + (s : Int) - 1 = t + s - 1 := rfl
          go_wp2_with fail
          refine ERL.out.mono ?_
          rintro e wE ⟨sa, sc, rfl, hE, hoE⟩
          have HOE := Lib.hid (HOX.out.trans hoE)
          have HDU := Lib.hid (KEY.out _ hE HOE.out)
          clear hE hoE hms
          go_wp2_with fail
          refine HDU.out.mono ?_
          rintro e wD hB1
          obtain ⟨g, gc, rfl, hg9, c0, c1, c2, hbt2, hoD⟩ := hB1.out
          have hoF := HOE.out.trans hoD
          obtain ⟨gg, ⟨cap9, hcap⟩, o0⟩ := HCE.out _ hoF
          simp only [Value.slice.injEq] at hcap
          obtain ⟨rfl, _, rfl⟩ := hcap
          have hbx := hoF.old HBX.out HQ.out
          have q0 : wD.cell? ⟨w2.heap.size, 0, none⟩ = some (.string sKey) := cell_at hbx 0
          have q1 : wD.cell? ⟨w2.heap.size, 1, none⟩ = some (.int .u64 7) := cell_at hbx 1
          have HOF := Lib.hid hoF
          have HBT2 := Lib.hid hbt2
          clear hoF hbt2
          clear hbx hB1 hoD hg9 HDU
          go_upto_region 28 with (fail)
          go_quiet (fail)
          have hq : Only (fun _ => False) wD (wD.drewN nq) := (Only.refl _ _).drewN _
          have HBN := Lib.hid (HBT2.out)
          have HNW := Lib.hid (HOF.out.trans (hq.weaken (fun _ _ => False.elim)))
          have HBQ := Lib.hid (HBN.out.new hq)
          go_wp2_with fail
          go_roundg (O.length - (i + 1))
          case measure => rw [Hg.out]; omega
          case rel => exact ⟨i + 1, t + s, by go_num, by omega, rfl, by omega, by omega, HBQ.out, HNW.out, rfl⟩
        · -- zero
          have HOE := Lib.hid HOX.out
          have HDU := Lib.hid (KEY.out _ HBT.out HOX.out)
          go_wp2_with fail
          refine HDU.out.mono ?_
          rintro e wD hB1
          obtain ⟨g, gc, rfl, hg9, c0, c1, c2, hbt2, hoD⟩ := hB1.out
          have hoF := HOE.out.trans hoD
          obtain ⟨gg, ⟨cap9, hcap⟩, o0⟩ := HCE.out _ hoF
          simp only [Value.slice.injEq] at hcap
          obtain ⟨rfl, _, rfl⟩ := hcap
          have hbx := hoF.old HBX.out HQ.out
          have q0 : wD.cell? ⟨w2.heap.size, 0, none⟩ = some (.string sKey) := cell_at hbx 0
          have q1 : wD.cell? ⟨w2.heap.size, 1, none⟩ = some (.int .u64 7) := cell_at hbx 1
          have HOF := Lib.hid hoF
          have HBT2 := Lib.hid hbt2
          clear hoF hbt2
          clear hbx hB1 hoD hg9 HDU
          go_upto_region 28 with (fail)
          go_quiet (fail)
          have hq : Only (fun _ => False) wD (wD.drewN nq) := (Only.refl _ _).drewN _
          have HBN := Lib.hid (HBT2.out)
          have HNW := Lib.hid (HOF.out.trans (hq.weaken (fun _ _ => False.elim)))
          have HBQ := Lib.hid (HBN.out.new hq)
          go_wp2_with fail
          go_roundg (O.length - (i + 1))
          case measure => rw [Hg.out]; omega
          case rel => exact ⟨i + 1, t + s, by go_num, by omega, rfl, by omega, by omega, HBQ.out, HNW.out, rfl⟩
      · -- end
        have hlt' : ¬ (i : Int) < (O.length : Int) := by omega
        have hb9 : BAt w1 wr x kb c cb s (t + s) [] := by have h9 := hbt; rwa [List.drop_of_length_le (by omega)] at h9
        have hw9 : IntKind.i64.wrap (t + 100) = t + 100 := by rw [IntKind.wrap_i64]; omega
        have HID := Lib.hid (bat_ids hb9)
        clear hg hbt hox hb9
        go_wp2_with fail
        refine HID.out.mono ?_
        rintro e wI ⟨sa, sc, rfl, hI, hoI⟩
        have HDE := Lib.hid (bat_early hI (t + 100) (.inr rfl) (by omega) (by omega) (by omega))
        clear hI hoI
        go_wp2_with fail
        refine HDE.out.mono ?_
        rintro e wJ ⟨sa2, sc2, rfl, hJ, hoJ⟩
        have HFI := Lib.hid (HO1.out.trans hJ.only)
        clear hJ hoJ
        go_wp2_with fail
        go_ret
        exact ⟨rfl, HFI.out⟩
end Go.Proofs.Ytefadkmdfhjaeaa
