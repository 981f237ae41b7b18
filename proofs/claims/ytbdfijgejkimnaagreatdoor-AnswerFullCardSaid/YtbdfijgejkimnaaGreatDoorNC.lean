/- pack: Refuse, run: a call that returns, one that is refused. -/
import Derived.Test.YtbdfijgejkimnaaGreatDoorNB
import Derived.Test.YtbdfijgejkimnaaGreatDoorShelf
import Derived.Test.YtbdfijgejkimnaaGreatDoorNA
import Derived.Maps.OwnSet
import Derived.Defers
import Derived.Recover
/-! Answer: the world's tables; Target, node. -/
namespace Go.Proofs.YtbdfijgejkimnaaGreatDoor
open Go.Conc Go.RowKit Go.Lib

theorem var_only {P : Program} {w w' : World} (ho : Only (fun _ => False) w w') {n : String} {cs : Array Value} (h : w.var? P n = some cs) : w'.var? P n = some cs := by
  unfold World.var? at h ⊢
  rw [Option.bind_eq_some_iff] at h ⊢
  obtain ⟨g, hg, h⟩ := h
  refine ⟨g, hg, ?_⟩
  split at h
  · rename_i cs' t f hb
    rw [ho.old hb id]
    exact h
  · cases h
/-- What a walk needs of the library's variables. -/
structure EnvW (w : World) (m : Int) : Prop where
  max : w.cell? ⟨0, 0, none⟩ = some (.int .i64 m)
  tab : Lib.TabIs Tryz.prog w "internal/strconv.uint64pow10" .u64 Lib.pow10Tab
  syn : ∃ tp p, w.var? Tryz.prog "strconv.ErrSyntax" = some #[.iface tp p]
  rng : ∃ tp p, w.var? Tryz.prog "strconv.ErrRange" = some #[.iface tp p]
theorem EnvW.new {w w' : World} {m : Int} (h : EnvW w m) (ho : Only (fun _ => False) w w') : EnvW w' m := by
  obtain ⟨t1, p1, h1⟩ := h.syn
  obtain ⟨t2, p2, h2⟩ := h.rng
  exact ⟨ho.cell h.max id, var_only ho h.tab, ⟨t1, p1, var_only ho h1⟩, ⟨t2, p2, var_only ho h2⟩⟩
theorem onlyGrow (w : World) (k : Nat) (os : Array Obj) : Only (fun _ => False) w (Sort.grow (w.drewN k) os) :=
  ⟨rfl, rfl, rfl, by rw [Sort.size_grow]; exact Nat.le_add_right _ _, fun i hi _ => by
    show (w.heap ++ os)[i]? = w.heap[i]?
    rw [Array.getElem?_append_left hi]⟩
theorem onlyBytes (w : World) (e : TypeId) (s : ByteArray) : Only (fun _ => False) w (Lib.bytesWorld w e s) :=
  ⟨rfl, rfl, rfl, by rw [Lib.bytesWorld_size]; omega, fun k hk _ => Lib.bytesWorld_at_old w e s k hk⟩
theorem itoa_any (w : World) (m : Int) (n : Nat) (h : EnvW w m) (hn : n ≤ 65535) : Calls Tryz.prog 54 #[.int .i64 n] w fun e w' => e = .returned (.string (itoaB n)) ∧ Only (fun _ => False) w w' := by
  refine (Tryz.strconv_Itoa n (by omega) (by omega) w h.tab).mono ?_
  rintro e w' ⟨rfl, k, os, rfl⟩
  exact ⟨by rw [itoa_of], onlyGrow w k os⟩
theorem equal_any (w : World) (v u : Value) (l k : List ByteArray) (hv : Sl w 1 v l.length (l.map .string)) (hu : Sl w 1 u k.length (k.map .string)) : Calls Tryz.prog 69 #[v, u] w fun e w' => e = .returned (.bool (decide (l = k))) ∧ Only (fun _ => False) w w' := by
  obtain ⟨_, a, c, rfl, h1, h2, h3⟩ := hv
  obtain ⟨_, b, d, rfl, k1, k2, k3⟩ := hu
  unfold maxLen at h2 k2
  by_cases hl : l.length = k.length
  · by_cases h0 : l.length = 0
    · obtain rfl : l = [] := List.eq_nil_of_length_eq_zero h0
      obtain rfl : k = [] := List.eq_nil_of_length_eq_zero (by rw [← hl]; rfl)
      refine (Tryz.slices_Equal_string_empty a b c 0 d w (by omega)).mono ?_
      rintro e w' ⟨rfl, rfl⟩
      exact ⟨rfl, Only.refl _ _⟩
    · obtain ⟨b1, o1, rfl, hc1⟩ := h3.resolve_left h0
      obtain ⟨b2, o2, rfl, hc2⟩ := k3.resolve_left (by omega)
      have cells : ∀ (b o : Nat) (l : List ByteArray) (_ : ∀ j u, (l.map Value.string)[j]? = some u → w.cell? ⟨b, o + j, none⟩ = some u), ∀ j, j < l.length → w.cell? ⟨b, o + j, none⟩ = some (.string (l.getD j ByteArray.empty)) := fun b o l hc j hj => hc j _ (by rw [List.getElem?_map, List.getElem?_eq_getElem hj]; simp [List.getD, hj])
      refine (Tryz.slices_Equal_string b1 o1 l.length c b2 o2 k.length d l k w (Nat.le_refl _) (Nat.le_refl _) (by omega) (by omega) (cells b1 o1 l hc1) (cells b2 o2 k hc2)).mono ?_
      rintro e w' ⟨rfl, q, rfl⟩
      exact ⟨by rw [List.take_length, List.take_length], (Only.refl _ _).drewN _⟩
  · refine (Tryz.slices_Equal_string_lens a b l.length c k.length d w hl).mono ?_
    rintro e w' ⟨rfl, rfl⟩
    exact ⟨by rw [decide_eq_false (fun e => hl (by rw [e]))], Only.refl _ _⟩
/-- A new row. -/
theorem ownsNew (w : World) (cs : List Value) (e : TypeId) (n size : Nat) (h : cs.length = n * size) (hn : n ≤ maxLen) : (w.alloc (.cells cs.toArray e)).ownsRow w.heap.size e size (.slice (some ⟨w.heap.size, 0, none⟩) n n) n cs := by
  refine ⟨h, .inr ⟨w.heap.size, n, cs.toArray, rfl, Nat.le_refl _, heap_alloc_new _ _, Nat.le_refl _, hn, ?_, ?_⟩⟩
  · simpa using h
  · rw [← h]
    simp
theorem ownsBase1 {w : World} {base base' size n : Nat} {e : TypeId} {v : Value} {xs : List Value} (h : w.ownsRow base e size v n xs) (hb : base' ≤ base) : w.ownsRow base' e size v n xs := by
  refine ⟨h.1, ?_⟩
  rcases h.2 with h2 | ⟨g, cap, cur, h3, h4, r⟩
  · exact .inl h2
  · exact .inr ⟨g, cap, cur, h3, Nat.le_trans hb h4, r⟩
set_option maxRecDepth 100000 in
theorem target_ok (w : World) (m : Int) (n : Nat) (h : EnvW w m) (h1 : 1 ≤ n) (h2 : n ≤ 65535) : Calls Tryz.prog 24 #[.int .i64 n] w fun e w' => ∃ v, e = .returned v ∧ Only (fun _ => False) w w' ∧ w'.ownsRow w.heap.size 9 1 v 3 ((tgtL n).map .string) := by
  have HI := Lib.hid (itoa_any w m n h h2)
  have hb1 : ¬ (n : Int) < 1 := by omega
  have hb2 : ¬ (65535 : Int) < n := by omega
  clear h
  go_enter Tryz.func24, Tryz.ntmps24
  go_wp2_with fail
  refine HI.out.mono ?_
  rintro e w1 ⟨rfl, ho⟩
  have HO := Lib.hid ho
  clear ho
  go_wp2_with fail
  go_ret
  exact ⟨_, rfl, HO.out.alloc _, ownsBase1 (ownsNew w1 ((tgtL n).map .string) _ 3 1 rfl (by unfold maxLen; decide)) HO.out.size⟩
set_option maxRecDepth 100000 in
theorem target_no (w : World) (n : Int) (h : n < 1 ∨ 65535 < n) : Calls Tryz.prog 24 #[.int .i64 n] w fun e w' => e = .returned (.slice none 0 0) ∧ w = w' := by
  rcases h with h | h
  · go_enter Tryz.func24, Tryz.ntmps24
    go_wp2_with fail
    go_ret
    exact ⟨rfl, rfl⟩
  · have h1 : ¬ n < 1 := by omega
    go_enter Tryz.func24, Tryz.ntmps24
    go_wp2_with fail
    go_ret
    exact ⟨rfl, rfl⟩
/-- What Atoi finds in a label. -/
theorem atoi_any (w : World) (m : Int) (s : ByteArray) (h : EnvW w m) (hs : s.size ≤ 100000) : Calls Tryz.prog 68 #[.string s] w fun e w' => Only (fun _ => False) w w' ∧ ((∃ v, atoiAll s.data.toList = .ok v ∧ e = .returned (.tuple #[.int .i64 v, .nilIface])) ∨ ((∀ v, atoiAll s.data.toList ≠ .ok v) ∧ ∃ x t p, e = .returned (.tuple #[.int .i64 x, .iface t p]))) := by
  match ha : atoiAll s.data.toList with
  | .ok v =>
    refine (Tryz.strconv_Atoi_ok s (by omega) v ha w).mono ?_
    rintro e w' ⟨rfl, hw⟩
    refine ⟨?_, .inl ⟨v, rfl, rfl⟩⟩
    rcases hw with rfl | ⟨t, rfl⟩
    · exact Only.refl _ _
    · exact onlyBytes _ _ _
  | .«syntax» =>
    obtain ⟨tp, p, hv⟩ := h.syn
    refine (Tryz.strconv_Atoi_syntax_var s (by omega) ha tp p w hv).mono ?_
    rintro e w' ⟨N, rfl, _, _, hb⟩
    exact ⟨Only.of_below hb, .inr ⟨fun v e => (by cases e), _, _, _, rfl⟩⟩
  | .range =>
    obtain ⟨tp, p, hv⟩ := h.rng
    refine (Tryz.strconv_Atoi_range_var s (by omega) ha tp p w hv).mono ?_
    rintro e w' ⟨N, rfl, _, _, hb⟩
    exact ⟨Only.of_below hb, .inr ⟨fun v e => (by cases e), _, _, _, rfl⟩⟩
end Go.Proofs.YtbdfijgejkimnaaGreatDoor
/-! record: letter, node, Named; the reference's Named. -/
namespace Go.Proofs.YtbdfijgejkimnaaGreatDoor
open Go.Conc Go.RowKit

theorem letter_any (w : World) (c : Int) (b : UInt8) (hc : c = (b.toNat : Int)) : Calls Tryz.prog 113 #[.int .u8 c] w fun e w' => e = .returned (.bool (letterB b)) ∧ w = w' := by
  subst hc
  have hb := b.toNat_lt
  unfold letterB
  generalize b.toNat = n at *
  go_enter Tryz.func113, Tryz.ntmps113
  go_wp2_with fail
  all_goals (
    go_ret
    refine ⟨ret_bool ?_, rfl⟩
    rw [Bool.eq_iff_iff]
    simp
    omega)
def nodeB (n : Int) : Bool := decide (1 ≤ n) && decide (n ≤ 65535)
theorem node_any (w : World) (n : Int) : Calls Tryz.prog 118 #[.int .i64 n] w fun e w' => e = .returned (.bool (nodeB n)) ∧ w = w' := by
  unfold nodeB
  go_enter Tryz.func118, Tryz.ntmps118
  go_wp2_with fail
  all_goals (
    go_ret
    refine ⟨ret_bool ?_, rfl⟩
    rw [Bool.eq_iff_iff]
    simp
    omega)

def okS (x : ByteArray) : Bool := labelOk x.data.toList
theorem namedP_bad {s : ByteArray} (h : s.size = 0 ∨ 62 < s.size) : namedP s = false := by
  unfold namedP
  rcases h with h | h
  · have : decide (1 ≤ s.size) = false := decide_eq_false (by omega)
    rw [this]
    rfl
  · have : decide (s.size ≤ 62) = false := decide_eq_false (by omega)
    rw [this]
    simp
theorem namedP_ok {s : ByteArray} (h1 : s.size ≠ 0) (h2 : ¬ 62 < s.size) : namedP s = (splitL s).all okS := by
  unfold namedP
  have e1 : decide (1 ≤ s.size) = true := decide_eq_true (by omega)
  have e2 : decide (s.size ≤ 62) = true := decide_eq_true (by omega)
  rw [e1, e2, named_split]
  rfl
theorem byte_get (x : ByteArray) (j : Nat) (h : j < x.size) : (x[j]'h) = x.data.toList[j]'h := rfl

set_option maxRecDepth 100000 in
set_option maxHeartbeats 1000000 in
theorem named_any (w : World) (s : ByteArray) (m : Int) (hm : w.cell? ⟨0, 0, none⟩ = some (.int .i64 m)) (hs : s.size ≤ maxLen) :
    Calls Tryz.prog 74 #[.string s] w fun e w' => e = .returned (.bool (namedP s)) ∧ Only (fun _ => False) w w' := by
  have HM := Lib.hid hm
  unfold maxLen at hs
  clear hm
  by_cases h0 : s.size = 0
  · have e0 := empty_true h0
    have HB := Lib.hid (namedP_bad (.inl h0))
    clear h0
    go_enter Tryz.func74, Tryz.ntmps74
    go_wp2_with fail
    go_ret
    exact ⟨ret_bool HB.out.symm, Only.refl _ _⟩
  · have e0 := empty_false h0
    by_cases h6 : 62 < s.size
    · have e1 : decide ((62 : Int) < (s.size : Int)) = true := by simp; omega
      have HB := Lib.hid (namedP_bad (.inr h6))
      clear h0
      go_enter Tryz.func74, Tryz.ntmps74
      go_wp2_with fail
      go_ret
      exact ⟨ret_bool HB.out.symm, Only.refl _ _⟩
    · have e1 : decide ((62 : Int) < (s.size : Int)) = false := by simp; omega
      have HB := Lib.hid (namedP_ok h0 h6)
      clear h0
      go_enter Tryz.func74, Tryz.ntmps74
      go_wp2_with fail
      refine (lsplit_any _ s m (by omega) HM.out).mono ?_
      rintro e w1 ⟨v, rfl, ho1, hsl⟩
      have hsz := splitL_size s
      generalize splitL s = l at *
      obtain ⟨hh, a, cap, rfl, h3, h4, h5⟩ := hsl
      unfold maxLen at h4
      have H5 := Lib.hid h5
      have HSZ := Lib.hid hsz
      clear hh h5 hsz
      go_wp2_with fail
      go_loopg [4, 5, 16, 22, 23, 24] l.length (fun g v4 v5 v16 v22 v23 v24 wx => ∃ k : Nat, v16 = .int .i64 k ∧ k ≤ l.length ∧ w1 = wx ∧ l.all okS = (l.drop k).all okS ∧ g = l.length - k)
      case atStart => exact ⟨0, rfl, Nat.zero_le _, rfl, rfl, rfl⟩
      case round =>
        obtain ⟨k, rfl, hk, rfl, hall, hg⟩ := hrel
        have Hg := Lib.hid hg
        have HA := Lib.hid hall
        clear hg hall
        by_cases hlt : k < l.length
        · obtain ⟨b, off, ha, hc⟩ := H5.out.resolve_left (by omega)
          subst ha
          have hz := strs_cell hc hlt
          have hd : l.drop k = l[k] :: l.drop (k + 1) := List.drop_eq_getElem_cons hlt
          have hxs : l[k].size ≤ 62 := by have := HSZ.out _ (List.getElem_mem hlt); omega
          generalize l[k] = x at *
          have HD := Lib.hid hd
          clear hd hc
          by_cases hx0 : x.size = 0
          · have f0 := empty_true hx0
            have HX := Lib.hid (show okS x = false by
              have : x.data.toList = [] := List.eq_nil_of_length_eq_zero hx0
              unfold okS labelOk
              rw [this]
              rfl)
            clear hx0
            go_wp2_with fail
            go_ret
            exact ⟨ret_bool (by rw [HB.out, HA.out, HD.out, List.all_cons, HX.out]; rfl), ho1⟩
          · have f0 := empty_false hx0
            have HX := Lib.hid (show okS x = x.data.toList.all letterB by
              have : x.data.toList.isEmpty = false := by
                cases hl : x.data.toList with
                | nil => exact absurd (by show x.data.toList.length = 0; rw [hl]; rfl) hx0
                | cons => rfl
              unfold okS labelOk
              rw [this]
              rfl)
            clear hx0
            go_wp2_with fail
            go_loopg [5, 24] x.size (fun g v5 v24 wy => ∃ j : Nat, v24 = .int .i64 j ∧ j ≤ x.size ∧ w1 = wy ∧ x.data.toList.all letterB = (x.data.toList.drop j).all letterB ∧ g = x.size - j)
            case atStart => exact ⟨0, rfl, Nat.zero_le _, rfl, rfl, rfl⟩
            case round =>
              obtain ⟨j, rfl, hj, rfl, hxa, hgj⟩ := hrel
              have Hgj := Lib.hid hgj
              have HXA := Lib.hid hxa
              clear hgj hxa
              by_cases hjl : j < x.size
              · have hdj : x.data.toList.drop j = x.data.toList[j]'hjl :: x.data.toList.drop (j + 1) := List.drop_eq_getElem_cons hjl
                have hbg := byte_get x j hjl
                generalize hc0 : x.data.toList[j]'hjl = c at *
                have HDJ := Lib.hid hdj
                clear hdj hc0
                go_wp2_with fail
                refine (letter_any _ _ c (by rw [← hbg])).mono ?_
                rintro e w2 ⟨rfl, rfl⟩
                cases hlc : letterB c with
                | true =>
                  have HLC := Lib.hid hlc
                  clear hlc
                  go_wp2_with fail
                  go_roundg (x.size - (j + 1))
                  case measure => rw [Hgj.out]; omega
                  case rel => exact ⟨j + 1, by go_num, by omega, rfl, by rw [HXA.out, HDJ.out, List.all_cons, HLC.out]; rfl, rfl⟩
                | false =>
                  have HLC := Lib.hid hlc
                  clear hlc
                  go_wp2_with fail
                  go_ret
                  exact ⟨ret_bool (by rw [HB.out, HA.out, HD.out, List.all_cons, HX.out, HXA.out, HDJ.out, List.all_cons, HLC.out]; rfl), ho1⟩
              · have HXT := Lib.hid (show x.data.toList.all letterB = true by
                  rw [HXA.out, List.drop_eq_nil_of_le (by show x.size ≤ j; omega)]
                  rfl)
                go_wp2_with fail
                go_roundg (l.length - (k + 1))
                case measure => rw [Hg.out]; omega
                case rel => exact ⟨k + 1, by go_num, by omega, rfl, by rw [HA.out, HD.out, List.all_cons, HX.out, HXT.out]; rfl, rfl⟩
        · have HN := Lib.hid (show l.all okS = true by
            rw [HA.out, List.drop_eq_nil_of_le (by omega)]
            rfl)
          go_wp2_with fail
          go_ret
          exact ⟨ret_bool (by rw [HB.out, HN.out]), ho1⟩
end Go.Proofs.YtbdfijgejkimnaaGreatDoor
/-! Answer: node, service. -/
namespace Go.Proofs.YtbdfijgejkimnaaGreatDoor
open Go.Conc Go.RowKit Go.Lib

set_option maxRecDepth 100000 in
theorem node25_any (w : World) (m : Int) (v : Value) (l : List ByteArray) (h : EnvW w m) (hv : Sl w 1 v l.length (l.map .string)) (hs : ∀ s ∈ l, s.size ≤ 100000) : Calls Tryz.prog 33 #[v] w fun e w' => e = .returned (.int .i64 (nodeM l : Nat)) ∧ Only (fun _ => False) w w' := by
  obtain ⟨_, a, c, rfl, h1, h2, h3⟩ := id hv
  unfold maxLen at h2
  by_cases h3l : l.length = 3
  · match l, h3l with
    | [x, y, z], _ =>
      obtain ⟨b, off, rfl, hc⟩ := h3.resolve_left (by simp)
      have c0 : w.cell? ⟨b, off, none⟩ = some (.string x) := hc 0 _ rfl
      have HA := Lib.hid (atoi_any w m x h (hs x (by simp)))
      have HV := Lib.hid hv
      have HE := Lib.hid h
      clear hv h
      clear h3 hc hs
      simp only [List.length_cons, List.length_nil] at *
      go_enter Tryz.func33, Tryz.ntmps33
      go_wp2_with fail
      refine HA.out.mono ?_
      rintro e w1 ⟨ho1, h⟩
      have h1v := Sl.new HV.out ho1
      have h1e := HE.out.new ho1
      have HO1 := Lib.hid ho1
      clear ho1
      rcases h with ⟨u, hu, rfl⟩ | ⟨hu, x', t', p', rfl⟩
      · by_cases hr : u < 1 ∨ 65535 < u
        · have hz : nodeM [x, y, z] = 0 := nodeM_zero (fun k k1 k2 e => by
            simp only [tgtL, List.cons.injEq] at e
            rw [e.1, atoi_itoa k k1 k2] at hu
            simp only [NumEnd.ok.injEq] at hu
            omega)
          have HT := Lib.hid (target_no w1 u hr)
          have HEQ := Lib.hid (equal_any w1 (.slice none 0 0) _ [] [x, y, z] (Sl.nil _ _) h1v)
          have HZ := Lib.hid hz
          clear hu hr hz h1v h1e
          go_wp2_with fail
          refine HT.out.mono ?_
          rintro e w' ⟨rfl, rfl⟩
          go_wp2_with fail
          refine HEQ.out.mono ?_
          rintro e w2 ⟨rfl, ho2⟩
          rw [decide_eq_false (by simp)]
          have HO2 := Lib.hid ho2
          clear ho2
          go_wp2_with fail
          go_ret
          exact ⟨by rw [HZ.out]; rfl, HO1.out.trans HO2.out⟩
        · obtain ⟨k, rfl⟩ : ∃ k : Nat, u = k := ⟨u.toNat, by omega⟩
          have HT := Lib.hid (target_ok w1 m k h1e (by omega) (by omega))
          have HZ := Lib.hid (show nodeM [x, y, z] = if tgtL k = [x, y, z] then k else 0 by
            split
            · rename_i e; rw [← e, nodeM_tgt (by omega) (by omega)]
            · rename_i hne
              exact nodeM_zero (fun k' k1 k2 e => hne (by
                have e2 := e
                simp only [tgtL, List.cons.injEq] at e2
                rw [e2.1, atoi_itoa k' k1 k2] at hu
                simp only [NumEnd.ok.injEq] at hu
                obtain rfl : k = k' := by omega
                exact e.symm)))
          have H1V := Lib.hid h1v
          clear h1v
          clear hu hr h1e
          go_wp2_with fail
          refine HT.out.mono ?_
          rintro e w2 ⟨vt, rfl, ho2, hown⟩
          have hst := Sl.of_owns hown
          clear hown
          have HEQ := Lib.hid (equal_any w2 vt _ (tgtL k) [x, y, z] hst (H1V.out.new ho2))
          obtain ⟨_, ta, tc, rfl, _⟩ := hst
          have HO2 := Lib.hid ho2
          clear ho2
          go_wp2_with fail
          refine HEQ.out.mono ?_
          rintro e w3 ⟨rfl, ho3⟩
          have HO3 := Lib.hid ho3
          clear ho3
          by_cases heq : tgtL k = [x, y, z]
          · have HF := HZ.out
            rw [if_pos heq] at HF
            rw [decide_eq_true heq]
            have HZ2 := Lib.hid HF
            clear heq HF HZ
            go_wp2_with fail
            go_ret
            exact ⟨by rw [HZ2.out]; rfl, (HO1.out.trans HO2.out).trans HO3.out⟩
          · have HF := HZ.out
            rw [if_neg heq] at HF
            rw [decide_eq_false heq]
            have HZ2 := Lib.hid HF
            clear heq HF HZ
            go_wp2_with fail
            go_ret
            exact ⟨by rw [HZ2.out]; rfl, (HO1.out.trans HO2.out).trans HO3.out⟩
      · have hz : nodeM [x, y, z] = 0 := nodeM_zero (fun k k1 k2 e => by
          simp only [tgtL, List.cons.injEq] at e
          exact hu k (by rw [e.1, atoi_itoa k k1 k2]))
        have HZ := Lib.hid hz
        clear hu hz h1v h1e
        go_wp2_with fail
        go_ret
        exact ⟨by rw [HZ.out]; rfl, HO1.out⟩
  · have hz : nodeM l = 0 := nodeM_zero (fun k _ _ e => h3l (by rw [e]; rfl))
    have h3l' : ¬ (l.length : Int) = 3 := by omega
    have HZ := Lib.hid hz
    clear hz hv h3
    go_enter Tryz.func33, Tryz.ntmps33
    go_wp2_with fail
    go_ret
    exact ⟨by rw [HZ.out]; rfl, Only.refl _ _⟩
theorem join_len (k : Nat) : ∀ (l : List ByteArray), (∀ s ∈ l, s.size ≤ k) → (joinL l).data.toList.length ≤ l.length * (k + 1)
  | [], _ => by simp [joinL, Lib.join]
  | [a], h => by
    rw [joinL_one, size_data]
    have := h a (by simp)
    simp
    omega
  | a :: b :: l, h => by
    have ih := join_len k (b :: l) (fun s hs => h s (by simp [hs]))
    have ha := h a (by simp)
    rw [joinL_cons a (b :: l) (by simp), List.length_append, List.length_cons, size_data, List.length_cons (a := a), Nat.succ_mul]
    omega
theorem servM_short {l : List ByteArray} (h : l.length < 2) : servM l = ⟨#[]⟩ := if_neg (fun e => by omega)
theorem servM_last {l : List ByteArray} {x : ByteArray} (h : x ≠ bellS) : servM (l ++ [x]) = ⟨#[]⟩ := if_neg (fun e => h (by simpa using e.2.1))
theorem servM_yes {l : List ByteArray} (h : l ≠ []) (h1 : namedP (joinL l) = true) (h2 : (joinL l).data.toList.count 46 = l.length - 1) : servM (l ++ [bellS]) = joinL l := by
  have h3 := List.length_pos_iff.2 h
  unfold servM
  rw [List.dropLast_concat]
  exact if_pos ⟨by simp; omega, by simp, (dots_join l h).1 h2, h1⟩
theorem servM_no {l : List ByteArray} (h : l ≠ []) (h1 : ¬ (namedP (joinL l) = true ∧ (joinL l).data.toList.count 46 = l.length - 1)) : servM (l ++ [bellS]) = ⟨#[]⟩ := by
  unfold servM
  rw [List.dropLast_concat]
  exact if_neg (fun e => h1 ⟨e.2.2.2, (dots_join l h).2 e.2.2.1⟩)
set_option maxRecDepth 100000 in
theorem service_any (w : World) (m : Int) (v : Value) (l : List ByteArray) (h : EnvW w m) (hv : Sl w 1 v l.length (l.map .string)) (hn : l.length ≤ 1000) (hs : ∀ s ∈ l, s.size ≤ 90) : Calls Tryz.prog 35 #[v] w fun e w' => e = .returned (.string (servM l)) ∧ Only (fun _ => False) w w' := by
  by_cases h2 : l.length < 2
  · have HZ := Lib.hid (servM_short h2)
    obtain ⟨_, a, c, rfl, h1, _, _⟩ := id hv
    have hw : IntKind.i64.wrap ((l.length : Int) - 1) = (l.length : Int) - 1 := by rw [IntKind.wrap_i64]; omega
    have hlt : (l.length : Int) - 1 < 1 := by omega
    clear hv h
    go_enter Tryz.func35, Tryz.ntmps35
    go_wp2_with fail
    go_ret
    exact ⟨by rw [HZ.out]; rfl, Only.refl _ _⟩
  · obtain ⟨L, x, rfl⟩ : ∃ L x, l = L ++ [x] := ⟨l.dropLast, l.getLast (fun e => by rw [e] at h2; exact h2 (by decide)), (List.dropLast_concat_getLast _).symm⟩
    have hLn : L ≠ [] := fun e => by rw [e] at h2; simp at h2
    have hLl : 1 ≤ L.length := List.length_pos_iff.2 hLn
    have HJL := Lib.hid (join_len 90 L (fun s hs' => hs s (by simp [hs'])))
    rw [List.length_append, List.length_singleton] at hn
    have hv' : Sl w 1 v (L.length + 1) ((L ++ [x]).map .string) := by rw [List.length_append] at hv; exact hv
    obtain ⟨_, a, c, rfl, h1, hm, h3⟩ := id hv'
    unfold maxLen at hm
    obtain ⟨b, off, rfl, hc⟩ := h3.resolve_left (by omega)
    have c0 : w.cell? ⟨b, off + L.length, none⟩ = some (.string x) := hc L.length _ (by simp)
    have HTK := Lib.hid (show Sl w 1 (.slice (some ⟨b, off, none⟩) L.length c) L.length (L.map .string) by
      have := Sl.take hv' (m := L.length) (by omega)
      rwa [List.map_append, Nat.mul_one, List.take_left' (by simp)] at this)
    have hw : IntKind.i64.wrap ((L.length : Int) + 1 - 1) = (L.length : Int) := by rw [IntKind.wrap_i64]; omega
    have hlt : ¬ (L.length : Int) < 1 := by omega
    have hmax := h.max
    have HE := Lib.hid h
    clear h h3 hc hv hv' hs h2
    by_cases hx : x = bellS
    · subst hx
      have HSY := Lib.hid (servM_yes hLn)
      have HSN := Lib.hid (servM_no hLn)
      have HJM := Lib.hid (show (joinL L).size ≤ maxLen by have := HJL.out; rw [size_data] at this; unfold maxLen; omega)
      have hj := Lib.hid (join_any w _ L HTK.out (by have := HJL.out; rw [show (joinL L).data.toList = Lib.join (L.map (·.data.toList)) [46] from rfl] at this; omega) (by omega))
      have hw2 : IntKind.i64.wrap ((L.length : Int) - 1) = (L.length : Int) - 1 := by rw [IntKind.wrap_i64]; omega
      generalize joinL L = J at *
      unfold bellS at *
      clear hmax
      go_enter Tryz.func35, Tryz.ntmps35
      go_wp2_with fail
      refine hj.out.mono ?_
      rintro e w1 ⟨rfl, ho1⟩
      have HNM := Lib.hid (named_any w1 J m (HE.out.new ho1).max HJM.out)
      have HO1 := Lib.hid ho1
      clear ho1
      by_cases hnm : namedP J = true
      · have HCT := Lib.hid (fun w2 : World => Tryz.strings_Count_one J 46 w2)
        by_cases hcn : J.data.toList.count 46 = L.length - 1
        · have HF := Lib.hid (HSY.out hnm hcn)
          have HCN := Lib.hid (show ((Lib.countByte J.data.toList 46 : Nat) : Int) = (L.length : Int) - 1 by
            rw [show Lib.countByte J.data.toList 46 = L.length - 1 from hcn]; omega)
          rw [hnm] at HNM
          clear hnm hcn
          go_wp2_with fail
          refine HNM.out.mono ?_
          rintro e w2 ⟨rfl, ho2⟩
          have HO2 := Lib.hid ho2
          clear ho2
          go_wp2_with fail
          refine (HCT.out w2).mono ?_
          rintro e w' ⟨rfl, rfl⟩
          rw [HCN.out]
          go_wp2_with fail
          go_ret
          exact ⟨by rw [HF.out]; rfl, HO1.out.trans HO2.out⟩
        · have HF := Lib.hid (HSN.out (fun e => hcn e.2))
          have hne : ¬ ((Lib.countByte J.data.toList 46 : Nat) : Int) = (L.length : Int) - 1 := by
            rw [show Lib.countByte J.data.toList 46 = J.data.toList.count 46 from rfl]; omega
          generalize Lib.countByte J.data.toList 46 = cn at *
          rw [hnm] at HNM
          clear hnm hcn
          go_wp2_with fail
          refine HNM.out.mono ?_
          rintro e w2 ⟨rfl, ho2⟩
          have HO2 := Lib.hid ho2
          clear ho2
          go_wp2_with fail
          refine (HCT.out w2).mono ?_
          rintro e w' ⟨rfl, rfl⟩
          go_wp2_with fail
          go_ret
          exact ⟨by rw [HF.out]; rfl, HO1.out.trans HO2.out⟩
      · have HF := Lib.hid (HSN.out (fun e => hnm e.1))
        have hnf : namedP J = false := by simpa using hnm
        rw [hnf] at HNM
        clear hnm hnf
        go_wp2_with fail
        refine HNM.out.mono ?_
        rintro e w2 ⟨rfl, ho2⟩
        have HO2 := Lib.hid ho2
        clear ho2
        go_wp2_with fail
        go_ret
        exact ⟨by rw [HF.out]; rfl, HO1.out.trans HO2.out⟩
    · have HZ := Lib.hid (servM_last (l := L) hx)
      have hne : (x.toList == [98, 101, 108, 108]) = false := by
        have := str_ne hx
        rwa [show bellS.toList = [98, 101, 108, 108] by decide +kernel] at this
      go_enter Tryz.func35, Tryz.ntmps35
      go_wp2_with fail
      go_ret
      exact ⟨by rw [HZ.out]; rfl, Only.refl _ _⟩
end Go.Proofs.YtbdfijgejkimnaaGreatDoor
/-! Maps as lists of entries: what a block holds that is a map, whatever its keys and elements. -/
namespace Go.Proofs.YtbdfijgejkimnaaGreatDoor
open Go.Conc Go.RowKit Go.Maps
open Go.ChangeMaps (notKey eq_of_perm_sorted rising_of_pairwise)

/-- How an element reads: as itself. -/
def heldE (v : Value) : Option (DataW Value × List MemPlace) := some (.held v, [])
section
variable {α β : Type}
def keyL (P : Program) (k : TypeId) (κ : α → Value) (a : α) : Lit := (keyOf P k (κ a)).getD .nil
def entL (P : Program) (k : TypeId) (κ : α → Value) (ε : β → Value) (p : α × β) : Lit × DataW Value := (keyL P k κ p.1, .held (ε p.2))
def mapD (P : Program) (k : TypeId) (κ : α → Value) (ε : β → Value) (L : List (α × β)) : DataW Value := .map ((L.map (entL P k κ ε)).foldr DataW.insert [])
/-- May a be a key? -/
def KeyOk (P : Program) (k : TypeId) (κ : α → Value) (a : α) : Prop := ∃ l, keyOf P k (κ a) = some l
/-- BLOCK b OF w IS A MAP OF JUST THESE ENTRIES (no key twice). -/
structure MapIs (P : Program) (k : TypeId) (κ : α → Value) (ε : β → Value) (w : World) (b : Nat) (L : List (α × β)) : Prop where
  own : w.ownsMap P k heldE b L.length (mapD P k κ ε L)
  apart : L.Pairwise (fun p q => p.1 ≠ q.1)
  keys : ∀ p ∈ L, KeyOk P k κ p.1
/-- What is there at a key. -/
def lookL [DecidableEq α] (L : List (α × β)) (x : α) : Option β := (L.find? (fun p => decide (p.1 = x))).map (·.2)
def dropL [DecidableEq α] (L : List (α × β)) (x : α) : List (α × β) := L.filter (fun p => !decide (p.1 = x))
def putL [DecidableEq α] (L : List (α × β)) (x : α) (v : β) : List (α × β) := dropL L x ++ [(x, v)]

theorem lookL_none [DecidableEq α] {L : List (α × β)} {x : α} (h : lookL L x = none) : ∀ p ∈ L, p.1 ≠ x := by
  intro p hp e
  simp only [lookL, Option.map_eq_none_iff, List.find?_eq_none] at h
  exact h p hp (by simpa using e)
theorem lookL_some [DecidableEq α] {L : List (α × β)} {x : α} {v : β} (h : lookL L x = some v) : (x, v) ∈ L := by
  simp only [lookL, Option.map_eq_some_iff] at h
  obtain ⟨p, hp, rfl⟩ := h
  have h1 := List.find?_some hp
  have h2 := List.mem_of_find?_eq_some hp
  obtain rfl : p.1 = x := by simpa using h1
  exact h2
theorem lookL_of_none [DecidableEq α] {L : List (α × β)} {x : α} (h : ∀ p ∈ L, p.1 ≠ x) : lookL L x = none := by
  simp only [lookL, Option.map_eq_none_iff, List.find?_eq_none]
  intro p hp
  simpa using h p hp
theorem lookL_of_mem [DecidableEq α] {L : List (α × β)} {x : α} {v : β} (ha : L.Pairwise (fun p q => p.1 ≠ q.1)) (h : (x, v) ∈ L) : lookL L x = some v := by
  induction L with
  | nil => cases h
  | cons p L ih =>
    obtain ⟨h1, h2⟩ := List.pairwise_cons.1 ha
    unfold lookL
    rcases List.mem_cons.1 h with e | h
    · rw [← e]; simp
    · have hne : p.1 ≠ x := h1 _ h
      rw [List.find?_cons_of_neg (by simpa using hne)]
      exact ih h2 h
theorem apart_perm {L L' : List (α × β)} (hp : L.Perm L') (h : L.Pairwise (fun p q => p.1 ≠ q.1)) : L'.Pairwise (fun p q => p.1 ≠ q.1) := (hp.pairwise_iff (fun {_ _} hne => Ne.symm hne)).1 h
theorem lookL_perm [DecidableEq α] {L L' : List (α × β)} (hp : L.Perm L') (ha : L.Pairwise (fun p q => p.1 ≠ q.1)) (x : α) : lookL L x = lookL L' x := by
  cases h : lookL L x with
  | none => exact (lookL_of_none (fun p hp' => lookL_none h p (hp.mem_iff.2 hp'))).symm
  | some v => exact (lookL_of_mem (apart_perm hp ha) (hp.mem_iff.1 (lookL_some h))).symm
theorem apart_drop [DecidableEq α] {L : List (α × β)} (h : L.Pairwise (fun p q => p.1 ≠ q.1)) (x : α) : (dropL L x).Pairwise (fun p q => p.1 ≠ q.1) := h.filter _
theorem mem_dropL [DecidableEq α] {L : List (α × β)} {x : α} {p : α × β} : p ∈ dropL L x ↔ p ∈ L ∧ p.1 ≠ x := by simp [dropL]
theorem apart_put [DecidableEq α] {L : List (α × β)} (h : L.Pairwise (fun p q => p.1 ≠ q.1)) (x : α) (v : β) : (putL L x v).Pairwise (fun p q => p.1 ≠ q.1) := by
  refine List.pairwise_append.2 ⟨apart_drop h x, by simp, fun p hp q hq => ?_⟩
  obtain rfl : q = (x, v) := by simpa using hq
  exact (mem_dropL.1 hp).2
theorem dropL_of_none [DecidableEq α] {L : List (α × β)} {x : α} (h : lookL L x = none) : dropL L x = L := List.filter_eq_self.2 (fun p hp => by simpa using lookL_none h p hp)
theorem length_dropL [DecidableEq α] {L : List (α × β)} {x : α} {v : β} (ha : L.Pairwise (fun p q => p.1 ≠ q.1)) (h : lookL L x = some v) : (dropL L x).length + 1 = L.length := by
  induction L with
  | nil => cases h
  | cons p L ih =>
    obtain ⟨h1, h2⟩ := List.pairwise_cons.1 ha
    by_cases e : p.1 = x
    · have hn : lookL L x = none := lookL_of_none (fun q hq => e ▸ (h1 q hq).symm)
      have := dropL_of_none hn
      simp only [dropL] at this ⊢
      rw [List.filter_cons_of_neg (by simp [e]), this]; rfl
    · have h' : lookL L x = some v := by
        unfold lookL at h ⊢
        rwa [List.find?_cons_of_neg (by simpa using e)] at h
      have := ih h2 h'
      simp only [dropL] at this ⊢
      rw [List.filter_cons_of_pos (by simpa using e)]
      simp; omega
theorem length_putL [DecidableEq α] {L : List (α × β)} (ha : L.Pairwise (fun p q => p.1 ≠ q.1)) (x : α) (v : β) : (putL L x v).length = if (lookL L x).isSome then L.length else L.length + 1 := by
  cases h : lookL L x with
  | none => simp [putL, dropL_of_none h]
  | some u => have := length_dropL ha h; simp [putL]; omega
theorem lookL_put_same [DecidableEq α] (L : List (α × β)) (x : α) (v : β) : lookL (putL L x v) x = some v := by
  have : (dropL L x).find? (fun p => decide (p.1 = x)) = none := by
    rw [List.find?_eq_none]; intro p hp; simpa using (mem_dropL.1 hp).2
  simp [lookL, putL, List.find?_append, this]
theorem find_drop [DecidableEq α] {L : List (α × β)} {x y : α} (h : y ≠ x) : (dropL L x).find? (fun p => decide (p.1 = y)) = L.find? (fun p => decide (p.1 = y)) := by
  unfold dropL
  induction L with
  | nil => rfl
  | cons p L ih =>
    by_cases e : p.1 = x
    · rw [List.filter_cons_of_neg (by simp [e]), ih, List.find?_cons_of_neg (by simp; exact fun h' => h (h'.symm.trans e))]
    · rw [List.filter_cons_of_pos (by simpa using e)]
      by_cases e' : p.1 = y
      · rw [List.find?_cons_of_pos (by simpa using e'), List.find?_cons_of_pos (by simpa using e')]
      · rw [List.find?_cons_of_neg (by simpa using e'), List.find?_cons_of_neg (by simpa using e'), ih]
theorem lookL_drop_other [DecidableEq α] (L : List (α × β)) {x y : α} (h : y ≠ x) : lookL (dropL L x) y = lookL L y := by unfold lookL; rw [find_drop h]
theorem lookL_drop_same [DecidableEq α] (L : List (α × β)) (x : α) : lookL (dropL L x) x = none := lookL_of_none (fun _ hp => (mem_dropL.1 hp).2)
theorem lookL_put_other [DecidableEq α] (L : List (α × β)) {x y : α} (h : y ≠ x) (v : β) : lookL (putL L x v) y = lookL L y := by
  unfold lookL putL
  rw [List.find?_append, find_drop h]
  have : (decide (x = y)) = false := by simpa using fun e => h e.symm
  simp [List.find?, this]

variable {P : Program} {k : TypeId} {κ : α → Value} {ε : β → Value} {w : World} {b : Nat} {L : List (α × β)}
theorem keyL_of {a : α} {l : Lit} (h : keyOf P k (κ a) = some l) : keyL P k κ a = l := by simp [keyL, h]
theorem keyL_ne (K : Keyed P k) (hκ : ∀ a b, κ a = κ b → a = b) {a c : α} (ha : KeyOk P k κ a) (hc : KeyOk P k κ c) (h : a ≠ c) : keyL P k κ a ≠ keyL P k κ c := by
  obtain ⟨l, hl⟩ := ha
  obtain ⟨m, hm⟩ := hc
  rw [keyL_of hl, keyL_of hm]
  rintro rfl
  exact h (hκ _ _ (K.inj hl hm))
theorem MapIs.ents (h : MapIs P k κ ε w b L) (K : Keyed P k) (hκ : ∀ a b, κ a = κ b → a = b) : (L.map (entL P k κ ε)).Pairwise (fun p q => p.1 ≠ q.1) := by
  rw [List.pairwise_map]
  have := h.apart
  refine List.Pairwise.imp_of_mem ?_ this
  intro p q hp hq hne
  exact keyL_ne K hκ (h.keys p hp) (h.keys q hq) hne
theorem MapIs.kinds (h : MapIs P k κ ε w b L) : Keys (KeysOf P k) (L.map (entL P k κ ε)) := by
  intro p hp
  obtain ⟨q, hq, rfl⟩ := List.mem_map.1 hp
  obtain ⟨l, hl⟩ := h.keys q hq
  exact ⟨κ q.1, by rw [hl]; exact congrArg some (keyL_of hl).symm⟩
theorem size_mapD : Maps.size (mapD P k κ ε L) = L.length := by simp [mapD, Maps.size, length_sorted]
theorem own_tight {D : DataW Value} {n : Nat} (h : w.ownsMap P k heldE b n D) : w.ownsMap P k heldE b (Maps.size D) D := by
  obtain ⟨es, clock, hb, F, _, rfl⟩ := h
  exact ⟨es, clock, hb, F, by simp [Maps.size, length_sorted], rfl⟩
theorem MapIs.made (w : World) : MapIs P k κ ε (w.alloc (.map #[] 0)) w.heap.size ([] : List (α × β)) :=
  ⟨World.ownsMap_made w P k heldE, List.Pairwise.nil, fun _ h => by cases h⟩
theorem MapIs.empty (h : w.heap[b]? = some (.map #[] 0)) : MapIs P k κ ε w b ([] : List (α × β)) :=
  ⟨⟨#[], 0, h, ⟨by simp, (World.ownsMap_made (H := Value) w P k heldE).elim fun es h2 => h2.elim fun c h3 => by
      have := h3.2.1.stamped
      have e1 : es = #[] := by
        have := h3.2.2.1
        exact Array.eq_empty_of_size_eq_zero (by omega)
      subst e1
      have e2 : c = 0 := by
        have hh := h3.1
        rw [heap_alloc_new] at hh
        cases hh; rfl
      subst e2
      exact this, by simp⟩, Nat.le_refl _, rfl⟩, List.Pairwise.nil, fun _ h => by cases h⟩
theorem MapIs.lt (h : MapIs P k κ ε w b L) : b < w.heap.size := h.own.lt
theorem MapIs.at {w' : World} (h : MapIs P k κ ε w b L) (hb : w'.heap[b]? = w.heap[b]?) : MapIs P k κ ε w' b L := by
  obtain ⟨es, clock, h1, h2⟩ := h.own
  exact ⟨⟨es, clock, hb.trans h1, h2⟩, h.apart, h.keys⟩
theorem MapIs.kept {S : Nat → Prop} {w' : World} (h : MapIs P k κ ε w b L) (ho : Only S w w') (hn : ¬ S b) : MapIs P k κ ε w' b L := h.at (ho.block b h.lt hn)
theorem MapIs.perm {L' : List (α × β)} (h : MapIs P k κ ε w b L) (K : Keyed P k) (hκ : ∀ a b, κ a = κ b → a = b) (hp : L.Perm L') : MapIs P k κ ε w b L' := by
  refine ⟨?_, apart_perm hp h.apart, fun p hp' => h.keys p (hp.mem_iff.2 hp')⟩
  have e : mapD P k κ ε L = mapD P k κ ε L' := by
    unfold mapD
    congr 1
    refine eq_of_perm_sorted ?_ (sorted_sorted K.one _ h.kinds (h.ents K hκ)) (sorted_sorted K.one _ (keys_perm (hp.map _) h.kinds) ?_)
    · exact (WideShapes.sorted_perm _).trans ((hp.map _).trans (WideShapes.sorted_perm _).symm)
    · exact ((hp.map _).pairwise_iff (fun {_ _} hne => Ne.symm hne)).1 (h.ents K hκ)
  rw [← e, ← hp.length_eq]
  exact h.own
/-- A look-up. -/
theorem MapIs.look [DecidableEq α] {t e : TypeId} (h : MapIs P k κ ε w b L) (K : Keyed P k) (hκ : ∀ a b, κ a = κ b → a = b) (ht : P.underlying t = some (.map k e)) {z : β} (hz : (zeroValue e).run P w = .ok (ε z) w) {x : α} (hx : KeyOk P k κ x) (c : Bool) :
    (Instr.lookup t (.map (some b)) (κ x) c).run P w = .ok (if c then .tuple #[ε ((lookL L x).getD z), .bool (lookL L x).isSome] else ε ((lookL L x).getD z)) w := by
  obtain ⟨kl, hkl⟩ := hx
  have hk : KeyOk P k κ x := ⟨kl, hkl⟩
  obtain ⟨es, clock, hb, F, _, hD⟩ := h.own
  have hat := WideShapes.atKey_sorted (L.map (entL P k κ ε)) (rising_of_pairwise _ (sorted_sorted K.one _ h.kinds (h.ents K hκ))) kl (K.key hkl)
  cases hl : lookL L x with
  | none =>
    have h0 := hat.1 (fun p hp => by
      obtain ⟨q, hq, rfl⟩ := List.mem_map.1 hp
      rw [← keyL_of hkl]
      exact keyL_ne K hκ (h.keys q hq) hk (lookL_none hl q hq))
    rcases Maps.fit_look c K ht hz hb F hkl with ⟨hrun, _, _⟩ | ⟨e0, y, _, _, _, hR, h1, _⟩
    · simpa using hrun
    · have e1 := h0 .nil
      have e2 := h1 .nil
      rw [← hD] at e2
      have e3 : y.1 = DataW.nil := e2.symm.trans e1
      obtain rfl : (DataW.held e0.val, ([] : List MemPlace)) = y := by simpa [heldE] using hR
      cases e3
  | some v =>
    have hm := lookL_some hl
    have h0 := hat.2 (entL P k κ ε (x, v)) (List.mem_map.2 ⟨_, hm, rfl⟩) (keyL_of hkl)
    rcases Maps.fit_look c K ht hz hb F hkl with ⟨_, _, h1⟩ | ⟨e0, y, _, _, hrun, hR, h1, _⟩
    · have e1 := h0 .nil
      have e2 := h1 .nil
      rw [← hD] at e2
      cases e2.symm.trans e1
    · have e1 := h0 .nil
      have e2 := h1 .nil
      rw [← hD] at e2
      obtain rfl : (DataW.held e0.val, ([] : List MemPlace)) = y := by simpa [heldE] using hR
      have e3 : e0.val = ε v := DataW.held.inj (e2.symm.trans e1)
      rw [e3] at hrun
      simpa using hrun
/-- A store. -/
theorem MapIs.store [DecidableEq α] {t e : TypeId} (h : MapIs P k κ ε w b L) (K : Keyed P k) (hκ : ∀ a b, κ a = κ b → a = b) (ht : P.underlying t = some (.map k e)) (hn : L.length < maxLen) {x : α} (hx : KeyOk P k κ x) (v : β) :
    ∃ w', (Instr.mapUpdate t (.map (some b)) (κ x) (ε v)).run P w = .ok () w' ∧ MapIs P k κ ε w' b (putL L x v) ∧ Only (fun i => i = b) w w' := by
  obtain ⟨kl, hkl⟩ := hx
  obtain ⟨w', h1, h2, h3⟩ := h.own.store (d := .held (ε v)) (ps := []) K ht hn hkl rfl
  have e : (mapD P k κ ε L).put kl (.held (ε v)) = mapD P k κ ε (putL L x v) := by
    unfold mapD
    rw [DataW.put_eq]
    congr 1
    refine (sorted_put K.one ⟨_, hkl⟩ h.kinds (h.ents K hκ) ?_).symm
    unfold putL
    rw [List.map_append]
    have : (dropL L x).map (entL P k κ ε) = (L.map (entL P k κ ε)).filter (notKey kl) := by
      rw [List.filter_map]
      congr 1
      refine List.filter_congr (fun p hp => ?_)
      have hi : notKey kl (entL P k κ ε p) = true ↔ keyL P k κ p.1 ≠ kl := notKey_iff (K.key hkl)
      rw [Function.comp_apply, Bool.eq_iff_iff, hi]
      constructor
      · intro hp'
        rw [← keyL_of hkl]
        exact keyL_ne K hκ (h.keys p hp) ⟨_, hkl⟩ (by simpa using hp')
      · intro hne
        have : p.1 ≠ x := by rintro e1; exact hne (by rw [e1]; exact keyL_of hkl)
        simpa using this
    rw [this]
    refine List.perm_append_comm.trans ?_
    rw [show [(x, v)].map (entL P k κ ε) = [(kl, DataW.held (ε v))] by simp [entL, keyL_of hkl]]
    exact List.Perm.refl _
  rw [e] at h2
  have hg := h3.grown
  refine ⟨w', h1, ⟨?_, apart_put h.apart x v, ?_⟩, ⟨hg.os, hg.tape, hg.output, hg.size, fun i hi hne => hg.block i hi (fun e => hne (by cases e; rfl))⟩⟩
  · have := own_tight h2; rwa [size_mapD] at this
  · intro p hp
    rcases List.mem_append.1 hp with hp | hp
    · exact h.keys p (mem_dropL.1 hp).1
    · obtain rfl : p = (x, v) := by simpa using hp
      exact ⟨_, hkl⟩
/-- A delete. -/
theorem MapIs.drop [DecidableEq α] {t e : TypeId} (h : MapIs P k κ ε w b L) (K : Keyed P k) (hκ : ∀ a b, κ a = κ b → a = b) (ht : P.underlying t = some (.map k e)) {x : α} (hx : KeyOk P k κ x) (ty : TypeId) :
    ∃ w', (Builtin.delete_ #[t, k] ty #[.map (some b), κ x]).run P w = .ok (.tuple #[]) w' ∧ MapIs P k κ ε w' b (dropL L x) ∧ Only (fun i => i = b) w w' := by
  obtain ⟨kl, hkl⟩ := hx
  obtain ⟨w', h1, h2, h3⟩ := h.own.drop K ht hkl ty
  have e : (mapD P k κ ε L).del kl = mapD P k κ ε (dropL L x) := by
    unfold mapD
    rw [DataW.del_eq]
    congr 1
    refine (sorted_del K.one h.kinds (h.ents K hκ) ?_).symm
    have : (dropL L x).map (entL P k κ ε) = (L.map (entL P k κ ε)).filter (notKey kl) := by
      rw [List.filter_map]
      congr 1
      refine List.filter_congr (fun p hp => ?_)
      have hi : notKey kl (entL P k κ ε p) = true ↔ keyL P k κ p.1 ≠ kl := notKey_iff (K.key hkl)
      rw [Function.comp_apply, Bool.eq_iff_iff, hi]
      constructor
      · intro hp'
        rw [← keyL_of hkl]
        exact keyL_ne K hκ (h.keys p hp) ⟨_, hkl⟩ (by simpa using hp')
      · intro hne
        have : p.1 ≠ x := by rintro e1; exact hne (by rw [e1]; exact keyL_of hkl)
        simpa using this
    rw [this]
  rw [e] at h2
  have hg := h3.grown
  refine ⟨w', h1, ⟨?_, apart_drop h.apart x, fun p hp => h.keys p (mem_dropL.1 hp).1⟩, ⟨hg.os, hg.tape, hg.output, hg.size, fun i hi hne => hg.block i hi (fun e => hne (by cases e; rfl))⟩⟩
  have := own_tight h2; rwa [size_mapD] at this
theorem MapIs.len {t e : TypeId} (h : MapIs P k κ ε w b L) (ht : P.underlying t = some (.map k e)) (ty : TypeId) : (Builtin.len_ #[t] ty #[.map (some b)]).run P w = .ok (.int .i64 (L.length : Nat)) w := by
  have := h.own.len ht ty
  rwa [size_mapD] at this
end

/-! at the operation, for the walk -/
section
variable {α β : Type} {P : Program} {k : TypeId} {κ : α → Value} {ε : β → Value} {b : Nat} {L : List (α × β)}
  {w : World} {ops : Array Oper} {rest : List Oper} {o : Oper} {a : Act} {Q : Exit → Act → World → Prop}
theorem wpList_mapLook [DecidableEq α] (hg : o.guard = none) (m x : Operand) (t : TypeId) (c : Bool) (hop : o.op = Op.lookup t m x c) {e : TypeId} (h : MapIs P k κ ε w b L) (K : Keyed P k) (hκ : ∀ a b, κ a = κ b → a = b) (ht : P.underlying t = some (.map k e))
    {z : β} (hz : (zeroValue e).run P w = .ok (ε z) w) (hm : a.eval m = .map (some b)) {y : α} (hx : a.eval x = κ y) (hy : KeyOk P k κ y)
    (hK : wpList P ops Q rest (a.put o.dst (if c then .tuple #[ε ((lookL L y).getD z), .bool (lookL L y).isSome] else ε ((lookL L y).getD z))) w) : wpList P ops Q (o :: rest) a w := by
  refine wpList_plain hg fun K' hK' => ?_
  have hrun := h.look K hκ ht hz hy c
  unfold Oper.wp
  generalize (if c then Value.tuple #[ε ((lookL L y).getD z), .bool (lookL L y).isSome] else ε ((lookL L y).getD z)) = r at hrun hK
  simp [execOp, hop, hm, hx, hrun, Result.andThen]
  exact hK' _ _ hK
theorem wpList_mapStore [DecidableEq α] (hg : o.guard = none) (m x v : Operand) (t : TypeId) (hop : o.op = Op.mapUpdate t m x v) {e : TypeId} (h : MapIs P k κ ε w b L) (K : Keyed P k) (hκ : ∀ a b, κ a = κ b → a = b) (ht : P.underlying t = some (.map k e))
    (hn : L.length < maxLen) (hm : a.eval m = .map (some b)) {y : α} (hx : a.eval x = κ y) (hy : KeyOk P k κ y) {u : β} (hv : a.eval v = ε u)
    (hK : ∀ w', MapIs P k κ ε w' b (putL L y u) → Only (fun i => i = b) w w' → wpList P ops Q rest (a.put o.dst undef) w') : wpList P ops Q (o :: rest) a w := by
  refine wpList_plain hg fun K' hK' => ?_
  obtain ⟨w', hrun, r1, r2⟩ := h.store K hκ ht hn hy u
  unfold Oper.wp
  simp [execOp, hop, hm, hx, hv, hrun, Result.andThen]
  exact hK' _ _ (hK w' r1 r2)
theorem wpList_mapDrop [DecidableEq α] (hg : o.guard = none) (m x : Operand) (t : TypeId) (hop : o.op = Op.call { callee := Callee.builtin Builtin.delete, args := #[m, x], argTypes := #[t, k] }) {e : TypeId} (h : MapIs P k κ ε w b L) (K : Keyed P k) (hκ : ∀ a b, κ a = κ b → a = b)
    (ht : P.underlying t = some (.map k e)) (hm : a.eval m = .map (some b)) {y : α} (hx : a.eval x = κ y) (hy : KeyOk P k κ y)
    (hK : ∀ w', MapIs P k κ ε w' b (dropL L y) → Only (fun i => i = b) w w' → wpList P ops Q rest (a.put o.dst (.tuple #[])) w') : wpList P ops Q (o :: rest) a w := by
  refine wpList_plain hg fun K' hK' => ?_
  obtain ⟨w', hrun, r1, r2⟩ := h.drop K hκ ht hy o.type
  unfold Oper.wp
  simp [execOp, hop, resolve, invoke, builtin, hm, hx, hrun, Result.andThen]
  exact hK' _ _ (hK w' r1 r2)
theorem wpList_mapLen (hg : o.guard = none) (m : Operand) (t : TypeId) (hop : o.op = Op.call { callee := Callee.builtin Builtin.len, args := #[m], argTypes := #[t] }) {e : TypeId} (h : MapIs P k κ ε w b L)
    (ht : P.underlying t = some (.map k e)) (hm : a.eval m = .map (some b))
    (hK : wpList P ops Q rest (a.put o.dst (.int .i64 (L.length : Nat))) w) : wpList P ops Q (o :: rest) a w := by
  refine wpList_plain hg fun K' hK' => ?_
  unfold Oper.wp
  simp [execOp, hop, resolve, invoke, builtin, hm, h.len ht o.type, Result.andThen]
  exact hK' _ _ hK
end
end Go.Proofs.YtbdfijgejkimnaaGreatDoor
/-! Slices of structs, whatever the struct: the cells of a list of elements, each of so many cells. -/
namespace Go.Proofs.YtbdfijgejkimnaaGreatDoor
open Go.Conc Go.RowKit

section
variable {α : Type} {size : Nat} {enc : α → List Value}
theorem fl_length (h : ∀ a, (enc a).length = size) (l : List α) : (l.flatMap enc).length = l.length * size := by
  induction l with
  | nil => simp
  | cons x l ih => rw [List.flatMap_cons, List.length_append, ih, h, List.length_cons, Nat.succ_mul]; omega
theorem fl_get (h : ∀ a, (enc a).length = size) (l : List α) (k : Nat) (hk : k < l.length) (i : Nat) (hi : i < size) : (l.flatMap enc)[k * size + i]? = (enc l[k])[i]? := by
  induction l generalizing k with
  | nil => exact absurd hk (by simp)
  | cons x l ih =>
    rw [List.flatMap_cons]
    cases k with
    | zero => rw [List.getElem?_append_left (by rw [h]; omega)]; simp
    | succ k =>
      rw [List.getElem?_append_right (by rw [h, Nat.succ_mul]; omega), h, show (k + 1) * size + i - size = k * size + i by rw [Nat.succ_mul]; omega]
      simpa using ih k (by simpa using hk)
theorem fl_take (h : ∀ a, (enc a).length = size) (l : List α) (k : Nat) : (l.flatMap enc).take (k * size) = (l.take k).flatMap enc := by
  induction l generalizing k with
  | nil => simp
  | cons x l ih =>
    cases k with
    | zero => simp
    | succ k =>
      rw [List.flatMap_cons, List.take_succ_cons, List.flatMap_cons, ← ih k, List.take_append, h, show (k + 1) * size - size = k * size by rw [Nat.succ_mul]; omega, List.take_of_length_le (by rw [h, Nat.succ_mul]; omega)]
theorem fl_drop (h : ∀ a, (enc a).length = size) (l : List α) (k : Nat) : (l.flatMap enc).drop (k * size) = (l.drop k).flatMap enc := by
  induction l generalizing k with
  | nil => simp
  | cons x l ih =>
    cases k with
    | zero => simp
    | succ k =>
      rw [List.flatMap_cons, List.drop_succ_cons, ← ih k, List.drop_append, h, show (k + 1) * size - size = k * size by rw [Nat.succ_mul]; omega, List.drop_of_length_le (by rw [h, Nat.succ_mul]; omega), List.nil_append]
theorem fl_one (h : ∀ a, ∀ u ∈ enc a, u.oneCell' = true) (l : List α) : ∀ u ∈ l.flatMap enc, u.oneCell' = true := by
  intro u hu
  obtain ⟨a, _, ha⟩ := List.mem_flatMap.1 hu
  exact h a u ha
/-- The cells of a slice of structs, for every index. -/
structure Cells (w : World) (size : Nat) (enc : α → List Value) (a : Option Addr) (l : List α) : Prop where
  out : l.length = 0 ∨ ∃ b off, a = some ⟨b, off, none⟩ ∧ ∀ k (hk : k < l.length), ∀ i u, (enc l[k])[i]? = some u → w.cell? ⟨b, off + k * size + i, none⟩ = some u
theorem Cells.at {w : World} {a : Option Addr} {l : List α} (h : Cells w size enc a l) (k : Nat) (hk : k < l.length) : ∃ b off, a = some ⟨b, off, none⟩ ∧ ∀ i u, (enc l[k])[i]? = some u → w.cell? ⟨b, off + k * size + i, none⟩ = some u := by
  rcases h.out with h | ⟨b, off, rfl, hc⟩
  · omega
  · exact ⟨b, off, rfl, fun i u hu => hc k hk i u hu⟩
/-- The cells of a slice of structs, for every index: its address once for all. -/
theorem Cells.once {w : World} {a : Option Addr} {l : List α} (h : Cells w size enc a l) (hl : 0 < l.length) : ∃ b off, a = some ⟨b, off, none⟩ ∧ ∀ k (hk : k < l.length), ∀ i u, (enc l[k])[i]? = some u → w.cell? ⟨b, off + k * size + i, none⟩ = some u := h.out.resolve_left (by omega)
theorem Cells.new {S : Nat → Prop} {w w' : World} {a : Option Addr} {l : List α} (h : Cells w size enc a l) (ho : Only S w w') (hn : ∀ p u, w.cell? p = some u → ¬ S p.block) : Cells w' size enc a l := by
  refine ⟨?_⟩
  rcases h.out with h | ⟨b, off, rfl, hc⟩
  · exact .inl h
  · exact .inr ⟨b, off, rfl, fun k hk i u hu => ho.cell (hc k hk i u hu) (hn _ _ (hc k hk i u hu))⟩
theorem Sl.cells {w : World} {v : Value} {l : List α} (hs : ∀ a, (enc a).length = size) (h : Sl w size v l.length (l.flatMap enc)) : ∃ a cap, v = .slice a l.length cap ∧ l.length ≤ cap ∧ cap ≤ maxLen ∧ Cells w size enc a l := by
  obtain ⟨_, a, cap, rfl, h3, h4, h5⟩ := h
  refine ⟨a, cap, rfl, h3, h4, ⟨?_⟩⟩
  rcases h5 with h5 | ⟨b, off, rfl, hc⟩
  · exact .inl h5
  · refine .inr ⟨b, off, rfl, fun k hk i u hu => ?_⟩
    have hi : i < size := by
      rw [← hs l[k]]
      exact (List.getElem?_eq_some_iff.1 hu).1
    have := hc (k * size + i) u (by rw [fl_get hs l k hk i hi]; exact hu)
    rwa [← Nat.add_assoc] at this
end
end Go.Proofs.YtbdfijgejkimnaaGreatDoor
/-! The reference's Named, Key, Origin. -/
namespace Go.Proofs.YtbdfijgejkimnaaGreatDoor
open Go.Conc Go.RowKit

/-- Is there no label's byte ahead of place k? -/
def pd (l : List UInt8) : Nat → Bool
  | 0 => true
  | j + 1 => decide (l.getD j 0 = 46)
theorem namedP_go {s : ByteArray} (h1 : s.size ≠ 0) (h2 : ¬ 62 < s.size) : namedP s = good true s.data.toList := by
  rw [namedP_ok h1 h2, named_split]
  rfl

set_option maxRecDepth 100000 in
set_option maxHeartbeats 1000000 in
theorem rnamed_any (w : World) (s : ByteArray) (hs : s.size ≤ maxLen) :
    Calls Tryz.prog 79 #[.string s] w fun e w' => e = .returned (.bool (namedP s)) ∧ w = w' := by
  unfold maxLen at hs
  by_cases h0 : s.size = 0
  · have HB := Lib.hid (namedP_bad (.inl h0))
    have q1 : decide ((s.size : Int) < 1) = true := by simp; omega
    clear h0
    go_enter Tryz.func79, Tryz.ntmps79
    go_wp2_with fail
    go_ret
    exact ⟨ret_bool HB.out.symm, rfl⟩
  · have q1 : decide ((s.size : Int) < 1) = false := by simp; omega
    by_cases h6 : 62 < s.size
    · have e1 : decide ((62 : Int) < (s.size : Int)) = true := by simp; omega
      have HB := Lib.hid (namedP_bad (.inr h6))
      clear h0
      go_enter Tryz.func79, Tryz.ntmps79
      go_wp2_with fail
      go_ret
      exact ⟨ret_bool HB.out.symm, rfl⟩
    · have e1 : decide ((62 : Int) < (s.size : Int)) = false := by simp; omega
      have HB := Lib.hid (namedP_go h0 h6)
      have H0 := Lib.hid h0
      clear h0
      go_enter Tryz.func79, Tryz.ntmps79
      go_wp2_with fail
      clear q1
      go_loopg [3, 4] s.size (fun g v3 v4 wx => ∃ k : Nat, v3 = .int .i64 k ∧ k ≤ s.size ∧ w = wx ∧ good true s.data.toList = good (pd s.data.toList k) (s.data.toList.drop k) ∧ (k = s.size → pd s.data.toList k = false) ∧ g = s.size - k)
      case atStart => exact ⟨0, rfl, Nat.zero_le _, rfl, rfl, fun e => absurd e.symm H0.out, rfl⟩
      case round =>
        obtain ⟨k, rfl, hk, rfl, hg0, hend, hg⟩ := hrel
        have Hg := Lib.hid hg
        have HG0 := Lib.hid hg0
        have HE := Lib.hid hend
        clear hg hg0 hend
        by_cases hlt : k < s.size
        · have hd : s.data.toList.drop k = s.data.toList[k]'hlt :: s.data.toList.drop (k + 1) := List.drop_eq_getElem_cons hlt
          have hbg := byte_get s k hlt
          have hpd : pd s.data.toList (k + 1) = decide (s.data.toList[k]'hlt = 46) := by
            show decide (s.data.toList.getD k 0 = 46) = _
            rw [List.getD_eq_getElem?_getD, List.getElem?_eq_getElem hlt]
            rfl
          generalize hc0 : s.data.toList[k]'hlt = c at *
          have HC := Lib.hid hc0
          have HD := Lib.hid hd
          have HPD := Lib.hid hpd
          clear hd hc0 hpd
          by_cases hdot : c = 46
          · have HP2 := Lib.hid (show pd s.data.toList (k + 1) = true by rw [HPD.out]; exact decide_eq_true hdot)
            have HGD := Lib.hid (show good true s.data.toList = (!pd s.data.toList k && good true (s.data.toList.drop (k + 1))) by rw [HG0.out, HD.out, good, if_pos hdot])
            have d1 : ((c.toNat : Int) == 46) = true := by subst hdot; rfl
            clear hdot
            by_cases hk0 : k = 0
            · have d2 : ((k : Int) == 0) = true := by simp; omega
              have HF := Lib.hid (show namedP s = false by rw [HB.out, HGD.out, hk0]; rfl)
              clear hk0
              go_wp2_with fail
              go_ret
              exact ⟨ret_bool HF.out.symm, rfl⟩
            · have d2 : ((k : Int) == 0) = false := by simp; omega
              by_cases hkl : k + 1 = s.size
              · have d3 : ((k : Int) == (s.size : Int) - 1) = true := by simp; omega
                have HF := Lib.hid (show namedP s = false by
                  rw [HB.out, HGD.out, List.drop_eq_nil_of_le (by show s.size ≤ k + 1; omega)]
                  simp [good])
                clear hkl hk0
                go_wp2_with fail
                go_ret
                exact ⟨ret_bool HF.out.symm, rfl⟩
              · have d3 : ((k : Int) == (s.size : Int) - 1) = false := by simp; omega
                obtain ⟨j, rfl⟩ : ∃ j, k = j + 1 := ⟨k - 1, by omega⟩
                have d5 : ((j : Int) + 1 == 0) = false := by simp; omega
                have d6 : ((j : Int) + 1 == (s.size : Int) - 1) = false := by simp; omega
                clear d2 d3
                have hjl : j < s.size := by omega
                have hbj := byte_get s j hjl
                have hpj : pd s.data.toList (j + 1) = decide (s.data.toList[j]'hjl = 46) := by
                  show decide (s.data.toList.getD j 0 = 46) = _
                  rw [List.getD_eq_getElem?_getD, List.getElem?_eq_getElem hjl]
                  rfl
                generalize hcj : s.data.toList[j]'hjl = cj at *
                have HPJ := Lib.hid hpj
                clear hcj hpj
                have hj1 : ((j + 1 : Nat) : Int) - 1 = (j : Int) := by omega
                by_cases hdj : cj = 46
                · have d4 : ((cj.toNat : Int) == 46) = true := by subst hdj; rfl
                  have HF := Lib.hid (show namedP s = false by rw [HB.out, HGD.out, HPJ.out, hdj]; rfl)
                  clear hdj hkl hk0
                  go_wp2_with fail
                  go_ret
                  exact ⟨ret_bool HF.out.symm, rfl⟩
                · have d4 : ((cj.toNat : Int) == 46) = false := by
                    simp
                    intro e
                    exact hdj (UInt8.toNat_inj.1 (by simpa using (show cj.toNat = 46 by omega)))
                  have HF := Lib.hid (show good true s.data.toList = good (pd s.data.toList (j + 1 + 1)) (s.data.toList.drop (j + 1 + 1)) by
                    rw [HGD.out, HPJ.out, HP2.out, decide_eq_false hdj]
                    rfl)
                  have HKL := Lib.hid hkl
                  clear hdj hkl hk0
                  go_wp2_with fail
                  go_roundg (s.size - (j + 1 + 1))
                  case measure => rw [Hg.out]; omega
                  case rel => exact ⟨j + 1 + 1, by go_num, by omega, rfl, HF.out, fun e => absurd e HKL.out, rfl⟩
          · have d1 : ((c.toNat : Int) == 46) = false := by
              simp
              intro e
              exact hdot (UInt8.toNat_inj.1 (by simpa using (show c.toNat = 46 by omega)))
            have HP2 := Lib.hid (show pd s.data.toList (k + 1) = false by rw [HPD.out]; exact decide_eq_false hdot)
            have HGD := Lib.hid (show good true s.data.toList = (letterB c && good false (s.data.toList.drop (k + 1))) by rw [HG0.out, HD.out, good, if_neg hdot])
            have HL := Lib.hid (show letterB c = ((decide (97 ≤ c.toNat) && decide (c.toNat ≤ 122)) || (decide (48 ≤ c.toNat) && decide (c.toNat ≤ 57)) || decide (c.toNat = 45) || decide (c.toNat = 95)) from rfl)
            clear hdot
            have hcl := c.toNat_lt
            cases hlb : letterB c with
            | true =>
              have hcase : ((97 : Int) ≤ c.toNat ∧ (c.toNat : Int) ≤ 122) ∨ ((48 : Int) ≤ c.toNat ∧ (c.toNat : Int) ≤ 57) ∨ ((45 : Int) ≤ c.toNat ∧ (c.toNat : Int) ≤ 45 ∧ ((c.toNat : Int) == 45) = true ∧ ((c.toNat : Int) != 45) = false) ∨
                  ((95 : Int) ≤ c.toNat ∧ (c.toNat : Int) ≤ 95 ∧ ((c.toNat : Int) == 45) = false ∧ ((c.toNat : Int) != 45) = true ∧ ((c.toNat : Int) == 95) = true ∧ ((c.toNat : Int) != 95) = false) := by
                rw [HL.out] at hlb
                simp at hlb ⊢
                omega
              have HLB := Lib.hid hlb
              clear hlb
              rcases hcase with ⟨h1, h2⟩ | ⟨h1, h2⟩ | ⟨h1, h2, h3, h4⟩ | ⟨h1, h2, h3, h4, h5, h6⟩
              all_goals (
                go_wp2_with fail
                go_roundg (s.size - (k + 1))
                case measure => rw [Hg.out]; omega
                case rel =>
                  refine ⟨k + 1, by go_num, by omega, rfl, ?_, fun _ => HP2.out, rfl⟩
                  rw [HGD.out, HP2.out, HLB.out]
                  rfl)
            | false =>
              have hcase : (((c.toNat : Int) == 45) = false ∧ ((c.toNat : Int) != 45) = true ∧ ((c.toNat : Int) == 95) = false ∧ ((c.toNat : Int) != 95) = true) ∧ ((c.toNat : Int) < 48 ∨ (decide ((c.toNat : Int) ≤ 57) = false ∧ (57 : Int) < c.toNat ∧ (c.toNat : Int) < 97) ∨ (decide ((c.toNat : Int) ≤ 57) = false ∧ decide ((c.toNat : Int) ≤ 122) = false ∧ (122 : Int) < c.toNat)) := by
                rw [HL.out] at hlb
                simp at hlb ⊢
                omega
              have HLB := Lib.hid hlb
              clear hlb
              obtain ⟨⟨h1, h2, h3, h4⟩, hcase⟩ := hcase
              rcases hcase with h5 | ⟨h5, h6, h7⟩ | ⟨h5, h6, h7⟩
              all_goals (
                go_wp2_with fail
                go_ret
                exact ⟨ret_bool (by rw [HB.out, HGD.out, HLB.out]; rfl), rfl⟩)
        · have hke : k = s.size := by omega
          have HF := Lib.hid (show namedP s = true by
            rw [HB.out, HG0.out, List.drop_eq_nil_of_le (by show s.size ≤ k; omega), HE.out hke]
            rfl)
          clear hke
          go_wp2_with fail
          go_ret
          exact ⟨ret_bool HF.out.symm, rfl⟩
end Go.Proofs.YtbdfijgejkimnaaGreatDoor
/-! pack: Refuse, run: a call that returns, one that is refused. -/
namespace Go.Proofs.YtbdfijgejkimnaaGreatDoor
open Go.Conc Go.RowKit

/-- What a refused call ends with. -/
def refused (n : Int) : Ending := .panicked [{ v := .iface 187 (.agg #[.int .i64 n]), recovered := false }]
theorem refuse_any (w : World) (n : Int) (hn : n ≠ 0) : Calls Tryz.prog 87 #[.int .i64 n] w fun e w' => e = refused n ∧ w = w' := by
  have h0 : (n == 0) = false := by simp; exact hn
  go_enter Tryz.func87, Tryz.ntmps87
  go_wp2
  exact ⟨rfl, rfl, rfl⟩

set_option maxRecDepth 100000 in
theorem run1_idle (p : Addr) (w : World) :
    CallsD Tryz.prog 126 #[.pointer (some p)] .returning w fun e u' w' => e = .returned (.tuple #[]) ∧ u' = .returning ∧ w' = w := by
  refine callsD_of_wpS Tryz.func126 rfl fun c₀ cs hu => ?_
  apply wpS_seq
  apply wpS_region
  simp [wpOpsS, go_sem, recoverD, hu, Tryz.ntmps126, Exit.thenS]
  refine wpS_of_wp ?_
  go_wp2
  cases c₀
  simp_all [bodyPostS, results, Tryz.results126]

theorem assert_ref (W : World) (v : Value) : (Instr.typeAssert (.iface 187 v) 20 187 true).run Tryz.prog W = .ok (.tuple #[v, .bool true]) W := by kernel_rfl
set_option maxRecDepth 100000 in
theorem run1_refused (b : Nat) (n x : Int) (w : World) (hb : w.heap[b]? = some (.cells #[.int .i64 x] 56 (0, 0))) :
    CallsD Tryz.prog 126 #[.pointer (some ⟨b, 0, none⟩)] (.panicking ({ v := .iface 187 (.agg #[.int .i64 n]), recovered := false } :: [])) w fun e u' w' =>
      e = .returned (.tuple #[]) ∧ u' = .panicking ({ v := .iface 187 (.agg #[.int .i64 n]), recovered := true } :: []) ∧ w' = (w.setCell ⟨b, 0, none⟩ (.int .i64 n)).alloc (.cells #[.int .i64 n] 187) := by
  have hta := assert_ref
  have hc : w.cell? ⟨b, 0, none⟩ = some (.int .i64 x) := cell_at hb 0
  have hz := free_at hb 0
  have hlt := lt_of_block hb
  refine callsD_of_wpS Tryz.func126 rfl fun c₀ cs hu => ?_
  apply wpS_seq
  apply wpS_region
  simp [wpOpsS, go_sem, recoverD, hu, Tryz.ntmps126, Exit.thenS]
  rw [show (#[Value.pointer (some ⟨b, 0, none⟩)] ++ (Array.replicate 11 undef).setIfInBounds 3 (Value.iface 187 (Value.agg #[Value.int IntKind.i64 n]))) = #[.pointer (some ⟨b, 0, none⟩), undef, undef, undef, .iface 187 (.agg #[.int .i64 n]), undef, undef, undef, undef, undef, undef, undef] from rfl]
  refine wpS_of_wp ?_
  go_wp2_with fail
  cases c₀
  simp_all [bodyPostS, results, Tryz.results126]

theorem setCell_alloc_lt {w : World} {b : Nat} {o : Obj} {v : Value} (h : b < w.heap.size) : (w.alloc o).setCell ⟨b, 0, none⟩ v = (w.setCell ⟨b, 0, none⟩ v).alloc o := by
  go_simp
set_option maxRecDepth 100000 in
/-- A call of a function value by run: what it returns with. -/
theorem run_ok (w : World) (k : Nat) (cap : Array Value) (R : World → Prop) (he : ∀ args w, (callFunc k args).run Tryz.prog w = .ok (.enter k args) w)
    (h : Calls Tryz.prog k cap (w.alloc (.cells #[.int .i64 0] 56)) fun e w' => e = .returned (.tuple #[]) ∧ R w') (hR : ∀ w', R w' → w'.heap[w.heap.size]? = some (.cells #[.int .i64 0] 56 (0, 0))) :
    Calls Tryz.prog 91 #[.func (.func k) #[] cap] w fun e w' => e = .returned (.int .i64 0) ∧ ∃ w1, R w1 ∧ Only (fun x => x = w.heap.size) w1 w' := by
  have hmf : ∀ (fn : Fn) (first cap : Array Value) (w : World), (Instr.makeFunc fn first cap).run Tryz.prog w = .ok (.func fn first cap) w := fun _ _ _ _ => rfl
  go_enter_defers Tryz.func91, Tryz.ntmps91
  go_wp2
  refine h.mono ?_
  rintro e w1 ⟨rfl, hw1⟩
  have hb := hR _ hw1
  have hc : w1.cell? ⟨w.heap.size, 0, none⟩ = some (.int .i64 0) := cell_at hb 0
  have hz := free_at hb 0
  have HW := Lib.hid hw1
  clear hw1
  go_wp2
  refine leaves_cons (f := 126) (args := #[.pointer (some ⟨w.heap.size, 0, none⟩)]) (by simp) (by simp [go_sem]) ?_
  refine (run1_idle ⟨w.heap.size, 0, none⟩ _).mono ?_
  rintro e u' w'' ⟨rfl, rfl, rfl⟩
  have hs := set_at hb 0 (.int .i64 0)
  have hc2 : (w1.setCell ⟨w.heap.size, 0, none⟩ (.int .i64 0)).cell? ⟨w.heap.size, 0, none⟩ = some (.int .i64 0) := cell_at hs 0
  simp [Leaves, settle, results, Tryz.results91, go_sem, hc2]
  exact ⟨w1, HW.out, (Only.refl _ _).setCell (S := fun x => x = w.heap.size) (p := ⟨w.heap.size, 0, none⟩) (.inr rfl) _⟩
set_option maxRecDepth 100000 in
/-- A call of a function value by run: what it is refused with. -/
theorem run_no (w : World) (k : Nat) (cap : Array Value) (n : Int) (R : World → Prop) (he : ∀ args w, (callFunc k args).run Tryz.prog w = .ok (.enter k args) w)
    (h : Calls Tryz.prog k cap (w.alloc (.cells #[.int .i64 0] 56)) fun e w' => e = refused n ∧ R w') (hR : ∀ w', R w' → w'.heap[w.heap.size]? = some (.cells #[.int .i64 0] 56 (0, 0))) :
    Calls Tryz.prog 91 #[.func (.func k) #[] cap] w fun e w' => e = .returned (.int .i64 n) ∧ ∃ w1, R w1 ∧ Only (fun x => x = w.heap.size) w1 w' := by
  have hmf : ∀ (fn : Fn) (first cap : Array Value) (w : World), (Instr.makeFunc fn first cap).run Tryz.prog w = .ok (.func fn first cap) w := fun _ _ _ _ => rfl
  unfold refused at h
  go_enter_defers Tryz.func91, Tryz.ntmps91
  go_wp2
  refine h.mono ?_
  rintro e w1 ⟨rfl, hw1⟩
  have hb := hR _ hw1
  have HW := Lib.hid hw1
  clear hw1
  go_wp2
  refine leaves_cons (f := 126) (args := #[.pointer (some ⟨w.heap.size, 0, none⟩)]) (by simp) (by simp [go_sem]) ?_
  refine (run1_refused w.heap.size n 0 _ hb).mono ?_
  rintro e u' w'' ⟨rfl, rfl, rfl⟩
  have hs := set_at hb 0 (.int .i64 n)
  have hlt := lt_of_block hs
  have hc2 : ((w1.setCell ⟨w.heap.size, 0, none⟩ (.int .i64 n)).alloc (.cells #[.int .i64 n] 187)).cell? ⟨w.heap.size, 0, none⟩ = some (.int .i64 n) := by
    rw [World.cell?_alloc_past _ _ _ hlt]
    exact cell_at hs 0
  simp [Leaves, settle, results, Tryz.results91, go_sem, hc2]
  exact ⟨w1, HW.out, ((Only.refl _ _).setCell (S := fun x => x = w.heap.size) (p := ⟨w.heap.size, 0, none⟩) (.inr rfl) _).alloc _⟩
end Go.Proofs.YtbdfijgejkimnaaGreatDoor
