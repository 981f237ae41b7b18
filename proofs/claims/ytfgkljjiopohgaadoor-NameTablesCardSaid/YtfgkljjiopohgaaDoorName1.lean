/- Labels: which may be (the program's and the reference's), whether two lists are the same, a label's bytes. -/
import Derived.Test.YtfgkljjiopohgaaDoorStr
namespace Go.Proofs.YtfgkljjiopohgaaDoor
open Go.Conc Go.RowKit

/-- May labels be, behind n bytes? -/
def mayGo : Nat → List ByteArray → Bool
  | n, [] => decide (n ≤ 254)
  | n, s :: r => if s.size = 0 ∨ 63 < s.size ∨ 254 < n then false else mayGo (n + 1 + s.size) r
theorem mayGo_step {n : Nat} {s : ByteArray} {r : List ByteArray} (h0 : s.size ≠ 0) (h1 : s.size ≤ 63) (h2 : n ≤ 254) : mayGo n (s :: r) = mayGo (n + 1 + s.size) r := by
  rw [mayGo, if_neg (by omega)]
theorem mayGo_bad {n : Nat} {s : ByteArray} {r : List ByteArray} (h : s.size = 0 ∨ 63 < s.size ∨ 254 < n) : mayGo n (s :: r) = false := by
  rw [mayGo, if_pos h]
theorem mayGo_full {n : Nat} {r : List ByteArray} (h : 254 < n) : mayGo n r = false := by
  cases r with
  | nil => simp [mayGo]; omega
  | cons s r => exact mayGo_bad (.inr (.inr h))

theorem strs_cell {w : World} {b off k : Nat} {l : List ByteArray} (hc : ∀ j u, (l.map Value.string)[j]? = some u → w.cell? ⟨b, off + j, none⟩ = some u) (hk : k < l.length) : w.cell? ⟨b, off + k, none⟩ = some (.string l[k]) := hc k _ (by simp [hk])

set_option maxRecDepth 100000 in
theorem may_any (w : World) (v : Value) (l : List ByteArray) (h : Sl w 1 v l.length (l.map .string)) (hs : ∀ s ∈ l, s.size ≤ maxLen) :
    Calls Tryd.prog 32 #[v] w fun e w' => e = .returned (.bool (mayGo 0 l)) ∧ w = w' := by
  obtain ⟨_, a, cap, rfl, h3, h4, h5⟩ := h
  unfold maxLen at h4
  have Hs := Lib.hid hs
  clear hs
  go_enter Tryd.func32, Tryd.ntmps32
  go_wp2_with fail
  go_loopg [3, 5, 8] l.length (fun g v3 v5 v8 wx => ∃ k n : Nat, v3 = .int .i64 n ∧ v8 = .int .i64 k ∧ k ≤ l.length ∧ n ≤ 400 ∧ w = wx ∧ mayGo 0 l = mayGo n (l.drop k) ∧ g = l.length - k)
  case atStart => exact ⟨0, 0, rfl, rfl, Nat.zero_le _, by omega, rfl, rfl, rfl⟩
  case round =>
    obtain ⟨k, n, rfl, rfl, hk, hn, rfl, hm, hg⟩ := hrel
    have Hm := Lib.hid hm
    have Hg := Lib.hid hg
    clear hm hg
    by_cases hlt : k < l.length
    · obtain ⟨b, off, ha, hc⟩ := h5.resolve_left (by omega)
      subst ha
      have hz := strs_cell hc hlt
      have hd : l.drop k = l[k] :: l.drop (k + 1) := List.drop_eq_getElem_cons hlt
      have hsz : l[k].size ≤ maxLen := Hs.out _ (List.getElem_mem hlt)
      generalize l[k] = s at *
      have Hd := Lib.hid hd
      unfold maxLen at hsz
      clear hd hc h5
      by_cases h0 : s.size = 0
      · have e0 := empty_true h0
        have hb := mayGo_bad (n := n) (r := l.drop (k + 1)) (.inl h0)
        have Hb := Lib.hid hb
        clear h0 hb
        go_wp2_with fail
        go_ret
        exact ⟨ret_bool (by rw [Hm.out, Hd.out, Hb.out]), rfl⟩
      · have e0 := empty_false h0
        by_cases h1 : 63 < s.size
        · have e1 : decide ((63 : Int) < (s.size : Int)) = true := by simp; omega
          have hb := mayGo_bad (n := n) (r := l.drop (k + 1)) (.inr (.inl h1))
          have Hb := Lib.hid hb
          clear hb
          go_wp2_with fail
          go_ret
          exact ⟨ret_bool (by rw [Hm.out, Hd.out, Hb.out]), rfl⟩
        · have e1 : decide ((63 : Int) < (s.size : Int)) = false := by simp; omega
          by_cases h2 : 254 < n
          · have e2 : decide ((254 : Int) < (n : Int)) = true := by simp; omega
            have hb := mayGo_bad (s := s) (r := l.drop (k + 1)) (.inr (.inr h2))
            have Hb := Lib.hid hb
            clear hb
            go_wp2_with fail
            go_ret
            exact ⟨ret_bool (by rw [Hm.out, Hd.out, Hb.out]), rfl⟩
          · have e2 : decide ((254 : Int) < (n : Int)) = false := by simp; omega
            have hb := mayGo_step (n := n) (r := l.drop (k + 1)) h0 (by omega) (by omega)
            have Hb := Lib.hid hb
            clear hb
            go_wp2_with fail
            go_roundg (l.length - (k + 1))
            case measure => rw [Hg.out]; omega
            case rel => exact ⟨k + 1, n + 1 + s.size, by go_num, by go_num, by omega, by omega, rfl, by rw [Hm.out, Hd.out, Hb.out], rfl⟩
    · have hd : l.drop k = [] := List.drop_eq_nil_of_le (by omega)
      have Hd := Lib.hid hd
      clear hd h5
      by_cases h2 : n ≤ 254
      · have e2 : decide ((n : Int) ≤ 254) = true := by simp; omega
        have hb : mayGo n [] = true := by simp [mayGo, h2]
        have Hb := Lib.hid hb
        clear hb
        go_wp2_with fail
        go_ret
        exact ⟨ret_bool (by rw [Hm.out, Hd.out, Hb.out]), rfl⟩
      · have e2 : decide ((n : Int) ≤ 254) = false := by simp; omega
        have hb : mayGo n [] = false := by simp [mayGo, h2]
        have Hb := Lib.hid hb
        clear hb
        go_wp2_with fail
        go_ret
        exact ⟨ret_bool (by rw [Hm.out, Hd.out, Hb.out]), rfl⟩

set_option maxRecDepth 100000 in
theorem rmay_any (w : World) (v : Value) (l : List ByteArray) (h : Sl w 1 v l.length (l.map .string)) (hs : ∀ s ∈ l, s.size ≤ maxLen) :
    Calls Tryd.prog 12 #[v] w fun e w' => e = .returned (.bool (mayGo 0 l)) ∧ w = w' := by
  obtain ⟨_, a, cap, rfl, h3, h4, h5⟩ := h
  unfold maxLen at h4
  have Hs := Lib.hid hs
  clear hs
  go_enter Tryd.func12, Tryd.ntmps12
  go_wp2_with fail
  go_loopg [3, 4] l.length (fun g v3 v4 wx => ∃ k n : Nat, v3 = .int .i64 n ∧ v4 = .int .i64 k ∧ k ≤ l.length ∧ n ≤ 400 ∧ w = wx ∧ mayGo 0 l = mayGo n (l.drop k) ∧ g = l.length - k)
  case atStart => exact ⟨0, 0, rfl, rfl, Nat.zero_le _, by omega, rfl, rfl, rfl⟩
  case round =>
    obtain ⟨k, n, rfl, rfl, hk, hn, rfl, hm, hg⟩ := hrel
    have Hm := Lib.hid hm
    have Hg := Lib.hid hg
    clear hm hg
    by_cases h2 : n ≤ 254
    · have e2 : decide ((n : Int) ≤ 254) = true := by simp; omega
      by_cases hlt : k < l.length
      · obtain ⟨b, off, ha, hc⟩ := h5.resolve_left (by omega)
        subst ha
        have hz := strs_cell hc hlt
        have hd : l.drop k = l[k] :: l.drop (k + 1) := List.drop_eq_getElem_cons hlt
        have hsz : l[k].size ≤ maxLen := Hs.out _ (List.getElem_mem hlt)
        generalize l[k] = s at *
        have Hd := Lib.hid hd
        unfold maxLen at hsz
        clear hd hc h5
        by_cases h0 : s.size = 0
        · have e0 : decide ((s.size : Int) < 1) = true := by simp; omega
          have hb := mayGo_bad (n := n) (r := l.drop (k + 1)) (.inl h0)
          have Hb := Lib.hid hb
          clear h0 hb
          go_wp2_with fail
          go_ret
          exact ⟨ret_bool (by rw [Hm.out, Hd.out, Hb.out]), rfl⟩
        · have e0 : decide ((s.size : Int) < 1) = false := by simp; omega
          by_cases h1 : 63 < s.size
          · have e1 : decide ((63 : Int) < (s.size : Int)) = true := by simp; omega
            have hb := mayGo_bad (n := n) (r := l.drop (k + 1)) (.inr (.inl h1))
            have Hb := Lib.hid hb
            clear hb
            go_wp2_with fail
            go_ret
            exact ⟨ret_bool (by rw [Hm.out, Hd.out, Hb.out]), rfl⟩
          · have e1 : decide ((63 : Int) < (s.size : Int)) = false := by simp; omega
            have hb := mayGo_step (n := n) (r := l.drop (k + 1)) h0 (by omega) (by omega)
            have Hb := Lib.hid hb
            clear hb
            go_wp2_with fail
            go_roundg (l.length - (k + 1))
            case measure => rw [Hg.out]; omega
            case rel => exact ⟨k + 1, n + 1 + s.size, by go_num, by go_num, by omega, by omega, rfl, by rw [Hm.out, Hd.out, Hb.out], rfl⟩
      · have hd : l.drop k = [] := List.drop_eq_nil_of_le (by omega)
        have hb : mayGo n [] = true := by simp [mayGo, h2]
        have Hd := Lib.hid hd
        have Hb := Lib.hid hb
        clear hd h5 hb
        go_wp2_with fail
        go_ret
        exact ⟨ret_bool (by rw [Hm.out, Hd.out, Hb.out]), rfl⟩
    · have e2 : decide ((n : Int) ≤ 254) = false := by simp; omega
      have hb := mayGo_full (n := n) (r := l.drop k) (by omega)
      have Hb := Lib.hid hb
      clear hb h5
      by_cases hlt : k < l.length
      · go_wp2_with fail
        go_ret
        exact ⟨ret_bool (by rw [Hm.out, Hb.out]), rfl⟩
      · go_wp2_with fail
        go_ret
        exact ⟨ret_bool (by rw [Hm.out, Hb.out]), rfl⟩
end Go.Proofs.YtfgkljjiopohgaaDoor
