/- Same, a label's bytes, the reference's Bytes. -/
import Derived.Test.YtfgkljjiopohgaaDoorName1
namespace Go.Proofs.YtfgkljjiopohgaaDoor
open Go.Conc Go.RowKit

theorem drop_eq {α : Type} (l m : List α) (k : Nat) (h1 : k < l.length) (h2 : k < m.length) (he : l[k] = m[k]) : (l.drop k = m.drop k ↔ l.drop (k + 1) = m.drop (k + 1)) := by
  rw [List.drop_eq_getElem_cons h1, List.drop_eq_getElem_cons h2, he]
  exact ⟨fun e => (List.cons.inj e).2, fun e => by rw [e]⟩

set_option maxRecDepth 100000 in
theorem same_any (w : World) (v u : Value) (l m : List ByteArray) (h : Sl w 1 v l.length (l.map .string)) (g : Sl w 1 u m.length (m.map .string)) :
    Calls Tryd.prog 13 #[v, u] w fun e w' => e = .returned (.bool (decide (l = m))) ∧ Only (fun _ => False) w w' := by
  obtain ⟨_, a, cap, rfl, h3, h4, h5⟩ := h
  obtain ⟨_, a2, cap2, rfl, g3, g4, g5⟩ := g
  unfold maxLen at h4 g4
  by_cases hlen : l.length = m.length
  · have HL := Lib.hid hlen
    rw [← hlen] at g5
    have hc2 : l.length ≤ cap2 := by omega
    have e0 : ((l.length : Int) != (m.length : Int)) = false := by simp; omega
    clear hlen
    go_enter Tryd.func13, Tryd.ntmps13
    go_wp2_with fail
    go_loopg [5] l.length (fun g v5 wx => ∃ k : Nat, v5 = .int .i64 k ∧ k ≤ l.length ∧ Only (fun _ => False) w wx ∧ (decide (l = m) = decide (l.drop k = m.drop k)) ∧ g = l.length - k)
    case atStart => exact ⟨0, rfl, Nat.zero_le _, Only.refl _ _, rfl, rfl⟩
    case round =>
      obtain ⟨k, rfl, hk, ho, hm, hg⟩ := hrel
      have Hm := Lib.hid hm
      have Hg := Lib.hid hg
      clear hm hg
      by_cases hlt : k < l.length
      · obtain ⟨b, off, ha, hc⟩ := h5.resolve_left (by omega)
        obtain ⟨b2, off2, ha2, hcc⟩ := g5.resolve_left (by omega)
        subst ha ha2
        have hlt2 : k < m.length := by have := HL.out; omega
        have hz := ho.cell (strs_cell hc hlt) id
        have hz2 := ho.cell (strs_cell hcc hlt2) id
        have hde := drop_eq l m k hlt hlt2
        have hdl : l.drop k = l[k] :: l.drop (k + 1) := List.drop_eq_getElem_cons hlt
        have hdm : m.drop k = m[k] :: m.drop (k + 1) := List.drop_eq_getElem_cons hlt2
        generalize l[k] = s at *
        generalize m[k] = t at *
        have Hde := Lib.hid hde
        have Hdl := Lib.hid hdl
        have Hdm := Lib.hid hdm
        clear hc hcc h5 g5 hde hdl hdm
        by_cases hst : s = t
        · have hst2 := str_eq hst
          have Hst := Lib.hid hst
          clear hst
          go_wp2_with fail
          go_quiet (fail)
          go_wp2_with fail
          go_roundg (l.length - (k + 1))
          case measure => rw [Hg.out]; omega
          case rel => exact ⟨k + 1, by go_num, by omega, ho.drewN _, by rw [Hm.out]; exact decide_eq_decide.2 (Hde.out Hst.out), rfl⟩
        · have hst2 := str_ne hst
          have Hst := Lib.hid hst
          clear hst
          go_wp2_with fail
          go_quiet (fail)
          go_wp2_with fail
          go_ret
          refine ⟨ret_bool ?_, ho.drewN _⟩
          rw [Hm.out, Hdl.out, Hdm.out]
          symm
          rw [decide_eq_false_iff_not]
          intro e
          exact Hst.out (List.cons.inj e).1
      · have hd : decide (l.drop k = m.drop k) = true := by
          rw [decide_eq_true_eq, List.drop_eq_nil_of_le (by omega), List.drop_eq_nil_of_le (by have := HL.out; omega)]
        have Hd := Lib.hid hd
        clear hd h5 g5
        go_wp2_with fail
        go_ret
        exact ⟨ret_bool (by rw [Hm.out, Hd.out]), ho⟩
  · have e0 : ((l.length : Int) != (m.length : Int)) = true := by simp; omega
    have hd : decide (l = m) = false := by
      rw [decide_eq_false_iff_not]
      intro e
      exact hlen (by rw [e])
    have Hd := Lib.hid hd
    clear hd h5 g5 hlen
    go_enter Tryd.func13, Tryd.ntmps13
    go_wp2_with fail
    go_ret
    exact ⟨ret_bool (by rw [Hd.out]), Only.refl _ _⟩

/-- string([]byte{x}), string([]byte{x, y}). -/
theorem conv1 (w : World) (B : Nat) (x : Int) (hB : B = w.heap.size) : (convert 43 9 (.slice (some ⟨B, 0, none⟩) 1 1)).run Tryd.prog (w.alloc (.cells #[.int .u8 x] 5)) = .ok (.string (bytesOf [x])) (w.alloc (.cells #[.int .u8 x] 5)) :=
  run_bytes_new Tryd.underlying43 Tryd.underlying5 Tryd.underlying9 w B [x] 1 hB rfl (by unfold maxLen; omega)
theorem conv2 (w : World) (B : Nat) (x y : Int) (hB : B = w.heap.size) : (convert 43 9 (.slice (some ⟨B, 0, none⟩) 2 2)).run Tryd.prog (w.alloc (.cells #[.int .u8 x, .int .u8 y] 5)) = .ok (.string (bytesOf [x, y])) (w.alloc (.cells #[.int .u8 x, .int .u8 y] 5)) :=
  run_bytes_new Tryd.underlying43 Tryd.underlying5 Tryd.underlying9 w B [x, y] 2 hB rfl (by unfold maxLen; omega)

theorem conv1d (w : World) (B : Nat) (x : Int) (hB : B = w.heap.size) : (convert 43 9 (.slice (some ⟨B, 0, none⟩) 1 1)).run Tryd.prog (w.alloc (.cells #[.int .u8 x] 5)).drew = .ok (.string (bytesOf [x])) (w.alloc (.cells #[.int .u8 x] 5)).drew :=
  run_bytes_new_drew Tryd.underlying43 Tryd.underlying5 Tryd.underlying9 w B [x] 1 hB rfl (by unfold maxLen; omega)
theorem conv2d (w : World) (B : Nat) (x y : Int) (hB : B = w.heap.size) : (convert 43 9 (.slice (some ⟨B, 0, none⟩) 2 2)).run Tryd.prog (w.alloc (.cells #[.int .u8 x, .int .u8 y] 5)).drew = .ok (.string (bytesOf [x, y])) (w.alloc (.cells #[.int .u8 x, .int .u8 y] 5)).drew :=
  run_bytes_new_drew Tryd.underlying43 Tryd.underlying5 Tryd.underlying9 w B [x, y] 2 hB rfl (by unfold maxLen; omega)

/-- A label's bytes. -/
def labelB (s : ByteArray) : ByteArray := bytesOf [(s.size : Int)] ++ s

set_option maxRecDepth 100000 in
theorem label_any (w : World) (s : ByteArray) (hs : s.size ≤ 63) :
    Calls Tryd.prog 35 #[.string s] w fun e w' => e = .returned (.string (labelB s)) ∧ Only (fun _ => False) w w' := by
  have hc1 := conv1
  have e1 : ∀ x : Int, (bytesOf [x]).size = 1 := fun _ => rfl
  go_enter Tryd.func35, Tryd.ntmps35
  go_wp2_with fail
  go_ret
  exact ⟨rfl, (Only.refl _ _).alloc _⟩

/-- Labels' bytes, without the byte 0. -/
def bytesL (l : List ByteArray) : ByteArray := l.foldl (fun r s => r ++ labelB s) ⟨#[]⟩

set_option maxRecDepth 100000 in
theorem bytes_any (w : World) (v : Value) (l : List ByteArray) (h : Sl w 1 v l.length (l.map .string)) (hs : ∀ s ∈ l, s.size ≤ 70) (hl : l.length ≤ 200) :
    Calls Tryd.prog 23 #[v] w fun e w' => e = .returned (.string (bytesL l)) ∧ Only (fun _ => False) w w' := by
  obtain ⟨_, a, cap, rfl, h3, h4, h5⟩ := h
  unfold maxLen at h4
  have Hs := Lib.hid hs
  have hc1 := conv1d
  have e1 : ∀ x : Int, (bytesOf [x]).size = 1 := fun _ => rfl
  clear hs
  go_enter Tryd.func23, Tryd.ntmps23
  go_wp2_with fail
  go_loopg [3, 4] l.length (fun g v3 v4 wx => ∃ (k : Nat) (r : ByteArray), v3 = .string r ∧ v4 = .int .i64 k ∧ k ≤ l.length ∧ r.size ≤ 71 * k ∧ Only (fun _ => False) w wx ∧ bytesL l = (l.drop k).foldl (fun r s => r ++ labelB s) r ∧ g = l.length - k)
  case atStart => exact ⟨0, ⟨#[]⟩, rfl, rfl, Nat.zero_le _, Nat.le_refl _, Only.refl _ _, rfl, rfl⟩
  case round =>
    obtain ⟨k, r, rfl, rfl, hk, hr, ho, hm, hg⟩ := hrel
    have Hm := Lib.hid hm
    have Hg := Lib.hid hg
    clear hm hg
    by_cases hlt : k < l.length
    · obtain ⟨b, off, ha, hc⟩ := h5.resolve_left (by omega)
      subst ha
      have hz := ho.cell (strs_cell hc hlt) id
      have hblt := World.block_lt_of_cell? _ _ hz
      have hd : l.drop k = l[k] :: l.drop (k + 1) := List.drop_eq_getElem_cons hlt
      have hsz := Hs.out _ (List.getElem_mem hlt)
      generalize l[k] = s at *
      have Hd := Lib.hid hd
      clear hd hc h5
      go_wp2_with fail
      go_region
      go_wp2_with fail
      go_roundg (l.length - (k + 1))
      case measure => rw [Hg.out]; omega
      case rel =>
        refine ⟨k + 1, r ++ labelB s, rfl, by go_num, by omega, ?_, (ho.alloc _).drew, by rw [Hm.out, Hd.out]; rfl, rfl⟩
        rw [ByteArray.size_append, labelB, ByteArray.size_append, e1]
        omega
    · have hd : l.drop k = [] := List.drop_eq_nil_of_le (by omega)
      have Hd := Lib.hid hd
      clear hd h5
      go_wp2_with fail
      go_ret
      exact ⟨ret_str (by rw [Hm.out, Hd.out]; rfl), ho⟩
end Go.Proofs.YtfgkljjiopohgaaDoor
