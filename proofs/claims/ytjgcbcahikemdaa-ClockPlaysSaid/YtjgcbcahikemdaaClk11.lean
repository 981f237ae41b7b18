/- bellhopref04.Drop. -/
import Derived.Test.YtjgcbcahikemdaaClk9
import Derived.Test.YtjgcbcahikemdaaStep
namespace Go.Proofs.Ytjgcbcahikemdaa
open Go.Conc Go.RowKit

def thC (t : ByteArray × Int) : List Value := [.string t.1, .int .i64 t.2]
def thsC (l : List (ByteArray × Int)) : List Value := l.flatMap thC
theorem thsC_append (l m : List (ByteArray × Int)) : thsC (l ++ m) = thsC l ++ thsC m := by simp [thsC]
theorem thsC_length (l : List (ByteArray × Int)) : (thsC l).length = l.length * 2 := by
  induction l with
  | nil => rfl
  | cons x l ih => simp only [thsC, thC, List.flatMap_cons, List.length_append, List.length_cons, List.length_nil] at ih ⊢; omega
theorem thsC_one (l : List (ByteArray × Int)) : ∀ u ∈ thsC l, u.oneCell' = true := by
  intro u hu
  simp only [thsC, thC, List.mem_flatMap] at hu
  obtain ⟨x, _, hx⟩ := hu
  simp only [List.mem_cons, List.not_mem_nil, or_false] at hx
  rcases hx with rfl | rfl <;> rfl
theorem thsC_get (l : List (ByteArray × Int)) (k : Nat) (hk : k < l.length) (i : Nat) (hi : i < 2) : (thsC l)[k * 2 + i]? = (thC l[k])[i]? := by
  induction l generalizing k with
  | nil => exact absurd hk (by simp)
  | cons a l ih =>
    rw [thsC, List.flatMap_cons, ← thsC]
    cases k with
    | zero => rw [List.getElem?_append_left (by simp [thC]; omega)]; simp
    | succ k =>
      rw [List.getElem?_append_right (by simp [thC]; omega), show (k + 1) * 2 + i - (thC a).length = k * 2 + i by simp [thC]; omega]
      simpa using ih k (by simpa using hk)
theorem thsC_take (l : List (ByteArray × Int)) (k : Nat) : (thsC l).take (k * 2) = thsC (l.take k) := by
  induction l generalizing k with
  | nil => simp [thsC]
  | cons a l ih =>
    cases k with
    | zero => simp [thsC]
    | succ k =>
      rw [List.take_succ_cons, show thsC (a :: l) = thC a ++ thsC l from rfl, show thsC (a :: l.take k) = thC a ++ thsC (l.take k) from rfl, ← ih k, List.take_append, show (thC a).take ((k + 1) * 2) = thC a from List.take_of_length_le (by simp [thC]; omega), show (k + 1) * 2 - (thC a).length = k * 2 by simp [thC]; omega]
theorem thsC_drop (l : List (ByteArray × Int)) (k : Nat) : (thsC l).drop (k * 2) = thsC (l.drop k) := by
  have h1 : (thsC l).take (k * 2) ++ (thsC l).drop (k * 2) = thsC (l.take k) ++ thsC (l.drop k) := by rw [List.take_append_drop, ← thsC_append, List.take_append_drop]
  rw [thsC_take] at h1
  exact List.append_cancel_left h1
theorem infoThing : (Try.prog.info? 35).map (fun i => (i.zero, i.size, i.bytes)) = some (some (.agg #[.string ⟨#[]⟩, .int .i64 0]), 2, 24) := by kernel_rfl
def rdropL (l : List (ByteArray × Int)) (name : ByteArray) : List (ByteArray × Int) := l.filter (fun p => !decide (p.1 = name))
theorem rdropL_snoc (l : List (ByteArray × Int)) (t : ByteArray × Int) (name : ByteArray) : rdropL (l ++ [t]) name = if t.1 = name then rdropL l name else rdropL l name ++ [t] := by
  unfold rdropL
  rw [List.filter_append]
  by_cases h : t.1 = name <;> simp [h]
set_option maxRecDepth 100000 in
set_option maxHeartbeats 2000000 in
theorem rdrop_any (w : World) (v : Value) (l : List (ByteArray × Int)) (name : ByteArray) (h : Sl w 2 v l.length (thsC l)) (hl : l.length ≤ 1000) :
    Calls Try.prog 14 #[v, .string name] w fun e w' => ∃ v', e = .returned v' ∧ Only (fun _ => False) w w' ∧ w'.ownsRow w.heap.size 35 2 v' (rdropL l name).length (thsC (rdropL l name)) := by
  obtain ⟨i0, hi0, iz0, iz1, iz2⟩ := info_parts infoThing
  obtain ⟨_, a, cap, rfl, h3, h4, h5⟩ := h
  unfold maxLen at h4
  have H5 := Lib.hid h5
  clear h5
  go_enter Try.func14, Try.ntmps14
  go_wp2_with fail
  go_loopg [5, 6] l.length (fun g v5 v6 wr => ∃ k : Nat, v6 = .int .i64 k ∧ k ≤ l.length ∧ Only (fun _ => False) w wr ∧ wr.ownsRow w.heap.size 35 2 v5 (rdropL (l.take k) name).length (thsC (rdropL (l.take k) name)) ∧ g = l.length - k)
  case atStart => exact ⟨0, rfl, Nat.zero_le _, Only.refl _ _, World.ownsRow_nil w _ _ _, rfl⟩
  case round =>
    obtain ⟨k, rfl, hk, ho, hown, hg⟩ := hrel
    have Hg := Lib.hid hg
    clear hg
    by_cases hlt : k < l.length
    · obtain ⟨b, off, ha, hc⟩ := H5.out.resolve_left (by omega)
      subst ha
      have hz0 := hc (k * 2 + 0) _ (by rw [thsC_get l k hlt 0 (by decide)]; rfl)
      have hz1 := hc (k * 2 + 1) _ (by rw [thsC_get l k hlt 1 (by decide)]; rfl)
      have z0 : wr.cell? ⟨b, off + k * 2, none⟩ = some (.string l[k].1) := ho.cell (p := ⟨b, off + k * 2, none⟩) hz0 id
      have z1 : wr.cell? ⟨b, off + k * 2 + 1, none⟩ = some (.int .i64 l[k].2) := ho.cell (p := ⟨b, off + k * 2 + 1, none⟩) hz1 id
      have htk : l.take (k + 1) = l.take k ++ [(l[k].1, l[k].2)] := by rw [List.take_add_one, List.getElem?_eq_getElem hlt]; rfl
      have HTK := Lib.hid htk
      have hlen : (rdropL (l.take k) name).length ≤ k := Nat.le_trans (List.length_filter_le _ _) (by simp; omega)
      generalize l[k].1 = x at *
      generalize l[k].2 = y at *
      clear hz0 hz1 hc htk
      have hlt' : (k : Int) < (l.length : Int) := by omega
      by_cases hx : x = name
      · have hxb := str_eq hx
        go_wp2_with fail
        go_roundg (l.length - (k + 1))
        case measure => rw [Hg.out]; omega
        case rel =>
          refine ⟨k + 1, by go_num, by omega, ho, ?_, rfl⟩
          rw [HTK.out, rdropL_snoc, if_pos hx]
          exact hown
      · have hxb := str_ne hx
        go_wp2_with (at_builtin; refine Wait.mk ?_)
        refine Wait.go (wpList_append_src _ rfl (.tmp 20) (.tmp 25) 33 33 rfl w.heap.size 35 i0 _ 2 24 Try.underlying33 hi0 iz0 iz1 iz2 rfl _ (rdropL (l.take k) name).length (thsC (rdropL (l.take k) name)) rfl (hown.alloc _) _ 1 (thsC [(x, y)]) rfl ?src4 ?m4 ?b4 ?base4 ?_)
        case src4 => exact Src.ofSlice _ Try.underlying33 _ _ _ _ rfl (news_new _ _ _) (thsC_one _)
        case m4 => unfold maxLen; omega
        case b4 => omega
        case base4 => have := ho.size; simp; omega
        intro v1 w5 own1 gr1 hv1
        have ho5 : Only (fun _ => False) w w5 := (ho.alloc _).own (hown.alloc _) (Nat.le_refl _) gr1
        go_wp2_with fail
        go_roundg (l.length - (k + 1))
        case measure => rw [Hg.out]; omega
        case rel =>
          refine ⟨k + 1, by go_num, by omega, ho5, ?_, rfl⟩
          rw [HTK.out, rdropL_snoc, if_neg hx, List.length_append, thsC_append]
          exact own1
    · have hke : k = l.length := by omega
      have hlt' : ¬ (k : Int) < (l.length : Int) := by omega
      rw [hke, List.take_length] at hown
      clear hke
      go_wp2_with fail
      go_ret
      exact ⟨_, rfl, ho, hown⟩
end Go.Proofs.Ytjgcbcahikemdaa
