/- The law's cut. -/
import Derived.Test.YtfgkljjiopohgaaDoorName7
namespace Go.Proofs.YtfgkljjiopohgaaDoor
open Go.Conc Go.RowKit

def cutS (n : Int) (s : ByteArray) : ByteArray := s.extract 0 (min (s.size : Int) n).toNat
def cutL (l : List ByteArray) (most : Nat) (n : Int) : List ByteArray := (l.take most).map (cutS n)
theorem cutS_size (n : Nat) (s : ByteArray) : (cutS n s).size ≤ n := by
  unfold cutS
  rw [ByteArray.size_extract]
  omega
theorem cutL_size (l : List ByteArray) (most n : Nat) : (cutL l most n).length ≤ most ∧ ∀ s ∈ cutL l most n, s.size ≤ n := by
  unfold cutL
  refine ⟨by simp; omega, fun s hs => ?_⟩
  obtain ⟨x, _, rfl⟩ := List.mem_map.1 hs
  exact cutS_size n x

set_option maxRecDepth 100000 in
set_option maxHeartbeats 2000000 in
theorem cut_own (w : World) (v : Value) (l : List ByteArray) (most n : Nat) (h : Sl w 1 v l.length (l.map .string)) (hs : ∀ s ∈ l, s.size ≤ maxLen) (hmo : most ≤ 1000) (hn : n ≤ 1000) :
    Calls Tryd.prog 17 #[v, .int .i64 most, .int .i64 n] w fun e w' => ∃ v', e = .returned v' ∧ Only (fun _ => False) w w' ∧ w'.ownsRow w.heap.size 9 1 v' (cutL l most n).length ((cutL l most n).map .string) := by
  obtain ⟨i0, hi0, hz0, hz1, hz2⟩ := info_parts infoStr
  obtain ⟨_, a, cap, rfl, h3, h4, h5⟩ := h
  unfold maxLen at h4
  have Hs := Lib.hid hs
  have H5 := Lib.hid h5
  clear hs h5
  go_enter Tryd.func17, Tryd.ntmps17
  go_wp2_with fail
  go_loopg [7, 8] most (fun g v7 v8 wx => ∃ (k : Nat), v8 = .int .i64 k ∧ k ≤ l.length ∧ k ≤ most ∧ Only (fun _ => False) w wx ∧ wx.ownsRow w.heap.size 9 1 v7 k (((l.take k).map (cutS n)).map .string) ∧ g = most - k)
  case atStart => exact ⟨0, rfl, Nat.zero_le _, Nat.zero_le _, Only.refl _ _, World.ownsRow_nil _ _ _ _, rfl⟩
  case round =>
    obtain ⟨k, rfl, hk, hkm, ho, hown, hg⟩ := hrel
    have Hg := Lib.hid hg
    clear hg
    by_cases hlt : k < l.length
    · have q1 : decide ((k : Int) < (l.length : Int)) = true := by simp; omega
      by_cases hm : k < most
      · have q2 : decide ((k : Int) < (most : Int)) = true := by simp; omega
        obtain ⟨b, off, ha, hc⟩ := H5.out.resolve_left (by omega)
        subst ha
        have hz := ho.cell (strs_cell hc hlt) id
        have hsz := Hs.out _ (List.getElem_mem hlt)
        have hlk : l[k]? = some l[k] := List.getElem?_eq_getElem hlt
        generalize l[k] = s at *
        have HLK := Lib.hid hlk
        clear hc hlk
        by_cases hns : n < s.size
        · have hm1 : min (s.size : Int) (n : Int) = (n : Int) := by omega
          have HF := Lib.hid (show cutS n s = s.extract 0 n by unfold cutS; rw [hm1]; rfl)
          have hk4 : (n : Int) ≤ (s.size : Int) := by omega
          generalize hF : s.extract 0 n = F at HF
          clear hm1
          have hk3 : (0 : Int) ≤ (n : Int) := by omega
          go_wp2_with fail
          go_region_law (first
            | (refine step_append_src rfl (.tmp 20) (.tmp 33) 23 23 rfl w.heap.size 9 i0 _ 1 16 Tryd.underlying23 hi0 hz0 hz1 hz2 rfl u7 k (((l.take k).map (cutS n)).map .string) rfl (owns_kept hown ((Only.refl (fun _ => False) _).alloc _).drew (fun _ _ => id)) _ 1 [.string F] rfl (Src.ofSlice _ Tryd.underlying23 _ _ _ _ rfl (news_at (heapA _ _ _ rfl)) (str_one [F])) (by unfold maxLen; omega) (by omega) (by have := ho.size; simp; omega) ?_
               intro v1 w5 own1 gr1 hv1
               have ho5 : Only (fun _ => False) w w5 := (ho.alloc _).drew.grown gr1 (fun j e => .inl (hv1 j e))))
          all_goals (
            go_wp2_with fail
            go_roundg (most - (k + 1))
            case measure => rw [Hg.out]; omega
            case rel =>
              refine ⟨k + 1, by go_num, by omega, by omega, ho5, ?_, rfl⟩
              have e : l.take (k + 1) = l.take k ++ [s] := by rw [List.take_add_one, HLK.out]; rfl
              rw [e, List.map_append, List.map_append, List.map_singleton, List.map_singleton, HF.out]
              exact own1)
        · have hm1 : min (s.size : Int) (n : Int) = (s.size : Int) := by omega
          have hex : s.extract 0 s.size = s := by simp
          have HF := Lib.hid (show cutS n s = s by unfold cutS; rw [hm1]; exact hex)
          clear hm1
          have hk3 : (0 : Int) ≤ (s.size : Int) := by omega
          go_wp2_with fail
          go_region_law (first
            | (refine step_append_src rfl (.tmp 20) (.tmp 33) 23 23 rfl w.heap.size 9 i0 _ 1 16 Tryd.underlying23 hi0 hz0 hz1 hz2 rfl u7 k (((l.take k).map (cutS n)).map .string) rfl (owns_kept hown ((Only.refl (fun _ => False) _).alloc _).drew (fun _ _ => id)) _ 1 [.string s] rfl (Src.ofSlice _ Tryd.underlying23 _ _ _ _ rfl (news_at (heapA _ _ _ rfl)) (str_one [s])) (by unfold maxLen; omega) (by omega) (by have := ho.size; simp; omega) ?_
               intro v1 w5 own1 gr1 hv1
               have ho5 : Only (fun _ => False) w w5 := (ho.alloc _).drew.grown gr1 (fun j e => .inl (hv1 j e))))
          all_goals (
            go_wp2_with fail
            go_roundg (most - (k + 1))
            case measure => rw [Hg.out]; omega
            case rel =>
              refine ⟨k + 1, by go_num, by omega, by omega, ho5, ?_, rfl⟩
              have e : l.take (k + 1) = l.take k ++ [s] := by rw [List.take_add_one, HLK.out]; rfl
              rw [e, List.map_append, List.map_append, List.map_singleton, List.map_singleton, HF.out]
              exact own1)
      · have q2 : decide ((k : Int) < (most : Int)) = false := by simp; omega
        have hkl : k = most := by omega
        have HK := Lib.hid hkl
        clear hkl
        go_wp2_with fail
        go_ret
        refine ⟨_, rfl, ho, ?_⟩
        have := hown
        rw [HK.out] at this
        have e : (cutL l most n).length = most := by simp [cutL]; omega
        rw [e]
        exact this
    · have q1 : decide ((k : Int) < (l.length : Int)) = false := by simp; omega
      have hkl : k = l.length := by omega
      have HK := Lib.hid hkl
      clear hkl
      go_wp2_with fail
      go_ret
      refine ⟨_, rfl, ho, ?_⟩
      have := hown
      rw [HK.out] at this hkm
      have e : (cutL l most n).length = l.length := by simp [cutL]; omega
      rw [e, cutL, List.take_of_length_le hkm]
      rwa [List.take_length] at this
theorem cut_any (w : World) (v : Value) (l : List ByteArray) (most n : Nat) (h : Sl w 1 v l.length (l.map .string)) (hs : ∀ s ∈ l, s.size ≤ maxLen) (hmo : most ≤ 1000) (hn : n ≤ 1000) :
    Calls Tryd.prog 17 #[v, .int .i64 most, .int .i64 n] w fun e w' => ∃ v', e = .returned v' ∧ Only (fun _ => False) w w' ∧ Sl w' 1 v' (cutL l most n).length ((cutL l most n).map .string) :=
  (cut_own w v l most n h hs hmo hn).mono fun _ _ ⟨v', h1, h2, h3⟩ => ⟨v', h1, h2, Sl.of_owns h3⟩
end Go.Proofs.YtfgkljjiopohgaaDoor
