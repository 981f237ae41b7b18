/- The reference's Split is strings.Split at the full stop; put together it is the text. -/
import Derived.Test.YtfgkljjiopohgaaDoorName3
import Derived.Test.YtfgkljjiopohgaaDoorName7
import Derived.Lib.SplitLaws
import Derived.Laws.OwnMore
import Derived.Deep.AppendLies
namespace Go.Proofs.YtfgkljjiopohgaaDoor
open Go.Conc Go.RowKit

def spl : List UInt8 → List UInt8 → List (List UInt8)
  | cur, [] => [cur]
  | cur, b :: l => if b = 46 then cur :: spl [] l else spl (cur ++ [b]) l
def ph (c : List UInt8) : List (List UInt8) → List (List UInt8)
  | [] => [c]
  | x :: r => (c ++ x) :: r
theorem spl_app (c : List UInt8) : ∀ (l cur : List UInt8), spl (c ++ cur) l = ph c (spl cur l) := by
  intro l
  induction l with
  | nil => intro cur; rfl
  | cons b l ih =>
    intro cur
    unfold spl
    by_cases hb : b = 46
    · rw [if_pos hb, if_pos hb]; rfl
    · rw [if_neg hb, if_neg hb, List.append_assoc, ih]
theorem splitK_ne (b : UInt8) (hb : b ≠ 46) (l : List UInt8) : ∀ k, Lib.splitK [46] 0 k (b :: l) = ph [b] (Lib.splitK [46] 0 k l) := by
  intro k
  cases k with
  | zero => rfl
  | succ k =>
    have hi : Lib.index (b :: l) [46] = if Lib.index l [46] == -1 then -1 else Lib.index l [46] + 1 := by
      rw [Lib.index]
      have : ([46] : List UInt8).isPrefixOf (b :: l) = false := by simp [List.isPrefixOf]; exact fun e => hb e.symm
      rw [if_neg (by simp [this])]
    unfold Lib.splitK
    rw [hi]
    have hge := Lib.index_ge l [46]
    by_cases h : Lib.index l [46] = -1
    · rw [if_pos (by simp [h]), if_pos (by simp [h])]; rfl
    · obtain ⟨i, hi2⟩ := Int.eq_ofNat_of_zero_le (show 0 ≤ Lib.index l [46] by omega)
      rw [if_neg (by simp [hi2]; omega), hi2, if_neg (by simp), if_neg (by simp)]
      have e1 : ((i : Int) + 1).toNat = i + 1 := by omega
      rw [e1]
      simp [ph]
theorem splitK_spl : ∀ l : List UInt8, Lib.splitK [46] 0 (Lib.count l [46]) l = spl [] l := by
  intro l
  induction l with
  | nil => rfl
  | cons b l ih =>
    by_cases hb : b = 46
    · subst hb
      rw [Lib.count_cons_eq, Nat.add_comm]
      unfold Lib.splitK
      have hi : Lib.index (46 :: l) [46] = 0 := by
        rw [Lib.index]
        simp [List.isPrefixOf]
      rw [hi]
      simp only [spl]
      rw [if_neg (by decide)]
      simp [ih]
    · rw [Lib.count_cons_ne b 46 l hb, splitK_ne b hb, ih, spl, if_neg hb, show ([] : List UInt8) ++ [b] = [b] ++ [] by simp, spl_app]
theorem spl_ne (l : List UInt8) : ∀ cur, spl cur l ≠ [] := by
  induction l with
  | nil => intro cur h; cases h
  | cons b l ih =>
    intro cur h
    unfold spl at h
    split at h
    · cases h
    · exact ih _ h
theorem join_spl (l : List UInt8) : ∀ cur, Lib.join (spl cur l) [46] = cur ++ l := by
  induction l with
  | nil => intro cur; simp [spl, Lib.join_one]
  | cons b l ih =>
    intro cur
    unfold spl
    by_cases hb : b = 46
    · subst hb
      rw [if_pos rfl, Lib.join_cons]
      have := ih []
      cases hs : spl [] l with
      | nil => exact absurd hs (spl_ne l [])
      | cons y r =>
        rw [hs, Lib.join_cons] at this
        simp only [Lib.joinTail, List.map_cons, List.flatten_cons]
        rw [List.append_assoc]
        simp only [Lib.joinTail, List.nil_append] at this
        rw [this]
        rfl
    · rw [if_neg hb, ih]
      simp
theorem splitL_data (s : ByteArray) : (splitL s).map (·.data.toList) = spl [] s.data.toList := by
  unfold splitL
  rw [Lib.splitB_data]
  exact splitK_spl _
theorem join_splitL (s : ByteArray) : joinL (splitL s) = s := by
  unfold joinL
  rw [splitL_data, join_spl]
  exact str_ext (by simp)
theorem map_data_inj {l m : List ByteArray} (h : l.map (·.data.toList) = m.map (·.data.toList)) : l = m := by
  induction l generalizing m with
  | nil => cases m with
    | nil => rfl
    | cons y m => cases h
  | cons x l ih => cases m with
    | nil => cases h
    | cons y m =>
      simp only [List.map_cons, List.cons.injEq] at h
      rw [str_ext h.1, ih h.2]
theorem drop_byte (s : ByteArray) (k : Nat) (h : k < s.size) : ∃ b : UInt8, s.data.toList.drop k = b :: s.data.toList.drop (k + 1) ∧ b.toNat = bAt s k ∧ (s.extract k (k + 1)).data.toList = [b] := by
  have h2 : k < s.data.toList.length := h
  have hd : s.data.toList.drop k = s.data.toList[k] :: s.data.toList.drop (k + 1) := List.drop_eq_getElem_cons h2
  refine ⟨s.data.toList[k], hd, ?_, ?_⟩
  · unfold bAt
    rw [List.getD_eq_getElem?_getD, List.getElem?_eq_getElem h2]
    rfl
  · rw [ByteArray.data_extract, Array.toList_extract, List.extract_eq_take_drop, hd]
    simp
theorem rsplit_empty (w : World) (s : ByteArray) (h : s.size = 0) : Calls Tryd.prog 11 #[.string s] w fun e w' => e = .returned (.slice none 0 0) ∧ w = w' := by
  have e0 := empty_true h
  clear h
  go_enter Tryd.func11, Tryd.ntmps11
  go_wp2_with fail
  go_ret
  exact ⟨rfl, rfl⟩

set_option maxRecDepth 100000 in
set_option maxHeartbeats 1000000 in
theorem rsplit_any (w : World) (s : ByteArray) (h0 : s.size ≠ 0) (hs : s.size ≤ 1000) :
    Calls Tryd.prog 11 #[.string s] w fun e w' => ∃ v, e = .returned v ∧ Only (fun _ => False) w w' ∧ Sl w' 1 v (splitL s).length ((splitL s).map .string) := by
  obtain ⟨i0, hi0, hz0, hz1, hz2⟩ := info_parts infoStr
  have e0 := empty_false h0
  have hL := splitL_data s
  generalize splitL s = R at *
  have HL := Lib.hid hL
  clear h0 hL
  go_enter Tryd.func11, Tryd.ntmps11
  go_wp2_with fail
  go_loopg [3, 4] s.size (fun g v3 v4 wx => ∃ (k : Nat) (D : List ByteArray) (c : ByteArray), v4 = .int .i64 k ∧ k ≤ s.size ∧ D.length ≤ k ∧ c.size ≤ k ∧ wx.ownsRow w.heap.size 9 1 v3 (D.length + 1) (D.map .string ++ [.string c]) ∧ Only (fun _ => False) w wx ∧ R.map (·.data.toList) = D.map (·.data.toList) ++ spl c.data.toList (s.data.toList.drop k) ∧ g = s.size - k)
  case atStart => exact ⟨0, [], ⟨#[]⟩, rfl, Nat.zero_le _, Nat.zero_le _, Nat.zero_le _, World.ownsRow_lit (base := w.heap.size) (size := 1) w #[.string ⟨#[]⟩] 1 (Nat.le_refl _) (by unfold maxLen; omega) rfl, (Only.refl _ _).alloc _, by rw [HL.out]; rfl, rfl⟩
  case round =>
    obtain ⟨k, D, c, rfl, hk, hDl, hcl, hown, ho, hR, hg⟩ := hrel
    have Hg := Lib.hid hg
    have HR := Lib.hid hR
    clear hg hR
    obtain ⟨g, cap, rfl, hg0, hg1⟩ := hown.form (by omega)
    by_cases hlt : k < s.size
    · obtain ⟨b, hb1, hb2, hb3⟩ := drop_byte s k hlt
      have hn : ((s[k]'hlt).toNat : Int) = (bAt s k : Int) := congrArg _ (bAt_get s k hlt)
      have hnl := bAt_lt s k
      have HB1 := Lib.hid hb1
      have HB3 := Lib.hid hb3
      clear hb1 hb3
      by_cases hdot : bAt s k = 46
      · have hbe : b = 46 := UInt8.toNat_inj.1 (by rw [hb2, hdot]; rfl)
        have e1 : (((bAt s k : Nat) : Int) == 46) = true := by simp; omega
        have HBE := Lib.hid hbe
        clear hbe hb2 hdot
        go_wp2_with (at_builtin; refine Wait.mk ?_)
        refine Wait.go (wpList_append_src _ rfl (.tmp 18) (.tmp 19) 23 23 rfl w.heap.size 9 i0 _ 1 16 Tryd.underlying23 hi0 hz0 hz1 hz2 rfl _ (D.length + 1) (D.map .string ++ [.string c]) rfl (hown.alloc _) _ 1 [.string ⟨#[]⟩] rfl ?src ?m ?b ?base ?_)
        case src => exact Src.ofSlice _ Tryd.underlying23 _ _ _ _ rfl (news_new _ _ _) (str_one [⟨#[]⟩])
        case m => unfold maxLen; omega
        case b => omega
        case base => have := ho.size; simp; omega
        intro v1 w5 own1 gr1 hv1
        have ho5 : Only (fun _ => False) w w5 := (ho.alloc _).grown gr1 (fun j e => .inl (hown.lt j e).1)
        go_wp2_with fail
        go_roundg (s.size - (k + 1))
        case measure => rw [Hg.out]; omega
        case rel =>
          refine ⟨k + 1, D ++ [c], ⟨#[]⟩, by go_num, by omega, by simp; omega, Nat.zero_le _, by simpa using own1, ho5, ?_, rfl⟩
          rw [HR.out, HB1.out, spl, if_pos HBE.out]
          simp
      · have hbe : b ≠ 46 := fun e => hdot (by rw [← hb2, e]; rfl)
        have e1 : (((bAt s k : Nat) : Int) == 46) = false := by simp; omega
        have HBE := Lib.hid hbe
        have hcell := hown.cellAt D.length (by omega)
        have hfroz := hown.frozenAt D.length
        have hcc : w.heap.size ≤ g := hg0
        rw [List.getElem?_append_right (by simp)] at hcell
        simp at hcell
        have hce := hown.stored D.length (.string (c ++ s.extract k (k + 1)))
        have HC := Lib.hid hce
        have hcs : (c ++ s.extract k (k + 1)).size ≤ k + 1 := by rw [ByteArray.size_append, ByteArray.size_extract]; omega
        clear hbe hb2 hdot hce
        have hk0 : IntKind.i64.wrap ((D.length : Int) + 1 - 1) = (D.length : Int) := by rw [IntKind.wrap_i64]; omega
        have hk0b : IntKind.i64.wrap (D.length : Int) = (D.length : Int) := by rw [IntKind.wrap_i64]; omega
        have hk1 : IntKind.i64.wrap ((k : Int) + 1) = (k : Int) + 1 := by rw [IntKind.wrap_i64]; omega
        have hk3 : (0 : Int) ≤ (k : Int) + 1 := by omega
        have hk4 : (k : Int) + 1 ≤ (s.size : Int) := by omega
        have hk5 : (k : Int) ≤ (k : Int) + 1 := by omega
        have hk7 : ((k : Int) + 1).toNat = k + 1 := by omega
        have hk8 : c.size + (s.extract k (k + 1)).size ≤ 2000 := by rw [ByteArray.size_extract]; omega
        go_wp2_with fail
        go_region
        go_wp2_with fail
        go_roundg (s.size - (k + 1))
        case measure => rw [Hg.out]; omega
        case rel =>
          have ho5 : Only (fun _ => False) w (wr.setCell ⟨g, D.length, none⟩ (.string (c ++ s.extract k (k + 1)))).drew := (ho.setCell (.inl hcc) _).drew
          refine ⟨k + 1, D, c ++ s.extract k (k + 1), by go_num, by omega, by omega, hcs, ?_, ho5, ?_, rfl⟩
          · have h1 := owns_kept (HC.out).1 ((Only.refl (fun _ => False) _).drew) (fun _ _ => id)
            simpa using h1
          · rw [HR.out, HB1.out, spl, if_neg HBE.out, ByteArray.data_append, Array.toList_append, HB3.out]
    · have hkl : R = D ++ [c] := by
        apply map_data_inj
        rw [HR.out, List.drop_eq_nil_of_le (by show s.size ≤ k; omega)]
        simp [spl]
      have HK := Lib.hid hkl
      clear hkl
      go_wp2_with fail
      go_ret
      exact ⟨_, rfl, ho, by rw [HK.out]; simpa using Sl.of_owns hown⟩
end Go.Proofs.YtfgkljjiopohgaaDoor
