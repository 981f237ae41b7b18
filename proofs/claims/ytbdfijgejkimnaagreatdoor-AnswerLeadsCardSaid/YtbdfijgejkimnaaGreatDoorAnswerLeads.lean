/- AnswerLeads is true of every input: each service of a store of any records is found by its name, and its Target leads to its address. No condition; the package variables that it names are tied to the text. -/
import Derived.Test.YtbdfijgejkimnaaGreatDoorNI
import Derived.Test.YtbdfijgejkimnaaGreatDoorNN
import Derived.Test.YtbdfijgejkimnaaGreatDoorNA
import Derived.Test.YtbdfijgejkimnaaGreatDoorNB
import Derived.Lib.SplitLaws
import Derived.Laws.OwnMore
import Derived.Deep.AppendLies
import Derived.Test.YtbdfijgejkimnaaGreatDoorNP
import Derived.Test.YtbdfijgejkimnaaGreatDoorNF
import Derived.Test.YtbdfijgejkimnaaGreatDoorNQ
import Derived.ChangeMaps5
import Derived.Test.YtbdfijgejkimnaaGreatDoorCards
import Derived.Test.YtbdfijgejkimnaaGreatDoorTie
/-! What the Answer laws share: bounds of made (the same as in Lw5, Rf2, Rf5: never imported beside those). -/
namespace Go.Proofs.YtbdfijgejkimnaaGreatDoor
open Go.Conc Go.RowKit Go.Maps

theorem mem_ins_or {x y : RecT} : ∀ {L : List RecT}, y ∈ insS x L → y = x ∨ y ∈ L
  | [], h => by simp [insS] at h; exact .inl h
  | z :: L, h => by
    unfold insS at h
    split at h
    · rcases List.mem_cons.1 h with h | h
      · exact .inl h
      · exact .inr (List.mem_cons_of_mem _ h)
    · split at h
      · rcases List.mem_cons.1 h with h | h
        · exact .inl h
        · exact .inr h
      · rcases List.mem_cons.1 h with h | h
        · exact .inr (by rw [h]; exact List.mem_cons_self)
        · rcases mem_ins_or h with h | h
          · exact .inl h
          · exact .inr (List.mem_cons_of_mem _ h)
theorem made_bd (l : List RecB) : ∀ k, ∀ x ∈ made25 l k, x.ver < 2 ^ 64 := by
  intro k
  unfold made25
  generalize l.take k = t
  have : ∀ (M : List RecT) (A : List RecB), (∀ x ∈ M, x.ver < 2 ^ 64) → ∀ x ∈ (A.map rec25).foldl (putS 48 100) M, x.ver < 2 ^ 64 := by
    intro M A
    induction A generalizing M with
    | nil => intro h; exact h
    | cons a A ih =>
      intro h
      rw [List.map_cons, List.foldl_cons]
      refine ih _ (fun x hx => ?_)
      unfold putS at hx
      split at hx
      · rcases mem_ins_or hx with rfl | hx
        · exact (rec25_bd a).1
        · exact h x hx
      · exact h x hx
  exact this [] t (fun x hx => by cases hx)
theorem tell_of {ttl : Int} {x : RecT} (hg : goodR x = true ∧ x.age < ttl) (hv : x.ver < 2 ^ 64) (h : x.gone = false) : TellOk ttl x := ⟨hg.1, h, hg.2, hv⟩
theorem head_bytes (m : ByteArray) : (headD m).resp = decide (128 ≤ bA m 2) ∧ (headD m).op = bA m 2 / 8 % 16 := by
  have h2 := bA_lt m 2
  have h3 := bA_lt m 3
  constructor
  · show decide (gA m 2 / 32768 % 2 = 1) = _
    rw [Bool.eq_iff_iff, decide_eq_true_iff, decide_eq_true_iff]
    show (bA m 2 * 256 + bA m 3) / 32768 % 2 = 1 ↔ _
    omega
  · show (bA m 2 * 256 + bA m 3) / 2048 % 16 = _
    omega
theorem fin_facts {ttl : Int} {L : List RecT} (q : QT) (code : Nat) (hc : code ≤ 15) (hask : code = 0 → q.asked = true) (ht : ttl ≤ 65535) (hl : L.length ≤ 48) (hL : ∀ x ∈ L, x.gone = false → TellOk ttl x) (hn : ∀ x ∈ L, 1 ≤ x.o ∧ x.o ≤ 65535) :
    (∀ r ∈ (finL ttl L (q, code)).1, RROk r) ∧ (finL ttl L (q, code)).1.length ≤ 1000 ∧ (finL ttl L (q, code)).2 ≤ 15 ∧ (q.asked = true ∨ (finL ttl L (q, code)).1 = []) := by
  unfold finL
  dsimp only
  by_cases h : code = 0
  · rw [if_pos h]
    refine ⟨look_ok ht hL hn, ?_, ?_, .inl (hask h)⟩
    · have := look_len ttl L (q.name.map foldS) q.typ
      dsimp only
      omega
    · dsimp only
      split <;> omega
  · rw [if_neg h]
    refine ⟨fun r hr => ?_, Nat.zero_le _, hc, .inr rfl⟩
    cases hr
end Go.Proofs.YtbdfijgejkimnaaGreatDoor
/-! The reference's Split is strings.Split at the full stop; put together it is the text. -/
namespace Go.Proofs.YtbdfijgejkimnaaGreatDoor
open Go.Conc Go.RowKit

theorem spl_ne (l : List UInt8) : ∀ cur, spl cur l ≠ [] := by
  induction l with
  | nil => intro cur h; cases h
  | cons b l ih =>
    intro cur h
    unfold spl at h
    split at h
    · cases h
    · exact ih _ h
theorem join_spl (l : List UInt8) : ∀ cur, Lib.join (spl cur l) [46] = cur ++ l := by
  induction l with
  | nil => intro cur; simp [spl, Lib.join_one]
  | cons b l ih =>
    intro cur
    unfold spl
    by_cases hb : b = 46
    · subst hb
      rw [if_pos rfl, Lib.join_cons]
      have := ih []
      cases hs : spl [] l with
      | nil => exact absurd hs (spl_ne l [])
      | cons y r =>
        rw [hs, Lib.join_cons] at this
        simp only [Lib.joinTail, List.map_cons, List.flatten_cons]
        rw [List.append_assoc]
        simp only [Lib.joinTail, List.nil_append] at this
        rw [this]
        rfl
    · rw [if_neg hb, ih]
      simp
theorem join_splitL (s : ByteArray) : joinL (splitL s) = s := by
  unfold joinL
  rw [splitL_data, join_spl]
  exact str_ext (by simp)
theorem map_data_inj {l m : List ByteArray} (h : l.map (·.data.toList) = m.map (·.data.toList)) : l = m := by
  induction l generalizing m with
  | nil => cases m with
    | nil => rfl
    | cons y m => cases h
  | cons x l ih => cases m with
    | nil => cases h
    | cons y m =>
      simp only [List.map_cons, List.cons.injEq] at h
      rw [str_ext h.1, ih h.2]
theorem drop_byte (s : ByteArray) (k : Nat) (h : k < s.size) : ∃ b : UInt8, s.data.toList.drop k = b :: s.data.toList.drop (k + 1) ∧ b.toNat = bAt s k ∧ (s.extract k (k + 1)).data.toList = [b] := by
  have h2 : k < s.data.toList.length := h
  have hd : s.data.toList.drop k = s.data.toList[k] :: s.data.toList.drop (k + 1) := List.drop_eq_getElem_cons h2
  refine ⟨s.data.toList[k], hd, ?_, ?_⟩
  · unfold bAt
    rw [List.getD_eq_getElem?_getD, List.getElem?_eq_getElem h2]
    rfl
  · rw [ByteArray.data_extract, Array.toList_extract, List.extract_eq_take_drop, hd]
    simp
theorem rsplit_empty (w : World) (s : ByteArray) (h : s.size = 0) : Calls Tryz.prog 23 #[.string s] w fun e w' => e = .returned (.slice none 0 0) ∧ w = w' := by
  have e0 := empty_true h
  clear h
  go_enter Tryz.func23, Tryz.ntmps23
  go_wp2_with fail
  go_ret
  exact ⟨rfl, rfl⟩

set_option maxRecDepth 100000 in
set_option maxHeartbeats 1000000 in
theorem rsplit_any (w : World) (s : ByteArray) (h0 : s.size ≠ 0) (hs : s.size ≤ 1000) :
    Calls Tryz.prog 23 #[.string s] w fun e w' => ∃ v, e = .returned v ∧ Only (fun _ => False) w w' ∧ Sl w' 1 v (splitL s).length ((splitL s).map .string) := by
  obtain ⟨i0, hi0, hz0, hz1, hz2⟩ := info_parts infoStr
  have e0 := empty_false h0
  have hL := splitL_data s
  generalize splitL s = R at *
  have HL := Lib.hid hL
  clear h0 hL
  go_enter Tryz.func23, Tryz.ntmps23
  go_wp2_with fail
  go_loopg [3, 4] s.size (fun g v3 v4 wx => ∃ (k : Nat) (D : List ByteArray) (c : ByteArray), v4 = .int .i64 k ∧ k ≤ s.size ∧ D.length ≤ k ∧ c.size ≤ k ∧ wx.ownsRow w.heap.size 9 1 v3 (D.length + 1) (D.map .string ++ [.string c]) ∧ Only (fun _ => False) w wx ∧ R.map (·.data.toList) = D.map (·.data.toList) ++ spl c.data.toList (s.data.toList.drop k) ∧ g = s.size - k)
  case atStart => exact ⟨0, [], ⟨#[]⟩, rfl, Nat.zero_le _, Nat.zero_le _, Nat.zero_le _, World.ownsRow_lit (base := w.heap.size) (size := 1) w #[.string ⟨#[]⟩] 1 (Nat.le_refl _) (by unfold maxLen; omega) rfl, (Only.refl _ _).alloc _, by rw [HL.out]; rfl, rfl⟩
  case round =>
    obtain ⟨k, D, c, rfl, hk, hDl, hcl, hown, ho, hR, hg⟩ := hrel
    have Hg := Lib.hid hg
    have HR := Lib.hid hR
    clear hg hR
    obtain ⟨g, cap, rfl, hg0, hg1⟩ := hown.form (by omega)
    by_cases hlt : k < s.size
    · obtain ⟨b, hb1, hb2, hb3⟩ := drop_byte s k hlt
      have hn : ((s[k]'hlt).toNat : Int) = (bAt s k : Int) := congrArg _ (bAt_get s k hlt)
      have hnl := bAt_lt s k
      have HB1 := Lib.hid hb1
      have HB3 := Lib.hid hb3
      clear hb1 hb3
      by_cases hdot : bAt s k = 46
      · have hbe : b = 46 := UInt8.toNat_inj.1 (by rw [hb2, hdot]; rfl)
        have e1 : (((bAt s k : Nat) : Int) == 46) = true := by simp; omega
        have HBE := Lib.hid hbe
        clear hbe hb2 hdot
        go_wp2_with (at_builtin; refine Wait.mk ?_)
        refine Wait.go (wpList_append_src _ rfl (.tmp 18) (.tmp 19) 34 34 rfl w.heap.size 9 i0 _ 1 16 Tryz.underlying34 hi0 hz0 hz1 hz2 rfl _ (D.length + 1) (D.map .string ++ [.string c]) rfl (hown.alloc _) _ 1 [.string ⟨#[]⟩] rfl ?src ?m ?b ?base ?_)
        case src => exact Src.ofSlice _ Tryz.underlying34 _ _ _ _ rfl (news_new _ _ _) (str_one [⟨#[]⟩])
        case m => unfold maxLen; omega
        case b => omega
        case base => have := ho.size; simp; omega
        intro v1 w5 own1 gr1 hv1
        have ho5 : Only (fun _ => False) w w5 := (ho.alloc _).grown gr1 (fun j e => .inl (hown.lt j e).1)
        go_wp2_with fail
        go_roundg (s.size - (k + 1))
        case measure => rw [Hg.out]; omega
        case rel =>
          refine ⟨k + 1, D ++ [c], ⟨#[]⟩, by go_num, by omega, by simp; omega, Nat.zero_le _, by simpa using own1, ho5, ?_, rfl⟩
          rw [HR.out, HB1.out, spl, if_pos HBE.out]
          simp
      · have hbe : b ≠ 46 := fun e => hdot (by rw [← hb2, e]; rfl)
        have e1 : (((bAt s k : Nat) : Int) == 46) = false := by simp; omega
        have HBE := Lib.hid hbe
        have hcell := hown.cellAt D.length (by omega)
        have hfroz := hown.frozenAt D.length
        have hcc : w.heap.size ≤ g := hg0
        rw [List.getElem?_append_right (by simp)] at hcell
        simp at hcell
        have hce := hown.stored D.length (.string (c ++ s.extract k (k + 1)))
        have HC := Lib.hid hce
        have hcs : (c ++ s.extract k (k + 1)).size ≤ k + 1 := by rw [ByteArray.size_append, ByteArray.size_extract]; omega
        clear hbe hb2 hdot hce
        have hk0 : IntKind.i64.wrap ((D.length : Int) + 1 - 1) = (D.length : Int) := by rw [IntKind.wrap_i64]; omega
        have hk0b : IntKind.i64.wrap (D.length : Int) = (D.length : Int) := by rw [IntKind.wrap_i64]; omega
        have hk1 : IntKind.i64.wrap ((k : Int) + 1) = (k : Int) + 1 := by rw [IntKind.wrap_i64]; omega
        have hk3 : (0 : Int) ≤ (k : Int) + 1 := by omega
        have hk4 : (k : Int) + 1 ≤ (s.size : Int) := by omega
        have hk5 : (k : Int) ≤ (k : Int) + 1 := by omega
        have hk7 : ((k : Int) + 1).toNat = k + 1 := by omega
        have hk8 : c.size + (s.extract k (k + 1)).size ≤ 2000 := by rw [ByteArray.size_extract]; omega
        go_wp2_with fail
        go_region
        go_wp2_with fail
        go_roundg (s.size - (k + 1))
        case measure => rw [Hg.out]; omega
        case rel =>
          have ho5 : Only (fun _ => False) w (wr.setCell ⟨g, D.length, none⟩ (.string (c ++ s.extract k (k + 1)))).drew := (ho.setCell (.inl hcc) _).drew
          refine ⟨k + 1, D, c ++ s.extract k (k + 1), by go_num, by omega, by omega, hcs, ?_, ho5, ?_, rfl⟩
          · have h1 := owns_kept (HC.out).1 ((Only.refl (fun _ => False) _).drew) (fun _ _ => id)
            simpa using h1
          · rw [HR.out, HB1.out, spl, if_neg HBE.out, ByteArray.data_append, Array.toList_append, HB3.out]
    · have hkl : R = D ++ [c] := by
        apply map_data_inj
        rw [HR.out, List.drop_eq_nil_of_le (by show s.size ≤ k; omega)]
        simp [spl]
      have HK := Lib.hid hkl
      clear hkl
      go_wp2_with fail
      go_ret
      exact ⟨_, rfl, ho, by rw [HK.out]; simpa using Sl.of_owns hown⟩
end Go.Proofs.YtbdfijgejkimnaaGreatDoor
/-! The reference's Split: its labels in a row of its own. -/
namespace Go.Proofs.YtbdfijgejkimnaaGreatDoor
open Go.Conc Go.RowKit

set_option maxRecDepth 100000 in
set_option maxHeartbeats 2000000 in
theorem rsplit_own (w : World) (s : ByteArray) (h0 : s.size ≠ 0) (hs : s.size ≤ 1000) :
    Calls Tryz.prog 23 #[.string s] w fun e w' => ∃ v, e = .returned v ∧ Only (fun _ => False) w w' ∧ w'.ownsRow w.heap.size 9 1 v (splitL s).length ((splitL s).map .string) := by
  obtain ⟨i0, hi0, hz0, hz1, hz2⟩ := info_parts infoStr
  have e0 := empty_false h0
  have hL := splitL_data s
  generalize splitL s = R at *
  have HL := Lib.hid hL
  clear h0 hL
  go_enter Tryz.func23, Tryz.ntmps23
  go_wp2_with fail
  go_loopg [3, 4] s.size (fun g v3 v4 wx => ∃ (k : Nat) (D : List ByteArray) (c : ByteArray), v4 = .int .i64 k ∧ k ≤ s.size ∧ D.length ≤ k ∧ c.size ≤ k ∧ wx.ownsRow w.heap.size 9 1 v3 (D.length + 1) (D.map .string ++ [.string c]) ∧ Only (fun _ => False) w wx ∧ R.map (·.data.toList) = D.map (·.data.toList) ++ spl c.data.toList (s.data.toList.drop k) ∧ g = s.size - k)
  case atStart => exact ⟨0, [], ⟨#[]⟩, rfl, Nat.zero_le _, Nat.zero_le _, Nat.zero_le _, World.ownsRow_lit (base := w.heap.size) (size := 1) w #[.string ⟨#[]⟩] 1 (Nat.le_refl _) (by unfold maxLen; omega) rfl, (Only.refl _ _).alloc _, by rw [HL.out]; rfl, rfl⟩
  case round =>
    obtain ⟨k, D, c, rfl, hk, hDl, hcl, hown, ho, hR, hg⟩ := hrel
    have Hg := Lib.hid hg
    have HR := Lib.hid hR
    clear hg hR
    obtain ⟨g, cap, rfl, hg0, hg1⟩ := hown.form (by omega)
    by_cases hlt : k < s.size
    · obtain ⟨b, hb1, hb2, hb3⟩ := drop_byte s k hlt
      have hn : ((s[k]'hlt).toNat : Int) = (bAt s k : Int) := congrArg _ (bAt_get s k hlt)
      have hnl := bAt_lt s k
      have HB1 := Lib.hid hb1
      have HB3 := Lib.hid hb3
      clear hb1 hb3
      by_cases hdot : bAt s k = 46
      · have hbe : b = 46 := UInt8.toNat_inj.1 (by rw [hb2, hdot]; rfl)
        have e1 : (((bAt s k : Nat) : Int) == 46) = true := by simp; omega
        have HBE := Lib.hid hbe
        clear hbe hb2 hdot
        go_wp2_with (at_builtin; refine Wait.mk ?_)
        refine Wait.go (wpList_append_src _ rfl (.tmp 18) (.tmp 19) 34 34 rfl w.heap.size 9 i0 _ 1 16 Tryz.underlying34 hi0 hz0 hz1 hz2 rfl _ (D.length + 1) (D.map .string ++ [.string c]) rfl (hown.alloc _) _ 1 [.string ⟨#[]⟩] rfl ?src ?m ?b ?base ?_)
        case src => exact Src.ofSlice _ Tryz.underlying34 _ _ _ _ rfl (news_new _ _ _) (str_one [⟨#[]⟩])
        case m => unfold maxLen; omega
        case b => omega
        case base => have := ho.size; simp; omega
        intro v1 w5 own1 gr1 hv1
        have ho5 : Only (fun _ => False) w w5 := (ho.alloc _).grown gr1 (fun j e => .inl (hown.lt j e).1)
        go_wp2_with fail
        go_roundg (s.size - (k + 1))
        case measure => rw [Hg.out]; omega
        case rel =>
          refine ⟨k + 1, D ++ [c], ⟨#[]⟩, by go_num, by omega, by simp; omega, Nat.zero_le _, by simpa using own1, ho5, ?_, rfl⟩
          rw [HR.out, HB1.out, spl, if_pos HBE.out]
          simp
      · have hbe : b ≠ 46 := fun e => hdot (by rw [← hb2, e]; rfl)
        have e1 : (((bAt s k : Nat) : Int) == 46) = false := by simp; omega
        have HBE := Lib.hid hbe
        have hcell := hown.cellAt D.length (by omega)
        have hfroz := hown.frozenAt D.length
        have hcc : w.heap.size ≤ g := hg0
        rw [List.getElem?_append_right (by simp)] at hcell
        simp at hcell
        have hce := hown.stored D.length (.string (c ++ s.extract k (k + 1)))
        have HC := Lib.hid hce
        have hcs : (c ++ s.extract k (k + 1)).size ≤ k + 1 := by rw [ByteArray.size_append, ByteArray.size_extract]; omega
        clear hbe hb2 hdot hce
        have hk0 : IntKind.i64.wrap ((D.length : Int) + 1 - 1) = (D.length : Int) := by rw [IntKind.wrap_i64]; omega
        have hk0b : IntKind.i64.wrap (D.length : Int) = (D.length : Int) := by rw [IntKind.wrap_i64]; omega
        have hk1 : IntKind.i64.wrap ((k : Int) + 1) = (k : Int) + 1 := by rw [IntKind.wrap_i64]; omega
        have hk3 : (0 : Int) ≤ (k : Int) + 1 := by omega
        have hk4 : (k : Int) + 1 ≤ (s.size : Int) := by omega
        have hk5 : (k : Int) ≤ (k : Int) + 1 := by omega
        have hk7 : ((k : Int) + 1).toNat = k + 1 := by omega
        have hk8 : c.size + (s.extract k (k + 1)).size ≤ 2000 := by rw [ByteArray.size_extract]; omega
        go_wp2_with fail
        go_region
        go_wp2_with fail
        go_roundg (s.size - (k + 1))
        case measure => rw [Hg.out]; omega
        case rel =>
          have ho5 : Only (fun _ => False) w (wr.setCell ⟨g, D.length, none⟩ (.string (c ++ s.extract k (k + 1)))).drew := (ho.setCell (.inl hcc) _).drew
          refine ⟨k + 1, D, c ++ s.extract k (k + 1), by go_num, by omega, by omega, hcs, ?_, ho5, ?_, rfl⟩
          · have h1 := owns_kept (HC.out).1 ((Only.refl (fun _ => False) _).drew) (fun _ _ => id)
            simpa using h1
          · rw [HR.out, HB1.out, spl, if_neg HBE.out, ByteArray.data_append, Array.toList_append, HB3.out]
    · have hkl : R = D ++ [c] := by
        apply map_data_inj
        rw [HR.out, List.drop_eq_nil_of_le (by show s.size ≤ k; omega)]
        simp [spl]
      have HK := Lib.hid hkl
      clear hkl
      go_wp2_with fail
      go_ret
      exact ⟨_, rfl, ho, by rw [HK.out]; simpa using hown⟩
end Go.Proofs.YtbdfijgejkimnaaGreatDoor
/-! AnswerLeads: the plain facts. -/
namespace Go.Proofs.YtbdfijgejkimnaaGreatDoor
open Go.Conc Go.RowKit Go.Maps

theorem made_form {l : List RecB} (hb : ∀ a ∈ l, rowB a) : ∀ k, ∀ x ∈ made25 l k, ∃ a, rowB a ∧ x = rec25 a := by
  intro k
  unfold made25
  have ht : ∀ a ∈ l.take k, rowB a := fun a ha => hb a (List.mem_of_mem_take ha)
  generalize l.take k = t at *
  have : ∀ (A : List RecB) (M : List RecT), (∀ a ∈ A, rowB a) → (∀ x ∈ M, ∃ a, rowB a ∧ x = rec25 a) → ∀ x ∈ (A.map rec25).foldl (putS 48 100) M, ∃ a, rowB a ∧ x = rec25 a := by
    intro A
    induction A with
    | nil => intro M _ h; exact h
    | cons a A ih =>
      intro M hA h
      rw [List.map_cons, List.foldl_cons]
      refine ih _ (fun b hb => hA b (List.mem_cons_of_mem _ hb)) (fun x hx => ?_)
      unfold putS at hx
      split at hx
      · rcases mem_ins_or hx with rfl | hx
        · exact ⟨a, hA a List.mem_cons_self, rfl⟩
        · exact h x hx
      · exact h x hx
  exact this t [] ht (fun x hx => by cases hx)
def lab25 : Nat → List ByteArray
  | 0 => [⟨#[119, 101, 98]⟩]
  | 1 => [⟨#[100, 98]⟩]
  | 2 => [⟨#[97]⟩, ⟨#[98]⟩]
  | 3 => [⟨#[55]⟩, nodeS]
  | _ => [⟨#[120]⟩]
theorem lab25_split (n : Nat) (h : n < 5) : splitL (nm25 n) = lab25 n := by
  rcases (by omega : n = 0 ∨ n = 1 ∨ n = 2 ∨ n = 3 ∨ n = 4) with rfl | rfl | rfl | rfl | rfl <;> kernel_rfl
theorem lab25_fold (n : Nat) (h : n < 5) : (lab25 n ++ [bellS]).map foldS = lab25 n ++ [bellS] := by
  rcases (by omega : n = 0 ∨ n = 1 ∨ n = 2 ∨ n = 3 ∨ n = 4) with rfl | rfl | rfl | rfl | rfl <;> kernel_rfl
theorem lab25_node (n : Nat) (h : n < 5) : nodeM (lab25 n ++ [bellS]) = if n = 3 then 7 else 0 := by
  rcases (by omega : n = 0 ∨ n = 1 ∨ n = 2 ∨ n = 3 ∨ n = 4) with rfl | rfl | rfl | rfl | rfl <;> kernel_rfl
theorem lab25_serv (n : Nat) (h : n < 5) (h3 : n ≠ 3) : servM (lab25 n ++ [bellS]) = nm25 n := by
  rcases (by omega : n = 0 ∨ n = 1 ∨ n = 2 ∨ n = 3 ∨ n = 4) with rfl | rfl | rfl | rfl | rfl
  · kernel_rfl
  · kernel_rfl
  · kernel_rfl
  · exact absurd rfl h3
  · kernel_rfl
theorem nm25_ne (n : Nat) (h : n < 5) : nm25 n ≠ ⟨#[]⟩ ∧ (n ≠ 3 → nm25 n ≠ nm25 3) := by
  rcases (by omega : n = 0 ∨ n = 1 ∨ n = 2 ∨ n = 3 ∨ n = 4) with rfl | rfl | rfl | rfl | rfl
  · exact ⟨by decide, fun _ => by decide⟩
  · exact ⟨by decide, fun _ => by decide⟩
  · exact ⟨by decide, fun _ => by decide⟩
  · exact ⟨by decide, fun h => absurd rfl h⟩
  · exact ⟨by decide, fun _ => by decide⟩
theorem key_back (o : Int) (nm : ByteArray) : (keyB o nm).extract 2 (keyB o nm).size = nm := by
  rw [keyB_size]
  unfold keyB
  apply str_ext
  rw [ByteArray.data_extract, Array.toList_extract, ByteArray.data_append, Array.toList_append]
  have h2 : (bytesOf [o / 256, o % 256]).data.toList.length = 2 := rfl
  have hn : nm.data.toList.length = nm.size := rfl
  simp [h2]
  exact List.take_of_length_le (Nat.le_of_eq hn)
theorem rec25_split {a : RecB} (hg : goodR (rec25 a) = true) : splitS (rec25 a).key = nm25 (a.nm % 5) := by
  obtain ⟨_, _, h⟩ := good_split hg
  rw [h]
  exact key_back _ _
theorem rec25_one {L : List RecT} (hr : Rising L) {x y : RecT} (hx : x ∈ L) (hy : y ∈ L) {a b : RecB} (ha : x = rec25 a) (hb : y = rec25 b) (ho : y.o = x.o) (hn : nm25 (b.nm % 5) = nm25 (a.nm % 5)) : y = x := by
  have hk : y.key = x.key := by
    rw [ha, hb] at ho ⊢
    show keyB (1 + (b.org % 9 : Nat)) (nm25 (b.nm % 5)) = keyB (1 + (a.org % 9 : Nat)) (nm25 (a.nm % 5))
    rw [hn]
    congr 1
  have h1 := findS_mem hr hx
  have h2 := findS_mem hr hy
  rw [hk, h1] at h2
  exact (Option.some.inj h2).symm
theorem fold_has (ttl : Int) : ∀ (H : List RecT) (E : List RR), (∀ a, hasA E a = true → hasA (H.foldl (addA ttl) E) a = true) ∧ (∀ x ∈ H, hasA (H.foldl (addA ttl) E) (addrOf x) = true)
  | [], E => ⟨fun _ h => h, fun x hx => by cases hx⟩
  | y :: H, E => by
    rw [List.foldl_cons]
    obtain ⟨h1, h2⟩ := fold_has ttl H (addA ttl E y)
    have h3 : ∀ a, hasA E a = true → hasA (addA ttl E y) a = true := by
      intro a ha
      unfold addA
      split
      · exact ha
      · unfold hasA at ha ⊢
        rw [List.any_append, ha, Bool.true_or]
    have h4 : hasA (addA ttl E y) (addrOf y) = true := by
      unfold addA
      split
      · assumption
      · unfold hasA rrA
        rw [List.any_append]
        simp
    refine ⟨fun a ha => h1 a (h3 a ha), fun x hx => ?_⟩
    rcases List.mem_cons.1 hx with rfl | hx
    · exact h1 _ h4
    · exact h2 x hx
theorem addrs_has {ttl : Int} {H : List RecT} {x : RecT} (h : x ∈ H) : hasA (addrsM ttl H) (addrOf x) = true := (fold_has ttl H []).2 x h
theorem foldU_digit {c : UInt8} (h : digitB c = true) : foldU c = c := by
  have h2 := digitB_iff.1 h
  unfold foldU
  rw [if_neg (by omega)]
theorem foldS_itoa (n : Nat) : foldS (itoaB n) = itoaB n := by
  apply str_ext
  rw [foldS_data, itoaB_data]
  have h := List.all_eq_true.1 (dec_all n)
  conv => rhs; rw [← List.map_id (Lib.decDigits n)]
  exact List.map_congr_left (fun c hc => foldU_digit (h c hc))
theorem tgt_fold (n : Nat) : (tgtL n).map foldS = tgtL n := by
  have e1 : foldS nodeS = nodeS := by kernel_rfl
  have e2 : foldS bellS = bellS := by kernel_rfl
  unfold tgtL
  rw [List.map_cons, List.map_cons, List.map_cons, List.map_nil, foldS_itoa, e1, e2]
theorem tgt_inj {n k : Nat} (h : tgtL n = tgtL k) : n = k := by
  unfold tgtL at h
  injection h with h1 _
  exact itoaB_inj h1
/-- The records that a service's name finds. -/
theorem held_serv {L : List RecT} {n : Nat} (h : n < 5) (h3 : n ≠ 3) : heldM L ((lab25 n ++ [bellS]).map foldS) = L.filter (fun x => !unnamed (nm25 n) x) := by
  rw [lab25_fold n h]
  unfold heldM
  rw [lab25_node n h, if_neg h3, if_neg (by omega), lab25_serv n h h3, if_neg (nm25_ne n h).1]
theorem look_serv {ttl : Int} {L : List RecT} {n : Nat} (h : n < 5) (h3 : n ≠ 3) : lookM ttl L ((lab25 n ++ [bellS]).map foldS) 33 = (L.filter (fun x => !unnamed (nm25 n) x)).map (rrS ttl) := by
  unfold lookM
  rw [if_neg (by decide), held_serv h h3, lab25_fold n h, lab25_node n h, if_neg h3, if_pos ⟨rfl, rfl⟩]
theorem look_seven {ttl : Int} {L : List RecT} : lookM ttl L ((lab25 3 ++ [bellS]).map foldS) 33 = [] := by
  unfold lookM
  rw [if_neg (by decide), lab25_fold 3 (by decide), lab25_node 3 (by decide), if_neg (by decide)]
theorem look_tgt {ttl : Int} {L : List RecT} {n : Nat} (h1 : 1 ≤ n) (h2 : n ≤ 65535) : lookM ttl L ((tgtL n).map foldS) 1 = addrsM ttl (L.filter (fun x => !offO n x)) ∧ heldM L ((tgtL n).map foldS) = L.filter (fun x => !offO n x) := by
  rw [tgt_fold]
  have e : heldM L (tgtL n) = L.filter (fun x => !offO n x) := by
    unfold heldM
    rw [nodeM_tgt h1 h2, if_pos (by omega)]
  unfold lookM
  rw [if_pos rfl, e]
  exact ⟨rfl, rfl⟩
/-- What is known of a record of the store that isn't gone. -/
theorem lead_facts {l : List RecB} (hb : ∀ a ∈ l, rowB a) {L : List RecT} (hL : L = made25 l 50) (hok : StoreOk 48 100 L) {x : RecT} (hx : x ∈ L) :
    ∃ (a : RecB) (n o : Nat), n = a.nm % 5 ∧ n < 5 ∧ x = rec25 a ∧ x.key.extract 2 x.key.size = nm25 n ∧ 2 ≤ x.key.size ∧ x.o = o ∧ 1 ≤ o ∧ o ≤ 65535 ∧ 0 ≤ x.age ∧ x.age < 100 ∧
      (x.gone = false → x.data.size = 10 ∧ x ∈ L.filter (fun y => !unnamed (nm25 n) y) ∧ x ∈ L.filter (fun y => !offO (o : Int) y) ∧ ∀ y ∈ L.filter (fun y => !unnamed (nm25 n) y), y.o = x.o → y = x) := by
  subst hL
  obtain ⟨a, ha, rfl⟩ := made_form hb 50 x hx
  have hg := (hok.goods _ hx).1
  refine ⟨a, a.nm % 5, 1 + a.org % 9, rfl, Nat.mod_lt _ (by decide), rfl, key_back _ _, ?_, ?_, by omega, by omega, ?_, (hok.goods _ hx).2, fun hgo => ?_⟩
  · show 2 ≤ (keyB _ _).size
    rw [keyB_size]
    omega
  · show (1 + ((a.org % 9 : Nat) : Int)) = ((1 + a.org % 9 : Nat) : Int)
    omega
  · show 0 ≤ ((a.age % 90 : Nat) : Int)
    omega
  · have hgo2 : a.gone = false := hgo
    have hun : ∀ y, (!unnamed (nm25 (a.nm % 5)) y) = true ↔ splitS y.key = nm25 (a.nm % 5) ∧ y.gone = false := by
      intro y
      unfold unnamed
      cases y.gone <;> simp
    refine ⟨?_, List.mem_filter.2 ⟨hx, (hun _).2 ⟨rec25_split hg, hgo⟩⟩, List.mem_filter.2 ⟨hx, ?_⟩, fun y hy ho => ?_⟩
    · show (data25 a).size = 10
      unfold data25
      rw [hgo2]
      rfl
    · unfold offO
      rw [hgo]
      have : (rec25 a).o = ((1 + a.org % 9 : Nat) : Int) := by show (1 + ((a.org % 9 : Nat) : Int)) = _; omega
      rw [this]
      simp
    · obtain ⟨hy1, hy2⟩ := List.mem_filter.1 hy
      obtain ⟨b, _, rfl⟩ := made_form hb 50 y hy1
      have hs := ((hun _).1 hy2).1
      rw [rec25_split (hok.goods _ hy1).1] at hs
      exact rec25_one hok.rises hx hy1 rfl rfl ho hs
end Go.Proofs.YtbdfijgejkimnaaGreatDoor
/-! AnswerLeads: the walk. -/
namespace Go.Proofs.YtbdfijgejkimnaaGreatDoor
open Go.Conc Go.RowKit Go.Maps

/-- Was a record of that origin among the first k? -/
def foundK (H : List RecT) (o : Int) (k : Nat) : Bool := (H.take k).any (fun y => decide (y.o = o))
theorem foundK_snoc (H : List RecT) (o : Int) (k : Nat) (hk : k < H.length) : foundK H o (k + 1) = (foundK H o k || decide (H[k].o = o)) := by
  unfold foundK
  rw [List.take_add_one, List.getElem?_eq_getElem hk, Option.toList_some, List.any_append]
  simp
set_option maxRecDepth 100000 in
set_option maxHeartbeats 4000000 in
theorem leads25_any (w : World) (m : Int) (hE : EnvW w m) (v : Value) (l : List RecB) (at_ : Nat) (hl : Sl w 6 v l.length (l.flatMap recBC)) (hb : ∀ a ∈ l, rowB a) (hat : at_ < 256) :
    Calls Tryz.prog 7 #[v, .int .u8 at_] w fun e w' => e = .returned (.bool true) ∧ Only (fun _ => False) w w' := by
  obtain ⟨i0, hi0, hz0, hz1, hz2⟩ := info_parts infoStr25
  have hsp := speaks25_any w m hE
  have hmade := fun W (ho : Only (fun _ => False) w W) => made25_any W m (hE.new ho).max v l (hl.new ho) hb
  obtain ⟨_, va, vc, rfl, _⟩ := id hl
  have HSP := Lib.hid hsp
  have HMADE := Lib.hid hmade
  have HE := Lib.hid hE
  have HBB := Lib.hid hb
  clear hsp hmade hE hb
  clear hl
  go_enter Tryz.func7, Tryz.ntmps7
  go_wp2_with fail
  refine HSP.out.mono ?_
  rintro e w1 ⟨rfl, ho1⟩
  have HO1 := Lib.hid ho1
  clear ho1
  go_wp2_with fail
  refine (HMADE.out w1 HO1.out).mono ?_
  rintro e w2 ⟨s, b, r, r', v2, rfl, ho2, hs2, hb2, hst2, hr1, hr2, hr3, hr4, hsl2⟩
  obtain ⟨pa2, c2, rfl, q21, q22, q23⟩ := Sl.cells recC_length hsl2
  unfold rstV
  obtain ⟨W3, hW3⟩ : ∃ W3, W3 = w2.alloc (.cells #[.int .i64 48, .int .i64 100, .slice pa2 (made25 l 50).length c2, .int .i64 r'] 27) := ⟨_, rfl⟩
  have hbW3 : W3.heap[w2.heap.size]? = some (.cells #[.int .i64 48, .int .i64 100, .slice pa2 (made25 l 50).length c2, .int .i64 r'] 27 (0, 0)) := by rw [hW3]; exact heap_alloc_new w2 _
  have hoW3 : Only (fun _ => False) w2 W3 := by rw [hW3]; exact (Only.refl _ _).alloc _
  have hsW3 : W3.heap.size = w2.heap.size + 1 := by rw [hW3]; simp
  have HO3 := Lib.hid ((HO1.out.trans ho2).trans hoW3)
  have HE3 := Lib.hid (HE.out.new HO3.out)
  have HST := Lib.hid (hst2.new hoW3)
  have HSE := Lib.hid (sees_store HST.out HE3.out.max (made_bd l 50))
  have HOKS := Lib.hid hst2.ok
  have HLF := Lib.hid (fun x hx => lead_facts (L := made25 l 50) HBB.out rfl hst2.ok (x := x) hx)
  have HCL := Lib.hid (q23.new hoW3 (fun _ _ _ => id))
  have HB3 := Lib.hid hbW3
  clear ho2 hs2 hb2 hst2 hr1 hr2 hr3 hr4 hsl2 hoW3 hsW3 hbW3 HSP HMADE HE q21 q22 q23
  generalize made25 l 50 = L at *
  go_upto_region 4 with (fail)
  rw [← hW3]
  clear hW3
  generalize w2.heap.size = P at *
  have p0 : W3.cell? ⟨P, 0, none⟩ = some (.int .i64 48) := cell_at HB3.out 0
  have p1 : W3.cell? ⟨P, 1, none⟩ = some (.int .i64 100) := cell_at HB3.out 1
  have p2 : W3.cell? ⟨P, 2, none⟩ = some (.slice pa2 L.length c2) := cell_at HB3.out 2
  have p3 : W3.cell? ⟨P, 3, none⟩ = some (.int .i64 r') := cell_at HB3.out 3
  by_cases hL0 : L.length = 0
  · -- empty
    have e0 : ((L.length : Int) == 0) = true := by rw [hL0]; rfl
    have hln := slen_any W3 s b 48 100 r L HST.out
    have HLN := Lib.hid hln
    clear hln
    clear hL0
    go_wp2_with ((with_reducible refine HLN.out.mono ?_); rintro e w5 ⟨rfl, rfl⟩)
    go_ret
    exact ⟨rfl, HO3.out⟩
  have e0 : ((L.length : Int) == 0) = false := by simp; intro h; rw [h] at hL0; exact hL0 rfl
  have hLpos : 0 < L.length := by omega
  obtain ⟨i, hi⟩ : ∃ i, i = at_ % L.length := ⟨_, rfl⟩
  have hiL : i < L.length := by rw [hi]; exact Nat.mod_lt _ hLpos
  have hrem : (at_ : Int).tmod (L.length : Int) = (i : Int) := by rw [Int.tmod_eq_emod_of_nonneg (by omega), hi]; exact (Int.natCast_emod _ _).symm
  have hrem2 : (at_ : Int) % (L.length : Int) = (i : Int) := by rw [hi]; exact (Int.natCast_emod _ _).symm
  have hwa : IntKind.i64.wrap (at_ : Int) = at_ := IntWalk.i64_in _ (by omega)
  obtain ⟨lb, off, rfl, hc⟩ := HCL.out.at i hiL
  obtain ⟨a, n, o, hn, hn5, hxa, hkx, hk2, hxo, ho1', ho2', hag0, hag1, hgone⟩ := HLF.out _ (List.getElem_mem hiL)
  have hxL := List.getElem_mem hiL
  have hne : ¬ ((L.length : Int) = 0) := by omega
  have hiI : (i : Int) < (L.length : Int) := by omega
  generalize L[i] = x at *
  obtain ⟨k1, v1, o1, a1, g1, d1⟩ := x
  dsimp only at hkx hk2 hxo hag0 hag1 hgone hxa
  subst hxo
  have y0 : W3.cell? ⟨lb, off + i * 6, none⟩ = some (.string k1) := hc 0 _ rfl
  have y1 := hc 1 _ rfl
  have y2 := hc 2 _ rfl
  have y3 := hc 3 _ rfl
  have y4 := hc 4 _ rfl
  have y5 := hc 5 _ rfl
  have HCC := Lib.hid (show ∀ w', Only (fun _ => False) W3 w' → w'.cell? ⟨P, 2, none⟩ = some (.slice (some ⟨lb, off, none⟩) L.length c2) ∧ w'.cell? ⟨lb, off + i * 6, none⟩ = some (.string k1) ∧ w'.cell? ⟨lb, off + i * 6 + 1, none⟩ = some (.int .u64 v1) ∧ w'.cell? ⟨lb, off + i * 6 + 2, none⟩ = some (.int .i64 o) ∧ w'.cell? ⟨lb, off + i * 6 + 3, none⟩ = some (.int .i64 a1) ∧ w'.cell? ⟨lb, off + i * 6 + 4, none⟩ = some (.bool g1) ∧ w'.cell? ⟨lb, off + i * 6 + 5, none⟩ = some (.string d1) from
    fun w' h => ⟨h.cell p2 id, h.cell y0 id, h.cell y1 id, h.cell y2 id, h.cell y3 id, h.cell y4 id, h.cell y5 id⟩)
  have HI := Lib.hid hi
  have HXA := Lib.hid hxa
  have HN := Lib.hid hn
  have HGO := Lib.hid hgone
  have HXL := Lib.hid hxL
  have HK2 := Lib.hid hk2
  have HKX := Lib.hid hkx
  clear hi hxa hn hgone hxL hk2 hkx
  clear hc
  go_upto_region 6 with (fail)
  go_cut [7] (fun v wx => ∃ X, v = .pointer (some ⟨X, 0, none⟩) ∧ wx.heap[X]? = some (.cells #[.string k1, .int .u64 v1, .int .i64 o, .int .i64 a1, .bool g1, .string d1] 75 (0, 0)) ∧ Only (fun _ => False) W3 wx)
  case first =>
    go_region_held3 (fun w' => Only (fun _ => False) W3 w' ∧ w'.cell? ⟨P, 2, none⟩ = some (.slice (some ⟨lb, off, none⟩) L.length c2) ∧ w'.cell? ⟨lb, off + i * 6, none⟩ = some (.string k1) ∧ w'.cell? ⟨lb, off + i * 6 + 1, none⟩ = some (.int .u64 v1) ∧ w'.cell? ⟨lb, off + i * 6 + 2, none⟩ = some (.int .i64 o) ∧ w'.cell? ⟨lb, off + i * 6 + 3, none⟩ = some (.int .i64 a1) ∧ w'.cell? ⟨lb, off + i * 6 + 4, none⟩ = some (.bool g1) ∧ w'.cell? ⟨lb, off + i * 6 + 5, none⟩ = some (.string d1))
      ((refine heldO HCC.out ?_; (repeat (first | (with_reducible assumption) | (with_reducible exact Only.refl _ _) | (with_reducible refine Only.drew ?_) | (with_reducible refine Only.alloc ?_ _) | (with_reducible refine onlySet ?_ (by first | (with_reducible assumption) | omega) _) | (with_reducible refine Only.trans ?_ (by with_reducible assumption))))))
      (fail)
    all_goals
      go_wp2_with fail
      go_meet
      refine ⟨_, rfl, ?_, ?_⟩
      · (apply Eq.trans; (case h₁ => repeat (first | (with_reducible assumption) | (with_reducible exact heap_alloc_new _ _) | (with_reducible apply blk_new; (repeat (first | (with_reducible rfl) | (with_reducible apply sz_set) | (with_reducible apply sz_alloc) | (with_reducible apply sz_drew))); done) | (with_reducible apply blk_same) | (with_reducible apply blk_ne; case hn => (first | assumption | omega)) | (with_reducible apply blk_old) | (with_reducible apply blk_drew))); (case h₂ => rfl))
      · (repeat (first | (with_reducible assumption) | (with_reducible exact Only.refl _ _) | (with_reducible refine Only.drew ?_) | (with_reducible refine Only.alloc ?_ _) | (with_reducible refine onlySet ?_ (by first | (with_reducible assumption) | omega) _) | (with_reducible refine Only.trans ?_ (by with_reducible assumption))))
  case rest =>
  rename World => W5
  obtain ⟨X, rfl, hX, ho5⟩ := hcut
  have z0 : W5.cell? ⟨X, 0, none⟩ = some (.string k1) := cell_at hX 0
  have z1 : W5.cell? ⟨X, 1, none⟩ = some (.int .u64 v1) := cell_at hX 1
  have z2 : W5.cell? ⟨X, 2, none⟩ = some (.int .i64 o) := cell_at hX 2
  have z3 : W5.cell? ⟨X, 3, none⟩ = some (.int .i64 a1) := cell_at hX 3
  have z4 : W5.cell? ⟨X, 4, none⟩ = some (.bool g1) := cell_at hX 4
  have z5 : W5.cell? ⟨X, 5, none⟩ = some (.string d1) := cell_at hX 5
  have HO35 := Lib.hid ho5
  have HO5 := Lib.hid (HO3.out.trans ho5)
  have HX := Lib.hid hX
  clear hX
  clear ho5 p0 p1 p2 p3 y0 y1 y2 y3 y4 y5 hne hiI hrem hrem2 hwa e0
  cases g1 with
  | true =>
    go_wp2_with fail
    go_ret
    exact ⟨rfl, HO5.out⟩
  | false =>
    obtain ⟨hd10, hinS, hinO, hone⟩ := HGO.out rfl
    have hnsz := nm25_size n
    have hsp := fun W => rsplit_own W (nm25 n) (fun h => (nm25_ne n hn5).1 (by apply str_ext; have h2 : (nm25 n).data.toList.length = 0 := h; rw [List.length_eq_zero_iff.1 h2])) (by omega)
    rw [lab25_split n hn5] at hsp
    have hkx := HKX.out
    have hk2 : (2 : Int) ≤ (k1.size : Int) := by have := HK2.out; omega
    have hlab : (lab25 n).length ≤ 2 := by rcases (by omega : n = 0 ∨ n = 1 ∨ n = 2 ∨ n = 3 ∨ n = 4) with rfl | rfl | rfl | rfl | rfl <;> decide
    have hlabs : ∀ s ∈ lab25 n ++ [bellS], s.size ≤ 90 := by
      rcases (by omega : n = 0 ∨ n = 1 ∨ n = 2 ∨ n = 3 ∨ n = 4) with rfl | rfl | rfl | rfl | rfl <;> decide
    have HSP := Lib.hid hsp
    have HD10 := Lib.hid hd10
    have HINS := Lib.hid hinS
    have HINO := Lib.hid hinO
    have HONE := Lib.hid hone
    have HLABS := Lib.hid hlabs
    clear hsp hd10 hinS hinO hone hlabs
    go_upto_region 9 with (fail)
    go_wp2_with fail
    refine (HSP.out _).mono ?_
    rintro e W6 ⟨v6, rfl, ho6, own6⟩
    obtain ⟨_, a6, c6, rfl, _⟩ := id (Sl.of_owns own6)
    have HO36 := Lib.hid (HO35.out.trans ho6)
    have HX6 := Lib.hid (ho6.old HX.out id)
    have hs6 := ho6.size
    have HOWN6 := Lib.hid own6
    clear own6
    clear ho6 z0 z1 z2 z3 z4 z5
    go_wp2_with (at_builtin; refine Wait.mk ?_)
    refine Wait.go (wpList_append_src _ rfl _ _ 34 34 rfl W5.heap.size 9 i0 _ 1 16 Tryz.underlying34 hi0 hz0 hz1 hz2 rfl (.slice a6 (lab25 n).length c6) (lab25 n).length ((lab25 n).map .string) rfl (HOWN6.out.alloc _) _ 1 [.string bellS] rfl (Src.ofSlice _ Tryz.underlying34 _ _ _ _ rfl (news_new _ _ _) (str_one [bellS])) (by unfold maxLen; omega) (by omega) (by simp; omega) ?_)
    intro v7 W7 own7 gr7 hv7
    have ho57 : Only (fun _ => False) W6 W7 ∨ True := .inr trivial
    have hoX : W7.heap[X]? = some (.cells #[.string k1, .int .u64 v1, .int .i64 o, .int .i64 a1, .bool false, .string d1] 75 (0, 0)) := blkGr (Only.old ((Only.refl (fun _ => False) _).alloc _) HX6.out id) (HOWN6.out.alloc _) (by decide) gr7
    have ho37 : Only (fun _ => False) W3 W7 := Only.grown (HO36.out.alloc _) gr7 (fun j e => .inl (by have h1 := (HOWN6.out.lt j e).1; have h2 := HO35.out.size; omega))
    have hs37 := HO35.out.size
    obtain ⟨_, a7, c7, rfl, _⟩ := id (Sl.of_owns own7)
    have hsl7 : Sl W7 1 (.slice a7 (lab25 n ++ [bellS]).length c7) (lab25 n ++ [bellS]).length ((lab25 n ++ [bellS]).map .string) := by
      have h := Sl.of_owns own7
      rw [List.length_append, List.map_append]
      exact h
    have HO7 := Lib.hid (HO3.out.trans ho37)
    have HE7 := Lib.hid (HE3.out.new ho37)
    have HS7 := Lib.hid (HSE.out.new ho37)
    have HX7 := Lib.hid hoX
    have HSL7 := Lib.hid hsl7
    clear hoX hsl7
    have z0 : W7.cell? ⟨X, 0, none⟩ = some (.string k1) := cell_at HX7.out 0
    have z1 : W7.cell? ⟨X, 1, none⟩ = some (.int .u64 v1) := cell_at HX7.out 1
    have z2 : W7.cell? ⟨X, 2, none⟩ = some (.int .i64 o) := cell_at HX7.out 2
    have z3 : W7.cell? ⟨X, 3, none⟩ = some (.int .i64 a1) := cell_at HX7.out 3
    have z4 : W7.cell? ⟨X, 4, none⟩ = some (.bool false) := cell_at HX7.out 4
    have z5 : W7.cell? ⟨X, 5, none⟩ = some (.string d1) := cell_at HX7.out 5
    clear gr7 hv7 own7 ho57 hs6 hs37 ho37
    go_upto_region 10 with (fail)
    go_cut [54] (fun v wx => v = .bool (decide (n = 3)) ∧ W7 = wx)
    case first =>
      rcases (by omega : n = 0 ∨ n = 1 ∨ n = 2 ∨ n = 3 ∨ n = 4) with rfl | rfl | rfl | rfl | rfl
      all_goals
        unfold nm25 at hkx
        go_wp2_with fail
        go_meet
        exact ⟨rfl, rfl⟩
    case rest =>
    obtain ⟨rfl, rfl⟩ := hcut
    have hlk := lookup_any W7 m 100 (.pointer (some ⟨s, 0, none⟩)) (.slice a7 (lab25 n ++ [bellS]).length c7) L (lab25 n ++ [bellS]) 33 HE7.out HS7.out ⟨_, rfl⟩ HSL7.out (by rw [List.length_append]; show (lab25 n).length + 1 ≤ 1000; omega) HLABS.out
    rw [show ((33 : Nat) : Int) = 33 from rfl] at hlk
    have hll : (lab25 n ++ [bellS]).length = (lab25 n).length + 1 := by rw [List.length_append]; rfl
    rw [hll] at hlk
    by_cases h3 : n = 3
    · -- seven
      subst h3
      rw [look_seven] at hlk
      rw [decide_eq_true rfl]
      have HLK := Lib.hid hlk
      clear hlk
      go_wp2_with fail
      refine HLK.out.mono ?_
      rintro e W8 ⟨v8, E8, rfl, ho8, hrow8, hmap8⟩
      have hE8 : E8.length = 0 := by have h := congrArg List.length hmap8; rw [List.length_map] at h; exact h
      obtain ⟨_, a8, c8, rfl, _⟩ := id (Sl.of_owns hrow8.row)
      have hEi : ((E8.length : Int) == 0) = true := by rw [hE8]; rfl
      have HO8 := Lib.hid (HO7.out.trans ho8)
      clear ho8 hrow8 hmap8 hE8
      go_wp2_with fail
      go_ret
      exact ⟨rfl, HO8.out⟩
    rw [look_serv hn5 h3, held_serv hn5 h3] at hlk
    rw [decide_eq_false h3]
    obtain ⟨H, hH⟩ : ∃ H, H = L.filter (fun y => !unnamed (nm25 n) y) := ⟨_, rfl⟩
    rw [← hH] at hlk
    have hinH : (⟨k1, v1, o, a1, false, d1⟩ : RecT) ∈ H := by rw [hH]; exact HINS.out
    have hHne : H ≠ [] := fun e => by rw [e] at hinH; cases hinH
    rw [decide_eq_true hHne] at hlk
    have hHl : H.length ≤ 48 := by
      have h1 : H.length ≤ L.length := by rw [hH]; exact List.length_filter_le _ _
      have h2 := HOKS.out.len
      omega
    have hHO := HONE.out
    rw [← hH] at hHO
    have hHT : ∀ y ∈ H, TellOk 100 y ∧ 1 ≤ y.o ∧ y.o ≤ 65535 := by
      intro y hy
      rw [hH] at hy
      obtain ⟨hy1, hy2⟩ := List.mem_filter.1 hy
      have hg : y.gone = false := by
        unfold unnamed at hy2
        cases h : y.gone with
        | false => rfl
        | true => rw [h] at hy2; simp at hy2
      have hn := good_node (HOKS.out.goods y hy1).1
      exact ⟨HSE.out.tell y hy1 hg, hn.1, hn.2.1⟩
    have HLK := Lib.hid hlk
    have HINH := Lib.hid hinH
    have HHO := Lib.hid hHO
    have HHT := Lib.hid hHT
    have HH := Lib.hid hH
    clear hlk hinH hHO hHT hH
    clear hkx hk2 hHne
    go_wp2_with fail
    refine HLK.out.mono ?_
    rintro e W8 ⟨v8, E8, rfl, ho8, hrow8, hmap8⟩
    have hE8 : E8.length = H.length := by have h := congrArg List.length hmap8; rw [List.length_map, List.length_map] at h; exact h
    obtain ⟨a8, c8, rfl, k81, k82, k83⟩ := Sl.cells rrC_length (Sl.of_owns hrow8.row)
    have HO8 := Lib.hid (HO7.out.trans ho8)
    have HE8 := Lib.hid (HE7.out.new ho8)
    have HS8 := Lib.hid (HS7.out.new ho8)
    have HX8 := Lib.hid (ho8.old HX7.out id)
    have HROW8 := Lib.hid hrow8
    have HMAP8 := Lib.hid hmap8
    have HEL8 := Lib.hid hE8
    have HC8 := Lib.hid k83
    clear hrow8 hmap8 hE8 k83
    clear ho8 z0 z1 z2 z3 z4 z5
    go_wp2_with fail
    go_loopg [13, 14] H.length (fun g v13 v14 wr => ∃ k : Nat, v14 = .int .i64 k ∧ k ≤ H.length ∧ v13 = .bool (foundK H o k) ∧ Only (fun _ => False) W8 wr ∧ g = H.length - k)
    case atStart => exact ⟨0, rfl, Nat.zero_le _, rfl, Only.refl _ _, rfl⟩
    case round =>
      rename World => w9
      obtain ⟨k, rfl, hk, rfl, ho, hg⟩ := hrel
      have Hg := Lib.hid hg
      have HO9 := Lib.hid ho
      clear hg ho
      by_cases hlt : k < H.length
      · -- round
        have hk8 : k < E8.length := by have := HEL8.out; omega
        have hlt8 : (k : Int) < (E8.length : Int) := by omega
        obtain ⟨b8, o8, rfl, hc8⟩ := HC8.out.at k hk8
        have HFS := Lib.hid (foundK_snoc H o k hlt)
        have hr8 : E8[k].r = rrS 100 H[k] := by
          have e1 : (E8.map (·.r))[k]'(by rw [List.length_map]; exact hk8) = E8[k].r := by simp
          have e2 : (H.map (rrS 100))[k]'(by rw [List.length_map]; exact hlt) = rrS 100 H[k] := by simp
          rw [← e1, ← e2]
          congr 1
          all_goals exact HMAP8.out
        have ht8 := Sl.of_owns (HROW8.out.tgt _ (List.getElem_mem hk8))
        obtain ⟨htell, hyo1, hyo2⟩ := HHT.out _ (List.getElem_mem hlt)
        have hyx := HHO.out _ (List.getElem_mem hlt)
        generalize H[k] = y at *
        generalize E8[k] = e8 at *
        obtain ⟨e8r, tv⟩ := e8
        dsimp only at hr8
        subst hr8
        obtain ⟨oN, hoN⟩ : ∃ oN : Nat, y.o = oN := ⟨y.o.toNat, by omega⟩
        have hto : y.o.toNat = oN := by omega
        have hrs : rrS 100 y = ⟨33, (100 - y.age).toNat, (0, 0, 0, 0), bA y.data 6 * 256 + bA y.data 7, bA y.data 8 * 256 + bA y.data 9, bA y.data 4 * 256 + bA y.data 5, tgtL oN⟩ := by unfold rrS; rw [hto]
        rw [hrs] at ht8 hc8
        dsimp only at ht8
        obtain ⟨_, ta, tc, rfl, _⟩ := id ht8
        have z9 := HO9.out.cell (hc8 9 _ rfl) id
        have z8 := HO9.out.cell (hc8 8 _ rfl) id
        have z1 := HO9.out.cell (hc8 1 _ rfl) id
        have hx9 := HO9.out.old HX8.out id
        have x2 : w9.cell? ⟨X, 2, none⟩ = some (.int .i64 o) := cell_at hx9 2
        have x5 : w9.cell? ⟨X, 5, none⟩ = some (.string d1) := cell_at hx9 5
        have HTG := Lib.hid (fun (W : World) (h : Only (fun _ => False) w9 W) => target_ok W m o ((HE8.out.new HO9.out).new h) ho1' ho2')
        have HSM := Lib.hid (fun (W : World) (h : Only (fun _ => False) w9 W) (u : Value) hu => same_any W _ u (tgtL oN) (tgtL o) ((ht8.new HO9.out).new h) hu)
        have HCC := Lib.hid (show ∀ w', Only (fun _ => False) w9 w' → w'.cell? ⟨b8, o8 + k * 10 + 9, none⟩ = some (.slice ta (tgtL oN).length tc) ∧ w'.cell? ⟨X, 2, none⟩ = some (.int .i64 o) from fun w' h => ⟨h.cell z9 id, h.cell x2 id⟩)
        have HHYX := Lib.hid hyx
        have HYO := Lib.hid hoN
        have HT8 := Lib.hid ht8
        have HTELL := Lib.hid htell
        clear hyx hoN ht8 htell
        clear hc8 hrs hto hyo1 hyo2 hx9
        go_upto_region 20 with (fail)
        go_cut [87] (fun v wx => v = .bool (!decide (oN = o)) ∧ Only (fun _ => False) w9 wx)
        case first =>
          go_region_held3 (fun w' => Only (fun _ => False) w9 w' ∧ w'.cell? ⟨b8, o8 + k * 10 + 9, none⟩ = some (.slice ta (tgtL oN).length tc) ∧ w'.cell? ⟨X, 2, none⟩ = some (.int .i64 o))
            ((refine heldO HCC.out ?_; (repeat (first | (with_reducible assumption) | (with_reducible exact Only.refl _ _) | (with_reducible refine Only.drew ?_) | (with_reducible refine Only.alloc ?_ _) | (with_reducible refine onlySet ?_ (by first | (with_reducible assumption) | omega) _) | (with_reducible refine Only.trans ?_ (by with_reducible assumption))))))
            (first
              | (go_at_call 24; (with_reducible refine (HTG.out _ (by (repeat (first | (with_reducible assumption) | (with_reducible exact Only.refl _ _) | (with_reducible refine Only.drew ?_) | (with_reducible refine Only.alloc ?_ _) | (with_reducible refine onlySet ?_ (by first | (with_reducible assumption) | omega) _) | (with_reducible refine Only.trans ?_ (by with_reducible assumption)))))).mono ?_); rintro e w10 ⟨vt, rfl, ho10, hot⟩)
              | (go_at_call 15; (with_reducible refine (HSM.out _ (by (repeat (first | (with_reducible assumption) | (with_reducible exact Only.refl _ _) | (with_reducible refine Only.drew ?_) | (with_reducible refine Only.alloc ?_ _) | (with_reducible refine onlySet ?_ (by first | (with_reducible assumption) | omega) _) | (with_reducible refine Only.trans ?_ (by with_reducible assumption))))) _ (Sl.of_owns hot)).mono ?_); rintro e w11 ⟨rfl, ho11⟩))
          all_goals
            go_wp2_with fail
            go_meet
            refine ⟨?_, by (repeat (first | (with_reducible assumption) | (with_reducible exact Only.refl _ _) | (with_reducible refine Only.drew ?_) | (with_reducible refine Only.alloc ?_ _) | (with_reducible refine onlySet ?_ (by first | (with_reducible assumption) | omega) _) | (with_reducible refine Only.trans ?_ (by with_reducible assumption))))⟩
            have hde : decide (tgtL oN = tgtL o) = decide (oN = o) := by
              rw [Bool.eq_iff_iff, decide_eq_true_iff, decide_eq_true_iff]
              exact ⟨tgt_inj, fun h => by rw [h]⟩
            first
              | rfl
              | rw [hde]
        case rest =>
        rename World => w12
        obtain ⟨rfl, ho12⟩ := hcut
        have HO12 := Lib.hid (HO9.out.trans ho12)
        by_cases heq : oN = o
        · -- eq
          have hy := HHYX.out (by rw [HYO.out, heq])
          have HF := Lib.hid (show foundK H o (k + 1) = true by rw [HFS.out, HYO.out, decide_eq_true (by omega), Bool.or_true])
          rw [decide_eq_true heq]
          have hda : y.data = d1 := by rw [hy]
          have hya : y.age = a1 := by rw [hy]
          rw [hda] at z8
          rw [hya] at z1
          have h10 := HD10.out
          have j4 : 4 < d1.size := by omega
          have j5 : 5 < d1.size := by omega
          have hb4 : ((d1[4]'j4).toNat : Int) = (bA d1 4 : Int) := congrArg _ (bA_get d1 4 j4)
          have hb5 : ((d1[5]'j5).toNat : Int) = (bA d1 5 : Int) := congrArg _ (bA_get d1 5 j5)
          have i4 : (4 : Int) < (d1.size : Int) := by omega
          have i5 : (5 : Int) < (d1.size : Int) := by omega
          have l4 := bA_lt d1 4
          have l5 := bA_lt d1 5
          have hw4 : IntKind.i64.wrap (bA d1 4 : Int) = bA d1 4 := IntWalk.i64_in _ (by omega)
          have hw5 : IntKind.i64.wrap (bA d1 5 : Int) = bA d1 5 := IntWalk.i64_in _ (by omega)
          obtain ⟨po, hpo⟩ : ∃ po, po = bA d1 4 * 256 + bA d1 5 := ⟨_, rfl⟩
          rw [← hpo] at z8
          have hwp : IntKind.i64.wrap (po : Int) = po := IntWalk.i64_in _ (by omega)
          have e1 : ((po : Int) == 256 * (bA d1 4 : Int) + (bA d1 5 : Int)) = true := by simp; omega
          obtain ⟨tt, htt⟩ : ∃ tt, tt = (100 - a1).toNat := ⟨_, rfl⟩
          rw [← htt] at z1
          have hwm : IntKind.i64.wrap (256 * (bA d1 4 : Int)) = 256 * (bA d1 4 : Int) := IntWalk.i64_in _ (by omega)
          have hws : IntKind.i64.wrap (256 * (bA d1 4 : Int) + (bA d1 5 : Int)) = 256 * (bA d1 4 : Int) + (bA d1 5 : Int) := IntWalk.i64_in _ (by omega)
          have e2 : decide ((0 : Int) < (tt : Int)) = true := by simp; omega
          have e2' : decide (0 < tt) = true := by simp; omega
          have z1 := ho12.cell z1 id
          have z8 := ho12.cell z8 id
          have z9 := ho12.cell z9 id
          have x5 := ho12.cell x5 id
          generalize bA d1 4 = b4 at *
          generalize bA d1 5 = b5 at *
          have HY := Lib.hid hy
          clear hy
          clear hda hya h10 x2 hpo htt l4 l5 ho12
          have HC2 := Lib.hid (show ∀ w', Only (fun _ => False) w12 w' → w'.cell? ⟨b8, o8 + k * 10 + 1, none⟩ = some (.int .u32 tt) ∧ w'.cell? ⟨b8, o8 + k * 10 + 8, none⟩ = some (.int .u16 po) ∧ w'.cell? ⟨X, 5, none⟩ = some (.string d1) from fun w' h => ⟨h.cell z1 id, h.cell z8 id, h.cell x5 id⟩)
          go_upto_region 21 with (fail)
          go_cut [13] (fun v wx => v = .bool true ∧ Only (fun _ => False) w12 wx)
          case first =>
            refine wp_region_held_drew (S := fun w' => Only (fun _ => False) w12 w' ∧ w'.cell? ⟨b8, o8 + k * 10 + 1, none⟩ = some (.int .u32 tt) ∧ w'.cell? ⟨b8, o8 + k * 10 + 8, none⟩ = some (.int .u16 po) ∧ w'.cell? ⟨X, 5, none⟩ = some (.string d1)) (by kernel_rfl) (by (refine heldO HC2.out ?_; (repeat (first | (with_reducible assumption) | (with_reducible exact Only.refl _ _) | (with_reducible refine Only.drew ?_) | (with_reducible refine Only.alloc ?_ _) | (with_reducible refine onlySet ?_ (by first | (with_reducible assumption) | omega) _) | (with_reducible refine Only.trans ?_ (by with_reducible assumption)))))) (fun hHeld => ?_)
            refine wpAnyH_takeD (d := (some 88)) (i := 0) (oi := _) (v := ?pv0) rfl (by kernel_rfl) (by kernel_rfl) (by kernel_rfl) (by kernel_rfl) (fun _ _ _ h => h) (Or.inl ⟨by rfl, ?py0⟩) hHeld ?pr0
            case py0 =>
              intro w hSw
              obtain ⟨_, f0, f1, f2⟩ := hSw
              go_simp
              try with_reducible rfl
            refine wpAnyH_act (a' := ?pn0) ?pe0 ?pt0
            case pe0 =>
              try simp [Act.put]
              try rfl
            refine wpAnyH_takeD (d := (some 89)) (i := 1) (oi := _) (v := ?pv1) rfl (by kernel_rfl) (by kernel_rfl) (by kernel_rfl) (by kernel_rfl) (fun _ _ _ h => h) (Or.inl ⟨by rfl, ?py1⟩) hHeld ?pr1
            case py1 =>
              intro w hSw
              obtain ⟨_, f0, f1, f2⟩ := hSw
              go_simp
              try with_reducible rfl
            refine wpAnyH_act (a' := ?pn1) ?pe1 ?pt1
            case pe1 =>
              try simp [Act.put]
              try rfl
            refine wpAnyH_takeD (d := (some 90)) (i := 2) (oi := _) (v := ?pv2) rfl (by kernel_rfl) (by kernel_rfl) (by kernel_rfl) (by kernel_rfl) (fun _ _ _ h => h) (Or.inl ⟨by rfl, ?py2⟩) hHeld ?pr2
            case py2 =>
              intro w hSw
              obtain ⟨_, f0, f1, f2⟩ := hSw
              go_simp
              try with_reducible rfl
            refine wpAnyH_act (a' := ?pn2) ?pe2 ?pt2
            case pe2 =>
              try simp [Act.put]
              try rfl
            refine wpAnyH_takeD (d := (some 91)) (i := 3) (oi := _) (v := ?pv3) rfl (by kernel_rfl) (by kernel_rfl) (by kernel_rfl) (by kernel_rfl) (fun _ _ _ h => h) (Or.inl ⟨by rfl, ?py3⟩) hHeld ?pr3
            case py3 =>
              intro w hSw
              obtain ⟨_, f0, f1, f2⟩ := hSw
              go_simp
              try with_reducible rfl
            refine wpAnyH_act (a' := ?pn3) ?pe3 ?pt3
            case pe3 =>
              try simp [Act.put]
              try rfl
            refine wpAnyH_takeD (d := (some 92)) (i := 4) (oi := _) (v := ?pv4) rfl (by kernel_rfl) (by kernel_rfl) (by kernel_rfl) (by kernel_rfl) (fun _ _ _ h => h) (Or.inl ⟨by rfl, ?py4⟩) hHeld ?pr4
            case py4 =>
              intro w hSw
              obtain ⟨_, f0, f1, f2⟩ := hSw
              go_simp
              try with_reducible rfl
            refine wpAnyH_act (a' := ?pn4) ?pe4 ?pt4
            case pe4 =>
              try simp [Act.put]
              try rfl
            refine wpAnyH_takeD (d := (some 93)) (i := 5) (oi := _) (v := ?pv5) rfl (by kernel_rfl) (by kernel_rfl) (by kernel_rfl) (by kernel_rfl) (fun _ _ _ h => h) (Or.inl ⟨by rfl, ?py5⟩) hHeld ?pr5
            case py5 =>
              intro w hSw
              obtain ⟨_, f0, f1, f2⟩ := hSw
              go_simp
              try with_reducible rfl
            refine wpAnyH_act (a' := ?pn5) ?pe5 ?pt5
            case pe5 =>
              try simp [Act.put]
              try rfl
            refine wpAnyH_takeD (d := (some 94)) (i := 6) (oi := _) (v := ?pv6) rfl (by kernel_rfl) (by kernel_rfl) (by kernel_rfl) (by kernel_rfl) (fun _ _ _ h => h) (Or.inl ⟨by rfl, ?py6⟩) hHeld ?pr6
            case py6 =>
              intro w hSw
              obtain ⟨_, f0, f1, f2⟩ := hSw
              go_simp
              try with_reducible rfl
            refine wpAnyH_act (a' := ?pn6) ?pe6 ?pt6
            case pe6 =>
              try simp [Act.put]
              try rfl
            refine wpAnyH_takeD (d := (some 95)) (i := 7) (oi := _) (v := ?pv7) rfl (by kernel_rfl) (by kernel_rfl) (by kernel_rfl) (by kernel_rfl) (fun _ _ _ h => h) (Or.inl ⟨by rfl, ?py7⟩) hHeld ?pr7
            case py7 =>
              intro w hSw
              obtain ⟨_, f0, f1, f2⟩ := hSw
              go_simp
              try with_reducible rfl
            refine wpAnyH_act (a' := ?pn7) ?pe7 ?pt7
            case pe7 =>
              try simp [Act.put]
              try rfl
            refine wpAnyH_takeD (d := (some 96)) (i := 8) (oi := _) (v := ?pv8) rfl (by kernel_rfl) (by kernel_rfl) (by kernel_rfl) (by kernel_rfl) (fun _ _ _ h => h) (Or.inl ⟨by rfl, ?py8⟩) hHeld ?pr8
            case py8 =>
              intro w hSw
              obtain ⟨_, f0, f1, f2⟩ := hSw
              go_simp
              try with_reducible rfl
            refine wpAnyH_act (a' := ?pn8) ?pe8 ?pt8
            case pe8 =>
              try simp [Act.put]
              try rfl
            refine wpAnyH_takeD (d := (some 97)) (i := 9) (oi := _) (v := ?pv9) rfl (by kernel_rfl) (by kernel_rfl) (by kernel_rfl) (by kernel_rfl) (fun _ _ _ h => h) (Or.inl ⟨by rfl, ?py9⟩) hHeld ?pr9
            case py9 =>
              intro w hSw
              obtain ⟨_, f0, f1, f2⟩ := hSw
              go_simp
              try with_reducible rfl
            refine wpAnyH_act (a' := ?pn9) ?pe9 ?pt9
            case pe9 =>
              try simp [Act.put]
              try rfl
            refine wpAnyH_takeD (d := (some 98)) (i := 10) (oi := _) (v := ?pv10) rfl (by kernel_rfl) (by kernel_rfl) (by kernel_rfl) (by kernel_rfl) (fun _ _ _ h => h) (Or.inl ⟨by rfl, ?py10⟩) hHeld ?pr10
            case py10 =>
              intro w hSw
              obtain ⟨_, f0, f1, f2⟩ := hSw
              go_simp
              try with_reducible rfl
            refine wpAnyH_act (a' := ?pn10) ?pe10 ?pt10
            case pe10 =>
              try simp [Act.put]
              try rfl
            refine wpAnyH_takeD (d := (some 99)) (i := 11) (oi := _) (v := ?pv11) rfl (by kernel_rfl) (by kernel_rfl) (by kernel_rfl) (by kernel_rfl) (fun _ _ _ h => h) (Or.inl ⟨by rfl, ?py11⟩) hHeld ?pr11
            case py11 =>
              intro w hSw
              obtain ⟨_, f0, f1, f2⟩ := hSw
              go_simp
              try with_reducible rfl
            refine wpAnyH_act (a' := ?pn11) ?pe11 ?pt11
            case pe11 =>
              try simp [Act.put]
              try rfl
            refine wpAnyH_takeD (d := (some 100)) (i := 12) (oi := _) (v := ?pv12) rfl (by kernel_rfl) (by kernel_rfl) (by kernel_rfl) (by kernel_rfl) (fun _ _ _ h => h) (Or.inl ⟨by rfl, ?py12⟩) hHeld ?pr12
            case py12 =>
              intro w hSw
              obtain ⟨_, f0, f1, f2⟩ := hSw
              go_simp
              try with_reducible rfl
            refine wpAnyH_act (a' := ?pn12) ?pe12 ?pt12
            case pe12 =>
              try simp [Act.put]
              try rfl
            refine wpAnyH_takeD (d := (some 101)) (i := 13) (oi := _) (v := ?pv13) rfl (by kernel_rfl) (by kernel_rfl) (by kernel_rfl) (by kernel_rfl) (fun _ _ _ h => h) (Or.inl ⟨by rfl, ?py13⟩) hHeld ?pr13
            case py13 =>
              intro w hSw
              obtain ⟨_, f0, f1, f2⟩ := hSw
              go_simp
              try with_reducible rfl
            refine wpAnyH_act (a' := ?pn13) ?pe13 ?pt13
            case pe13 =>
              try simp [Act.put]
              try rfl
            refine wpAnyH_takeD (d := (some 102)) (i := 14) (oi := _) (v := ?pv14) rfl (by kernel_rfl) (by kernel_rfl) (by kernel_rfl) (by kernel_rfl) (fun _ _ _ h => h) (Or.inl ⟨by rfl, ?py14⟩) hHeld ?pr14
            case py14 =>
              intro w hSw
              obtain ⟨_, f0, f1, f2⟩ := hSw
              go_simp
              try with_reducible rfl
            refine wpAnyH_act (a' := ?pn14) ?pe14 ?pt14
            case pe14 =>
              try simp [Act.put]
              try rfl
            refine wpAnyH_takeD (d := (some 103)) (i := 15) (oi := _) (v := ?pv15) rfl (by kernel_rfl) (by kernel_rfl) (by kernel_rfl) (by kernel_rfl) (fun _ _ _ h => h) (Or.inl ⟨by rfl, ?py15⟩) hHeld ?pr15
            case py15 =>
              intro w hSw
              obtain ⟨_, f0, f1, f2⟩ := hSw
              go_simp
              try with_reducible rfl
            refine wpAnyH_act (a' := ?pn15) ?pe15 ?pt15
            case pe15 =>
              try simp [Act.put]
              try rfl
            refine wpAnyH_takeD (d := (some 104)) (i := 16) (oi := _) (v := ?pv16) rfl (by kernel_rfl) (by kernel_rfl) (by kernel_rfl) (by kernel_rfl) (fun _ _ _ h => h) (Or.inl ⟨by rfl, ?py16⟩) hHeld ?pr16
            case py16 =>
              intro w hSw
              obtain ⟨_, f0, f1, f2⟩ := hSw
              go_simp
              try with_reducible rfl
            refine wpAnyH_act (a' := ?pn16) ?pe16 ?pt16
            case pe16 =>
              try simp [Act.put]
              try rfl
            refine wpAnyH_takeD (d := (some 105)) (i := 17) (oi := _) (v := ?pv17) rfl (by kernel_rfl) (by kernel_rfl) (by kernel_rfl) (by kernel_rfl) (fun _ _ _ h => h) (Or.inl ⟨by rfl, ?py17⟩) hHeld ?pr17
            case py17 =>
              intro w hSw
              obtain ⟨_, f0, f1, f2⟩ := hSw
              go_simp
              try with_reducible rfl
            refine wpAnyH_act (a' := ?pn17) ?pe17 ?pt17
            case pe17 =>
              try simp [Act.put]
              try rfl
            refine wpAnyH_takeD (d := (some 106)) (i := 18) (oi := _) (v := ?pv18) rfl (by kernel_rfl) (by kernel_rfl) (by kernel_rfl) (by kernel_rfl) (fun _ _ _ h => h) (Or.inl ⟨by rfl, ?py18⟩) hHeld ?pr18
            case py18 =>
              intro w hSw
              obtain ⟨_, f0, f1, f2⟩ := hSw
              go_simp
              try with_reducible rfl
            refine wpAnyH_act (a' := ?pn18) ?pe18 ?pt18
            case pe18 =>
              try simp [Act.put]
              try rfl
            refine wpAnyH_takeD (d := (some 107)) (i := 19) (oi := _) (v := ?pv19) rfl (by kernel_rfl) (by kernel_rfl) (by kernel_rfl) (by kernel_rfl) (fun _ _ _ h => h) (Or.inl ⟨by rfl, ?py19⟩) hHeld ?pr19
            case py19 =>
              intro w hSw
              obtain ⟨_, f0, f1, f2⟩ := hSw
              go_simp
              try with_reducible rfl
            refine wpAnyH_act (a' := ?pn19) ?pe19 ?pt19
            case pe19 =>
              try simp [Act.put]
              try rfl
            refine wpAnyH_takeD (d := (some 108)) (i := 20) (oi := _) (v := ?pv20) rfl (by kernel_rfl) (by kernel_rfl) (by kernel_rfl) (by kernel_rfl) (fun _ _ _ h => h) (Or.inl ⟨by rfl, ?py20⟩) hHeld ?pr20
            case py20 =>
              intro w hSw
              obtain ⟨_, f0, f1, f2⟩ := hSw
              go_simp
              try with_reducible rfl
            refine wpAnyH_act (a' := ?pn20) ?pe20 ?pt20
            case pe20 =>
              try simp [Act.put]
              try rfl
            refine wpAnyH_takeD (d := (some 109)) (i := 21) (oi := _) (v := ?pv21) rfl (by kernel_rfl) (by kernel_rfl) (by kernel_rfl) (by kernel_rfl) (fun _ _ _ h => h) (Or.inl ⟨by rfl, ?py21⟩) hHeld ?pr21
            case py21 =>
              intro w hSw
              obtain ⟨_, f0, f1, f2⟩ := hSw
              go_simp
              try with_reducible rfl
            refine wpAnyH_act (a' := ?pn21) ?pe21 ?pt21
            case pe21 =>
              try simp [Act.put]
              try rfl
            refine wpAnyH_takeD (d := (some 110)) (i := 22) (oi := _) (v := ?pv22) rfl (by kernel_rfl) (by kernel_rfl) (by kernel_rfl) (by kernel_rfl) (fun _ _ _ h => h) (Or.inl ⟨by rfl, ?py22⟩) hHeld ?pr22
            case py22 =>
              intro w hSw
              obtain ⟨_, f0, f1, f2⟩ := hSw
              go_simp
              try with_reducible rfl
            refine wpAnyH_act (a' := ?pn22) ?pe22 ?pt22
            case pe22 =>
              try simp [Act.put]
              try rfl
            refine wpAnyH_takeD (d := (some 111)) (i := 23) (oi := _) (v := ?pv23) rfl (by kernel_rfl) (by kernel_rfl) (by kernel_rfl) (by kernel_rfl) (fun _ _ _ h => h) (Or.inl ⟨by rfl, ?py23⟩) hHeld ?pr23
            case py23 =>
              intro w hSw
              obtain ⟨_, f0, f1, f2⟩ := hSw
              go_simp
              try with_reducible rfl
            refine wpAnyH_act (a' := ?pn23) ?pe23 ?pt23
            case pe23 =>
              try simp [Act.put]
              try rfl
            refine wpAnyH_takeD (d := (some 112)) (i := 24) (oi := _) (v := ?pv24) rfl (by kernel_rfl) (by kernel_rfl) (by kernel_rfl) (by kernel_rfl) (fun _ _ _ h => h) (Or.inl ⟨by rfl, ?py24⟩) hHeld ?pr24
            case py24 =>
              intro w hSw
              obtain ⟨_, f0, f1, f2⟩ := hSw
              go_simp
              try with_reducible rfl
            refine wpAnyH_act (a' := ?pn24) ?pe24 ?pt24
            case pe24 =>
              try simp [Act.put]
              try rfl
            refine wpAnyH_takeD (d := (some 13)) (i := 25) (oi := _) (v := ?pv25) rfl (by kernel_rfl) (by kernel_rfl) (by kernel_rfl) (by kernel_rfl) (fun _ _ _ h => h) (Or.inl ⟨by rfl, ?py25⟩) hHeld ?pr25
            case py25 =>
              intro w hSw
              obtain ⟨_, f0, f1, f2⟩ := hSw
              go_simp
              try with_reducible rfl
            refine wpAnyH_act (a' := ?pn25) ?pe25 ?pt25
            case pe25 =>
              try simp [Act.put]
              try rfl
            refine wpAnyH_done (by kernel_rfl) ?_ _
            go_wp2_with fail
            go_meet
            exact ⟨rfl, hHeld.1⟩
          case rest =>
          rename World => w13
          obtain ⟨rfl, ho13⟩ := hcut
          have HO13 := Lib.hid (HO12.out.trans ho13)
          have hz9 := ho13.cell z9 id
          have hlt2 := look_tgt (ttl := 100) (L := L) ho1' ho2'
          have hlk2 := lookup_any w13 m 100 (.pointer (some ⟨s, 0, none⟩)) (.slice ta 3 tc) L (tgtL oN) 1 (HE8.out.new HO13.out) (HS8.out.new HO13.out) ⟨_, rfl⟩ (HT8.out.new HO13.out) (show 3 ≤ 1000 by decide) (by
            intro s hs
            have h := (mayGo_all (tgtL oN) 0 (tgt_may (by omega))).1 s hs
            omega)
          rw [show ((1 : Nat) : Int) = 1 from rfl, heq, hlt2.1, hlt2.2] at hlk2
          have hxin := HINO.out
          have hhas := addrs_has (ttl := 100) hxin
          rw [decide_eq_true (show L.filter (fun x => !offO (o : Int) x) ≠ [] from fun e => by rw [e] at hxin; cases hxin)] at hlk2
          have hM2l : (addrsM 100 (L.filter (fun x => !offO (o : Int) x))).length ≤ 48 := by
            have h1 := addrs_len 100 (L.filter (fun x => !offO (o : Int) x)) (L.filter (fun x => !offO (o : Int) x)).length (Nat.le_refl _)
            rw [List.take_length] at h1
            have h2 := List.length_filter_le (fun x => !offO (o : Int) x) L
            have h3 := HOKS.out.len
            omega
          generalize addrsM 100 (L.filter (fun x => !offO (o : Int) x)) = M2 at *
          have x5 := ho13.cell x5 id
          have htl3 : (tgtL oN).length = 3 := rfl
          have htl3' : (tgtL o).length = 3 := rfl
          have HLK2 := Lib.hid hlk2
          have HHAS := Lib.hid hhas
          have HEQ := Lib.hid heq
          clear hlk2 hhas heq
          clear z1 z8 z9 hb4 hb5 e1 e2 e2' hw4 hw5 hwp hwm hws hlt2 ho13 hxin
          go_wp2_with fail
          refine HLK2.out.mono ?_
          rintro e w14 ⟨v14, E14, rfl, ho14, hrow14, hmap14⟩
          have hE14 : E14.length = M2.length := by rw [← hmap14, List.length_map]
          obtain ⟨a14, c14, rfl, k141, k142, k143⟩ := Sl.cells rrC_length (Sl.of_owns hrow14.row)
          have HO14 := Lib.hid (HO13.out.trans ho14)
          have x5 := ho14.cell x5 id
          have HE14 := Lib.hid hE14
          have HC14 := Lib.hid k143
          have HMAP14 := Lib.hid hmap14
          have HX5 := Lib.hid x5
          clear hE14 k143 hmap14 x5
          clear ho14 hrow14 htl3 htl3'
          go_upto_block 2 with fail
          go_cut [17] (fun v wx => v = .bool true ∧ Only (fun _ => False) w14 wx)
          case first =>
            go_wp2_with fail
            go_loopg [17, 18] M2.length (fun g v17 v18 wr => ∃ j : Nat, v18 = .int .i64 j ∧ j ≤ M2.length ∧ v17 = .bool (hasA (M2.take j) (bA d1 0, bA d1 1, bA d1 2, bA d1 3)) ∧ Only (fun _ => False) w14 wr ∧ g = M2.length - j)
            case atStart => exact ⟨0, rfl, Nat.zero_le _, rfl, Only.refl _ _, rfl⟩
            case round =>
              rename World => w15
              obtain ⟨j, rfl, hj, rfl, ho15, hg2⟩ := hrel
              have Hg2 := Lib.hid hg2
              have HO15 := Lib.hid ho15
              clear hg2 ho15
              by_cases hltj : j < M2.length
              · -- inround
                have hj14 : j < E14.length := by have := HE14.out; omega
                have hltj' : (j : Int) < (E14.length : Int) := by omega
                obtain ⟨b14, o14, rfl, hc14⟩ := HC14.out.at j hj14
                have HHS := Lib.hid (hasA_snoc M2 j hltj (bA d1 0, bA d1 1, bA d1 2, bA d1 3))
                have hr14 : E14[j].r = M2[j] := by
                  have e1 : (E14.map (·.r))[j]'(by rw [List.length_map]; exact hj14) = E14[j].r := by simp
                  rw [← e1]
                  congr 1
                  all_goals exact HMAP14.out
                generalize M2[j] = z at *
                generalize E14[j] = e14 at *
                obtain ⟨e14r, tv14⟩ := e14
                dsimp only at hr14
                subst hr14
                obtain ⟨zt, zl, ⟨q0, q1, q2, q3⟩, zp, zw, zo, zg⟩ := e14r
                have y2 := HO15.out.cell (hc14 2 _ rfl) id
                have y3 := HO15.out.cell (hc14 3 _ rfl) id
                have y4 := HO15.out.cell (hc14 4 _ rfl) id
                have y5 := HO15.out.cell (hc14 5 _ rfl) id
                have x5 := HO15.out.cell HX5.out id
                dsimp only at y2 y3 y4 y5
                have h10 := HD10.out
                have n0 : 0 < d1.size := by omega
                have n1 : 1 < d1.size := by omega
                have n2 : 2 < d1.size := by omega
                have n3 : 3 < d1.size := by omega
                have h0 : ((d1[0]'n0).toNat : Int) = (bA d1 0 : Int) := congrArg _ (bA_get d1 0 n0)
                have h1 : ((d1[1]'n1).toNat : Int) = (bA d1 1 : Int) := congrArg _ (bA_get d1 1 n1)
                have h2 : ((d1[2]'n2).toNat : Int) = (bA d1 2 : Int) := congrArg _ (bA_get d1 2 n2)
                have h3' : ((d1[3]'n3).toNat : Int) = (bA d1 3 : Int) := congrArg _ (bA_get d1 3 n3)
                have m0 : (0 : Int) < (d1.size : Int) := by omega
                have m1 : (1 : Int) < (d1.size : Int) := by omega
                have m2 : (2 : Int) < (d1.size : Int) := by omega
                have m3 : (3 : Int) < (d1.size : Int) := by omega
                generalize bA d1 0 = c0 at *
                generalize bA d1 1 = c1 at *
                generalize bA d1 2 = c2' at *
                generalize bA d1 3 = c3 at *
                have heqA := fun W : World => eqArr W q0 q1 q2 q3 c0 c1 c2' c3
                obtain ⟨same, hsame⟩ : ∃ same, same = decide ((q0, q1, q2, q3) = (c0, c1, c2', c3)) := ⟨_, rfl⟩
                rw [← hsame] at heqA
                have HSAME := Lib.hid hsame
                have HC5' := Lib.hid (show ∀ w', Only (fun _ => False) w15 w' → w'.cell? ⟨b14, o14 + j * 10 + 2, none⟩ = some (.int .u8 q0) ∧ w'.cell? ⟨b14, o14 + j * 10 + 3, none⟩ = some (.int .u8 q1) ∧ w'.cell? ⟨b14, o14 + j * 10 + 4, none⟩ = some (.int .u8 q2) ∧ w'.cell? ⟨b14, o14 + j * 10 + 5, none⟩ = some (.int .u8 q3) ∧ w'.cell? ⟨X, 5, none⟩ = some (.string d1) from fun w' h => ⟨h.cell y2 id, h.cell y3 id, h.cell y4 id, h.cell y5 id, h.cell x5 id⟩)
                clear hc14 h10 hsame
                generalize hasA (List.take j M2) (c0, c1, c2', c3) = th at *
                go_upto_region 27 with (fail)
                cases th with
                | true =>
                  refine wp_region_held_drew (S := fun w' => Only (fun _ => False) w15 w') (by kernel_rfl) ((Only.refl _ _).drew) (fun hHeld => ?_)
                  refine wpAnyH_takeD (d := some 129) (i := 0) (oi := _) (v := ?sv0) rfl (by kernel_rfl) (by kernel_rfl) (by kernel_rfl) (by kernel_rfl) (fun _ _ _ h => h) (Or.inl ⟨by rfl, ?sy0⟩) hHeld ?sr0
                  case sy0 =>
                    intro w hSw
                    clear hSw
                    go_simp
                    try with_reducible rfl
                  refine wpAnyH_act (a' := ?sn0) ?se0 ?st0
                  case se0 =>
                    try simp [Act.put]
                    try rfl
                  refine wpAnyH_takeD (d := some 130) (i := 1) (oi := _) (v := ?sv1) rfl (by kernel_rfl) (by kernel_rfl) (by kernel_rfl) (by kernel_rfl) (fun _ _ _ h => h) (Or.inl ⟨by rfl, ?sy1⟩) hHeld ?sr1
                  case sy1 =>
                    intro w hSw
                    clear hSw
                    go_simp
                    try with_reducible rfl
                  refine wpAnyH_act (a' := ?sn1) ?se1 ?st1
                  case se1 =>
                    try simp [Act.put]
                    try rfl
                  refine wpAnyH_takeD (d := some 131) (i := 2) (oi := _) (v := undef) rfl (by kernel_rfl) (by kernel_rfl) (by kernel_rfl) (by kernel_rfl) (fun _ _ _ h => h) (Or.inr ⟨by rfl, rfl⟩) hHeld ?sr2
                  refine wpAnyH_act (a' := ?sn2) ?se2 ?st2
                  case se2 =>
                    try simp [Act.put]
                    try rfl
                  refine wpAnyH_takeD (d := some 132) (i := 3) (oi := _) (v := undef) rfl (by kernel_rfl) (by kernel_rfl) (by kernel_rfl) (by kernel_rfl) (fun _ _ _ h => h) (Or.inr ⟨by rfl, rfl⟩) hHeld ?sr3
                  refine wpAnyH_act (a' := ?sn3) ?se3 ?st3
                  case se3 =>
                    try simp [Act.put]
                    try rfl
                  refine wpAnyH_takeD (d := some 133) (i := 4) (oi := _) (v := undef) rfl (by kernel_rfl) (by kernel_rfl) (by kernel_rfl) (by kernel_rfl) (fun _ _ _ h => h) (Or.inr ⟨by rfl, rfl⟩) hHeld ?sr4
                  refine wpAnyH_act (a' := ?sn4) ?se4 ?st4
                  case se4 =>
                    try simp [Act.put]
                    try rfl
                  refine wpAnyH_takeD (d := some 134) (i := 5) (oi := _) (v := undef) rfl (by kernel_rfl) (by kernel_rfl) (by kernel_rfl) (by kernel_rfl) (fun _ _ _ h => h) (Or.inr ⟨by rfl, rfl⟩) hHeld ?sr5
                  refine wpAnyH_act (a' := ?sn5) ?se5 ?st5
                  case se5 =>
                    try simp [Act.put]
                    try rfl
                  refine wpAnyH_takeD (d := some 135) (i := 6) (oi := _) (v := undef) rfl (by kernel_rfl) (by kernel_rfl) (by kernel_rfl) (by kernel_rfl) (fun _ _ _ h => h) (Or.inr ⟨by rfl, rfl⟩) hHeld ?sr6
                  refine wpAnyH_act (a' := ?sn6) ?se6 ?st6
                  case se6 =>
                    try simp [Act.put]
                    try rfl
                  refine wpAnyH_takeD (d := some 136) (i := 7) (oi := _) (v := undef) rfl (by kernel_rfl) (by kernel_rfl) (by kernel_rfl) (by kernel_rfl) (fun _ _ _ h => h) (Or.inr ⟨by rfl, rfl⟩) hHeld ?sr7
                  refine wpAnyH_act (a' := ?sn7) ?se7 ?st7
                  case se7 =>
                    try simp [Act.put]
                    try rfl
                  refine wpAnyH_takeD (d := some 137) (i := 8) (oi := _) (v := undef) rfl (by kernel_rfl) (by kernel_rfl) (by kernel_rfl) (by kernel_rfl) (fun _ _ _ h => h) (Or.inr ⟨by rfl, rfl⟩) hHeld ?sr8
                  refine wpAnyH_act (a' := ?sn8) ?se8 ?st8
                  case se8 =>
                    try simp [Act.put]
                    try rfl
                  refine wpAnyH_takeD (d := some 138) (i := 9) (oi := _) (v := undef) rfl (by kernel_rfl) (by kernel_rfl) (by kernel_rfl) (by kernel_rfl) (fun _ _ _ h => h) (Or.inr ⟨by rfl, rfl⟩) hHeld ?sr9
                  refine wpAnyH_act (a' := ?sn9) ?se9 ?st9
                  case se9 =>
                    try simp [Act.put]
                    try rfl
                  refine wpAnyH_takeD (d := some 139) (i := 10) (oi := _) (v := undef) rfl (by kernel_rfl) (by kernel_rfl) (by kernel_rfl) (by kernel_rfl) (fun _ _ _ h => h) (Or.inr ⟨by rfl, rfl⟩) hHeld ?sr10
                  refine wpAnyH_act (a' := ?sn10) ?se10 ?st10
                  case se10 =>
                    try simp [Act.put]
                    try rfl
                  refine wpAnyH_takeD (d := some 140) (i := 11) (oi := _) (v := undef) rfl (by kernel_rfl) (by kernel_rfl) (by kernel_rfl) (by kernel_rfl) (fun _ _ _ h => h) (Or.inr ⟨by rfl, rfl⟩) hHeld ?sr11
                  refine wpAnyH_act (a' := ?sn11) ?se11 ?st11
                  case se11 =>
                    try simp [Act.put]
                    try rfl
                  refine wpAnyH_takeD (d := some 141) (i := 12) (oi := _) (v := undef) rfl (by kernel_rfl) (by kernel_rfl) (by kernel_rfl) (by kernel_rfl) (fun _ _ _ h => h) (Or.inr ⟨by rfl, rfl⟩) hHeld ?sr12
                  refine wpAnyH_act (a' := ?sn12) ?se12 ?st12
                  case se12 =>
                    try simp [Act.put]
                    try rfl
                  refine wpAnyH_takeD (d := some 142) (i := 13) (oi := _) (v := undef) rfl (by kernel_rfl) (by kernel_rfl) (by kernel_rfl) (by kernel_rfl) (fun _ _ _ h => h) (Or.inr ⟨by rfl, rfl⟩) hHeld ?sr13
                  refine wpAnyH_act (a' := ?sn13) ?se13 ?st13
                  case se13 =>
                    try simp [Act.put]
                    try rfl
                  refine wpAnyH_takeD (d := some 143) (i := 14) (oi := _) (v := undef) rfl (by kernel_rfl) (by kernel_rfl) (by kernel_rfl) (by kernel_rfl) (fun _ _ _ h => h) (Or.inr ⟨by rfl, rfl⟩) hHeld ?sr14
                  refine wpAnyH_act (a' := ?sn14) ?se14 ?st14
                  case se14 =>
                    try simp [Act.put]
                    try rfl
                  refine wpAnyH_takeD (d := some 144) (i := 15) (oi := _) (v := undef) rfl (by kernel_rfl) (by kernel_rfl) (by kernel_rfl) (by kernel_rfl) (fun _ _ _ h => h) (Or.inr ⟨by rfl, rfl⟩) hHeld ?sr15
                  refine wpAnyH_act (a' := ?sn15) ?se15 ?st15
                  case se15 =>
                    try simp [Act.put]
                    try rfl
                  refine wpAnyH_takeD (d := some 145) (i := 16) (oi := _) (v := undef) rfl (by kernel_rfl) (by kernel_rfl) (by kernel_rfl) (by kernel_rfl) (fun _ _ _ h => h) (Or.inr ⟨by rfl, rfl⟩) hHeld ?sr16
                  refine wpAnyH_act (a' := ?sn16) ?se16 ?st16
                  case se16 =>
                    try simp [Act.put]
                    try rfl
                  refine wpAnyH_takeD (d := some 146) (i := 17) (oi := _) (v := undef) rfl (by kernel_rfl) (by kernel_rfl) (by kernel_rfl) (by kernel_rfl) (fun _ _ _ h => h) (Or.inr ⟨by rfl, rfl⟩) hHeld ?sr17
                  refine wpAnyH_act (a' := ?sn17) ?se17 ?st17
                  case se17 =>
                    try simp [Act.put]
                    try rfl
                  refine wpAnyH_takeD (d := some 147) (i := 18) (oi := _) (v := undef) rfl (by kernel_rfl) (by kernel_rfl) (by kernel_rfl) (by kernel_rfl) (fun _ _ _ h => h) (Or.inr ⟨by rfl, rfl⟩) hHeld ?sr18
                  refine wpAnyH_act (a' := ?sn18) ?se18 ?st18
                  case se18 =>
                    try simp [Act.put]
                    try rfl
                  refine wpAnyH_takeD (d := some 148) (i := 19) (oi := _) (v := undef) rfl (by kernel_rfl) (by kernel_rfl) (by kernel_rfl) (by kernel_rfl) (fun _ _ _ h => h) (Or.inr ⟨by rfl, rfl⟩) hHeld ?sr19
                  refine wpAnyH_act (a' := ?sn19) ?se19 ?st19
                  case se19 =>
                    try simp [Act.put]
                    try rfl
                  refine wpAnyH_takeD (d := some 149) (i := 20) (oi := _) (v := undef) rfl (by kernel_rfl) (by kernel_rfl) (by kernel_rfl) (by kernel_rfl) (fun _ _ _ h => h) (Or.inr ⟨by rfl, rfl⟩) hHeld ?sr20
                  refine wpAnyH_act (a' := ?sn20) ?se20 ?st20
                  case se20 =>
                    try simp [Act.put]
                    try rfl
                  refine wpAnyH_takeD (d := some 150) (i := 21) (oi := _) (v := ?sv21) rfl (by kernel_rfl) (by kernel_rfl) (by kernel_rfl) (by kernel_rfl) (fun _ _ _ h => h) (Or.inl ⟨by rfl, ?sy21⟩) hHeld ?sr21
                  case sy21 =>
                    intro w hSw
                    clear hSw
                    go_simp
                    try with_reducible rfl
                  refine wpAnyH_act (a' := ?sn21) ?se21 ?st21
                  case se21 =>
                    try simp [Act.put]
                    try rfl
                  refine wpAnyH_takeD (d := some 17) (i := 22) (oi := _) (v := ?sv22) rfl (by kernel_rfl) (by kernel_rfl) (by kernel_rfl) (by kernel_rfl) (fun _ _ _ h => h) (Or.inl ⟨by rfl, ?sy22⟩) hHeld ?sr22
                  case sy22 =>
                    intro w hSw
                    clear hSw
                    go_simp
                    try with_reducible rfl
                  refine wpAnyH_act (a' := ?sn22) ?se22 ?st22
                  case se22 =>
                    try simp [Act.put]
                    try rfl
                  refine wpAnyH_done (by kernel_rfl) ?_ _
                  go_wp2_with fail
                  go_roundg (M2.length - (j + 1))
                  case measure => rw [Hg2.out]; omega
                  case rel => exact ⟨j + 1, by go_num, by omega, by rw [HHS.out, ← HSAME.out]; rfl, HO15.out.trans hHeld, rfl⟩
                | false =>
                  refine wp_region_held_drew (S := fun w' => Only (fun _ => False) w15 w' ∧ w'.cell? ⟨b14, o14 + j * 10 + 2, none⟩ = some (.int .u8 q0) ∧ w'.cell? ⟨b14, o14 + j * 10 + 3, none⟩ = some (.int .u8 q1) ∧ w'.cell? ⟨b14, o14 + j * 10 + 4, none⟩ = some (.int .u8 q2) ∧ w'.cell? ⟨b14, o14 + j * 10 + 5, none⟩ = some (.int .u8 q3) ∧ w'.cell? ⟨X, 5, none⟩ = some (.string d1)) (by kernel_rfl) (by (refine heldO HC5'.out ?_; (repeat (first | (with_reducible assumption) | (with_reducible exact Only.refl _ _) | (with_reducible refine Only.drew ?_) | (with_reducible refine Only.alloc ?_ _) | (with_reducible refine onlySet ?_ (by first | (with_reducible assumption) | omega) _) | (with_reducible refine Only.trans ?_ (by with_reducible assumption)))))) (fun hHeld => ?_)
                  refine wpAnyH_takeD (d := some 129) (i := 0) (oi := _) (v := ?uv0) rfl (by kernel_rfl) (by kernel_rfl) (by kernel_rfl) (by kernel_rfl) (fun _ _ _ h => h) (Or.inl ⟨by rfl, ?uy0⟩) hHeld ?ur0
                  case uy0 =>
                    intro w hSw
                    obtain ⟨_, f2, f3, f4, f5, f6⟩ := hSw
                    go_simp
                    try with_reducible rfl
                  refine wpAnyH_act (a' := ?un0) ?ue0 ?ut0
                  case ue0 =>
                    try simp [Act.put]
                    try rfl
                  refine wpAnyH_takeD (d := some 130) (i := 1) (oi := _) (v := ?uv1) rfl (by kernel_rfl) (by kernel_rfl) (by kernel_rfl) (by kernel_rfl) (fun _ _ _ h => h) (Or.inl ⟨by rfl, ?uy1⟩) hHeld ?ur1
                  case uy1 =>
                    intro w hSw
                    obtain ⟨_, f2, f3, f4, f5, f6⟩ := hSw
                    go_simp
                    try with_reducible rfl
                  refine wpAnyH_act (a' := ?un1) ?ue1 ?ut1
                  case ue1 =>
                    try simp [Act.put]
                    try rfl
                  refine wpAnyH_takeD (d := some 131) (i := 2) (oi := _) (v := ?uv2) rfl (by kernel_rfl) (by kernel_rfl) (by kernel_rfl) (by kernel_rfl) (fun _ _ _ h => h) (Or.inl ⟨by rfl, ?uy2⟩) hHeld ?ur2
                  case uy2 =>
                    intro w hSw
                    obtain ⟨_, f2, f3, f4, f5, f6⟩ := hSw
                    go_simp
                    try with_reducible rfl
                  refine wpAnyH_act (a' := ?un2) ?ue2 ?ut2
                  case ue2 =>
                    try simp [Act.put]
                    try rfl
                  refine wpAnyH_takeD (d := some 132) (i := 3) (oi := _) (v := ?uv3) rfl (by kernel_rfl) (by kernel_rfl) (by kernel_rfl) (by kernel_rfl) (fun _ _ _ h => h) (Or.inl ⟨by rfl, ?uy3⟩) hHeld ?ur3
                  case uy3 =>
                    intro w hSw
                    obtain ⟨_, f2, f3, f4, f5, f6⟩ := hSw
                    go_simp
                    try with_reducible rfl
                  refine wpAnyH_act (a' := ?un3) ?ue3 ?ut3
                  case ue3 =>
                    try simp [Act.put]
                    try rfl
                  refine wpAnyH_takeD (d := some 133) (i := 4) (oi := _) (v := ?uv4) rfl (by kernel_rfl) (by kernel_rfl) (by kernel_rfl) (by kernel_rfl) (fun _ _ _ h => h) (Or.inl ⟨by rfl, ?uy4⟩) hHeld ?ur4
                  case uy4 =>
                    intro w hSw
                    obtain ⟨_, f2, f3, f4, f5, f6⟩ := hSw
                    go_simp
                    try with_reducible rfl
                  refine wpAnyH_act (a' := ?un4) ?ue4 ?ut4
                  case ue4 =>
                    try simp [Act.put]
                    try rfl
                  refine wpAnyH_takeD (d := some 134) (i := 5) (oi := _) (v := ?uv5) rfl (by kernel_rfl) (by kernel_rfl) (by kernel_rfl) (by kernel_rfl) (fun _ _ _ h => h) (Or.inl ⟨by rfl, ?uy5⟩) hHeld ?ur5
                  case uy5 =>
                    intro w hSw
                    obtain ⟨_, f2, f3, f4, f5, f6⟩ := hSw
                    go_simp
                    try with_reducible rfl
                  refine wpAnyH_act (a' := ?un5) ?ue5 ?ut5
                  case ue5 =>
                    try simp [Act.put]
                    try rfl
                  refine wpAnyH_takeD (d := some 135) (i := 6) (oi := _) (v := ?uv6) rfl (by kernel_rfl) (by kernel_rfl) (by kernel_rfl) (by kernel_rfl) (fun _ _ _ h => h) (Or.inl ⟨by rfl, ?uy6⟩) hHeld ?ur6
                  case uy6 =>
                    intro w hSw
                    obtain ⟨_, f2, f3, f4, f5, f6⟩ := hSw
                    go_simp
                    try with_reducible rfl
                  refine wpAnyH_act (a' := ?un6) ?ue6 ?ut6
                  case ue6 =>
                    try simp [Act.put]
                    try rfl
                  refine wpAnyH_takeD (d := some 136) (i := 7) (oi := _) (v := ?uv7) rfl (by kernel_rfl) (by kernel_rfl) (by kernel_rfl) (by kernel_rfl) (fun _ _ _ h => h) (Or.inl ⟨by rfl, ?uy7⟩) hHeld ?ur7
                  case uy7 =>
                    intro w hSw
                    obtain ⟨_, f2, f3, f4, f5, f6⟩ := hSw
                    go_simp
                    try with_reducible rfl
                  refine wpAnyH_act (a' := ?un7) ?ue7 ?ut7
                  case ue7 =>
                    try simp [Act.put]
                    try rfl
                  refine wpAnyH_takeD (d := some 137) (i := 8) (oi := _) (v := ?uv8) rfl (by kernel_rfl) (by kernel_rfl) (by kernel_rfl) (by kernel_rfl) (fun _ _ _ h => h) (Or.inl ⟨by rfl, ?uy8⟩) hHeld ?ur8
                  case uy8 =>
                    intro w hSw
                    obtain ⟨_, f2, f3, f4, f5, f6⟩ := hSw
                    go_simp
                    try with_reducible rfl
                  refine wpAnyH_act (a' := ?un8) ?ue8 ?ut8
                  case ue8 =>
                    try simp [Act.put]
                    try rfl
                  refine wpAnyH_takeD (d := some 138) (i := 9) (oi := _) (v := ?uv9) rfl (by kernel_rfl) (by kernel_rfl) (by kernel_rfl) (by kernel_rfl) (fun _ _ _ h => h) (Or.inl ⟨by rfl, ?uy9⟩) hHeld ?ur9
                  case uy9 =>
                    intro w hSw
                    obtain ⟨_, f2, f3, f4, f5, f6⟩ := hSw
                    go_simp
                    try with_reducible rfl
                  refine wpAnyH_act (a' := ?un9) ?ue9 ?ut9
                  case ue9 =>
                    try simp [Act.put]
                    try rfl
                  refine wpAnyH_takeD (d := some 139) (i := 10) (oi := _) (v := ?uv10) rfl (by kernel_rfl) (by kernel_rfl) (by kernel_rfl) (by kernel_rfl) (fun _ _ _ h => h) (Or.inl ⟨by rfl, ?uy10⟩) hHeld ?ur10
                  case uy10 =>
                    intro w hSw
                    obtain ⟨_, f2, f3, f4, f5, f6⟩ := hSw
                    go_simp
                    try with_reducible rfl
                  refine wpAnyH_act (a' := ?un10) ?ue10 ?ut10
                  case ue10 =>
                    try simp [Act.put]
                    try rfl
                  refine wpAnyH_takeD (d := some 140) (i := 11) (oi := _) (v := ?uv11) rfl (by kernel_rfl) (by kernel_rfl) (by kernel_rfl) (by kernel_rfl) (fun _ _ _ h => h) (Or.inl ⟨by rfl, ?uy11⟩) hHeld ?ur11
                  case uy11 =>
                    intro w hSw
                    obtain ⟨_, f2, f3, f4, f5, f6⟩ := hSw
                    go_simp
                    try with_reducible rfl
                  refine wpAnyH_act (a' := ?un11) ?ue11 ?ut11
                  case ue11 =>
                    try simp [Act.put]
                    try rfl
                  refine wpAnyH_takeD (d := some 141) (i := 12) (oi := _) (v := ?uv12) rfl (by kernel_rfl) (by kernel_rfl) (by kernel_rfl) (by kernel_rfl) (fun _ _ _ h => h) (Or.inl ⟨by rfl, ?uy12⟩) hHeld ?ur12
                  case uy12 =>
                    intro w hSw
                    obtain ⟨_, f2, f3, f4, f5, f6⟩ := hSw
                    go_simp
                    try with_reducible rfl
                  refine wpAnyH_act (a' := ?un12) ?ue12 ?ut12
                  case ue12 =>
                    try simp [Act.put]
                    try rfl
                  refine wpAnyH_takeD (d := some 142) (i := 13) (oi := _) (v := ?uv13) rfl (by kernel_rfl) (by kernel_rfl) (by kernel_rfl) (by kernel_rfl) (fun _ _ _ h => h) (Or.inl ⟨by rfl, ?uy13⟩) hHeld ?ur13
                  case uy13 =>
                    intro w hSw
                    obtain ⟨_, f2, f3, f4, f5, f6⟩ := hSw
                    go_simp
                    try with_reducible rfl
                  refine wpAnyH_act (a' := ?un13) ?ue13 ?ut13
                  case ue13 =>
                    try simp [Act.put]
                    try rfl
                  refine wpAnyH_takeD (d := some 143) (i := 14) (oi := _) (v := ?uv14) rfl (by kernel_rfl) (by kernel_rfl) (by kernel_rfl) (by kernel_rfl) (fun _ _ _ h => h) (Or.inl ⟨by rfl, ?uy14⟩) hHeld ?ur14
                  case uy14 =>
                    intro w hSw
                    obtain ⟨_, f2, f3, f4, f5, f6⟩ := hSw
                    go_simp
                    try with_reducible rfl
                  refine wpAnyH_act (a' := ?un14) ?ue14 ?ut14
                  case ue14 =>
                    try simp [Act.put]
                    try rfl
                  refine wpAnyH_takeD (d := some 144) (i := 15) (oi := _) (v := ?uv15) rfl (by kernel_rfl) (by kernel_rfl) (by kernel_rfl) (by kernel_rfl) (fun _ _ _ h => h) (Or.inl ⟨by rfl, ?uy15⟩) hHeld ?ur15
                  case uy15 =>
                    intro w hSw
                    obtain ⟨_, f2, f3, f4, f5, f6⟩ := hSw
                    go_simp
                    try with_reducible rfl
                  refine wpAnyH_act (a' := ?un15) ?ue15 ?ut15
                  case ue15 =>
                    try simp [Act.put]
                    try rfl
                  refine wpAnyH_takeD (d := some 145) (i := 16) (oi := _) (v := ?uv16) rfl (by kernel_rfl) (by kernel_rfl) (by kernel_rfl) (by kernel_rfl) (fun _ _ _ h => h) (Or.inl ⟨by rfl, ?uy16⟩) hHeld ?ur16
                  case uy16 =>
                    intro w hSw
                    obtain ⟨_, f2, f3, f4, f5, f6⟩ := hSw
                    go_simp
                    try with_reducible rfl
                  refine wpAnyH_act (a' := ?un16) ?ue16 ?ut16
                  case ue16 =>
                    try simp [Act.put]
                    try rfl
                  refine wpAnyH_takeD (d := some 146) (i := 17) (oi := _) (v := ?uv17) rfl (by kernel_rfl) (by kernel_rfl) (by kernel_rfl) (by kernel_rfl) (fun _ _ _ h => h) (Or.inl ⟨by rfl, ?uy17⟩) hHeld ?ur17
                  case uy17 =>
                    intro w hSw
                    obtain ⟨_, f2, f3, f4, f5, f6⟩ := hSw
                    go_simp
                    try with_reducible rfl
                  refine wpAnyH_act (a' := ?un17) ?ue17 ?ut17
                  case ue17 =>
                    try simp [Act.put]
                    try rfl
                  refine wpAnyH_takeD (d := some 147) (i := 18) (oi := _) (v := ?uv18) rfl (by kernel_rfl) (by kernel_rfl) (by kernel_rfl) (by kernel_rfl) (fun _ _ _ h => h) (Or.inl ⟨by rfl, ?uy18⟩) hHeld ?ur18
                  case uy18 =>
                    intro w hSw
                    obtain ⟨_, f2, f3, f4, f5, f6⟩ := hSw
                    go_simp
                    try with_reducible rfl
                  refine wpAnyH_act (a' := ?un18) ?ue18 ?ut18
                  case ue18 =>
                    try simp [Act.put]
                    try rfl
                  refine wpAnyH_takeD (d := some 148) (i := 19) (oi := _) (v := ?uv19) rfl (by kernel_rfl) (by kernel_rfl) (by kernel_rfl) (by kernel_rfl) (fun _ _ _ h => h) (Or.inl ⟨by rfl, ?uy19⟩) hHeld ?ur19
                  case uy19 =>
                    intro w hSw
                    obtain ⟨_, f2, f3, f4, f5, f6⟩ := hSw
                    go_simp
                    try with_reducible rfl
                  refine wpAnyH_act (a' := ?un19) ?ue19 ?ut19
                  case ue19 =>
                    try simp [Act.put]
                    try rfl
                  refine wpAnyH_takeD (d := some 149) (i := 20) (oi := _) (v := ?uv20) rfl (by kernel_rfl) (by kernel_rfl) (by kernel_rfl) (by kernel_rfl) (fun _ _ _ h => h) (Or.inl ⟨by rfl, ?uy20⟩) hHeld ?ur20
                  case uy20 =>
                    intro w hSw
                    obtain ⟨_, f2, f3, f4, f5, f6⟩ := hSw
                    go_simp
                    try with_reducible rfl
                  refine wpAnyH_act (a' := ?un20) ?ue20 ?ut20
                  case ue20 =>
                    try simp [Act.put]
                    try rfl
                  refine wpAnyH_takeD (d := some 150) (i := 21) (oi := _) (v := ?uv21) rfl (by kernel_rfl) (by kernel_rfl) (by kernel_rfl) (by kernel_rfl) (fun _ _ _ h => h) (Or.inl ⟨by rfl, ?uy21⟩) hHeld ?ur21
                  case uy21 =>
                    intro w hSw
                    obtain ⟨_, f2, f3, f4, f5, f6⟩ := hSw
                    go_simp
                    try with_reducible rfl
                  refine wpAnyH_act (a' := ?un21) ?ue21 ?ut21
                  case ue21 =>
                    try simp [Act.put]
                    try rfl
                  refine wpAnyH_takeD (d := some 17) (i := 22) (oi := _) (v := ?uv22) rfl (by kernel_rfl) (by kernel_rfl) (by kernel_rfl) (by kernel_rfl) (fun _ _ _ h => h) (Or.inl ⟨by rfl, ?uy22⟩) hHeld ?ur22
                  case uy22 =>
                    intro w hSw
                    obtain ⟨_, f2, f3, f4, f5, f6⟩ := hSw
                    go_simp
                    try with_reducible rfl
                  refine wpAnyH_act (a' := ?un22) ?ue22 ?ut22
                  case ue22 =>
                    try simp [Act.put]
                    try rfl
                  refine wpAnyH_done (by kernel_rfl) ?_ _
                  go_wp2_with fail
                  go_roundg (M2.length - (j + 1))
                  case measure => rw [Hg2.out]; omega
                  case rel => exact ⟨j + 1, by go_num, by omega, by rw [HHS.out, ← HSAME.out]; first | rfl | simp, HO15.out.trans hHeld.1, rfl⟩
              · -- inend
                have hje : ¬ (j : Int) < (E14.length : Int) := by have := HE14.out; omega
                have hje' : ¬ j < E14.length := by have := HE14.out; omega
                have hth : hasA (M2.take j) (bA d1 0, bA d1 1, bA d1 2, bA d1 3) = true := by
                  rw [List.take_of_length_le (by omega)]
                  exact HHAS.out
                rw [hth]
                go_wp2_with fail
                go_meet
                exact ⟨rfl, HO15.out⟩
          case rest =>
          rename World => w17
          obtain ⟨rfl, ho17⟩ := hcut
          have HO17 := Lib.hid (HO14.out.trans ho17)
          clear ho17
          go_wp2_with fail
          go_roundg (H.length - (k + 1))
          case measure => rw [Hg.out]; omega
          case rel => exact ⟨k + 1, by go_num, by omega, by rw [HF.out], HO17.out, rfl⟩
        · -- ne
          have HF := Lib.hid (show foundK H o (k + 1) = foundK H o k by rw [HFS.out, HYO.out, decide_eq_false (by omega), Bool.or_false])
          rw [decide_eq_false heq]
          clear heq ho12 z1 z8 z9 x2 x5
          go_wp2_with fail
          go_roundg (H.length - (k + 1))
          case measure => rw [Hg.out]; omega
          case rel => exact ⟨k + 1, by go_num, by omega, by rw [HF.out], HO12.out, rfl⟩
      · -- end
        have hke : ¬ (k : Int) < (E8.length : Int) := by have := HEL8.out; omega
        have hke' : ¬ k < E8.length := by have := HEL8.out; omega
        have hfin : foundK H o k = true := by
          unfold foundK
          rw [List.take_of_length_le (by omega), List.any_eq_true]
          exact ⟨_, HINH.out, by simp⟩
        rw [hfin]
        go_wp2_with fail
        go_ret
        exact ⟨rfl, HO8.out.trans HO9.out⟩
end Go.Proofs.YtbdfijgejkimnaaGreatDoor
/-! AnswerLeads is true of every input: each service of a store of any records is found by its name, and its Target leads to its address. No condition; the package variables that it names are tied to the text. -/
namespace Go.Proofs.YtbdfijgejkimnaaGreatDoor.leadsLaw
open Go.Conc Go.RowKit Go.ChangeShapes Go.WideShapes Go.ChangeAt Go.ChangeMaps

theorem reads : ∀ t ∈ Tryz.f7.params.toList, Tryz.prog.readableRec t = true ∧ t < Tryz.prog.types.size := by
  intro t ht
  have h1 : ([22, 5].all fun u => Tryz.prog.readableRec u && decide (u < Tryz.prog.types.size)) = true := by kernel_rfl
  rw [Tryz.params7] at ht
  have := List.all_eq_true.1 h1 t ht
  simpa using this
set_option maxRecDepth 100000 in
set_option maxHeartbeats 8000000 in
theorem lifted (os : Os) (started : os.Started) (H : Type) (enc : TypeId × Value → H) :
    ReturnsInHanded {} Tryz.checked os 7 .any (fun w args => (Rows.answerLeadsSpec.pre enc Tryz.prog Tryz.f7 Rows.answerLeadsRow.domain false w args ∧ laidMetH Tryz.prog Rows.answerLeadsRow.laid w) ∧ sizedMet enc Tryz.prog Tryz.f7 (OpenSpec.ofChange Rows.answerLeadsSpec) false w args)
      (Rows.answerLeadsSpec.post enc Tryz.prog Tryz.f7 false true false false) := by
  refine returns_laid (C := Tryz.checked) (X := fun w _ => laidMetH Tryz.prog Rows.answerLeadsRow.laid w) (fun _ _ _ hh h => h.of_heap hh) ownD started (by kernel_rfl) Tryz.func7
    (ChangeSpec.witness_shaped (enc := enc) (C := Tryz.checked) (os := os) (X := fun w _ => laidMetH Tryz.prog Rows.answerLeadsRow.laid w) false (World.laidAll Tryz.prog os Rows.answerLeadsRow.laid) #[.slice none 0 0, .int .u8 0] 8 (World.laidAll_os _ _ _)
      (World.shaped_of_ZipB (by kernel_rfl) (by kernel_rfl)) (by kernel_rfl) (by kernel_rfl) (by kernel_rfl)
      (by rw [MakeChecks.laidMetH_plain _ _ _ (by kernel_rfl)]; exact laidMet_laidAll _ (by kernel_rfl) (by kernel_rfl))) ?_
  intro W base args ds gs before hval0 hW hlaid hsh
  have hval : ∀ (j : Nat) t v, Tryz.f7.params[j]? = some t → args[j]? = some v → Value.okWide Tryz.prog W .any base t v := hval0
  have hW' := hW
  obtain ⟨m0, hm0⟩ := maxLen_cell W hsh
  obtain ⟨p, q, hA0, hV, rfl, _, _⟩ := hW
  have hA : DataW.TrodAll enc Tryz.prog W 0 (fun _ => true) true Tryz.f7.params.toList args.toList ds p := hA0
  rw [Tryz.params7] at hA hval
  obtain ⟨v0, vs0, d0, ds0, p0, q0, hargs, rfl, rfl, h0, r0⟩ := trodAll_cons hA
  obtain ⟨v1, vs1, d1, ds1, p1, q1, rfl, rfl, rfl, h1, r1⟩ := trodAll_cons r0
  obtain ⟨rfl, rfl, rfl⟩ := trodAll_nil r1
  obtain rfl : args = #[v0, v1] := by cases args; simp_all
  obtain ⟨x0, s0, b0⟩ := sl_recs25 (hval 0 22 v0 rfl rfl) h0
  obtain ⟨x1, rfl, rfl, rfl, b1⟩ := open_int Tryz.underlying5 (hval 1 5 v1 rfl rfl) h1
  obtain ⟨n1, rfl, w1⟩ := nat_u8 b1
  obtain ⟨rfl, rfl⟩ := trodVars_none hV
  refine (leads25_any W m0 (envW_of W m0 hm0 hlaid) v0 x0 n1 s0 b0 w1).mono fun e W' ⟨he, ho⟩ => ?_
  subst he
  exact ⟨_, rfl, law_post hW' (ho.below (Nat.le_refl _) (fun _ _ => id)) laidOutD reads rfl Tryz.underlying4 rfl rfl rfl rfl⟩

theorem said : Rows.AnswerLeadsSaid :=
  OpenClaim.holds_of_wide 7 Tryz.f7 rfl rfl rfl rfl rfl rfl rfl ⟨rfl, rfl, rfl, rfl, rfl⟩ rfl rfl rfl rfl rfl (by kernel_rfl) Tryz.func7 (by kernel_rfl)
    (of_decide_eq_true (by kernel_rfl)) (by unfold Func.isWrapper; first | (rw [if_pos (by decide +kernel)]; kernel_rfl) | (rw [if_neg (by decide +kernel)]; exact ⟨rfl, rfl⟩))
    (fun os started H enc _ => lifted os started H enc)
theorem looks (f : FuncId) (fn : Func) (hf : Tryz.pinned.checked.prog.funcNamed "bellhop/bellhoplaw25.AnswerLeads" = some f) (hfn : Tryz.pinned.checked.prog.funcs[f]? = some fn) :
    true = Tryz.pinned.checked.prog.looks [] ∧ ∀ (j : Nat) t, fn.params[j]? = some t → Tryz.pinned.checked.prog.wantsStandIn t = false := by
  obtain rfl : f = 7 := Option.some.inj ((show Tryz.prog.funcNamed "bellhop/bellhoplaw25.AnswerLeads" = some 7 by kernel_rfl).symm.trans hf) |>.symm
  obtain rfl : fn = Tryz.f7 := (Option.some.inj (Tryz.func7.symm.trans hfn)).symm
  refine ⟨by kernel_rfl, fun j t ht => ?_⟩
  rw [Tryz.params7] at ht
  have hm : t ∈ [22, 5] := by simpa using Array.mem_of_getElem? ht
  have hall : ([22, 5].all fun u => !Tryz.prog.wantsStandIn u) = true := by kernel_rfl
  exact (show Tryz.prog.wantsStandIn t = false by simpa using List.all_eq_true.1 hall t hm)
theorem card : Rows.AnswerLeadsCardSaid :=
  Claim7.holds_tied_plain_at .later [] _ _ _ _ said (fun _ h => by cases h) (by kernel_rfl) (fun _ h => by cases h) answerLeads_row_tie rfl ⟨rfl, rfl⟩ (by kernel_rfl) rfl looks (by kernel_rfl)
#print axioms card
end Go.Proofs.YtbdfijgejkimnaaGreatDoor.leadsLaw
