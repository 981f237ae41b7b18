/- Small laws for regions that make blocks: what is kept, the block behind a chain of stores. -/
import Derived.Test.YtbdfijgejkimnaaGreatDoorNA
import Derived.Laws.BitsAllLaws
import Derived.Deep.RegionLaw
import Derived.Laws.IdiomStrings
import Derived.Lib.BufferMore
import Derived.Deep.AppendLies
import Derived.Lib.ItoaMem
import Derived.Lib.AtoiAll
import Derived.Lib.Join
import Derived.Deep.RegionHeld3
/-! Add: a table, or none; the bytes that it writes. -/
namespace Go.Proofs.YtbdfijgejkimnaaGreatDoor
open Go.Conc Go.RowKit

abbrev Tab : Type := List UInt8 → Option Int
/-- A table or none: its blocks, a bound on its entries, what it says, whether there is one. -/
def TabV (w : World) (tv : Value) (S : Nat → Prop) (n : Nat) (f : Tab) (live : Bool) : Prop :=
  (tv = .pointer none ∧ live = false ∧ f = (fun _ => none) ∧ ∀ x, ¬ S x) ∨
    ∃ t bm, tv = .pointer (some ⟨t, 0, none⟩) ∧ live = true ∧ (∀ x, S x ↔ (x = t ∨ bm = some x)) ∧ TabAt w t bm n f
def notedV (live : Bool) (f : Tab) (k : List UInt8) (c : Int) : Tab := if live then noted f k c else f
def NoteV (w w' : World) (tv : Value) (S : Nat → Prop) (n : Nat) (f : Tab) (live : Bool) : Prop :=
  ∃ S', Only S w w' ∧ TabV w' tv S' n f live ∧ ∀ x, S' x → S x ∨ w.heap.size ≤ x
theorem TabV.more {w : World} {tv : Value} {S : Nat → Prop} {n n' : Nat} {f : Tab} {live : Bool} (h : TabV w tv S n f live) (hn : n ≤ n') : TabV w tv S n' f live := by
  rcases h with h | ⟨t, bm, h1, h2, h3, h4⟩
  · exact .inl h
  · exact .inr ⟨t, bm, h1, h2, h3, h4.more hn⟩
theorem TabV.apart {w : World} {tv : Value} {S : Nat → Prop} {n : Nat} {f : Tab} {live : Bool} (h : TabV w tv S n f live) {a : Addr} {u : ByteArray} (hc : w.cell? a = some (.string u)) : ¬ S a.block := by
  intro hs
  rcases h with ⟨_, _, _, h⟩ | ⟨t, bm, h1, h2, h3, m, h4, h5⟩
  · exact h _ hs
  · rcases (h3 _).1 hs with e | e
    · obtain ⟨b, i, o⟩ := a
      dsimp only at e
      subst e
      simp only [World.cell?, h4] at hc
      rcases h5 with ⟨rfl, _, _⟩ | ⟨b, D, rfl, _⟩
      · cases i with
        | zero => cases o <;> simp at hc
        | succ i => cases o <;> simp at hc
      · cases i with
        | zero => cases o <;> simp at hc
        | succ i => cases o <;> simp at hc
    · rcases h5 with ⟨_, hb, _⟩ | ⟨b, D, _, hb, hown, _⟩
      · rw [hb] at e; cases e
      · rw [hb] at e
        injection e with e
        obtain ⟨es, clock, hblk, _⟩ := hown
        rw [e] at hblk
        simp [World.cell?, hblk] at hc
theorem TabV.kept {w w' : World} {tv : Value} {S T : Nat → Prop} {n : Nat} {f : Tab} {live : Bool} (h : TabV w tv S n f live) (ho : Only T w w') (hn : ∀ x, S x → ¬ T x) : TabV w' tv S n f live := by
  rcases h with h | ⟨t, bm, h1, h2, h3, h4⟩
  · exact .inl h
  · exact .inr ⟨t, bm, h1, h2, h3, h4.kept ho (hn t ((h3 t).2 (.inl rfl))) (fun b hb => hn b ((h3 b).2 (.inr hb)))⟩
theorem place_v (w : World) (tv : Value) (S : Nat → Prop) (n : Nat) (f : Tab) (live : Bool) (k : ByteArray) (h : TabV w tv S n f live) (h0 : k.size ≠ 0) (hk : k.size ≤ maxLen) :
    Calls Tryz.prog 124 #[tv, .string k] w fun e w' => ∃ c, e = .returned (.tuple #[.int .i64 c, .bool (f k.data.toList).isSome]) ∧ w = w' ∧ (∀ c', f k.data.toList = some c' → c = c') := by
  rcases h with ⟨rfl, _, rfl, _⟩ | ⟨t, bm, rfl, _, _, h4⟩
  · refine (place_none w k).mono ?_
    rintro e w' ⟨rfl, rfl⟩
    exact ⟨0, rfl, rfl, fun c' h => by cases h⟩
  · exact place_any w t bm n f k h4 h0 hk
theorem note_v (w : World) (tv : Value) (S : Nat → Prop) (n : Nat) (f : Tab) (live : Bool) (k : ByteArray) (c : Int) (h : TabV w tv S n f live) (h0 : k.size ≠ 0) (hk : k.size ≤ maxLen) (hn : n < 100000) (c0 : 0 ≤ c) (c1 : c ≤ 1000000) :
    Calls Tryz.prog 125 #[tv, .string k, .int .i64 c] w fun e w' => e = .returned (.tuple #[]) ∧ NoteV w w' tv S (n + 1) (notedV live f k.data.toList c) live := by
  rcases h with ⟨rfl, rfl, rfl, hs⟩ | ⟨t, bm, rfl, rfl, hs, h4⟩
  · refine (note_none w k c).mono ?_
    rintro e w' ⟨rfl, rfl⟩
    exact ⟨rfl, S, Only.refl _ _, .inl ⟨rfl, rfl, rfl, hs⟩, fun x h => .inl h⟩
  · refine (note_any w t bm n f k c h4 h0 hk hn c0 c1).mono ?_
    rintro e w' ⟨rfl, bm', ho, ht, hb⟩
    refine ⟨rfl, fun x => x = t ∨ bm' = some x, ho.weaken (fun x _ hx => (hs x).2 hx), .inr ⟨t, bm', rfl, rfl, fun x => Iff.rfl, ht⟩, fun x hx => ?_⟩
    rcases hx with rfl | hx
    · exact .inl ((hs _).2 (.inl rfl))
    · rcases hb x hx with h | h
      · exact .inl ((hs _).2 (.inr h))
      · exact .inr h

theorem foldl_label (l : List ByteArray) : ∀ r : ByteArray, l.foldl (fun r s => r ++ labelB s) r = r ++ bytesL l := by
  unfold bytesL
  induction l with
  | nil => intro r; exact str_ext (by simp)
  | cons s l ih =>
    intro r
    rw [List.foldl_cons, List.foldl_cons, ih, ih (⟨#[]⟩ ++ labelB s)]
    exact str_ext (by simp)
theorem bytesL_cons (s : ByteArray) (l : List ByteArray) : bytesL (s :: l) = labelB s ++ bytesL l := by
  unfold bytesL
  rw [List.foldl_cons, foldl_label]
  exact str_ext (by simp [bytesL])
theorem labelB_size (s : ByteArray) : (labelB s).size = 1 + s.size := by
  rw [labelB, ByteArray.size_append]
  rfl
theorem bytesL_nil : bytesL [] = ⟨#[]⟩ := rfl
theorem bytesL_size_cons (s : ByteArray) (l : List ByteArray) : (bytesL (s :: l)).size = 1 + s.size + (bytesL l).size := by
  rw [bytesL_cons, ByteArray.size_append, labelB_size]
theorem bytesL_drop_size (l : List ByteArray) (k : Nat) : (bytesL (l.drop k)).size ≤ (bytesL l).size := by
  induction k generalizing l with
  | zero => exact Nat.le_refl _
  | succ k ih =>
    cases l with
    | nil => exact Nat.le_refl _
    | cons s l => rw [List.drop_succ_cons, bytesL_size_cons]; have := ih l; omega
theorem extract_append (a b : ByteArray) (n m : Nat) (hn : n = a.size) (hm : m = (a ++ b).size) : (a ++ b).extract n m = b := by
  subst hn hm
  exact ByteArray.extract_append_eq_right rfl ByteArray.size_append
theorem bytesL_rest (s : ByteArray) (l : List ByteArray) : (bytesL (s :: l)).extract (1 + s.size) (bytesL (s :: l)).size = bytesL l := by
  rw [bytesL_cons]
  exact extract_append _ _ _ _ (labelB_size s).symm rfl
theorem mayGo_all : ∀ (l : List ByteArray) (n : Nat), mayGo n l = true → (∀ s ∈ l, s.size ≠ 0 ∧ s.size ≤ 63) ∧ n + (bytesL l).size ≤ 254 ∧ 2 * l.length ≤ (bytesL l).size := by
  intro l
  induction l with
  | nil => intro n h; simp [mayGo] at h; refine ⟨by simp, ?_, by simp⟩; rw [bytesL_nil]; exact h
  | cons s l ih =>
    intro n h
    by_cases hb : s.size = 0 ∨ 63 < s.size ∨ 254 < n
    · rw [mayGo_bad hb] at h; cases h
    · rw [mayGo_step (by omega) (by omega) (by omega)] at h
      obtain ⟨h1, h2, h3⟩ := ih _ h
      rw [bytesL_size_cons, List.length_cons]
      refine ⟨fun x hx => ?_, by omega, by omega⟩
      rcases List.mem_cons.1 hx with rfl | hx
      · omega
      · exact h1 x hx

/-- What a message is behind Add, and the table. -/
def addP (live : Bool) : Tab → ByteArray → List ByteArray → ByteArray × Tab
  | f, msg, [] => (msg ++ ⟨#[0]⟩, f)
  | f, msg, s :: l => match f (bytesL (s :: l)).data.toList with
    | some c => (msg ++ bytesOf [192 + c / 256, c % 256], f)
    | none => addP live (notedV live f (bytesL (s :: l)).data.toList msg.size) (msg ++ labelB s) l
theorem or_ptr_fin : ∀ x : Fin 64, bits BinOp.or IntKind.i64 192 (x.val : Int) = 192 + (x.val : Int) := by decide
theorem or_ptr (c : Int) (h0 : 0 ≤ c) (h1 : c < 16384) : bits BinOp.or IntKind.i64 192 (c / 256) % 256 = 192 + c / 256 := by
  have h2 : (c / 256).toNat < 64 := by omega
  have := or_ptr_fin ⟨(c / 256).toNat, h2⟩
  have h3 : (((c / 256).toNat : Nat) : Int) = c / 256 := by omega
  simp only [h3] at this
  rw [this]
  omega
/-- Each place can be pointed to. -/
def Ranged (f : Tab) : Prop := ∀ k c, f k = some c → 0 ≤ c ∧ c < 16384
theorem Ranged.noted {f : Tab} (h : Ranged f) (live : Bool) (k : List UInt8) (c : Int) (h0 : 0 ≤ c) : Ranged (notedV live f k c) := by
  intro x d hx
  unfold notedV at hx
  split at hx
  · unfold Go.Proofs.YtbdfijgejkimnaaGreatDoor.noted at hx
    split at hx
    · exact h x d hx
    · next h1 =>
      unfold upd at hx
      split at hx
      · injection hx with hx; omega
      · exact h x d hx
  · exact h x d hx

set_option maxRecDepth 100000 in
theorem add_bad (w : World) (tv : Value) (msg : ByteArray) (v : Value) (l : List ByteArray) (hl : Sl w 1 v l.length (l.map .string)) (hsz : ∀ s ∈ l, s.size ≤ maxLen) (hm : mayGo 0 l = false) :
    Calls Tryz.prog 90 #[tv, .string msg, v] w fun e w' => e = .returned (.tuple #[.string ⟨#[]⟩, .int .i64 9]) ∧ w = w' := by
  have Hsz := Lib.hid hsz
  have Hm := Lib.hid hm
  clear hsz hm
  go_enter Tryz.func90, Tryz.ntmps90
  go_wp2_with fail
  refine (may_any _ v l hl Hsz.out).mono ?_
  rintro e w2 ⟨rfl, rfl⟩
  rw [Hm.out]
  go_wp2_with fail
  go_ret2
  exact ⟨rfl, rfl⟩

def AddPost (w w' : World) (tv : Value) (S : Nat → Prop) (n : Nat) (f : Tab) (live : Bool) : Prop :=
  ∃ S', Only S w w' ∧ TabV w' tv S' n f live ∧ Ranged f ∧ ∀ x, S' x → S x ∨ w.heap.size ≤ x

set_option maxRecDepth 100000 in
theorem add_good (w : World) (tv : Value) (S : Nat → Prop) (n : Nat) (f : Tab) (live : Bool) (msg : ByteArray) (v : Value) (l : List ByteArray)
    (ht : TabV w tv S n f live) (hr : Ranged f) (hl : Sl w 1 v l.length (l.map .string)) (hm : mayGo 0 l = true) (hn : n ≤ 10000) (hmsg : msg.size ≤ 100000) :
    Calls Tryz.prog 90 #[tv, .string msg, v] w fun e w' => e = .returned (.tuple #[.string (addP live f msg l).1, .int .i64 0]) ∧ AddPost w w' tv S (n + l.length) (addP live f msg l).2 live := by
  obtain ⟨a1, a2, a3⟩ := mayGo_all l 0 hm
  have A1 := Lib.hid a1
  have Hm := Lib.hid hm
  have HL := hl
  have Ht := Lib.hid ht
  have Hr := Lib.hid hr
  obtain ⟨_, a, cap, rfl, h3, h4, h5⟩ := hl
  unfold maxLen at h4
  have hc2 := conv2
  have H5 := Lib.hid h5
  clear a1 hm ht hr h5
  go_enter Tryz.func90, Tryz.ntmps90
  go_wp2_with fail
  refine (may_any _ _ l HL (fun s hs => by have := A1.out s hs; unfold maxLen; omega)).mono ?_
  rintro e w2 ⟨rfl, rfl⟩
  rw [Hm.out]
  go_wp2_with fail
  go_loopg [8, 10, 20] l.length (fun g v8 v10 v20 wx => ∃ (k : Nat) (r : ByteArray), v8 = .string r ∧ v20 = .int .i64 k ∧ k ≤ l.length ∧ Only (fun _ => False) w wx ∧ bytesL l = r ++ bytesL (l.drop k) ∧ g = l.length - k)
  case atStart => exact ⟨0, ⟨#[]⟩, rfl, rfl, Nat.zero_le _, Only.refl _ _, str_ext (by simp), rfl⟩
  case round =>
    obtain ⟨k, r, rfl, rfl, hk, ho, hb, hg⟩ := hrel
    have Hb := Lib.hid hb
    have Hg := Lib.hid hg
    clear hb hg
    by_cases hlt : k < l.length
    · obtain ⟨b, off, ha, hc⟩ := H5.out.resolve_left (by omega)
      subst ha
      have hz := ho.cell (strs_cell hc hlt) id
      have hd : l.drop k = l[k] :: l.drop (k + 1) := List.drop_eq_getElem_cons hlt
      have hsz := A1.out _ (List.getElem_mem hlt)
      generalize l[k] = s at *
      have Hd := Lib.hid hd
      have hb2 : bytesL l = r ++ labelB s ++ bytesL (l.drop (k + 1)) := by
        rw [Hb.out, Hd.out, bytesL_cons]
        exact str_ext (by simp)
      have Hb2 := Lib.hid hb2
      have hrs : r.size + (1 + s.size) ≤ 254 := by
        have := congrArg ByteArray.size hb2
        rw [ByteArray.size_append, ByteArray.size_append, labelB_size] at this
        omega
      have hls := labelB_size s
      clear hd hc hb2
      go_wp2_with fail
      refine (label_any _ s hsz.2).mono ?_
      rintro e w2 ⟨rfl, hw2⟩
      go_wp2_with fail
      go_roundg (l.length - (k + 1))
      case measure => rw [Hg.out]; omega
      case rel => exact ⟨k + 1, _, rfl, by go_num, by omega, ho.trans hw2, Hb2.out, rfl⟩
    · have hd : r = bytesL l := by
        rw [Hb.out, List.drop_eq_nil_of_le (by omega), bytesL_nil]
        exact str_ext (by simp)
      subst hd
      go_wp2_with fail
      go_loopg [1, 8, 12, 13, 14, 31] l.length (fun g v1 v8 v12 v13 v14 v31 wx => ∃ (k : Nat) (ms : ByteArray) (f' : Tab) (S' : Nat → Prop), v1 = .string ms ∧ v8 = .string (bytesL (l.drop k)) ∧ v31 = .int .i64 k ∧ k ≤ l.length ∧ Only S w wx ∧ TabV wx tv S' (n + k) f' live ∧ (∀ x, S' x → S x ∨ w.heap.size ≤ x) ∧ Ranged f' ∧ addP live f msg l = addP live f' ms (l.drop k) ∧ ms.size ≤ msg.size + 64 * k ∧ g = l.length - k)
      case atStart => exact ⟨0, msg, f, S, rfl, rfl, rfl, Nat.zero_le _, ho.weaken (fun _ _ h => h.elim), (Ht.out.more (by omega)).kept ho (fun _ _ h => h), fun x h => .inl h, Hr.out, rfl, by omega, rfl⟩
      case round =>
        clear ho
        obtain ⟨k, ms, f', S', rfl, rfl, rfl, hk, ho, ht, hs', hr, hb, hms, hg⟩ := hrel
        have Hb := Lib.hid hb
        have Hg := Lib.hid hg
        have Hr := Lib.hid hr
        have Hs := Lib.hid hs'
        clear hb hg hr hs'
        by_cases hlt : k < l.length
        · obtain ⟨b, off, ha, hc⟩ := H5.out.resolve_left (by omega)
          subst ha
          have hz := ho.cell (strs_cell hc hlt) (Ht.out.apart (strs_cell hc hlt))
          have hd : l.drop k = l[k] :: l.drop (k + 1) := List.drop_eq_getElem_cons hlt
          have hsz := A1.out _ (List.getElem_mem hlt)
          have hbd : (bytesL (l.drop k)).size ≤ (bytesL l).size := bytesL_drop_size l k
          generalize l[k] = s at *
          have hbs : (bytesL (l.drop k)).size = 1 + s.size + (bytesL (l.drop (k + 1))).size := by rw [hd, bytesL_size_cons]
          have Hd := Lib.hid hd
          have hls := labelB_size s
          clear hd hc
          have h0 : (bytesL (l.drop k)).size ≠ 0 := by omega
          have hms2 : ms.size ≤ 200000 := by omega
          have h1 : (bytesL (l.drop k)).size ≤ maxLen := by unfold maxLen; omega
          have hex : (bytesL (l.drop k)).extract (1 + s.size) (bytesL (l.drop k)).size = bytesL (l.drop (k + 1)) := by
            rw [Hd.out]
            exact bytesL_rest s _
          have Hex := Lib.hid hex
          clear hex
          generalize hrest : bytesL (l.drop k) = rest at *
          have Hrest := Lib.hid hrest
          clear hrest
          go_wp2_with fail
          refine (place_v _ tv S' (n + k) f' live rest ht h0 h1).mono ?_
          rintro e w2 ⟨c, rfl, rfl, hcc⟩
          have Hc := Lib.hid hcc
          clear hcc
          generalize hfk : f' rest.data.toList = o at *
          have Hfk := Lib.hid hfk
          clear hfk
          cases o with
          | some c' =>
            have hce := Hc.out c' rfl
            subst hce
            simp only [Option.isSome_some]
            have e2 : ∀ x y : Int, (bytesOf [x, y]).size = 2 := fun _ _ => rfl
            go_wp2_with fail
            go_ret2
            have he : addP live f msg l = (ms ++ bytesOf [192 + c / 256, c % 256], f') := by
              rw [Hb.out, Hd.out, addP, ← Hd.out, Hrest.out, Hfk.out]
            obtain ⟨c0, c1⟩ := Hr.out _ _ Hfk.out
            rw [he, or_ptr c c0 c1]
            exact ⟨rfl, S', ho.alloc _, (ht.more (by omega)).kept ((Only.refl (fun _ => False) _).alloc _) (fun _ _ h => h), Hr.out, Hs.out⟩
          | none =>
            simp only [Option.isSome_none]
            go_wp2_with fail
            refine (note_v _ tv S' (n + k) f' live rest ms.size ht h0 h1 (by omega) (by omega) (by omega)).mono ?_
            rintro e w3 ⟨rfl, S2, hn1, hn2, hn3⟩
            go_wp2_with fail
            refine (label_any _ s hsz.2).mono ?_
            rintro e w4 ⟨rfl, hw4⟩
            go_wp2_with fail
            go_roundg (l.length - (k + 1))
            case measure => rw [Hg.out]; omega
            case rel =>
              refine ⟨k + 1, ms ++ labelB s, notedV live f' rest.data.toList ms.size, S2, rfl, congrArg Value.string (by rw [← hbs]; exact Hex.out), by go_num, by omega, (ho.tr hn1 (fun i hi h => (Hs.out i h).elim id (fun x => absurd hi (by omega)))).trans (hw4.weaken (fun _ _ h => h.elim)), (hn2.more (by omega)).kept hw4 (fun _ _ h => h), ?_, Hr.out.noted _ _ _ (by omega), ?_, ?_, rfl⟩ -- live f' rest.data.toList ms.size, S2, rfl, rfl, by go_num, by omega, (ho.tr hn1 (fun i hi h => (Hs.out i h).elim id (fun x => absurd hi (by omega)))).trans (hw4.weaken (fun _ _ h => h.elim)), (hn2.more (by omega)).kept hw4 (fun _ _ h => h), ?_, Hr.out.noted _ _ _ (by omega), ?_, ?_, rfl⟩
              · intro x hx
                rcases hn3 x hx with h | h
                · exact Hs.out x h
                · exact .inr (Nat.le_trans ho.size h)
              · rw [Hb.out, Hd.out, addP, ← Hd.out, Hrest.out, Hfk.out]
              · rw [ByteArray.size_append]
                omega
        · have hd : l.drop k = [] := List.drop_eq_nil_of_le (by omega)
          have Hd := Lib.hid hd
          have hkl : k = l.length := by omega
          clear hd
          go_wp2_with fail
          go_ret2
          have he : addP live f msg l = (ms ++ ⟨#[0]⟩, f') := by rw [Hb.out, Hd.out]; rfl
          rw [he]
          exact ⟨rfl, S', ho, by rw [← hkl]; exact ht, Hr.out, Hs.out⟩

theorem addP_none (l : List ByteArray) : ∀ msg, (addP false (fun _ => none) msg l).1 = msg ++ bytesL l ++ ⟨#[0]⟩ := by
  induction l with
  | nil => intro msg; exact str_ext (by simp [addP, bytesL_nil])
  | cons s l ih =>
    intro msg
    have : addP false (fun _ => none) msg (s :: l) = addP false (fun _ => none) (msg ++ labelB s) l := by
      rw [addP]
      rfl
    rw [this, ih, bytesL_cons]
    exact str_ext (by simp)
set_option maxRecDepth 100000 in
theorem encode_bad (w : World) (v : Value) (l : List ByteArray) (hl : Sl w 1 v l.length (l.map .string)) (hsz : ∀ s ∈ l, s.size ≤ maxLen) (hm : mayGo 0 l = false) :
    Calls Tryz.prog 49 #[v] w fun e w' => e = .returned (.tuple #[.string ⟨#[]⟩, .int .i64 9]) ∧ w = w' := by
  have Hsz := Lib.hid hsz
  have Hm := Lib.hid hm
  clear hsz hm
  go_enter Tryz.func49, Tryz.ntmps49
  go_wp2_with fail
  refine (add_bad _ _ _ v l hl Hsz.out Hm.out).mono ?_
  rintro e w2 ⟨rfl, rfl⟩
  go_wp2_with fail
  go_ret2
  exact ⟨rfl, rfl⟩
set_option maxRecDepth 100000 in
theorem encode_good (w : World) (v : Value) (l : List ByteArray) (hl : Sl w 1 v l.length (l.map .string)) (hm : mayGo 0 l = true) :
    Calls Tryz.prog 49 #[v] w fun e w' => e = .returned (.tuple #[.string (bytesL l ++ ⟨#[0]⟩), .int .i64 0]) ∧ Only (fun _ => False) w w' := by
  have Hm := Lib.hid hm
  clear hm
  go_enter Tryz.func49, Tryz.ntmps49
  go_wp2_with fail
  refine (add_good _ _ (fun _ => False) 0 (fun _ => none) false _ v l (.inl ⟨rfl, rfl, rfl, fun _ h => h⟩) (fun _ _ h => by cases h) hl Hm.out (by omega) (Nat.zero_le _)).mono ?_
  rintro e w2 ⟨rfl, S', ho, _⟩
  go_wp2_with fail
  go_ret2
  rw [addP_none]
  exact ⟨by congr 4, ho⟩
end Go.Proofs.YtbdfijgejkimnaaGreatDoor
/-! Read: the program's and the reference's. -/
namespace Go.Proofs.YtbdfijgejkimnaaGreatDoor
open Go.Conc Go.RowKit

def bAt (m : ByteArray) (i : Nat) : Nat := (m.data.toList.getD i 0).toNat
structure Rd where
  ls : List ByteArray
  stop : Int
  err : Nat
def Rd.bad (e : Nat) : Rd := ⟨[], 0, e⟩
def Rd.fin (r : Rd) (e : Int) : Rd := if r.err = 0 ∧ 0 ≤ e then ⟨r.ls, e, 0⟩ else r
/-- What stands at a place of a message. -/
def rdP (m : ByteArray) (i bound : Nat) (l : List ByteArray) : Rd :=
  if mayGo 0 l = false then .bad 9
  else if m.size ≤ i then .bad 2
  else if bAt m i = 0 then ⟨l, i + 1, 0⟩
  else if 192 ≤ bAt m i then
    if m.size ≤ i + 1 then .bad 2
    else if bound ≤ 256 * (bAt m i - 192) + bAt m (i + 1) then .bad 10
    else (rdP m (256 * (bAt m i - 192) + bAt m (i + 1)) (256 * (bAt m i - 192) + bAt m (i + 1)) l).fin (i + 2)
  else if 63 < bAt m i then .bad 4
  else if m.size < i + 1 + bAt m i then .bad 2
  else rdP m (i + 1 + bAt m i) bound (l ++ [m.extract (i + 1) (i + 1 + bAt m i)])
termination_by (bound, m.size - i)
decreasing_by
  · apply Prod.Lex.left; omega
  · apply Prod.Lex.right; omega

set_option maxRecDepth 100000 in
theorem read_range (w : World) (m : ByteArray) (i : Int) (h : i < 0 ∨ (m.size : Int) < i) :
    Calls Tryz.prog 83 #[.string m, .int .i64 i] w fun e w' => e = .returned (.tuple #[.slice none 0 0, .int .i64 0, .int .i64 11]) ∧ w = w' := by
  by_cases h0 : i < 0
  · have e0 : decide (i < 0) = true := by simp; omega
    clear h
    go_enter Tryz.func83, Tryz.ntmps83
    go_wp2_with fail
    go_ret3
    exact ⟨rfl, rfl⟩
  · have e0 : decide (i < 0) = false := by simp; omega
    have e1 : decide ((m.size : Int) < i) = true := by simp; omega
    clear h
    go_enter Tryz.func83, Tryz.ntmps83
    go_wp2_with fail
    go_ret3
    exact ⟨rfl, rfl⟩

section
variable {m : ByteArray} {k bd : Nat} {l : List ByteArray} (hm : mayGo 0 l = true)
include hm
theorem rdP_short (h : m.size ≤ k) : rdP m k bd l = .bad 2 := by
  rw [rdP, if_neg (by simp [hm]), if_pos h]
theorem rdP_zero (h : ¬ m.size ≤ k) (h0 : bAt m k = 0) : rdP m k bd l = ⟨l, k + 1, 0⟩ := by
  rw [rdP, if_neg (by simp [hm]), if_neg h, if_pos h0]
theorem rdP_short2 (h : ¬ m.size ≤ k) (h1 : 192 ≤ bAt m k) (h2 : m.size ≤ k + 1) : rdP m k bd l = .bad 2 := by
  rw [rdP, if_neg (by simp [hm]), if_neg h, if_neg (by omega), if_pos h1, if_pos h2]
theorem rdP_loop (h : ¬ m.size ≤ k) (h1 : 192 ≤ bAt m k) (h2 : ¬ m.size ≤ k + 1) (h3 : bd ≤ 256 * (bAt m k - 192) + bAt m (k + 1)) : rdP m k bd l = .bad 10 := by
  rw [rdP, if_neg (by simp [hm]), if_neg h, if_neg (by omega), if_pos h1, if_neg h2, if_pos h3]
theorem rdP_ptr (h : ¬ m.size ≤ k) (h1 : 192 ≤ bAt m k) (h2 : ¬ m.size ≤ k + 1) (h3 : ¬ bd ≤ 256 * (bAt m k - 192) + bAt m (k + 1)) :
    rdP m k bd l = (rdP m (256 * (bAt m k - 192) + bAt m (k + 1)) (256 * (bAt m k - 192) + bAt m (k + 1)) l).fin (k + 2) := by
  rw [rdP, if_neg (by simp [hm]), if_neg h, if_neg (by omega), if_pos h1, if_neg h2, if_neg h3]
theorem rdP_form (h : ¬ m.size ≤ k) (h1 : ¬ 192 ≤ bAt m k) (h2 : 63 < bAt m k) : rdP m k bd l = .bad 4 := by
  rw [rdP, if_neg (by simp [hm]), if_neg h, if_neg (by omega), if_neg h1, if_pos h2]
theorem rdP_short3 (h : ¬ m.size ≤ k) (h0 : bAt m k ≠ 0) (h2 : ¬ 63 < bAt m k) (h3 : m.size < k + 1 + bAt m k) : rdP m k bd l = .bad 2 := by
  rw [rdP, if_neg (by simp [hm]), if_neg h, if_neg h0, if_neg (by omega), if_neg h2, if_pos h3]
theorem rdP_step (h : ¬ m.size ≤ k) (h0 : bAt m k ≠ 0) (h2 : ¬ 63 < bAt m k) (h3 : ¬ m.size < k + 1 + bAt m k) : rdP m k bd l = rdP m (k + 1 + bAt m k) bd (l ++ [m.extract (k + 1) (k + 1 + bAt m k)]) := by
  rw [rdP, if_neg (by simp [hm]), if_neg h, if_neg h0, if_neg (by omega), if_neg h2, if_neg h3]
end
theorem rdP_name {m : ByteArray} {k bd : Nat} {l : List ByteArray} (hm : mayGo 0 l = false) : rdP m k bd l = .bad 9 := by
  rw [rdP, if_pos hm]
theorem bAt_get (m : ByteArray) (k : Nat) (h : k < m.size) : (m[k]'h).toNat = bAt m k := by
  unfold bAt
  have h2 : k < m.data.toList.length := h
  rw [List.getD_eq_getElem?_getD, List.getElem?_eq_getElem h2]
  rfl
theorem bAt_lt (m : ByteArray) (k : Nat) : bAt m k < 256 := UInt8.toNat_lt _
theorem i64_or_nat (a b : Nat) (ha : a < 65536) (hb : b < 65536) : bits .or .i64 (a : Int) (b : Int) = ((a ||| b : Nat) : Int) := by
  have hx : a ||| b < 2 ^ 16 := Nat.or_lt_two_pow (by omega) (by omega)
  show IntKind.i64.wrap ((BitVec.ofInt 64 (a : Int) ||| BitVec.ofInt 64 (b : Int)).toNat : Int) = _
  rw [BitVec.toNat_or, BitVec.ofInt_natCast, BitVec.ofInt_natCast, BitVec.toNat_ofNat, BitVec.toNat_ofNat, Nat.mod_eq_of_lt (by omega), Nat.mod_eq_of_lt (by omega), IntKind.wrap_i64]
  omega
theorem to_ptr (a b : Nat) (ha : a < 64) (hb : b < 256) : bits .or .i64 ((a : Int) * 256) (b : Int) = ((256 * a + b : Nat) : Int) := by
  have : ((a : Int) * 256) = ((a * 256 : Nat) : Int) := by omega
  rw [this, i64_or_nat _ _ (by omega) (by omega), show a * 256 = a <<< 8 by rw [Nat.shiftLeft_eq], ← Nat.shiftLeft_add_eq_or_of_lt (i := 8) (by omega) a, Nat.shiftLeft_eq]
  omega
theorem fin_bad {e : Nat} (h : e ≠ 0) (x : Int) : (Rd.bad e).fin x = .bad e := by simp [Rd.fin, Rd.bad, h]
theorem fin_low {r : Rd} {x : Int} (h : x < 0) : r.fin x = r := by rw [Rd.fin, if_neg (by omega)]
theorem fin_fin {r : Rd} {x y : Int} (hx : 0 ≤ x) (hy : 0 ≤ y) : (r.fin x).fin y = r.fin y := by
  unfold Rd.fin
  by_cases h : r.err = 0
  · simp [h, hx, hy]
  · simp [h]
theorem infoStr : (Tryz.prog.info? 9).map (fun i => (i.zero, i.size, i.bytes)) = some (some (.string ⟨#[]⟩), 1, 16) := by kernel_rfl
theorem str_one (l : List ByteArray) : ∀ u ∈ l.map Value.string, u.oneCell' = true := by
  intro u hu
  obtain ⟨s, _, rfl⟩ := List.mem_map.1 hu
  rfl
/-- What Read returns. -/
def ReadPost (w : World) (r : Rd) (e : Ending) (w' : World) : Prop :=
  ∃ v, e = .returned (.tuple #[v, .int .i64 r.stop, .int .i64 r.err]) ∧ Only (fun _ => False) w w' ∧ Sl w' 1 v r.ls.length (r.ls.map .string)
theorem ReadPost.of_bad {w w' : World} {r : Rd} {n : Nat} (hr : r = .bad n) (ho : Only (fun _ => False) w w') : ReadPost w r (.returned (.tuple #[.slice none 0 0, .int .i64 0, .int .i64 n])) w' := by
  subst hr
  exact ⟨_, rfl, ho, Sl.nil _ _⟩
theorem measure_ptr {S bd q k : Nat} (h : q < bd) (hk : k ≤ S) : q * (S + 2) + (S + 1 - q) < bd * (S + 2) + (S + 1 - k) := by
  have := Nat.mul_le_mul_right (S + 2) (show q + 1 ≤ bd from h)
  rw [Nat.add_mul] at this
  omega

set_option maxRecDepth 100000 in
set_option maxHeartbeats 400000 in
theorem read_any (w : World) (m : ByteArray) (i : Nat) (hm : m.size ≤ 100000) (hi : i ≤ m.size) :
    Calls Tryz.prog 83 #[.string m, .int .i64 i] w fun e w' => ReadPost w (rdP m i i []) e w' := by
  obtain ⟨i0, hi0, hz0, hz1, hz2⟩ := info_parts infoStr
  have hgt : decide ((m.size : Int) < (i : Int)) = false := by simp; omega
  have hgt0 : decide ((i : Int) < 0) = false := by simp
  have hgtN : decide (m.size < i) = false := by simp; omega
  go_enter Tryz.func83, Tryz.ntmps83
  go_wp2_with fail
  go_loopg [1, 7, 8, 9, 10, 11] (i * (m.size + 2) + (m.size + 1 - i)) (fun g v1 v7 v8 v9 v10 v11 wx => ∃ (k bd : Nat) (l : List ByteArray) (e : Int), v1 = .int .i64 k ∧ v9 = .int .i64 bd ∧ v8 = .int .i64 e ∧ k ≤ m.size ∧ bd ≤ m.size ∧ Only (fun _ => False) w wx ∧ wx.ownsRow w.heap.size 9 1 v7 l.length (l.map .string) ∧ mayGo 0 l = true ∧ -1 ≤ e ∧ e ≤ 200000 ∧ rdP m i i [] = (rdP m k bd l).fin e ∧ g = bd * (m.size + 2) + (m.size + 1 - k))
  case atStart => exact ⟨i, i, [], -1, rfl, rfl, rfl, hi, hi, Only.refl _ _, World.ownsRow_nil _ _ _ _, rfl, by omega, by omega, (fin_low (by omega)).symm, rfl⟩
  case round =>
    obtain ⟨k, bd, l, e, rfl, rfl, rfl, hk, hbd, ho, hown, hmay, he1, he2, hR, hg⟩ := hrel
    have Hg := Lib.hid hg
    have HR := Lib.hid hR
    have Hm := Lib.hid hmay
    clear hg hR hmay
    by_cases hlt : m.size ≤ k
    · have e0 : decide ((m.size : Int) ≤ (k : Int)) = true := by simp; omega
      go_wp2_with fail
      go_ret3
      exact ReadPost.of_bad (by rw [HR.out, rdP_short Hm.out hlt, fin_bad (by decide)]) ho
    · have e0 : decide ((m.size : Int) ≤ (k : Int)) = false := by simp; omega
      have hn : ((m[k]'(by omega)).toNat : Int) = (bAt m k : Int) := congrArg _ (bAt_get m k (by omega))
      have hnl := bAt_lt m k
      by_cases c0 : bAt m k = 0
      · have HZ := Lib.hid (rdP_zero (bd := bd) Hm.out hlt c0)
        have e1 : (((bAt m k : Nat) : Int) == 0) = true := by simp; omega
        clear c0
        by_cases he : e < 0
        · have e3 : decide (e < 0) = true := by simp; omega
          go_wp2_with fail
          go_ret3
          have hr : rdP m i i [] = ⟨l, k + 1, 0⟩ := by rw [HR.out, HZ.out, fin_low he]
          rw [hr]
          exact ⟨_, rfl, ho, Sl.of_owns hown⟩
        · have e3 : decide (e < 0) = false := by simp; omega
          go_wp2_with fail
          go_ret3
          have hr : rdP m i i [] = ⟨l, e, 0⟩ := by
            rw [HR.out, HZ.out, Rd.fin, if_pos ⟨rfl, by omega⟩]
          rw [hr]
          exact ⟨_, rfl, ho, Sl.of_owns hown⟩
      · have e1 : (((bAt m k : Nat) : Int) == 0) = false := by simp; omega
        by_cases c1 : 192 ≤ bAt m k
        · have e2 : decide (192 ≤ ((bAt m k : Nat) : Int)) = true := by simp; omega
          by_cases c2 : m.size ≤ k + 1
          · have e3 : decide ((m.size : Int) ≤ (k : Int) + 1) = true := by simp; omega
            go_wp2_with fail
            go_ret3
            exact ReadPost.of_bad (by rw [HR.out, rdP_short2 Hm.out hlt c1 c2, fin_bad (by decide)]) ho
          · have e3 : decide ((m.size : Int) ≤ (k : Int) + 1) = false := by simp; omega
            have hn2 : ((m[k + 1]'(by omega)).toNat : Int) = (bAt m (k + 1) : Int) := congrArg _ (bAt_get m (k + 1) (by omega))
            have hnl2 := bAt_lt m (k + 1)
            have hto : ∀ y : Int, y = ((bAt m (k + 1) : Nat) : Int) → bits BinOp.or IntKind.i64 ((((bAt m k : Nat) : Int) - 192) * 256) y = ((256 * (bAt m k - 192) + bAt m (k + 1) : Nat) : Int) := by
              rintro y rfl
              have := to_ptr (bAt m k - 192) (bAt m (k + 1)) (by omega) (by omega)
              rwa [show (((bAt m k - 192 : Nat) : Nat) : Int) = ((bAt m k : Nat) : Int) - 192 by omega] at this
            have HL := Lib.hid (rdP_loop (bd := bd) Hm.out hlt c1 c2)
            have HP := Lib.hid (rdP_ptr (bd := bd) Hm.out hlt c1 c2)
            generalize 256 * (bAt m k - 192) + bAt m (k + 1) = q at *
            by_cases c3 : bd ≤ q
            · have e5 : decide ((bd : Int) ≤ (q : Int)) = true := by simp; omega
              go_wp2_with fail
              go_ret3
              exact ReadPost.of_bad (by rw [HR.out, HL.out c3, fin_bad (by decide)]) ho
            · have e5 : decide ((bd : Int) ≤ (q : Int)) = false := by simp; omega
              by_cases he : e < 0
              · have e6 : decide (e < 0) = true := by simp; omega
                have He := Lib.hid he
                clear he
                go_wp2_with fail
                go_roundg (q * (m.size + 2) + (m.size + 1 - q))
                case measure => rw [Hg.out]; exact measure_ptr (by omega) hk
                case rel => exact ⟨q, q, l, k + 1 + 1, rfl, rfl, rfl, by omega, by omega, ho, hown, Hm.out, by omega, by omega, by rw [HR.out, HP.out c3, fin_low He.out]; exact congrArg _ (by omega), rfl⟩
              · have e6 : decide (e < 0) = false := by simp; omega
                have He := Lib.hid he
                clear he
                go_wp2_with fail
                go_roundg (q * (m.size + 2) + (m.size + 1 - q))
                case measure => rw [Hg.out]; exact measure_ptr (by omega) hk
                case rel => exact ⟨q, q, l, e, rfl, rfl, rfl, by omega, by omega, ho, hown, Hm.out, by omega, by omega, by rw [HR.out, HP.out c3, fin_fin (by omega) (by have := He.out; omega)], rfl⟩
        · have e2 : decide (192 ≤ ((bAt m k : Nat) : Int)) = false := by simp; omega
          by_cases c2 : 63 < bAt m k
          · have e3 : decide (63 < ((bAt m k : Nat) : Int)) = true := by simp; omega
            go_wp2_with fail
            go_ret3
            exact ReadPost.of_bad (by rw [HR.out, rdP_form Hm.out hlt c1 c2, fin_bad (by decide)]) ho
          · have e3 : decide (63 < ((bAt m k : Nat) : Int)) = false := by simp; omega
            by_cases c3 : m.size < k + 1 + bAt m k
            · have e4 : decide ((m.size : Int) - ((k : Int) + 1) < ((bAt m k : Nat) : Int)) = true := by simp; omega
              have e5 : ((m.size : Int) < (k : Int) + 1 + ((bAt m k : Nat) : Int)) := by omega
              go_wp2_with fail
              go_ret3
              exact ReadPost.of_bad (by rw [HR.out, rdP_short3 Hm.out hlt c0 c2 c3, fin_bad (by decide)]) ho
            · have e4 : decide ((m.size : Int) - ((k : Int) + 1) < ((bAt m k : Nat) : Int)) = false := by simp; omega
              have e5 : ¬ ((m.size : Int) < (k : Int) + 1 + ((bAt m k : Nat) : Int)) := by omega
              go_wp2_with (at_builtin; refine Wait.mk ?_)
              have hsm : (m.extract (k + 1) (k + 1 + bAt m k)).size ≤ 63 := by rw [ByteArray.size_extract]; omega
              have HS := Lib.hid (rdP_step (bd := bd) Hm.out hlt c0 c2 c3)
              have hll := (mayGo_all l 0 Hm.out).2
              generalize m.extract (k + 1) (k + 1 + bAt m k) = s at *
              refine Wait.go (wpList_append_src _ rfl (.tmp 31) (.tmp 38) 34 34 rfl w.heap.size 9 i0 _ 1 16 Tryz.underlying34 hi0 hz0 hz1 hz2 rfl u7 l.length (l.map .string) rfl (hown.alloc _) _ 1 [.string s] rfl ?src ?m ?b ?base ?_)
              case src => exact Src.ofSlice _ Tryz.underlying34 _ _ _ _ rfl (news_new _ _ _) (str_one [s])
              case m => unfold maxLen; omega
              case b => omega
              case base => have := ho.size; simp; omega
              intro v1 w5 own1 gr1 hv1
              have ho5 : Only (fun _ => False) w w5 := ho.tr (T := fun x => u7.ownBlock = some x) (((Only.refl _ _).alloc _).grown gr1 (fun k e => .inr e)) (fun j hj e => by have := (hown.lt _ e).1; omega)
              have own2 : w5.ownsRow w.heap.size 9 1 v1 (l ++ [s]).length ((l ++ [s]).map .string) := by simpa using own1
              clear own1 hown
              go_wp2_with fail
              refine (may_any _ v1 (l ++ [s]) (Sl.of_owns own2) ?_).mono ?_
              · intro x hx
                rcases List.mem_append.1 hx with hx | hx
                · have := (mayGo_all l 0 Hm.out).1 x hx
                  unfold maxLen; omega
                · rw [List.mem_singleton] at hx
                  subst hx
                  unfold maxLen; omega
              rintro e' w6 ⟨rfl, rfl⟩
              generalize hma : mayGo 0 (l ++ [s]) = b at *
              have Hma := Lib.hid hma
              clear hma
              cases b with
              | false =>
                go_wp2_with fail
                go_ret3
                exact ReadPost.of_bad (by rw [HR.out, HS.out, rdP_name Hma.out, fin_bad (by decide)]) ho5
              | true =>
                go_wp2_with fail
                go_roundg (bd * (m.size + 2) + (m.size + 1 - (k + 1 + bAt m k)))
                case measure => rw [Hg.out]; omega
                case rel => exact ⟨k + 1 + bAt m k, bd, l ++ [s], e, by go_num, rfl, rfl, by omega, hbd, ho5, own2, Hma.out, he1, he2, by rw [HR.out, HS.out], rfl⟩
end Go.Proofs.YtbdfijgejkimnaaGreatDoor
/-! The reference's Read. -/
namespace Go.Proofs.YtbdfijgejkimnaaGreatDoor
open Go.Conc Go.RowKit

/-- append onto a slice of the call's own, as one step of a region that draws. -/
theorem step_append_src {P : Program} {ops : Array Oper} {o : Oper} {a : Act} {w : World} {K : Act → World → Prop} {Q : Exit → Act → World → Prop} {E : Prop} (hgd : o.guard = none) (s x : Operand) (t tx : TypeId)
    (ho : o.op = .call { callee := .builtin .append, args := #[s, x], argTypes := #[t, tx] })
    (base : Nat) (e : TypeId) (i : TypeInfo) (z : Value) (size bytes : Nat) (ht : P.underlying t = some (.slice e)) (hi : P.info? e = some i) (hz : i.zero = some z)
    (hsize : i.size = size) (hby : i.bytes = bytes) (hzs : z.cells.size = size)
    (v : Value) (n : Nat) (xs : List Value) (hv : a.eval s = v) (hown : w.ownsRow base e size v n xs) (xv : Value) (m : Nat) (news : List Value) (hx : a.eval x = xv) (hs : Src P size tx xv m news w)
    (h63 : n + m ≤ maxLen) (hbytes : (n + m) * bytes ≤ 140737488355328) (hbase : base ≤ w.heap.size)
    (h : ∀ v' w', w'.ownsRow base e size v' (n + m) (xs ++ news) → w.grownBy w' v.ownBlock → (∀ k, v.ownBlock = some k → base ≤ k) → K (a.put o.dst v') w') :
    if Region.wanted o (yielded ops a.tmps) = true then Oper.wp P o a w K Q else E := by
  have hw : Region.wanted o (yielded ops a.tmps) = true := by simp [Region.wanted, hgd]
  rw [if_pos hw]
  obtain ⟨v', w', hr, h2, h3, h4⟩ := run_append_src (P := P) w base t tx o.type e i z size bytes ht hi hz hsize hby hzs v n xs hown xv m news hs h63 hbytes hbase
  unfold Oper.wp execOp
  simp only [ho, resolve, invoke, builtin, Sem.run_bind, Sem.run_pure, Result.andThen_ok, List.map_toArray, List.map_cons, List.map_nil, hv, hx, hr]
  exact h v' w' h2 h3 (fun k e => (hown.lt k e).1)
theorem own_at {w : World} {g : Nat} {e : TypeId} (hg : w.heap[g]? = some (.cells #[] e)) (base size : Nat) (hb : base ≤ g) : w.ownsRow base e size (.slice (some ⟨g, 0, none⟩) 0 0) 0 [] :=
  ⟨by simp, .inr ⟨g, 0, #[], rfl, hb, hg, Nat.le_refl _, Nat.zero_le _, by simp, by simp⟩⟩
theorem news_at {w : World} {g : Nat} {e : TypeId} {cs : List Value} (hg : w.heap[g]? = some (.cells cs.toArray e)) : ∀ j u, cs[j]? = some u → w.cell? ((⟨g, 0, none⟩ : Addr).add j) = some u := by
  intro j u hu
  rw [Addr.add_lit, cell_at hg]
  simpa using hu

theorem rdP_err (m : ByteArray) (k bd : Nat) (l : List ByteArray) : (rdP m k bd l).err ≠ 0 → rdP m k bd l = .bad (rdP m k bd l).err := by
  fun_induction rdP m k bd l with
  | case1 => intro _; rfl
  | case2 => intro _; rfl
  | case3 => intro h; exact absurd rfl h
  | case4 => intro _; rfl
  | case5 => intro _; rfl
  | case6 _ _ _ _ _ _ _ _ _ ih =>
    intro h
    unfold Rd.fin at h ⊢
    split
    · rw [if_pos ‹_›] at h; exact absurd rfl h
    · rw [if_neg ‹_›] at h; exact ih h
  | case7 => intro _; rfl
  | case8 => intro _; rfl
  | case9 _ _ _ _ _ _ _ _ _ ih => exact ih
theorem heapA (w : World) (o : Obj) (B : Nat) (hB : B = w.heap.size) : (w.alloc o).drew.heap[B]? = some o := by subst hB; exact heap_alloc_new w o
theorem heapB (w : World) (o o' : Obj) (B : Nat) (hB : B = w.heap.size) : ((w.alloc o).alloc o').drew.heap[B]? = some o := by
  subst hB
  exact (Below.heap_alloc _ _ _ (by simp)).trans (heap_alloc_new w o)
theorem heapC (w : World) (o o' : Obj) (B : Nat) (hB : B = w.heap.size + 1) : ((w.alloc o).alloc o').drew.heap[B]? = some o' := by
  have h : B = (w.alloc o).heap.size := by simp [hB]
  subst h
  exact heap_alloc_new (w.alloc o) o'
theorem news_kept {w w1 : World} {g h : Nat} {e : TypeId} {cs : List Value} {r : Option Nat} (hw : w.grownBy w1 r) (hg : w.heap[h]? = some (.cells cs.toArray e)) (hr : r = some g) (hne : h ≠ g) : w1.heap[h]? = some (.cells cs.toArray e) := by
  rw [hw.block h (lt_of_block hg) (by rw [hr]; intro e; injection e with e; exact hne (by omega))]
  exact hg
set_option maxRecDepth 100000 in
set_option maxHeartbeats 8000000 in
theorem rread_any (m : ByteArray) (hm : m.size ≤ 100000) : ∀ (n : Nat) (w : World) (k bd : Nat) (l : List ByteArray) (v : Value), bd * (m.size + 2) + (m.size + 1 - k) < n → k ≤ m.size → bd ≤ m.size → Sl w 1 v l.length (l.map .string) → (∀ s ∈ l, s.size ≤ 63) → l.length ≤ 200 →
    Calls Tryz.prog 105 #[.string m, .int .i64 k, .int .i64 bd, v] w fun e w' => ReadPost w (rdP m k bd l) e w' := by
  intro n
  induction n with
  | zero => intro w k bd l v h; omega
  | succ n ih =>
  intro w k bd l v hn hk hbd hl hls hll
  obtain ⟨i0, hi0, hz0, hz1, hz2⟩ := info_parts infoStr
  have Hls := Lib.hid hls
  have Hn := Lib.hid hn
  clear hls hn
  go_enter Tryz.func105, Tryz.ntmps105
  go_wp2_with fail
  refine (rmay_any _ v l hl (fun s hs => by have := Hls.out s hs; unfold maxLen; omega)).mono ?_
  rintro e w2 ⟨rfl, rfl⟩
  generalize hma : mayGo 0 l = b at *
  have Hm := Lib.hid hma
  clear hma
  cases b with
  | false =>
    go_wp2_with fail
    go_ret3
    exact ReadPost.of_bad (rdP_name Hm.out) (Only.refl _ _)
  | true =>
  by_cases hlt : m.size ≤ k
  · have e0 : decide ((m.size : Int) ≤ (k : Int)) = true := by simp; omega
    go_wp2_with fail
    go_ret3
    exact ReadPost.of_bad (rdP_short Hm.out hlt) (Only.refl _ _)
  · have e0 : decide ((m.size : Int) ≤ (k : Int)) = false := by simp; omega
    have hn : ((m[k]'(by omega)).toNat : Int) = (bAt m k : Int) := congrArg _ (bAt_get m k (by omega))
    have hnl := bAt_lt m k
    by_cases c0 : bAt m k = 0
    · have HZ := Lib.hid (rdP_zero (bd := bd) Hm.out hlt c0)
      have e1 : (((bAt m k : Nat) : Int) == 0) = true := by simp; omega
      clear c0
      go_wp2_with fail
      go_ret3
      rw [HZ.out]
      exact ⟨_, rfl, Only.refl _ _, hl⟩
    · have e1 : (((bAt m k : Nat) : Int) == 0) = false := by simp; omega
      by_cases c1 : 192 ≤ bAt m k
      · have e2 : decide (192 ≤ ((bAt m k : Nat) : Int)) = true := by simp; omega
        by_cases c2 : m.size ≤ k + 1
        · have e3 : decide ((m.size : Int) ≤ (k : Int) + 1) = true := by simp; omega
          go_wp2_with fail
          go_ret3
          exact ReadPost.of_bad (rdP_short2 Hm.out hlt c1 c2) (Only.refl _ _)
        · have e3 : decide ((m.size : Int) ≤ (k : Int) + 1) = false := by simp; omega
          have hn2 : ((m[k + 1]'(by omega)).toNat : Int) = (bAt m (k + 1) : Int) := congrArg _ (bAt_get m (k + 1) (by omega))
          have hnl2 := bAt_lt m (k + 1)
          have hto : ∀ y : Int, y = ((bAt m (k + 1) : Nat) : Int) → 256 * ((bAt m k : Nat) : Int) + y - 49152 = ((256 * (bAt m k - 192) + bAt m (k + 1) : Nat) : Int) := by
            rintro y rfl
            omega
          have HL := Lib.hid (rdP_loop (bd := bd) Hm.out hlt c1 c2)
          have HP := Lib.hid (rdP_ptr (bd := bd) Hm.out hlt c1 c2)
          have hq : 256 * (bAt m k - 192) + bAt m (k + 1) < 65536 := by omega
          generalize 256 * (bAt m k - 192) + bAt m (k + 1) = q at *
          by_cases c3 : bd ≤ q
          · have e5 : decide ((bd : Int) ≤ (q : Int)) = true := by simp; omega
            go_wp2_with fail
            go_ret3
            exact ReadPost.of_bad (HL.out c3) (Only.refl _ _)
          · have e5 : decide ((bd : Int) ≤ (q : Int)) = false := by simp; omega
            go_wp2_with fail
            refine (ih w q q l v (Nat.lt_of_lt_of_le (measure_ptr (by omega) hk) (Nat.le_of_lt_succ Hn.out)) (by omega) (by omega) hl Hls.out hll).mono ?_
            rintro e w2 ⟨v2, rfl, ho, hs⟩
            have HR := Lib.hid (HP.out c3)
            have HE := Lib.hid (rdP_err m q q l)
            generalize rdP m q q l = r at *
            by_cases hz : r.err = 0
            · have e6 : (((r.err : Nat) : Int) != 0) = false := by simp; omega
              have HZ := Lib.hid hz
              clear hz
              go_wp2_with fail
              go_ret3
              rw [HR.out, Rd.fin, if_pos ⟨HZ.out, by omega⟩]
              exact ⟨v2, rfl, ho, hs⟩
            · have e6 : (((r.err : Nat) : Int) != 0) = true := by simp; omega
              have HZ := Lib.hid hz
              clear hz
              go_wp2_with fail
              go_ret3
              rw [HR.out, Rd.fin, if_neg (fun x => HZ.out x.1)]
              exact ReadPost.of_bad (HE.out HZ.out) ho
      · have e2 : decide (192 ≤ ((bAt m k : Nat) : Int)) = false := by simp; omega
        by_cases c2 : 63 < bAt m k
        · have e3 : decide (63 < ((bAt m k : Nat) : Int)) = true := by simp; omega
          go_wp2_with fail
          go_ret3
          exact ReadPost.of_bad (rdP_form Hm.out hlt c1 c2) (Only.refl _ _)
        · have e3 : decide (63 < ((bAt m k : Nat) : Int)) = false := by simp; omega
          by_cases c3 : m.size < k + 1 + bAt m k
          · have e4 : decide ((m.size : Int) < (k : Int) + 1 + ((bAt m k : Nat) : Int)) = true := by simp; omega
            go_wp2_with fail
            go_ret3
            exact ReadPost.of_bad (rdP_short3 Hm.out hlt c0 c2 c3) (Only.refl _ _)
          · have e4 : decide ((m.size : Int) < (k : Int) + 1 + ((bAt m k : Nat) : Int)) = false := by simp; omega
            go_wp2_with fail
            have hsm : (m.extract (k + 1) (k + 1 + bAt m k)).size ≤ 63 := by rw [ByteArray.size_extract]; omega
            have HS := Lib.hid (rdP_step (bd := bd) Hm.out hlt c0 c2 c3)
            generalize hs : m.extract (k + 1) (k + 1 + bAt m k) = s at hsm HS
            have hk1 : IntKind.i64.wrap ((k : Int) + 1) = (k : Int) + 1 := by rw [IntKind.wrap_i64]; omega
            have hk2 : IntKind.i64.wrap ((k : Int) + 1 + (bAt m k : Nat)) = (k : Int) + 1 + (bAt m k : Nat) := by rw [IntKind.wrap_i64]; omega
            have hk3 : (0 : Int) ≤ (k : Int) + 1 + (bAt m k : Nat) := by omega
            have hk4 : (k : Int) + 1 + (bAt m k : Nat) ≤ (m.size : Int) := by omega
            have hk5 : (0 : Int) ≤ (k : Int) + 1 := by omega
            have hk6 : (k : Int) + 1 ≤ (k : Int) + 1 + (bAt m k : Nat) := by omega
            have hk7 : ((k : Int) + 1).toNat = k + 1 := by omega
            have hk8 : ((k : Int) + 1 + (bAt m k : Nat)).toNat = k + 1 + bAt m k := by omega
            have ih2 := fun w' v' hsl => ih w' (k + 1 + bAt m k) bd (l ++ [s]) v' (by have := Hn.out; omega) (by omega) hbd hsl (by
              intro x hx
              rcases List.mem_append.1 hx with hx | hx
              · exact Hls.out x hx
              · rw [List.mem_singleton] at hx; rw [hx]; exact hsm) (by simp; have := (mayGo_all l 0 Hm.out).2; omega)
            rw [show ((k + 1 + bAt m k : Nat) : Int) = (k : Int) + 1 + (bAt m k : Nat) by omega] at ih2
            have HI := Lib.hid ih2
            clear ih ih2
            go_region_law (first
              | (refine step_append_src rfl (.tmp 81) (.tmp 82) 34 34 rfl w.heap.size 9 i0 _ 1 16 Tryz.underlying34 hi0 hz0 hz1 hz2 rfl (.slice (some ⟨_, 0, none⟩) 0 0) 0 [] rfl (own_at (by first | exact heapA _ _ _ rfl | exact heapB _ _ _ _ rfl | exact heapC _ _ _ _ rfl) _ _ (by omega)) _ l.length (l.map .string) rfl ((hl.new (by first | exact ((Only.refl _ _).alloc _).drew | exact (((Only.refl _ _).alloc _).alloc _).drew)).src Tryz.underlying34 (str_one l)) (by unfold maxLen; omega) (by omega) (by first | (simp; done) | (simp; omega)) ?_
                 intro v1 w1 own1 gr1 hv1
                 simp only [Nat.zero_add, List.nil_append] at own1
                 have ho1 : Only (fun _ => False) w w1 := by
                   first
                   | exact (((Only.refl _ _).alloc _).drew).grown gr1 (fun k e => .inl (hv1 k e))
                   | exact ((((Only.refl _ _).alloc _).alloc _).drew).grown gr1 (fun k e => .inl (hv1 k e)))
              | (go_simp
                 refine (HI.out _ _ (Sl.of_owns own3)).mono ?_
                 rintro e w3 ⟨v3, rfl, ho3, hs3⟩)
              | (refine step_append_src rfl (.tmp 83) (.tmp 92) 34 34 rfl w.heap.size 9 i0 _ 1 16 Tryz.underlying34 hi0 hz0 hz1 hz2 rfl v1 l.length (l.map .string) rfl (by first | exact own1 | exact own1.alloc _) _ 1 [.string s] rfl (Src.ofSlice _ Tryz.underlying34 _ _ _ _ rfl (news_at (by first | exact heap_alloc_new _ _ | exact news_kept gr1 (heapB _ _ _ _ rfl) rfl (by first | omega | (simp; done) | (intro e; simp at e; done) | (intro e; simp at e; omega)) | exact news_kept gr1 (heapC _ _ _ _ rfl) rfl (by first | omega | (simp; done) | (intro e; simp at e; done) | (intro e; simp at e; omega)))) (str_one [s])) (by unfold maxLen; omega) (by omega) (by have := gr1.size; simp at this ⊢; omega) ?_
                 intro v2 w2 own2 gr2 hv2
                 have ho2 : Only (fun _ => False) w w2 := by
                   first
                   | exact ho1.grown gr2 (fun k e => .inl (hv2 k e))
                   | exact (ho1.alloc _).grown gr2 (fun k e => .inl (hv2 k e))
                 have own3 : w2.ownsRow w.heap.size 9 1 v2 (l ++ [s]).length ((l ++ [s]).map .string) := by simpa using own2))
            all_goals (
              go_wp2_with fail
              simp [Act.put]
              go_ret3
              rw [HS.out]
              exact ⟨v3, rfl, ho2.trans ho3, hs3⟩)

set_option maxRecDepth 100000 in
theorem rread_range (w : World) (m : ByteArray) (i : Int) (h : i < 0 ∨ (m.size : Int) < i) :
    Calls Tryz.prog 62 #[.string m, .int .i64 i] w fun e w' => e = .returned (.tuple #[.slice none 0 0, .int .i64 0, .int .i64 11]) ∧ w = w' := by
  by_cases h0 : i < 0
  · have e0 : decide (i < 0) = true := by simp; omega
    clear h
    go_enter Tryz.func62, Tryz.ntmps62
    go_wp2_with fail
    go_ret3
    exact ⟨rfl, rfl⟩
  · have e0 : decide (i < 0) = false := by simp; omega
    have e1 : decide ((m.size : Int) < i) = true := by simp; omega
    clear h
    go_enter Tryz.func62, Tryz.ntmps62
    go_wp2_with fail
    go_ret3
    exact ⟨rfl, rfl⟩
set_option maxRecDepth 100000 in
theorem rread_top (w : World) (m : ByteArray) (i : Nat) (hm : m.size ≤ 100000) (hi : i ≤ m.size) :
    Calls Tryz.prog 62 #[.string m, .int .i64 i] w fun e w' => ReadPost w (rdP m i i []) e w' := by
  have hgt : decide ((m.size : Int) < (i : Int)) = false := by simp; omega
  have hgt0 : decide ((i : Int) < 0) = false := by simp
  have hgtN : decide (m.size < i) = false := by simp; omega
  go_enter Tryz.func62, Tryz.ntmps62
  go_wp2_with fail
  refine (rread_any m hm _ w i i [] _ (Nat.lt_succ_self _) hi hi (Sl.nil _ _) (by simp) (by simp)).mono ?_
  rintro e w2 ⟨v, rfl, ho, hs⟩
  go_wp2_with fail
  go_ret3
  exact ⟨v, rfl, ho, hs⟩
end Go.Proofs.YtbdfijgejkimnaaGreatDoor
/-! Small letters: the program's Fold and the reference's. -/
namespace Go.Proofs.YtbdfijgejkimnaaGreatDoor
open Go.Conc Go.RowKit

def foldU (b : UInt8) : UInt8 := if 65 ≤ b.toNat ∧ b.toNat ≤ 90 then UInt8.ofNat (b.toNat + 32) else b
def foldS (s : ByteArray) : ByteArray := ⟨(s.data.toList.map foldU).toArray⟩
theorem foldS_data (s : ByteArray) : (foldS s).data.toList = s.data.toList.map foldU := by simp [foldS]
theorem foldS_size (s : ByteArray) : (foldS s).size = s.size := by
  show (foldS s).data.toList.length = s.data.toList.length
  rw [foldS_data, List.length_map]
theorem drop_byte' (s : ByteArray) (k : Nat) (h : k < s.size) : ∃ b : UInt8, s.data.toList.drop k = b :: s.data.toList.drop (k + 1) ∧ b.toNat = bAt s k ∧ s.data.toList[k]? = some b := by
  have h2 : k < s.data.toList.length := h
  refine ⟨s.data.toList[k], List.drop_eq_getElem_cons h2, ?_, List.getElem?_eq_getElem h2⟩
  unfold bAt
  rw [List.getD_eq_getElem?_getD, List.getElem?_eq_getElem h2]
  rfl

set_option maxRecDepth 100000 in
set_option maxHeartbeats 1000000 in
theorem rfold_any (w : World) (s : ByteArray) (hs : s.size ≤ 1000) :
    Calls Tryz.prog 12 #[.string s] w fun e w' => e = .returned (.string (foldS s)) ∧ Only (fun _ => False) w w' := by
  have hc1 := conv1
  have e1 : ∀ x : Int, (bytesOf [x]).size = 1 := fun _ => rfl
  have hF := Lib.hid (foldS_data s)
  generalize foldS s = F at *
  go_enter Tryz.func12, Tryz.ntmps12
  go_wp2_with fail
  go_loopg [3, 4, 5] s.size (fun g v3 v4 v5 wx => ∃ (k : Nat) (r : ByteArray), v3 = .string r ∧ v4 = .int .i64 k ∧ k ≤ s.size ∧ r.size ≤ k ∧ Only (fun _ => False) w wx ∧ F.data.toList = r.data.toList ++ (s.data.toList.drop k).map foldU ∧ g = s.size - k)
  case atStart => exact ⟨0, ⟨#[]⟩, rfl, rfl, Nat.zero_le _, Nat.zero_le _, Only.refl _ _, by rw [hF.out]; rfl, rfl⟩
  case round =>
    obtain ⟨k, r, rfl, rfl, hk, hr, ho, hR, hg⟩ := hrel
    have Hg := Lib.hid hg
    have HR := Lib.hid hR
    clear hg hR
    by_cases hlt : k < s.size
    · obtain ⟨b, hb1, hb2, _⟩ := drop_byte' s k hlt
      have hn : ((s[k]'hlt).toNat : Int) = (bAt s k : Int) := congrArg _ (bAt_get s k hlt)
      have hnl := bAt_lt s k
      have HB1 := Lib.hid hb1
      have HB2 := Lib.hid hb2
      clear hb1 hb2
      have e1 : ∀ x : Int, (bytesOf [x]).size = 1 := fun _ => rfl
      by_cases h65 : 65 ≤ bAt s k
      · have q1 : decide ((65 : Int) ≤ ((bAt s k : Nat) : Int)) = true := by simp; omega
        by_cases h90 : bAt s k ≤ 90
        · have q2 : decide (((bAt s k : Nat) : Int) ≤ 90) = true := by simp; omega
          go_wp2_with fail
          go_roundg (s.size - (k + 1))
          case measure => rw [Hg.out]; omega
          case rel =>
            refine ⟨k + 1, _, rfl, by go_num, by omega, by rw [ByteArray.size_append, e1]; omega, ho.alloc _, ?_, rfl⟩
            rw [HR.out, HB1.out, ByteArray.data_append, Array.toList_append, List.map_cons, foldU, HB2.out, if_pos ⟨h65, h90⟩]
            have hb : (((bAt s k : Nat) : Int) + 32).toNat = bAt s k + 32 := by omega
            simp [bytesOf, hb]
        · have q2 : decide (((bAt s k : Nat) : Int) ≤ 90) = false := by simp; omega
          go_wp2_with fail
          go_roundg (s.size - (k + 1))
          case measure => rw [Hg.out]; omega
          case rel =>
            refine ⟨k + 1, _, rfl, by go_num, by omega, by rw [ByteArray.size_append, e1]; omega, ho.alloc _, ?_, rfl⟩
            rw [HR.out, HB1.out, ByteArray.data_append, Array.toList_append, List.map_cons, foldU, if_neg (by rw [HB2.out]; omega)]
            simp [bytesOf, ← HB2.out]
      · have q1 : decide ((65 : Int) ≤ ((bAt s k : Nat) : Int)) = false := by simp; omega
        go_wp2_with fail
        go_roundg (s.size - (k + 1))
        case measure => rw [Hg.out]; omega
        case rel =>
          refine ⟨k + 1, _, rfl, by go_num, by omega, by rw [ByteArray.size_append, e1]; omega, ho.alloc _, ?_, rfl⟩
          rw [HR.out, HB1.out, ByteArray.data_append, Array.toList_append, List.map_cons, foldU, if_neg (by rw [HB2.out]; omega)]
          simp [bytesOf, ← HB2.out]
    · have hd : r = F := by
        apply str_ext
        rw [HR.out, List.drop_eq_nil_of_le (by show s.size ≤ k; omega)]
        simp
      have HD := Lib.hid hd
      clear hd
      go_wp2_with fail
      go_ret
      exact ⟨ret_str HD.out, ho⟩
end Go.Proofs.YtbdfijgejkimnaaGreatDoor
/-! Answer, plainly: numerals, nodes' and services' names. -/
namespace Go.Proofs.YtbdfijgejkimnaaGreatDoor
open Go.Conc Go.RowKit Go.Lib

/-- Digits, and the number that they spell. -/
def digitB (c : UInt8) : Bool := decide (48 ≤ c.toNat) && decide (c.toNat ≤ 57)
def numD (a : Nat) (l : List UInt8) : Nat := l.foldl (fun n c => 10 * n + (c.toNat - 48)) a
theorem digitB_iff {c : UInt8} : digitB c = true ↔ 48 ≤ c.toNat ∧ c.toNat ≤ 57 := by unfold digitB; simp
theorem numD_snoc (a : Nat) (l : List UInt8) (c : UInt8) : numD a (l ++ [c]) = 10 * numD a l + (c.toNat - 48) := by unfold numD; rw [List.foldl_append, List.foldl_cons, List.foldl_nil]
theorem numD_cons (a : Nat) (c : UInt8) (l : List UInt8) : numD a (c :: l) = numD (10 * a + (c.toNat - 48)) l := by unfold numD; rw [List.foldl_cons]
theorem digit_of (d : Nat) (h : d < 10) : (UInt8.ofNat (48 + d)).toNat = 48 + d := by
  rw [UInt8.toNat_ofNat']
  omega
theorem dec_small {u : Nat} (h : u < 10) : decDigits u = [UInt8.ofNat (48 + u)] := by rw [decDigits, dif_pos h]
theorem dec_big {u : Nat} (h : ¬ u < 10) : decDigits u = decDigits (u / 10) ++ [UInt8.ofNat (48 + u % 10)] := by rw [decDigits, dif_neg h]
theorem dec_facts : ∀ (k n : Nat), n ≤ k → (decDigits n).all digitB = true ∧ numD 0 (decDigits n) = n ∧ decDigits n ≠ [] ∧ (0 < n → ∃ c r, decDigits n = c :: r ∧ c.toNat ≠ 48)
  | 0, n, h => by
    obtain rfl : n = 0 := by omega
    rw [dec_small (by omega)]
    exact ⟨by decide, by decide, by simp, fun h => absurd h (by omega)⟩
  | k + 1, n, h => by
    by_cases h10 : n < 10
    · rw [dec_small h10]
      have hd := digit_of n h10
      refine ⟨?_, ?_, by simp, fun h0 => ⟨_, _, rfl, by omega⟩⟩
      · simp only [List.all_cons, List.all_nil, Bool.and_true, digitB_iff]
        omega
      · show 10 * 0 + ((UInt8.ofNat (48 + n)).toNat - 48) = n
        omega
    · obtain ⟨h1, h2, h3, h4⟩ := dec_facts k (n / 10) (by omega)
      rw [dec_big h10]
      have hd := digit_of (n % 10) (by omega)
      refine ⟨?_, ?_, by simp, fun _ => ?_⟩
      · rw [List.all_append, h1]
        simp only [List.all_cons, List.all_nil, Bool.and_true, Bool.true_and, digitB_iff]
        omega
      · rw [numD_snoc, h2]
        omega
      · obtain ⟨c, r, e, hc⟩ := h4 (by omega)
        exact ⟨c, r ++ [_], by rw [e]; rfl, hc⟩
theorem dec_all (n : Nat) : (decDigits n).all digitB = true := (dec_facts n n (Nat.le_refl _)).1
theorem dec_num (n : Nat) : numD 0 (decDigits n) = n := (dec_facts n n (Nat.le_refl _)).2.1
theorem dec_ne (n : Nat) : decDigits n ≠ [] := (dec_facts n n (Nat.le_refl _)).2.2.1
theorem dec_head {n : Nat} (h : 0 < n) : ∃ c r, decDigits n = c :: r ∧ c.toNat ≠ 48 := (dec_facts n n (Nat.le_refl _)).2.2.2 h
theorem numD_mono : ∀ (l : List UInt8) (a : Nat), a ≤ numD a l
  | [], a => Nat.le_refl _
  | c :: l, a => by
    have := numD_mono l (10 * a + (c.toNat - 48))
    rw [numD_cons]
    omega
theorem numD_pos (c : UInt8) (r : List UInt8) (h1 : 48 ≤ c.toNat) (h2 : c.toNat ≠ 48) : 0 < numD 0 (c :: r) := by
  have := numD_mono r (10 * 0 + (c.toNat - 48))
  rw [numD_cons]
  omega
theorem dec_of_num (c : UInt8) (hc : c.toNat ≠ 48) : ∀ (k : Nat) (r : List UInt8), r.length ≤ k → (c :: r).all digitB = true → decDigits (numD 0 (c :: r)) = c :: r
  | k, r, hk, h => by
    have hcd : digitB c = true := by simp only [List.all_cons, Bool.and_eq_true] at h; exact h.1
    rw [digitB_iff] at hcd
    rcases List.eq_nil_or_concat r with rfl | ⟨r', d, rfl⟩
    · have e : numD 0 [c] = c.toNat - 48 := by show 10 * 0 + (c.toNat - 48) = _; omega
      rw [e, dec_small (by omega)]
      congr 1
      rw [show 48 + (c.toNat - 48) = c.toNat by omega]
      exact UInt8.ofNat_toNat
    · rw [List.concat_eq_append] at hk h ⊢
      rw [List.length_append] at hk
      match k, hk with
      | 0, hk => simp at hk
      | k + 1, hk =>
        rw [← List.cons_append, List.all_append] at h
        simp only [Bool.and_eq_true] at h
        have ih := dec_of_num c hc k r' (by simp at hk; omega) h.1
        have hd : digitB d = true := by simpa using h.2
        rw [digitB_iff] at hd
        have hp := numD_pos c r' hcd.1 hc
        rw [← List.cons_append, numD_snoc, dec_big (by omega), show (10 * numD 0 (c :: r') + (d.toNat - 48)) / 10 = numD 0 (c :: r') by omega, ih, show (10 * numD 0 (c :: r') + (d.toNat - 48)) % 10 = d.toNat - 48 by omega, show 48 + (d.toNat - 48) = d.toNat by omega, UInt8.ofNat_toNat]
theorem parse_num : ∀ (l : List UInt8) (a : Nat), l.all digitB = true → numD a l < 9223372036854775808 → parseUint10 a l = .ok (numD a l)
  | [], a, _, _ => rfl
  | c :: l, a, h, hn => by
    simp only [List.all_cons, Bool.and_eq_true] at h
    have hc := digitB_iff.1 h.1
    rw [numD_cons] at hn
    have hm := numD_mono l (10 * a + (c.toNat - 48))
    rw [parseUint10, if_pos hc, if_neg (by omega), if_neg (by omega), numD_cons, Nat.mul_comm a 10]
    exact parse_num l _ h.2 hn
/-- A node's numeral. -/
def itoaB (n : Nat) : ByteArray := ⟨(decDigits n).toArray⟩
theorem itoaB_data (n : Nat) : (itoaB n).data.toList = decDigits n := rfl
theorem itoa_of (n : Nat) : (⟨(itoa (n : Int)).toArray⟩ : ByteArray) = itoaB n := by rw [itoa_nonneg]; rfl
theorem itoaB_inj {n k : Nat} (h : itoaB n = itoaB k) : n = k := by
  have h2 := congrArg (fun s : ByteArray => numD 0 s.data.toList) h
  simp only [itoaB_data, dec_num] at h2
  exact h2
theorem atoi_itoa (n : Nat) (h1 : 1 ≤ n) (h2 : n ≤ 65535) : atoiAll (itoaB n).data.toList = .ok (n : Int) := by
  rw [itoaB_data]
  obtain ⟨c, r, e, hc⟩ := dec_head (n := n) (by omega)
  have ha := dec_all n
  have hn := dec_num n
  rw [e] at ha hn ⊢
  have hcd : digitB c = true := by simp only [List.all_cons, Bool.and_eq_true] at ha; exact ha.1
  rw [digitB_iff] at hcd
  have hp : parseMag (c :: r) = .ok n := by
    unfold parseMag
    rw [if_neg (by simp), parse_num _ _ ha (by omega), hn]
  have h43 : ¬ (c.toNat = 43 ∨ c.toNat = 45) := by omega
  have h45 : ¬ c.toNat = 45 := by omega
  have hb : ¬ 9223372036854775808 ≤ n := by omega
  unfold atoiAll
  dsimp only
  rw [if_neg h43, hp]
  dsimp only
  rw [if_neg (fun h => hb h.2), if_neg (fun h => h45 h.1), if_neg h45]
def nodeS : ByteArray := ⟨#[110, 111, 100, 101]⟩
def bellS : ByteArray := ⟨#[98, 101, 108, 108]⟩
def tgtL (n : Nat) : List ByteArray := [itoaB n, nodeS, bellS]
/-- The number that a text spells as a node's numeral; 0: none. -/
def numN (a : ByteArray) : Nat :=
  match a.data.toList with
  | [] => 0
  | c :: r => if (c :: r).all digitB ∧ c.toNat ≠ 48 ∧ r.length ≤ 4 ∧ numD 0 (c :: r) ≤ 65535 then numD 0 (c :: r) else 0
theorem numN_of {a : ByteArray} {v : Nat} (h : numN a = v) (hv : 0 < v) : 1 ≤ v ∧ v ≤ 65535 ∧ a = itoaB v := by
  unfold numN at h
  split at h
  · omega
  · rename_i c r e
    split at h
    · rename_i hh
      refine ⟨by omega, by omega, str_ext ?_⟩
      rw [itoaB_data, e, ← h]
      exact (dec_of_num c hh.2.1 _ r (Nat.le_refl _) hh.1).symm
    · omega
theorem nDig5 {n : Nat} (h : n ≤ 65535) : (decDigits n).length ≤ 5 := by
  rw [decDigits_length]
  by_cases h0 : n < 10
  · rw [nDigits_small h0]; omega
  rw [nDigits_big h0]
  by_cases h1 : n / 10 < 10
  · rw [nDigits_small h1]; omega
  rw [nDigits_big h1]
  by_cases h2 : n / 10 / 10 < 10
  · rw [nDigits_small h2]; omega
  rw [nDigits_big h2]
  by_cases h3 : n / 10 / 10 / 10 < 10
  · rw [nDigits_small h3]; omega
  rw [nDigits_big h3, nDigits_small (by omega)]
  decide
theorem numN_itoa {v : Nat} (h1 : 1 ≤ v) (h2 : v ≤ 65535) : numN (itoaB v) = v := by
  obtain ⟨c, r, e, hc⟩ := dec_head (n := v) (by omega)
  have ha := dec_all v
  have hn := dec_num v
  have hl := nDig5 h2
  unfold numN
  rw [itoaB_data]
  rw [e] at ha hn hl ⊢
  simp only
  rw [if_pos ⟨ha, hc, by simp at hl; omega, by omega⟩, hn]
/-- The node whose name it is; 0: none. -/
def nodeM : List ByteArray → Nat
  | [a, b, c] => if b = nodeS ∧ c = bellS then numN a else 0
  | _ => 0
theorem nodeM_of {l : List ByteArray} (h : 0 < nodeM l) : 1 ≤ nodeM l ∧ nodeM l ≤ 65535 ∧ l = tgtL (nodeM l) := by
  match l, h with
  | [a, b, c], h =>
    have e : nodeM [a, b, c] = if b = nodeS ∧ c = bellS then numN a else 0 := rfl
    rw [e] at h ⊢
    by_cases hh : b = nodeS ∧ c = bellS
    · rw [if_pos hh] at h ⊢
      obtain ⟨h1, h2, h3⟩ := numN_of rfl h
      refine ⟨h1, h2, ?_⟩
      unfold tgtL
      rw [← h3, hh.1, hh.2]
    · rw [if_neg hh] at h
      omega
  | [], h => exact absurd h (by decide)
  | [_], h => exact absurd h (by simp [nodeM])
  | [_, _], h => exact absurd h (by simp [nodeM])
  | _ :: _ :: _ :: _ :: _, h => exact absurd h (by simp [nodeM])
theorem nodeM_tgt {v : Nat} (h1 : 1 ≤ v) (h2 : v ≤ 65535) : nodeM (tgtL v) = v := by
  show (if nodeS = nodeS ∧ bellS = bellS then numN (itoaB v) else 0) = v
  rw [if_pos ⟨rfl, rfl⟩, numN_itoa h1 h2]
theorem nodeM_zero {l : List ByteArray} (h : ∀ v, 1 ≤ v → v ≤ 65535 → l ≠ tgtL v) : nodeM l = 0 := by
  rcases Nat.eq_zero_or_pos (nodeM l) with e | e
  · exact e
  · obtain ⟨h1, h2, h3⟩ := nodeM_of e
    exact absurd h3 (h _ h1 h2)
/-- The service whose name it is; empty: none. -/
def noDot (s : ByteArray) : Bool := s.data.toList.all (fun c => !decide (c = 46))
def servM (l : List ByteArray) : ByteArray :=
  if 2 ≤ l.length ∧ l.getLast? = some bellS ∧ l.dropLast.all noDot = true ∧ namedP (joinL l.dropLast) = true then joinL l.dropLast else ⟨#[]⟩
theorem count_noDot (s : ByteArray) : noDot s = true ↔ s.data.toList.count 46 = 0 := by
  unfold noDot
  rw [List.count_eq_zero, List.all_eq_true]
  constructor
  · intro h e
    have := h 46 e
    simp at this
  · intro h c hc
    simp only [Bool.not_eq_true', decide_eq_false_iff_not]
    intro e
    exact h (e ▸ hc)
theorem joinL_cons (a : ByteArray) (l : List ByteArray) (h : l ≠ []) : (joinL (a :: l)).data.toList = a.data.toList ++ 46 :: (joinL l).data.toList := by
  match l, h with
  | b :: l, _ => simp [joinL, Lib.join, List.intercalate]
theorem joinL_one (a : ByteArray) : (joinL [a]).data.toList = a.data.toList := by simp [joinL, Lib.join, List.intercalate]
theorem count_join : ∀ (l : List ByteArray), l ≠ [] → (joinL l).data.toList.count 46 + 1 = (l.map (fun s => s.data.toList.count 46)).sum + l.length
  | [], h => absurd rfl h
  | [a], _ => by rw [joinL_one]; simp
  | a :: b :: l, _ => by
    have ih := count_join (b :: l) (by simp)
    rw [joinL_cons a (b :: l) (by simp), List.count_append, List.count_cons_self, List.map_cons, List.sum_cons, List.length_cons]
    omega
theorem sum_zero (l : List Nat) : l.sum = 0 ↔ ∀ x ∈ l, x = 0 := by
  induction l with
  | nil => simp
  | cons a l ih => simp [ih]
theorem dots_join (l : List ByteArray) (h : l ≠ []) : (joinL l).data.toList.count 46 = l.length - 1 ↔ l.all noDot = true := by
  have hc := count_join l h
  have hl : 0 < l.length := List.length_pos_iff.2 h
  have : (joinL l).data.toList.count 46 = l.length - 1 ↔ (l.map (fun s => s.data.toList.count 46)).sum = 0 := by omega
  rw [this, sum_zero, List.all_eq_true]
  constructor
  · intro h s hs
    exact (count_noDot s).2 (h _ (List.mem_map.2 ⟨s, hs, rfl⟩))
  · intro h x hx
    obtain ⟨s, hs, rfl⟩ := List.mem_map.1 hx
    exact (count_noDot s).1 (h s hs)
end Go.Proofs.YtbdfijgejkimnaaGreatDoor
/-! A row of bytes as '[]byte(s)' lays it. -/
namespace Go.Proofs.YtbdfijgejkimnaaGreatDoor
open Go.Conc Go.RowKit

theorem set_at {w : World} {b : Nat} {cs : Array Value} {t : TypeId} {f : Nat × Nat} (h : w.heap[b]? = some (.cells cs t f)) (i : Nat) (u : Value) : (w.setCell ⟨b, i, none⟩ u).heap[b]? = some (.cells (cs.setIfInBounds i u) t f) := by
  have hlt := lt_of_block h
  have h' : w.heap[b] = .cells cs t f := by simpa [Array.getElem?_eq_getElem hlt] using h
  show (w.heap.modify b _)[b]? = _
  rw [Array.getElem?_eq_getElem (by simpa using hlt), Array.getElem_modify_self, h']
  rfl
/-- A row of bytes as '[]byte(s)' lays it: its first cells. -/
def Byt (w : World) (B N : Nat) (vs : List Value) : Prop :=
  ∃ cur, w.heap[B]? = some (.cells cur 5 (N, N + 1)) ∧ cur.size = N ∧ vs.length ≤ N ∧ cur.toList.take vs.length = vs
theorem Byt.cell {w : World} {B N : Nat} {vs : List Value} (h : Byt w B N vs) {j : Nat} {u : Value} (hu : vs[j]? = some u) : w.cell? ⟨B, j, none⟩ = some u := by
  obtain ⟨cur, h1, h2, h3, h4⟩ := h
  have hj : j < vs.length := (List.getElem?_eq_some_iff.1 hu).1
  rw [← h4, List.getElem?_take, if_pos hj] at hu
  rw [cell_at' h1]
  simpa using hu
where cell_at' {w : World} {b : Nat} {cs : Array Value} {t : TypeId} {f : Nat × Nat} (h : w.heap[b]? = some (.cells cs t f)) {i : Nat} : w.cell? ⟨b, i, none⟩ = cs[i]? := cell_at h i
theorem Byt.free {w : World} {B N : Nat} {vs : List Value} (h : Byt w B N vs) {j : Nat} (hj : j < vs.length) : w.frozen? ⟨B, j, none⟩ = false := by
  obtain ⟨cur, h1, h2, h3, h4⟩ := h
  simp only [World.frozen?, h1]
  have : ¬ N ≤ j := by omega
  simp [this]
theorem Byt.store {w : World} {B N : Nat} {vs : List Value} (h : Byt w B N vs) (j : Nat) (u : Value) : Byt (w.setCell ⟨B, j, none⟩ u) B N (vs.set j u) := by
  obtain ⟨cur, h1, h2, h3, h4⟩ := h
  refine ⟨_, set_at h1 _ u, by simpa using h2, by simpa using h3, ?_⟩
  rw [Array.toList_setIfInBounds, List.length_set, List.take_set, h4]
theorem Byt.kept {S : Nat → Prop} {w w' : World} {B N : Nat} {vs : List Value} (h : Byt w B N vs) (ho : Only S w w') (hn : ¬ S B) : Byt w' B N vs := by
  obtain ⟨cur, h1, h2⟩ := h
  exact ⟨cur, ho.old h1 hn, h2⟩
theorem Byt.lt {w : World} {B N : Nat} {vs : List Value} (h : Byt w B N vs) : B < w.heap.size := by
  obtain ⟨cur, h1, _⟩ := h
  exact lt_of_block h1
def byteVals (l : List UInt8) : List Value := l.map fun b => .int .u8 b.toNat
theorem Byt.new (w : World) (s : ByteArray) (cap : Nat) :
    Byt (w.alloc (.cells (bytesRow s cap) 5 ((bytesRow s cap).size, (bytesRow s cap).size + 1))).drew w.heap.size (bytesRow s cap).size (byteVals s.data.toList) := by
  have hl : (byteVals s.data.toList).length = s.size := by rw [byteVals, List.length_map]; rfl
  refine ⟨bytesRow s cap, heap_alloc_new w _, rfl, ?_, ?_⟩
  · rw [hl, bytesRow, Array.size_append, Array.size_map, Array.size_replicate]
    show s.data.size ≤ s.data.size + _
    omega
  · rw [bytesRow, Array.toList_append, Array.toList_map, List.take_append_of_le_length (Nat.le_of_eq (by simp [byteVals]))]
    rw [List.take_of_length_le (Nat.le_of_eq (by simp [byteVals]))]
    rfl
theorem Byt.sl {w : World} {B N n cap : Nat} {l : List UInt8} (h : Byt w B N (byteVals l)) (hn : n = l.length) (hc : n ≤ cap) (hm : cap ≤ maxLen) :
    Sl w 1 (.slice (some ⟨B, 0, none⟩) n cap) (l.map fun b => (b.toNat : Int)).length ((l.map fun b => (b.toNat : Int)).map (.int .u8)) := by
  subst hn
  rw [List.length_map]
  refine ⟨by simp, _, cap, rfl, hc, hm, .inr ⟨B, 0, rfl, fun j u hu => ?_⟩⟩
  rw [Nat.zero_add]
  refine h.cell ?_
  simpa [byteVals] using hu
theorem bytesOf_nat (l : List UInt8) : bytesOf (l.map fun b => (b.toNat : Int)) = ⟨l.toArray⟩ := by
  apply str_ext
  simp only [bytesOf, List.map_map]
  have e : ((fun n : Int => UInt8.ofNat n.toNat) ∘ fun b : UInt8 => (b.toNat : Int)) = id := funext fun b => by simp
  rw [e, List.map_id]

end Go.Proofs.YtbdfijgejkimnaaGreatDoor
/-! Small laws for regions that make blocks: what is kept, the block behind a chain of stores. -/
namespace Go.Proofs.YtbdfijgejkimnaaGreatDoor
open Go.Conc Go.RowKit

theorem heldO {W w' : World} {C : World → Prop} (hC : ∀ w', Only (fun _ => False) W w' → C w') (h : Only (fun _ => False) W w') : Only (fun _ => False) W w' ∧ C w' := ⟨h, hC _ h⟩
theorem onlySet {W w : World} (h : Only (fun _ => False) W w) {c i : Nat} (hc : W.heap.size ≤ c) (v : Value) : Only (fun _ => False) W (w.setCell ⟨c, i, none⟩ v) := h.setCell (.inl hc) v
theorem blk_same {w : World} {b i : Nat} {cs : Array Value} {t : TypeId} {f : Nat × Nat} {v : Value} (h : w.heap[b]? = some (.cells cs t f)) : (w.setCell ⟨b, i, none⟩ v).heap[b]? = some (.cells (cs.setIfInBounds i v) t f) := set_at h i v
theorem blk_ne {w : World} {b c i : Nat} {v : Value} {x : Option Obj} (h : w.heap[b]? = x) (hn : c ≠ b) : (w.setCell ⟨c, i, none⟩ v).heap[b]? = x :=
  (Below.heap_setCell _ _ _ _ (Ne.symm hn)).trans h
theorem blk_new {w : World} {b : Nat} {o : Obj} (hb : b = w.heap.size) : (w.alloc o).heap[b]? = some o := by subst hb; exact heap_alloc_new w o
theorem blk_old {w : World} {o : Obj} {b : Nat} {x : Obj} (h : w.heap[b]? = some x) : (w.alloc o).heap[b]? = some x := (Below.heap_alloc _ _ _ (lt_of_block h)).trans h
theorem blk_drew {w : World} {b : Nat} {x : Option Obj} (h : w.heap[b]? = x) : w.drew.heap[b]? = x := h
theorem size_alloc (w : World) (o : Obj) : (w.alloc o).heap.size = w.heap.size + 1 := by simp
theorem size_set (w : World) (p : Addr) (v : Value) : (w.setCell p v).heap.size = w.heap.size := by simp
theorem size_drew (w : World) : w.drew.heap.size = w.heap.size := rfl
theorem sz_alloc {w : World} {o : Obj} {b : Nat} (h : b = w.heap.size) : b + 1 = (w.alloc o).heap.size := by rw [size_alloc, h]
theorem sz_set {w : World} {p : Addr} {v : Value} {b : Nat} (h : b = w.heap.size) : b = (w.setCell p v).heap.size := by rw [size_set, h]
theorem sz_drew {w : World} {b : Nat} (h : b = w.heap.size) : b = w.drew.heap.size := h
theorem two_new (w : World) (o o' : Obj) : ((w.alloc o).alloc o').heap[w.heap.size]? = some o ∧ ((w.alloc o).alloc o').heap[w.heap.size + 1]? = some o' := by
  refine ⟨blk_old (heap_alloc_new w o), ?_⟩
  have := heap_alloc_new (w.alloc o) o'
  simpa using this
/-- A callee that changes nothing, in a region that only reads. -/
theorem quiet_id {P : Program} {f : FuncId} {args : Array Value} {w : World} {n : Nat} {v : Value}
    (h : Calls P f args (w.drewN n) fun e w' => e = .returned v ∧ w.drewN n = w') : Calls P f args (w.drewN n) fun e w'' => e = .returned v ∧ ∃ m, w'' = w.drewN m :=
  h.mono fun _ _ ⟨he, hm⟩ => ⟨he, n, hm.symm⟩
theorem row_form {w : World} {base n size : Nat} {e : TypeId} {v : Value} {xs : List Value} (h : w.ownsRow base e size v n xs) (hn : xs ≠ []) :
    ∃ g cap cur, v = .slice (some ⟨g, 0, none⟩) n cap ∧ base ≤ g ∧ w.heap[g]? = some (.cells cur e (0, 0)) ∧ n ≤ cap ∧ cap ≤ maxLen ∧ cur.size = cap * size ∧ cur.toList.take (n * size) = xs := by
  obtain ⟨h1, h2⟩ := h
  rcases h2 with ⟨h2, rfl⟩ | ⟨g, cap, cur, hv, hb, hg, hnc, hcm, hcs, ht⟩
  · exact absurd (List.eq_nil_of_length_eq_zero (by simpa using h1)) hn
  · exact ⟨g, cap, cur, hv, hb, hg, hnc, hcm, hcs, ht⟩
end Go.Proofs.YtbdfijgejkimnaaGreatDoor
