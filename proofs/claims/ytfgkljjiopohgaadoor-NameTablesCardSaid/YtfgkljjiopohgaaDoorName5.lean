/- Add: a table, or none; the bytes that it writes. -/
import Derived.Test.YtfgkljjiopohgaaDoorName4
namespace Go.Proofs.YtfgkljjiopohgaaDoor
open Go.Conc Go.RowKit

abbrev Tab : Type := List UInt8 → Option Int
/-- A table or none: its blocks, a bound on its entries, what it says, whether there is one. -/
def TabV (w : World) (tv : Value) (S : Nat → Prop) (n : Nat) (f : Tab) (live : Bool) : Prop :=
  (tv = .pointer none ∧ live = false ∧ f = (fun _ => none) ∧ ∀ x, ¬ S x) ∨
    ∃ t bm, tv = .pointer (some ⟨t, 0, none⟩) ∧ live = true ∧ (∀ x, S x ↔ (x = t ∨ bm = some x)) ∧ TabAt w t bm n f
def notedV (live : Bool) (f : Tab) (k : List UInt8) (c : Int) : Tab := if live then noted f k c else f
def NoteV (w w' : World) (tv : Value) (S : Nat → Prop) (n : Nat) (f : Tab) (live : Bool) : Prop :=
  ∃ S', Only S w w' ∧ TabV w' tv S' n f live ∧ ∀ x, S' x → S x ∨ w.heap.size ≤ x
theorem TabV.more {w : World} {tv : Value} {S : Nat → Prop} {n n' : Nat} {f : Tab} {live : Bool} (h : TabV w tv S n f live) (hn : n ≤ n') : TabV w tv S n' f live := by
  rcases h with h | ⟨t, bm, h1, h2, h3, h4⟩
  · exact .inl h
  · exact .inr ⟨t, bm, h1, h2, h3, h4.more hn⟩
theorem TabV.apart {w : World} {tv : Value} {S : Nat → Prop} {n : Nat} {f : Tab} {live : Bool} (h : TabV w tv S n f live) {a : Addr} {u : ByteArray} (hc : w.cell? a = some (.string u)) : ¬ S a.block := by
  intro hs
  rcases h with ⟨_, _, _, h⟩ | ⟨t, bm, h1, h2, h3, m, h4, h5⟩
  · exact h _ hs
  · rcases (h3 _).1 hs with e | e
    · obtain ⟨b, i, o⟩ := a
      dsimp only at e
      subst e
      simp only [World.cell?, h4] at hc
      rcases h5 with ⟨rfl, _, _⟩ | ⟨b, D, rfl, _⟩
      · cases i with
        | zero => cases o <;> simp at hc
        | succ i => cases o <;> simp at hc
      · cases i with
        | zero => cases o <;> simp at hc
        | succ i => cases o <;> simp at hc
    · rcases h5 with ⟨_, hb, _⟩ | ⟨b, D, _, hb, hown, _⟩
      · rw [hb] at e; cases e
      · rw [hb] at e
        injection e with e
        obtain ⟨es, clock, hblk, _⟩ := hown
        rw [e] at hblk
        simp [World.cell?, hblk] at hc
theorem TabV.kept {w w' : World} {tv : Value} {S T : Nat → Prop} {n : Nat} {f : Tab} {live : Bool} (h : TabV w tv S n f live) (ho : Only T w w') (hn : ∀ x, S x → ¬ T x) : TabV w' tv S n f live := by
  rcases h with h | ⟨t, bm, h1, h2, h3, h4⟩
  · exact .inl h
  · exact .inr ⟨t, bm, h1, h2, h3, h4.kept ho (hn t ((h3 t).2 (.inl rfl))) (fun b hb => hn b ((h3 b).2 (.inr hb)))⟩
theorem place_v (w : World) (tv : Value) (S : Nat → Prop) (n : Nat) (f : Tab) (live : Bool) (k : ByteArray) (h : TabV w tv S n f live) (h0 : k.size ≠ 0) (hk : k.size ≤ maxLen) :
    Calls Tryd.prog 36 #[tv, .string k] w fun e w' => ∃ c, e = .returned (.tuple #[.int .i64 c, .bool (f k.data.toList).isSome]) ∧ w = w' ∧ (∀ c', f k.data.toList = some c' → c = c') := by
  rcases h with ⟨rfl, _, rfl, _⟩ | ⟨t, bm, rfl, _, _, h4⟩
  · refine (place_none w k).mono ?_
    rintro e w' ⟨rfl, rfl⟩
    exact ⟨0, rfl, rfl, fun c' h => by cases h⟩
  · exact place_any w t bm n f k h4 h0 hk
theorem note_v (w : World) (tv : Value) (S : Nat → Prop) (n : Nat) (f : Tab) (live : Bool) (k : ByteArray) (c : Int) (h : TabV w tv S n f live) (h0 : k.size ≠ 0) (hk : k.size ≤ maxLen) (hn : n < 100000) (c0 : 0 ≤ c) (c1 : c ≤ 1000000) :
    Calls Tryd.prog 37 #[tv, .string k, .int .i64 c] w fun e w' => e = .returned (.tuple #[]) ∧ NoteV w w' tv S (n + 1) (notedV live f k.data.toList c) live := by
  rcases h with ⟨rfl, rfl, rfl, hs⟩ | ⟨t, bm, rfl, rfl, hs, h4⟩
  · refine (note_none w k c).mono ?_
    rintro e w' ⟨rfl, rfl⟩
    exact ⟨rfl, S, Only.refl _ _, .inl ⟨rfl, rfl, rfl, hs⟩, fun x h => .inl h⟩
  · refine (note_any w t bm n f k c h4 h0 hk hn c0 c1).mono ?_
    rintro e w' ⟨rfl, bm', ho, ht, hb⟩
    refine ⟨rfl, fun x => x = t ∨ bm' = some x, ho.weaken (fun x _ hx => (hs x).2 hx), .inr ⟨t, bm', rfl, rfl, fun x => Iff.rfl, ht⟩, fun x hx => ?_⟩
    rcases hx with rfl | hx
    · exact .inl ((hs _).2 (.inl rfl))
    · rcases hb x hx with h | h
      · exact .inl ((hs _).2 (.inr h))
      · exact .inr h

theorem foldl_label (l : List ByteArray) : ∀ r : ByteArray, l.foldl (fun r s => r ++ labelB s) r = r ++ bytesL l := by
  unfold bytesL
  induction l with
  | nil => intro r; exact str_ext (by simp)
  | cons s l ih =>
    intro r
    rw [List.foldl_cons, List.foldl_cons, ih, ih (⟨#[]⟩ ++ labelB s)]
    exact str_ext (by simp)
theorem bytesL_cons (s : ByteArray) (l : List ByteArray) : bytesL (s :: l) = labelB s ++ bytesL l := by
  unfold bytesL
  rw [List.foldl_cons, foldl_label]
  exact str_ext (by simp [bytesL])
theorem labelB_size (s : ByteArray) : (labelB s).size = 1 + s.size := by
  rw [labelB, ByteArray.size_append]
  rfl
theorem bytesL_nil : bytesL [] = ⟨#[]⟩ := rfl
theorem bytesL_size_cons (s : ByteArray) (l : List ByteArray) : (bytesL (s :: l)).size = 1 + s.size + (bytesL l).size := by
  rw [bytesL_cons, ByteArray.size_append, labelB_size]
theorem bytesL_drop_size (l : List ByteArray) (k : Nat) : (bytesL (l.drop k)).size ≤ (bytesL l).size := by
  induction k generalizing l with
  | zero => exact Nat.le_refl _
  | succ k ih =>
    cases l with
    | nil => exact Nat.le_refl _
    | cons s l => rw [List.drop_succ_cons, bytesL_size_cons]; have := ih l; omega
theorem extract_append (a b : ByteArray) (n m : Nat) (hn : n = a.size) (hm : m = (a ++ b).size) : (a ++ b).extract n m = b := by
  subst hn hm
  exact ByteArray.extract_append_eq_right rfl ByteArray.size_append
theorem bytesL_rest (s : ByteArray) (l : List ByteArray) : (bytesL (s :: l)).extract (1 + s.size) (bytesL (s :: l)).size = bytesL l := by
  rw [bytesL_cons]
  exact extract_append _ _ _ _ (labelB_size s).symm rfl
theorem mayGo_all : ∀ (l : List ByteArray) (n : Nat), mayGo n l = true → (∀ s ∈ l, s.size ≠ 0 ∧ s.size ≤ 63) ∧ n + (bytesL l).size ≤ 254 ∧ 2 * l.length ≤ (bytesL l).size := by
  intro l
  induction l with
  | nil => intro n h; simp [mayGo] at h; refine ⟨by simp, ?_, by simp⟩; rw [bytesL_nil]; exact h
  | cons s l ih =>
    intro n h
    by_cases hb : s.size = 0 ∨ 63 < s.size ∨ 254 < n
    · rw [mayGo_bad hb] at h; cases h
    · rw [mayGo_step (by omega) (by omega) (by omega)] at h
      obtain ⟨h1, h2, h3⟩ := ih _ h
      rw [bytesL_size_cons, List.length_cons]
      refine ⟨fun x hx => ?_, by omega, by omega⟩
      rcases List.mem_cons.1 hx with rfl | hx
      · omega
      · exact h1 x hx

/-- What a message is behind Add, and the table. -/
def addP (live : Bool) : Tab → ByteArray → List ByteArray → ByteArray × Tab
  | f, msg, [] => (msg ++ ⟨#[0]⟩, f)
  | f, msg, s :: l => match f (bytesL (s :: l)).data.toList with
    | some c => (msg ++ bytesOf [192 + c / 256, c % 256], f)
    | none => addP live (notedV live f (bytesL (s :: l)).data.toList msg.size) (msg ++ labelB s) l
theorem or_ptr_fin : ∀ x : Fin 64, bits BinOp.or IntKind.i64 192 (x.val : Int) = 192 + (x.val : Int) := by decide
theorem or_ptr (c : Int) (h0 : 0 ≤ c) (h1 : c < 16384) : bits BinOp.or IntKind.i64 192 (c / 256) % 256 = 192 + c / 256 := by
  have h2 : (c / 256).toNat < 64 := by omega
  have := or_ptr_fin ⟨(c / 256).toNat, h2⟩
  have h3 : (((c / 256).toNat : Nat) : Int) = c / 256 := by omega
  simp only [h3] at this
  rw [this]
  omega
/-- Each place can be pointed to. -/
def Ranged (f : Tab) : Prop := ∀ k c, f k = some c → 0 ≤ c ∧ c < 16384
theorem Ranged.noted {f : Tab} (h : Ranged f) (live : Bool) (k : List UInt8) (c : Int) (h0 : 0 ≤ c) : Ranged (notedV live f k c) := by
  intro x d hx
  unfold notedV at hx
  split at hx
  · unfold Go.Proofs.YtfgkljjiopohgaaDoor.noted at hx
    split at hx
    · exact h x d hx
    · next h1 =>
      unfold upd at hx
      split at hx
      · injection hx with hx; omega
      · exact h x d hx
  · exact h x d hx

set_option maxRecDepth 100000 in
theorem add_bad (w : World) (tv : Value) (msg : ByteArray) (v : Value) (l : List ByteArray) (hl : Sl w 1 v l.length (l.map .string)) (hsz : ∀ s ∈ l, s.size ≤ maxLen) (hm : mayGo 0 l = false) :
    Calls Tryd.prog 18 #[tv, .string msg, v] w fun e w' => e = .returned (.tuple #[.string ⟨#[]⟩, .int .i64 9]) ∧ w = w' := by
  have Hsz := Lib.hid hsz
  have Hm := Lib.hid hm
  clear hsz hm
  go_enter Tryd.func18, Tryd.ntmps18
  go_wp2_with fail
  refine (may_any _ v l hl Hsz.out).mono ?_
  rintro e w2 ⟨rfl, rfl⟩
  rw [Hm.out]
  go_wp2_with fail
  go_ret2
  exact ⟨rfl, rfl⟩

def AddPost (w w' : World) (tv : Value) (S : Nat → Prop) (n : Nat) (f : Tab) (live : Bool) : Prop :=
  ∃ S', Only S w w' ∧ TabV w' tv S' n f live ∧ Ranged f ∧ ∀ x, S' x → S x ∨ w.heap.size ≤ x

set_option maxRecDepth 100000 in
theorem add_good (w : World) (tv : Value) (S : Nat → Prop) (n : Nat) (f : Tab) (live : Bool) (msg : ByteArray) (v : Value) (l : List ByteArray)
    (ht : TabV w tv S n f live) (hr : Ranged f) (hl : Sl w 1 v l.length (l.map .string)) (hm : mayGo 0 l = true) (hn : n ≤ 10000) (hmsg : msg.size ≤ 100000) :
    Calls Tryd.prog 18 #[tv, .string msg, v] w fun e w' => e = .returned (.tuple #[.string (addP live f msg l).1, .int .i64 0]) ∧ AddPost w w' tv S (n + l.length) (addP live f msg l).2 live := by
  obtain ⟨a1, a2, a3⟩ := mayGo_all l 0 hm
  have A1 := Lib.hid a1
  have Hm := Lib.hid hm
  have HL := hl
  have Ht := Lib.hid ht
  have Hr := Lib.hid hr
  obtain ⟨_, a, cap, rfl, h3, h4, h5⟩ := hl
  unfold maxLen at h4
  have hc2 := conv2
  have H5 := Lib.hid h5
  clear a1 hm ht hr h5
  go_enter Tryd.func18, Tryd.ntmps18
  go_wp2_with fail
  refine (may_any _ _ l HL (fun s hs => by have := A1.out s hs; unfold maxLen; omega)).mono ?_
  rintro e w2 ⟨rfl, rfl⟩
  rw [Hm.out]
  go_wp2_with fail
  go_loopg [8, 10, 20] l.length (fun g v8 v10 v20 wx => ∃ (k : Nat) (r : ByteArray), v8 = .string r ∧ v20 = .int .i64 k ∧ k ≤ l.length ∧ Only (fun _ => False) w wx ∧ bytesL l = r ++ bytesL (l.drop k) ∧ g = l.length - k)
  case atStart => exact ⟨0, ⟨#[]⟩, rfl, rfl, Nat.zero_le _, Only.refl _ _, str_ext (by simp), rfl⟩
  case round =>
    obtain ⟨k, r, rfl, rfl, hk, ho, hb, hg⟩ := hrel
    have Hb := Lib.hid hb
    have Hg := Lib.hid hg
    clear hb hg
    by_cases hlt : k < l.length
    · obtain ⟨b, off, ha, hc⟩ := H5.out.resolve_left (by omega)
      subst ha
      have hz := ho.cell (strs_cell hc hlt) id
      have hd : l.drop k = l[k] :: l.drop (k + 1) := List.drop_eq_getElem_cons hlt
      have hsz := A1.out _ (List.getElem_mem hlt)
      generalize l[k] = s at *
      have Hd := Lib.hid hd
      have hb2 : bytesL l = r ++ labelB s ++ bytesL (l.drop (k + 1)) := by
        rw [Hb.out, Hd.out, bytesL_cons]
        exact str_ext (by simp)
      have Hb2 := Lib.hid hb2
      have hrs : r.size + (1 + s.size) ≤ 254 := by
        have := congrArg ByteArray.size hb2
        rw [ByteArray.size_append, ByteArray.size_append, labelB_size] at this
        omega
      have hls := labelB_size s
      clear hd hc hb2
      go_wp2_with fail
      refine (label_any _ s hsz.2).mono ?_
      rintro e w2 ⟨rfl, hw2⟩
      go_wp2_with fail
      go_roundg (l.length - (k + 1))
      case measure => rw [Hg.out]; omega
      case rel => exact ⟨k + 1, _, rfl, by go_num, by omega, ho.trans hw2, Hb2.out, rfl⟩
    · have hd : r = bytesL l := by
        rw [Hb.out, List.drop_eq_nil_of_le (by omega), bytesL_nil]
        exact str_ext (by simp)
      subst hd
      go_wp2_with fail
      go_loopg [1, 8, 12, 13, 14, 31] l.length (fun g v1 v8 v12 v13 v14 v31 wx => ∃ (k : Nat) (ms : ByteArray) (f' : Tab) (S' : Nat → Prop), v1 = .string ms ∧ v8 = .string (bytesL (l.drop k)) ∧ v31 = .int .i64 k ∧ k ≤ l.length ∧ Only S w wx ∧ TabV wx tv S' (n + k) f' live ∧ (∀ x, S' x → S x ∨ w.heap.size ≤ x) ∧ Ranged f' ∧ addP live f msg l = addP live f' ms (l.drop k) ∧ ms.size ≤ msg.size + 64 * k ∧ g = l.length - k)
      case atStart => exact ⟨0, msg, f, S, rfl, rfl, rfl, Nat.zero_le _, ho.weaken (fun _ _ h => h.elim), (Ht.out.more (by omega)).kept ho (fun _ _ h => h), fun x h => .inl h, Hr.out, rfl, by omega, rfl⟩
      case round =>
        clear ho
        obtain ⟨k, ms, f', S', rfl, rfl, rfl, hk, ho, ht, hs', hr, hb, hms, hg⟩ := hrel
        have Hb := Lib.hid hb
        have Hg := Lib.hid hg
        have Hr := Lib.hid hr
        have Hs := Lib.hid hs'
        clear hb hg hr hs'
        by_cases hlt : k < l.length
        · obtain ⟨b, off, ha, hc⟩ := H5.out.resolve_left (by omega)
          subst ha
          have hz := ho.cell (strs_cell hc hlt) (Ht.out.apart (strs_cell hc hlt))
          have hd : l.drop k = l[k] :: l.drop (k + 1) := List.drop_eq_getElem_cons hlt
          have hsz := A1.out _ (List.getElem_mem hlt)
          have hbd : (bytesL (l.drop k)).size ≤ (bytesL l).size := bytesL_drop_size l k
          generalize l[k] = s at *
          have hbs : (bytesL (l.drop k)).size = 1 + s.size + (bytesL (l.drop (k + 1))).size := by rw [hd, bytesL_size_cons]
          have Hd := Lib.hid hd
          have hls := labelB_size s
          clear hd hc
          have h0 : (bytesL (l.drop k)).size ≠ 0 := by omega
          have hms2 : ms.size ≤ 200000 := by omega
          have h1 : (bytesL (l.drop k)).size ≤ maxLen := by unfold maxLen; omega
          have hex : (bytesL (l.drop k)).extract (1 + s.size) (bytesL (l.drop k)).size = bytesL (l.drop (k + 1)) := by
            rw [Hd.out]
            exact bytesL_rest s _
          have Hex := Lib.hid hex
          clear hex
          generalize hrest : bytesL (l.drop k) = rest at *
          have Hrest := Lib.hid hrest
          clear hrest
          go_wp2_with fail
          refine (place_v _ tv S' (n + k) f' live rest ht h0 h1).mono ?_
          rintro e w2 ⟨c, rfl, rfl, hcc⟩
          have Hc := Lib.hid hcc
          clear hcc
          generalize hfk : f' rest.data.toList = o at *
          have Hfk := Lib.hid hfk
          clear hfk
          cases o with
          | some c' =>
            have hce := Hc.out c' rfl
            subst hce
            simp only [Option.isSome_some]
            have e2 : ∀ x y : Int, (bytesOf [x, y]).size = 2 := fun _ _ => rfl
            go_wp2_with fail
            go_ret2
            have he : addP live f msg l = (ms ++ bytesOf [192 + c / 256, c % 256], f') := by
              rw [Hb.out, Hd.out, addP, ← Hd.out, Hrest.out, Hfk.out]
            obtain ⟨c0, c1⟩ := Hr.out _ _ Hfk.out
            rw [he, or_ptr c c0 c1]
            exact ⟨rfl, S', ho.alloc _, (ht.more (by omega)).kept ((Only.refl (fun _ => False) _).alloc _) (fun _ _ h => h), Hr.out, Hs.out⟩
          | none =>
            simp only [Option.isSome_none]
            go_wp2_with fail
            refine (note_v _ tv S' (n + k) f' live rest ms.size ht h0 h1 (by omega) (by omega) (by omega)).mono ?_
            rintro e w3 ⟨rfl, S2, hn1, hn2, hn3⟩
            go_wp2_with fail
            refine (label_any _ s hsz.2).mono ?_
            rintro e w4 ⟨rfl, hw4⟩
            go_wp2_with fail
            go_roundg (l.length - (k + 1))
            case measure => rw [Hg.out]; omega
            case rel =>
              refine ⟨k + 1, ms ++ labelB s, notedV live f' rest.data.toList ms.size, S2, rfl, congrArg Value.string (by rw [← hbs]; exact Hex.out), by go_num, by omega, (ho.tr hn1 (fun i hi h => (Hs.out i h).elim id (fun x => absurd hi (by omega)))).trans (hw4.weaken (fun _ _ h => h.elim)), (hn2.more (by omega)).kept hw4 (fun _ _ h => h), ?_, Hr.out.noted _ _ _ (by omega), ?_, ?_, rfl⟩ -- live f' rest.data.toList ms.size, S2, rfl, rfl, by go_num, by omega, (ho.tr hn1 (fun i hi h => (Hs.out i h).elim id (fun x => absurd hi (by omega)))).trans (hw4.weaken (fun _ _ h => h.elim)), (hn2.more (by omega)).kept hw4 (fun _ _ h => h), ?_, Hr.out.noted _ _ _ (by omega), ?_, ?_, rfl⟩
              · intro x hx
                rcases hn3 x hx with h | h
                · exact Hs.out x h
                · exact .inr (Nat.le_trans ho.size h)
              · rw [Hb.out, Hd.out, addP, ← Hd.out, Hrest.out, Hfk.out]
              · rw [ByteArray.size_append]
                omega
        · have hd : l.drop k = [] := List.drop_eq_nil_of_le (by omega)
          have Hd := Lib.hid hd
          have hkl : k = l.length := by omega
          clear hd
          go_wp2_with fail
          go_ret2
          have he : addP live f msg l = (ms ++ ⟨#[0]⟩, f') := by rw [Hb.out, Hd.out]; rfl
          rw [he]
          exact ⟨rfl, S', ho, by rw [← hkl]; exact ht, Hr.out, Hs.out⟩

theorem addP_none (l : List ByteArray) : ∀ msg, (addP false (fun _ => none) msg l).1 = msg ++ bytesL l ++ ⟨#[0]⟩ := by
  induction l with
  | nil => intro msg; exact str_ext (by simp [addP, bytesL_nil])
  | cons s l ih =>
    intro msg
    have : addP false (fun _ => none) msg (s :: l) = addP false (fun _ => none) (msg ++ labelB s) l := by
      rw [addP]
      rfl
    rw [this, ih, bytesL_cons]
    exact str_ext (by simp)
set_option maxRecDepth 100000 in
theorem encode_bad (w : World) (v : Value) (l : List ByteArray) (hl : Sl w 1 v l.length (l.map .string)) (hsz : ∀ s ∈ l, s.size ≤ maxLen) (hm : mayGo 0 l = false) :
    Calls Tryd.prog 20 #[v] w fun e w' => e = .returned (.tuple #[.string ⟨#[]⟩, .int .i64 9]) ∧ w = w' := by
  have Hsz := Lib.hid hsz
  have Hm := Lib.hid hm
  clear hsz hm
  go_enter Tryd.func20, Tryd.ntmps20
  go_wp2_with fail
  refine (add_bad _ _ _ v l hl Hsz.out Hm.out).mono ?_
  rintro e w2 ⟨rfl, rfl⟩
  go_wp2_with fail
  go_ret2
  exact ⟨rfl, rfl⟩
set_option maxRecDepth 100000 in
theorem encode_good (w : World) (v : Value) (l : List ByteArray) (hl : Sl w 1 v l.length (l.map .string)) (hm : mayGo 0 l = true) :
    Calls Tryd.prog 20 #[v] w fun e w' => e = .returned (.tuple #[.string (bytesL l ++ ⟨#[0]⟩), .int .i64 0]) ∧ Only (fun _ => False) w w' := by
  have Hm := Lib.hid hm
  clear hm
  go_enter Tryd.func20, Tryd.ntmps20
  go_wp2_with fail
  refine (add_good _ _ (fun _ => False) 0 (fun _ => none) false _ v l (.inl ⟨rfl, rfl, rfl, fun _ h => h⟩) (fun _ _ h => by cases h) hl Hm.out (by omega) (Nat.zero_le _)).mono ?_
  rintro e w2 ⟨rfl, S', ho, _⟩
  go_wp2_with fail
  go_ret2
  rw [addP_none]
  exact ⟨by congr 4, ho⟩
end Go.Proofs.YtfgkljjiopohgaaDoor
