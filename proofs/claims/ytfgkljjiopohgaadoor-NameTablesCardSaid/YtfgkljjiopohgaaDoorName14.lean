/- A message that Add has written reads, at each of its places, as the labels that were added. -/
import Derived.Test.YtfgkljjiopohgaaDoorName13
namespace Go.Proofs.YtfgkljjiopohgaaDoor
open Go.Conc Go.RowKit

/-- At place c the message reads as the labels r, all pointers on the way leading below B. -/
def ReadsAs (m : ByteArray) (c B : Nat) (r : List ByteArray) (st : Int) : Prop :=
  ∀ (done : List ByteArray) (bd : Nat), B ≤ bd → mayGo 0 (done ++ r) = true → rdP m c bd done = ⟨done ++ r, st, 0⟩
theorem ReadsAs.more {m : ByteArray} {c B : Nat} {r : List ByteArray} {st : Int} (h : ReadsAs m c B r st) (x : ByteArray) : ReadsAs (m ++ x) c B r st := by
  intro done bd hb hm
  have := h done bd hb hm
  rw [rdP_more m x c bd done (by rw [this]), this]
theorem labelB_inj {s t X Y : ByteArray} (hs : s.size < 256) (ht : t.size < 256) (h : labelB s ++ X = labelB t ++ Y) : s = t ∧ X = Y := by
  have h1 := bAt_label s X hs
  rw [h, bAt_label t Y ht] at h1
  have h2 := ext_label s X
  rw [h, ← h1, ext_label] at h2
  subst h2
  refine ⟨rfl, ?_⟩
  apply str_ext
  have := congrArg (fun b : ByteArray => b.data.toList) h
  simp only [ByteArray.data_append, Array.toList_append] at this
  exact List.append_cancel_left this
theorem bytesL_inj : ∀ (l r : List ByteArray), (∀ s ∈ l, s.size ≤ 63) → (∀ s ∈ r, s.size ≤ 63) → bytesL l = bytesL r → l = r := by
  intro l
  induction l with
  | nil =>
    intro r _ _ h
    cases r with
    | nil => rfl
    | cons t r =>
      have := congrArg ByteArray.size h
      rw [bytesL_size_cons, bytesL_nil] at this
      exact absurd this (by show ¬ 0 = _; omega)
  | cons s l ih =>
    intro r hl hr h
    cases r with
    | nil =>
      have := congrArg ByteArray.size h
      rw [bytesL_size_cons, bytesL_nil] at this
      exact absurd this (by show ¬ _ = 0; omega)
    | cons t r =>
      rw [bytesL_cons, bytesL_cons] at h
      obtain ⟨rfl, h2⟩ := labelB_inj (by have := hl s (by simp); omega) (by have := hr t (by simp); omega) h
      rw [ih r (fun x hx => hl x (by simp [hx])) (fun x hx => hr x (by simp [hx])) h2]
/-- An entry of the table: where it points to there stand labels whose bytes are its key. -/
def Entry (m : ByteArray) (k : List UInt8) (c : Int) : Prop :=
  0 ≤ c ∧ c < 16384 ∧ c < m.size ∧ ∃ (r : List ByteArray) (st : Int), (bytesL r).data.toList = k ∧ (∀ s ∈ r, s.size ≤ 63) ∧ ReadsAs m c.toNat c.toNat r st
theorem Entry.more {m : ByteArray} {k : List UInt8} {c : Int} (h : Entry m k c) (x : ByteArray) : Entry (m ++ x) k c := by
  obtain ⟨h1, h2, h3, r, st, h4, h5, h6⟩ := h
  exact ⟨h1, h2, by rw [ByteArray.size_append]; omega, r, st, h4, h5, h6.more x⟩
theorem reads_ptr (m : ByteArray) (c : Int) (l : List ByteArray) (st : Int) (h0 : 0 ≤ c) (h1 : c < 16384) (B : Nat) (hB : c < B) (h : ReadsAs m c.toNat c.toNat l st) : ReadsAs (m ++ bytesOf [192 + c / 256, c % 256]) m.size B l ((m.size : Int) + 2) := by
  intro done bd hb hm
  have hsz : (m ++ bytesOf [192 + c / 256, c % 256]).size = m.size + 2 := ByteArray.size_append
  have hb0 : bAt (m ++ bytesOf [192 + c / 256, c % 256]) m.size = 192 + c.toNat / 256 := by
    have := bAt_app m (bytesOf [192 + c / 256, c % 256]) 0
    rw [Nat.add_zero] at this
    rw [this]
    show (UInt8.ofNat (192 + c / 256).toNat).toNat = _
    rw [UInt8.toNat_ofNat']
    omega
  have hb1 : bAt (m ++ bytesOf [192 + c / 256, c % 256]) (m.size + 1) = c.toNat % 256 := by
    rw [bAt_app]
    show (UInt8.ofNat (c % 256).toNat).toNat = _
    rw [UInt8.toNat_ofNat']
    omega
  have hto : 256 * (192 + c.toNat / 256 - 192) + c.toNat % 256 = c.toNat := by omega
  have hr := h.more (bytesOf [192 + c / 256, c % 256]) done c.toNat (Nat.le_refl _) hm
  rw [rdP_ptr (mayGo_prefix _ _ _ hm) (by omega) (by omega) (by omega) (by rw [hb0, hb1, hto]; omega), hb0, hb1, hto, hr]
  rw [Rd.fin, if_pos ⟨rfl, by omega⟩]
theorem reads_label (m x : ByteArray) (s : ByteArray) (l : List ByteArray) (st : Int) (h0 : s.size ≠ 0) (h1 : s.size ≤ 63) (B : Nat) (h : ReadsAs (m ++ labelB s ++ x) (m ++ labelB s).size B l st) : ReadsAs (m ++ labelB s ++ x) m.size B (s :: l) st := by
  intro done bd hb hm
  have e : m ++ labelB s ++ x = m ++ (labelB s ++ x) := str_ext (by simp)
  have hsz : (m ++ labelB s ++ x).size = m.size + (1 + s.size) + x.size := by rw [ByteArray.size_append, ByteArray.size_append, labelB_size]
  have hb0 : bAt (m ++ labelB s ++ x) m.size = s.size := by
    have := bAt_app m (labelB s ++ x) 0
    rw [Nat.add_zero] at this
    rw [e, this, bAt_label _ _ (by omega)]
  have hx : (m ++ labelB s ++ x).extract (m.size + 1) (m.size + 1 + s.size) = s := by
    rw [e, Nat.add_assoc, ext_app, ext_label]
  have hm2 : mayGo 0 ((done ++ [s]) ++ l) = true := by simpa using hm
  have hk : (m ++ labelB s).size = m.size + 1 + s.size := by rw [ByteArray.size_append, labelB_size]; omega
  rw [rdP_step (mayGo_prefix _ _ _ hm) (by omega) (by omega) (by omega) (by omega), hb0, hx]
  have := h (done ++ [s]) bd hb hm2
  rw [hk] at this
  rw [this]
  simp
theorem reads_end (m x : ByteArray) (B : Nat) : ReadsAs (m ++ ⟨#[0]⟩ ++ x) m.size B [] ((m.size : Int) + 1) := by
  intro done bd _ hm
  rw [List.append_nil] at hm ⊢
  have e : m ++ ⟨#[0]⟩ ++ x = m ++ (⟨#[0]⟩ ++ x) := str_ext (by simp)
  have hb0 : bAt (m ++ ⟨#[0]⟩ ++ x) m.size = 0 := by
    have := bAt_app m (⟨#[0]⟩ ++ x) 0
    rw [Nat.add_zero] at this
    rw [e, this, bAt_append _ _ _ (show 0 < 1 from Nat.zero_lt_one)]
    rfl
  rw [rdP_zero hm (by rw [ByteArray.size_append, ByteArray.size_append]; show ¬ _ + 1 + _ ≤ _; omega) hb0]
theorem bytesL_le (s : ByteArray) (l : List ByteArray) : (bytesL l).data.toList.length < (bytesL (s :: l)).data.toList.length := by
  show (bytesL l).size < (bytesL (s :: l)).size
  rw [bytesL_size_cons]
  omega

/-- What Add writes reads as the labels; each entry that it makes is one. -/
theorem addP_reads (B : Nat) : ∀ (l : List ByteArray) (f : Tab) (m : ByteArray), (∀ s ∈ l, s.size ≠ 0 ∧ s.size ≤ 63) → B ≤ m.size →
    (∀ k c, k.length ≤ (bytesL l).data.toList.length → f k = some c → Entry m k c ∧ c < B) →
    ∃ x, (addP true f m l).1 = m ++ x ∧ ReadsAs (m ++ x) m.size B l ((m ++ x).size : Nat) ∧ ∀ k c, (addP true f m l).2 k = some c → f k = some c ∨ Entry (m ++ x) k c := by
  intro l
  induction l with
  | nil =>
    intro f m _ _ _
    refine ⟨⟨#[0]⟩, rfl, ?_, fun k c h => .inl h⟩
    have := reads_end m ⟨#[]⟩ B
    rw [show m ++ ⟨#[0]⟩ ++ ⟨#[]⟩ = m ++ ⟨#[0]⟩ from str_ext (by simp)] at this
    rw [ByteArray.size_append]
    exact this
  | cons s l ih =>
    intro f m hl hB hf
    have hs := hl s (by simp)
    cases hk : f (bytesL (s :: l)).data.toList with
    | some c =>
      obtain ⟨⟨h0, h1, h2, r, st, h4, h5, h6⟩, hcB⟩ := hf _ c (Nat.le_refl _) hk
      have hr : r = s :: l := bytesL_inj _ _ h5 (fun x hx => (hl x hx).2) (str_ext h4)
      subst hr
      have he : addP true f m (s :: l) = (m ++ bytesOf [192 + c / 256, c % 256], f) := by rw [addP, hk]
      refine ⟨bytesOf [192 + c / 256, c % 256], by rw [he], ?_, fun k c' h => .inl (by rw [he] at h; exact h)⟩
      rw [ByteArray.size_append]
      exact reads_ptr m c _ st h0 h1 B hcB h6
    | none =>
      have he : addP true f m (s :: l) = addP true (notedV true f (bytesL (s :: l)).data.toList m.size) (m ++ labelB s) l := by rw [addP, hk]
      have hmore : ∀ k c, k.length ≤ (bytesL l).data.toList.length → notedV true f (bytesL (s :: l)).data.toList m.size k = some c → Entry (m ++ labelB s) k c ∧ c < B := by
        intro k c hkl hkc
        have hne : k ≠ (bytesL (s :: l)).data.toList := fun e => by have := bytesL_le s l; rw [← e] at this; omega
        have hkf : f k = some c := by
          unfold notedV noted upd at hkc
          simp only [if_true] at hkc
          split at hkc
          · exact hkc
          · dsimp only at hkc; rw [if_neg hne] at hkc; exact hkc
        have := hf k c (by have := bytesL_le s l; omega) hkf
        exact ⟨this.1.more _, this.2⟩
      obtain ⟨x, hx1, hx2, hx3⟩ := ih _ (m ++ labelB s) (fun y hy => hl y (by simp [hy])) (by rw [ByteArray.size_append]; omega) hmore
      have hassoc : m ++ labelB s ++ x = m ++ (labelB s ++ x) := str_ext (by simp)
      have hread := reads_label m x s l _ hs.1 hs.2 B hx2
      refine ⟨labelB s ++ x, by rw [he, hx1, hassoc], by rw [← hassoc]; exact hread, fun k c hkc => ?_⟩
      rw [he] at hkc
      rw [← hassoc]
      rcases hx3 k c hkc with h | h
      · unfold notedV noted upd at h
        simp only [if_true] at h
        split at h
        · exact .inl h
        · next hn =>
          dsimp only at h
          split at h
          · next hke =>
            injection h with h
            subst h hke
            have hlt : m.size < (m ++ labelB s ++ x).size := by rw [ByteArray.size_append, ByteArray.size_append, labelB_size]; omega
            refine .inr ⟨by omega, by omega, by omega, s :: l, (((m ++ labelB s ++ x).size : Nat) : Int), rfl, fun y hy => (hl y hy).2, ?_⟩
            intro done bd hb hmm
            exact hread done bd (by have : ((m.size : Nat) : Int).toNat = m.size := by omega
                                    omega) hmm
          · exact .inl h
      · exact .inr h
end Go.Proofs.YtfgkljjiopohgaaDoor
