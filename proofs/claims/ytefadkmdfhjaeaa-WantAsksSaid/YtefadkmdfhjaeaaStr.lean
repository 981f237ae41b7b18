/- Strings: the walk's forms of comparisons. -/
import Derived.Test.YtefadkmdfhjaeaaSlices
namespace Go.Proofs.Ytefadkmdfhjaeaa
open Go.Conc Go.RowKit

theorem size_data (s : ByteArray) : s.data.toList.length = s.size := rfl
theorem empty_false {s : ByteArray} (h : s.size ≠ 0) : s.toList.isEmpty = false := by
  rw [ByteArray.toList_eq]
  cases hl : s.data.toList with
  | nil => exact absurd (by rw [← size_data, hl]; rfl) h
  | cons a r => rfl
theorem empty_true {s : ByteArray} (h : s.size = 0) : s.toList.isEmpty = true := by
  rw [ByteArray.toList_eq]
  cases hl : s.data.toList with
  | nil => rfl
  | cons a r => rw [← size_data, hl] at h; simp at h
theorem str_ext {a b : ByteArray} (h : a.data.toList = b.data.toList) : a = b := by
  cases a; cases b
  simp only [ByteArray.mk.injEq]
  exact Array.toList_inj.1 h
theorem str_ne {a b : ByteArray} (h : a ≠ b) : (a.toList == b.toList) = false := by
  rw [ByteArray.toList_eq, ByteArray.toList_eq, beq_eq_false_iff_ne]
  exact fun e => h (str_ext e)
theorem str_eq {a b : ByteArray} (h : a = b) : (a.toList == b.toList) = true := by
  subst h
  exact beq_self_eq_true _

/-- Bytes given as numbers. -/
def bytesOf (ns : List Int) : ByteArray := ⟨(ns.map fun n => UInt8.ofNat n.toNat).toArray⟩
theorem push_list (r : ByteArray) (b : UInt8) : (r.push b).data.toList = r.data.toList ++ [b] := by simp [ByteArray.push]
theorem foldl_bytes (ns : List Int) : ∀ r : ByteArray, (ns.foldl (fun r n => r.push (UInt8.ofNat n.toNat)) r).data.toList = r.data.toList ++ ns.map fun n => UInt8.ofNat n.toNat := by
  induction ns with
  | nil => intro r; simp
  | cons n ns ih =>
    intro r
    rw [List.foldl_cons, ih, push_list]
    simp
theorem foldl_bytesOf (ns : List Int) : ns.foldl (fun r n => r.push (UInt8.ofNat n.toNat)) ByteArray.empty = bytesOf ns := by
  apply str_ext
  rw [foldl_bytes]
  simp [bytesOf]
/-- string(b), b a slice of bytes. -/
theorem run_bytes_str {P : Program} {w : World} {src dst e : TypeId} {v : Value} {ns : List Int} (hs : P.underlying src = some (.slice e)) (he : P.underlying e = some (.int .u8)) (hd : P.underlying dst = some .string)
    (h : Sl w 1 v ns.length (ns.map (.int .u8))) : (convert src dst v).run P w = .ok (.string (bytesOf ns)) w := by
  obtain ⟨hl, a, cap, rfl, _, _, h5⟩ := h
  rw [run_convert_bytes_string w src dst e a ns.length cap hs he hd]
  have key : ∀ ad : Addr, (loadCells ad ns.length).run P w = .ok (ns.map (Value.int .u8)).toArray w → (Conv.bytesToString (.slice (some ad) ns.length cap)).run P w = .ok (.string (bytesOf ns)) w := by
    intro ad h
    rw [run_bytesToString w ad ns.length cap ns h, foldl_bytesOf]
  rcases h5 with h0 | ⟨b, off, rfl, hc⟩
  · obtain rfl : ns = [] := List.eq_nil_of_length_eq_zero h0
    cases a with
    | none => rfl
    | some ad => exact key ad rfl
  · refine key _ ?_
    have := run_loadCells_list (P := P) w ⟨b, off, none⟩ (ns.map (Value.int .u8)) (fun j u hu => by rw [Addr.add_lit]; exact hc j u hu)
    simpa using this
theorem run_bytes_new {P : Program} {src dst e : TypeId} (hs : P.underlying src = some (.slice e)) (he : P.underlying e = some (.int .u8)) (hd : P.underlying dst = some .string) (w : World) (B : Nat) (xs : List Int) (n : Nat) (hB : B = w.heap.size) (hn : n = xs.length) (hm : n ≤ maxLen) :
    (convert src dst (.slice (some ⟨B, 0, none⟩) n n)).run P (w.alloc (.cells (xs.map (.int .u8)).toArray e)) = .ok (.string (bytesOf xs)) (w.alloc (.cells (xs.map (.int .u8)).toArray e)) := by
  subst hB hn
  exact run_bytes_str hs he hd (Sl.fresh w _ e _ 1 (by simp) hm)
theorem run_bytes_new_drew {P : Program} {src dst e : TypeId} (hs : P.underlying src = some (.slice e)) (he : P.underlying e = some (.int .u8)) (hd : P.underlying dst = some .string) (w : World) (B : Nat) (xs : List Int) (n : Nat) (hB : B = w.heap.size) (hn : n = xs.length) (hm : n ≤ maxLen) :
    (convert src dst (.slice (some ⟨B, 0, none⟩) n n)).run P (w.alloc (.cells (xs.map (.int .u8)).toArray e)).drew = .ok (.string (bytesOf xs)) (w.alloc (.cells (xs.map (.int .u8)).toArray e)).drew := by
  subst hB hn
  exact run_bytes_str hs he hd ((Sl.fresh w _ e _ 1 (by simp) hm).new ((Only.refl _ _).drew))
end Go.Proofs.Ytefadkmdfhjaeaa
