/- The program's Fold. -/
import Derived.Test.YtfgkljjiopohgaaDoorName10
namespace Go.Proofs.YtfgkljjiopohgaaDoor
open Go.Conc Go.RowKit

/-- A row of bytes as '[]byte(s)' lays it: its first cells. -/
def Byt (w : World) (B N : Nat) (vs : List Value) : Prop :=
  ∃ cur, w.heap[B]? = some (.cells cur 5 (N, N + 1)) ∧ cur.size = N ∧ vs.length ≤ N ∧ cur.toList.take vs.length = vs
theorem Byt.cell {w : World} {B N : Nat} {vs : List Value} (h : Byt w B N vs) {j : Nat} {u : Value} (hu : vs[j]? = some u) : w.cell? ⟨B, j, none⟩ = some u := by
  obtain ⟨cur, h1, h2, h3, h4⟩ := h
  have hj : j < vs.length := (List.getElem?_eq_some_iff.1 hu).1
  rw [← h4, List.getElem?_take, if_pos hj] at hu
  rw [cell_at' h1]
  simpa using hu
where cell_at' {w : World} {b : Nat} {cs : Array Value} {t : TypeId} {f : Nat × Nat} (h : w.heap[b]? = some (.cells cs t f)) {i : Nat} : w.cell? ⟨b, i, none⟩ = cs[i]? := cell_at h i
theorem Byt.free {w : World} {B N : Nat} {vs : List Value} (h : Byt w B N vs) {j : Nat} (hj : j < vs.length) : w.frozen? ⟨B, j, none⟩ = false := by
  obtain ⟨cur, h1, h2, h3, h4⟩ := h
  simp only [World.frozen?, h1]
  have : ¬ N ≤ j := by omega
  simp [this]
theorem Byt.store {w : World} {B N : Nat} {vs : List Value} (h : Byt w B N vs) (j : Nat) (u : Value) : Byt (w.setCell ⟨B, j, none⟩ u) B N (vs.set j u) := by
  obtain ⟨cur, h1, h2, h3, h4⟩ := h
  refine ⟨_, Lib.heap_setCell_same h1 u, by simpa using h2, by simpa using h3, ?_⟩
  rw [Array.toList_setIfInBounds, List.length_set, List.take_set, h4]
theorem Byt.kept {S : Nat → Prop} {w w' : World} {B N : Nat} {vs : List Value} (h : Byt w B N vs) (ho : Only S w w') (hn : ¬ S B) : Byt w' B N vs := by
  obtain ⟨cur, h1, h2⟩ := h
  exact ⟨cur, ho.old h1 hn, h2⟩
theorem Byt.lt {w : World} {B N : Nat} {vs : List Value} (h : Byt w B N vs) : B < w.heap.size := by
  obtain ⟨cur, h1, _⟩ := h
  exact lt_of_block h1
def byteVals (l : List UInt8) : List Value := l.map fun b => .int .u8 b.toNat
theorem Byt.new (w : World) (s : ByteArray) (cap : Nat) :
    Byt (w.alloc (.cells (bytesRow s cap) 5 ((bytesRow s cap).size, (bytesRow s cap).size + 1))).drew w.heap.size (bytesRow s cap).size (byteVals s.data.toList) := by
  have hl : (byteVals s.data.toList).length = s.size := by rw [byteVals, List.length_map]; rfl
  refine ⟨bytesRow s cap, heap_alloc_new w _, rfl, ?_, ?_⟩
  · rw [hl, bytesRow, Array.size_append, Array.size_map, Array.size_replicate]
    show s.data.size ≤ s.data.size + _
    omega
  · rw [bytesRow, Array.toList_append, Array.toList_map, List.take_append_of_le_length (Nat.le_of_eq (by simp [byteVals]))]
    rw [List.take_of_length_le (Nat.le_of_eq (by simp [byteVals]))]
    rfl
theorem Byt.sl {w : World} {B N n cap : Nat} {l : List UInt8} (h : Byt w B N (byteVals l)) (hn : n = l.length) (hc : n ≤ cap) (hm : cap ≤ maxLen) :
    Sl w 1 (.slice (some ⟨B, 0, none⟩) n cap) (l.map fun b => (b.toNat : Int)).length ((l.map fun b => (b.toNat : Int)).map (.int .u8)) := by
  subst hn
  rw [List.length_map]
  refine ⟨by simp, _, cap, rfl, hc, hm, .inr ⟨B, 0, rfl, fun j u hu => ?_⟩⟩
  rw [Nat.zero_add]
  refine h.cell ?_
  simpa [byteVals] using hu
theorem bytesOf_nat (l : List UInt8) : bytesOf (l.map fun b => (b.toNat : Int)) = ⟨l.toArray⟩ := by
  apply str_ext
  simp only [bytesOf, List.map_map]
  have e : ((fun n : Int => UInt8.ofNat n.toNat) ∘ fun b : UInt8 => (b.toNat : Int)) = id := funext fun b => by simp
  rw [e, List.map_id]

/-- The bytes of which the first have been made small. -/
def half (l : List UInt8) (i : Nat) : List UInt8 := (l.take i).map foldU ++ l.drop i
theorem half_length (l : List UInt8) (i : Nat) : (half l i).length = l.length := by simp [half]; omega
theorem half_at (l : List UInt8) (i : Nat) (hi : i < l.length) : (half l i)[i]? = l[i]? := by
  rw [half, List.getElem?_append_right (by simp; omega)]
  simp [Nat.min_eq_left (Nat.le_of_lt hi)]
theorem half_next (l : List UInt8) (i : Nat) (b : UInt8) (hb : l[i]? = some b) : half l (i + 1) = (half l i).set i (foldU b) := by
  have hi : i < l.length := (List.getElem?_eq_some_iff.1 hb).1
  unfold half
  rw [List.set_append_right _ _ (by simp; omega)]
  have e : i - ((l.take i).map foldU).length = 0 := by simp; omega
  rw [e, List.drop_eq_getElem_cons hi, List.set_cons_zero, List.take_add_one, hb]
  simp
theorem half_full (l : List UInt8) : half l l.length = l.map foldU := by simp [half]
theorem byteVals_set (l : List UInt8) (i : Nat) (b : UInt8) : byteVals (l.set i b) = (byteVals l).set i (.int .u8 b.toNat) := by simp [byteVals]
theorem set_self {l : List UInt8} {i : Nat} {b : UInt8} (h : l[i]? = some b) : l.set i b = l := by
  obtain ⟨h1, h2⟩ := List.getElem?_eq_some_iff.1 h
  rw [← h2]
  exact List.set_getElem_self h1

set_option maxRecDepth 100000 in
set_option maxHeartbeats 2000000 in
theorem fold_any (w : World) (v : Value) (l : List ByteArray) (h : Sl w 1 v l.length (l.map .string)) (hs : ∀ s ∈ l, s.size ≤ 1000) (hll : l.length ≤ 1000) :
    Calls Tryd.prog 21 #[v] w fun e w' => ∃ v', e = .returned v' ∧ Only (fun _ => False) w w' ∧ Sl w' 1 v' l.length ((l.map foldS).map .string) := by
  obtain ⟨i0, hi0, hz0, hz1, hz2⟩ := info_parts infoStr
  obtain ⟨_, a, cap, rfl, h3, h4, h5⟩ := h
  unfold maxLen at h4
  have Hs := Lib.hid hs
  have H5 := Lib.hid h5
  have hcv := fun (w : World) (s : ByteArray) => run_bytes_of_string (P := Tryd.prog) w 9 43 5 s Tryd.underlying9 Tryd.underlying43 Tryd.underlying5
  clear hs h5
  go_enter Tryd.func21, Tryd.ntmps21
  go_wp2_with fail
  go_loopg [3, 5, 6, 7, 8, 11] l.length (fun g v3 v5 v6 v7 v8 v11 wx => ∃ (k : Nat), v11 = .int .i64 k ∧ k ≤ l.length ∧ Only (fun _ => False) w wx ∧ wx.ownsRow w.heap.size 9 1 v3 k (((l.take k).map foldS).map .string) ∧ g = l.length - k)
  case atStart => exact ⟨0, rfl, Nat.zero_le _, Only.refl _ _, World.ownsRow_nil _ _ _ _, rfl⟩
  case round =>
    obtain ⟨k, rfl, hk, ho, hown, hg⟩ := hrel
    have Hg := Lib.hid hg
    clear hg
    by_cases hlt : k < l.length
    · obtain ⟨b, off, ha, hc⟩ := H5.out.resolve_left (by omega)
      subst ha
      have hz := ho.cell (strs_cell hc hlt) id
      have hsz := Hs.out _ (List.getElem_mem hlt)
      have hlk : l[k]? = some l[k] := List.getElem?_eq_getElem hlt
      generalize l[k] = s at *
      have HLK := Lib.hid hlk
      clear hc hlk
      have hge := grownCap_ge wr s.size 0 5
      have hle := grownCap_le_maxLen wr s.size 0 5 (by unfold maxLen; omega)
      have hB := Byt.new wr s (grownCap wr s.size 0 5)
      have hsl : s.data.toList.length = s.size := rfl
      go_wp2_with fail
      generalize grownCap wr s.size 0 5 = C at *
      generalize (bytesRow s C).size = N at *
      have hown2 : (wr.alloc (.cells (bytesRow s C) 5 (N, N + 1))).drew.ownsRow w.heap.size 9 1 u3 k (((l.take k).map foldS).map .string) := owns_kept hown ((Only.refl (fun _ => False) wr).alloc _).drew (fun _ _ => id)
      have ho2 : Only (fun _ => False) w (wr.alloc (.cells (bytesRow s C) 5 (N, N + 1))).drew := (ho.alloc _).drew
      have hge3 : w.heap.size ≤ wr.heap.size := ho.size
      have hu3 : ∀ j, u3.ownBlock = some j → j < wr.heap.size := fun j e => (hown.lt j e).2
      clear hown ho
      go_loopg [7, 8, 19] s.size (fun g' v7 v8 v19 wy => ∃ j : Nat, v19 = .int .i64 j ∧ j ≤ s.size ∧ Only (fun _ => False) w wy ∧ Byt wy wr.heap.size N (byteVals (half s.data.toList j)) ∧ wy.ownsRow w.heap.size 9 1 u3 k (((l.take k).map foldS).map .string) ∧ g' = s.size - j)
      case atStart => exact ⟨0, rfl, Nat.zero_le _, ho2, by simpa [half] using hB, hown2, rfl⟩
      case round =>
        clear hB hown2 ho2
        obtain ⟨j, rfl, hj, ho, hB, hown, hg'⟩ := hrel
        have Hg' := Lib.hid hg'
        clear hg'
        by_cases hjl : j < s.size
        · obtain ⟨b, -, -, hb⟩ := drop_byte' s j hjl
          have hhalf : (byteVals (half s.data.toList j))[j]? = some (.int .u8 b.toNat) := by
            rw [byteVals, List.getElem?_map, half_at _ _ hjl, hb]
            rfl
          have hz2 := hB.cell hhalf
          have hf2 : _ = false := hB.free (j := j) (by rw [byteVals, List.length_map, half_length]; exact hjl)
          have hnx := half_next s.data.toList j b hb
          have hkeep : foldU b = b → half s.data.toList (j + 1) = half s.data.toList j := fun e => by
            rw [hnx, e]
            exact set_self (by rw [half_at _ _ hjl, hb])
          have hst := hB.store j (.int .u8 ((foldU b).toNat : Int))
          rw [← byteVals_set, ← hnx] at hst
          have HNX := Lib.hid hkeep
          have HST := Lib.hid hst
          have hbl : b.toNat < 256 := UInt8.toNat_lt b
          have hfu : foldU b = if 65 ≤ b.toNat ∧ b.toNat ≤ 90 then UInt8.ofNat (b.toNat + 32) else b := rfl
          have HFU := Lib.hid hfu
          clear hb hhalf hnx hkeep hst hfu
          by_cases h65 : 65 ≤ b.toNat
          · have q1 : decide ((65 : Int) ≤ ((b.toNat : Nat) : Int)) = true := by simp; omega
            by_cases h90 : b.toNat ≤ 90
            · have q2 : decide (((b.toNat : Nat) : Int) ≤ 90) = true := by simp; omega
              go_wp2_with fail
              go_roundg (s.size - (j + 1))
              case measure => rw [Hg'.out]; omega
              case rel =>
                have e3 : ((foldU b).toNat : Int) = (b.toNat : Int) - 65 + 97 := by
                  rw [HFU.out, if_pos ⟨h65, h90⟩, UInt8.toNat_ofNat']
                  omega
                rw [e3] at HST
                exact ⟨j + 1, by go_num, by omega, ho.setCell (.inl hge3) _, HST.out, ownsRow_setCell_other hown (fun e => by have := hu3 _ e; simp at this) _, rfl⟩
            · have q2 : decide (((b.toNat : Nat) : Int) ≤ 90) = false := by simp; omega
              go_wp2_with fail
              go_roundg (s.size - (j + 1))
              case measure => rw [Hg'.out]; omega
              case rel => exact ⟨j + 1, by go_num, by omega, ho, by rw [HNX.out (by rw [HFU.out, if_neg (by omega)])]; exact hB, hown, rfl⟩
          · have q1 : decide ((65 : Int) ≤ ((b.toNat : Nat) : Int)) = false := by simp; omega
            go_wp2_with fail
            go_roundg (s.size - (j + 1))
            case measure => rw [Hg'.out]; omega
            case rel => exact ⟨j + 1, by go_num, by omega, ho, by rw [HNX.out (by rw [HFU.out, if_neg (by omega)])]; exact hB, hown, rfl⟩
        · have hje : j = s.size := by omega
          have hfull : half s.data.toList j = (foldS s).data.toList := by
            rw [foldS_data, hje, ← hsl, half_full]
          rw [hfull] at hB
          have hfl : (foldS s).data.toList.length = s.size := foldS_size s
          have hslB := hB.sl (n := s.size) (cap := C) hfl.symm hge hle
          have hn : ((foldS s).data.toList.map fun b => (b.toNat : Int)).length = s.size := by rw [List.length_map]; exact hfl
          have hstr := run_bytes_str Tryd.underlying43 Tryd.underlying5 Tryd.underlying9 hslB
          rw [bytesOf_nat, show (⟨(foldS s).data.toList.toArray⟩ : ByteArray) = foldS s from str_ext (by simp)] at hstr
          generalize hFS : foldS s = F at *
          have HFS := Lib.hid hFS
          clear hfull hslB hn hB hFS
          go_wp2_with (at_builtin; refine Wait.mk ?_)
          refine Wait.go (wpList_append_src _ rfl (.tmp 37) (.tmp 40) 23 23 rfl w.heap.size 9 i0 _ 1 16 Tryd.underlying23 hi0 hz0 hz1 hz2 rfl u3 k (((l.take k).map foldS).map .string) rfl (hown.alloc _) _ 1 [.string F] rfl ?src4 ?m4 ?b4 ?base4 ?_)
          case src4 => exact Src.ofSlice _ Tryd.underlying23 _ _ _ _ rfl (news_new _ _ _) (str_one [F])
          case m4 => unfold maxLen; omega
          case b4 => omega
          case base4 => have := ho.size; simp; omega
          intro v1 w5 own1 gr1 hv1
          have ho5 : Only (fun _ => False) w w5 := (ho.alloc _).grown gr1 (fun j e => .inl (hown.lt j e).1)
          go_wp2_with fail
          go_roundg (l.length - (k + 1))
          case measure => rw [Hg.out]; omega
          case rel =>
            refine ⟨k + 1, by go_num, by omega, ho5, ?_, rfl⟩
            have e : l.take (k + 1) = l.take k ++ [s] := by rw [List.take_add_one, HLK.out]; rfl
            rw [e, List.map_append, List.map_append, List.map_singleton, List.map_singleton, HFS.out]
            exact own1
    · have hkl : k = l.length := by omega
      subst hkl
      clear hlt
      go_wp2_with fail
      go_ret
      refine ⟨_, rfl, ho, ?_⟩
      have := Sl.of_owns hown
      rwa [List.take_length] at this
end Go.Proofs.YtfgkljjiopohgaaDoor
