/- A store: All, Ids, Tick. -/
import Derived.Test.YtianboachknfmaaDoorSto3
import Derived.Deep.RegionWith
import Derived.Deep.RegionLaw
namespace Go.Proofs.YtianboachknfmaaDoor
open Go.Conc Go.RowKit Go.Maps

theorem infoRec : (Tryd.prog.info? 33).map (fun i => (i.zero, i.size, i.bytes)) = some (some (recT zeroR), 6, 64) := by kernel_rfl
theorem infoId : (Tryd.prog.info? 31).map (fun i => (i.zero, i.size, i.bytes)) = some (some (.agg #[.string ⟨#[]⟩, .int .u64 0]), 2, 24) := by kernel_rfl
theorem good_keys {x : RecT} (h : goodR x = true) : x.key.size ≤ 64 := by
  unfold goodR goodP at h
  simp only [Bool.and_eq_true, beq_iff_eq] at h
  obtain ⟨⟨⟨⟨⟨h1, _⟩, _⟩, _⟩, _⟩, _⟩ := h
  unfold splitE at h1
  cases hs : splitOk x.key with
  | false => rw [hs] at h1; cases h1
  | true =>
    unfold splitOk at hs
    simp only [Bool.and_eq_true, decide_eq_true_eq] at hs
    have h2 := hs.2.2
    by_cases h3 : (x.key.extract 2 x.key.size).size = 0 ∨ 62 < (x.key.extract 2 x.key.size).size
    · rw [namedP_bad h3] at h2; cases h2
    · rw [ByteArray.size_extract] at h3; omega
theorem StoreOk.keys {most ttl : Int} {L : List RecT} (h : StoreOk most ttl L) : ∀ x ∈ L, x.key.size ≤ maxLen := fun x hx => by
  have := good_keys (h.goods x hx).1
  unfold maxLen
  omega
theorem StoreOk.len {most ttl : Int} {L : List RecT} (h : StoreOk most ttl L) : L.length ≤ 48 := by have h1 := h.room; have h2 := h.mostB; omega
/-- A slice of records of the call's own. -/
abbrev RecRow (w : World) (base : Nat) (v : Value) (L : List RecT) : Prop := w.ownsRow base 33 6 v L.length (L.flatMap recC)
theorem sall_nil (w : World) : Calls Tryd.prog 16 #[.pointer none] w fun e w' => e = .returned (.slice none 0 0) ∧ w = w' := by
  go_enter Tryd.func16, Tryd.ntmps16
  go_wp2_with fail
  refine (skeys_nil w).mono ?_
  rintro e w1 ⟨rfl, rfl⟩
  go_wp2_with fail
  refine wp_loop_rounds 1 ?_
  rw [rounds_succ]
  go_wp2_with fail
  go_ret
  exact ⟨rfl, rfl⟩
set_option maxRecDepth 100000 in
set_option maxHeartbeats 1000000 in
theorem sall_any (w : World) (s b : Nat) (most ttl r : Int) (L : List RecT) (h : StoreAt w s b most ttl r L) :
    Calls Tryd.prog 16 #[.pointer (some ⟨s, 0, none⟩)] w fun e w' => ∃ v, e = .returned v ∧ Only (fun _ => False) w w' ∧ RecRow w' w.heap.size v L := by
  obtain ⟨i0, hi0, iz0, iz1, iz2⟩ := info_parts infoRec
  have hkz := h.ok.keys
  have hLl := h.ok.len
  have HH := Lib.hid h
  have HZ := Lib.hid hkz
  clear h hkz
  go_enter Tryd.func16, Tryd.ntmps16
  go_wp2_with fail
  refine (skeys_any w s b most ttl r L HH.out HZ.out).mono ?_
  rintro e w1 ⟨v, rfl, ho1, hrow⟩
  have hsl : Sl w1 1 v L.length (L.map (fun x => .string x.key)) := Sl.of_owns hrow
  obtain ⟨_, ka, kcap, rfl, k1, k2, k3⟩ := hsl
  have hh1 := HH.out.new ho1
  unfold maxLen at k2
  have H1 := Lib.hid hh1
  have HO1 := Lib.hid ho1
  have HK := Lib.hid k3
  clear hh1 ho1 k3
  clear hrow
  go_wp2_with fail
  go_loopg [3, 9] L.length (fun g v3 v9 wr => ∃ k : Nat, v9 = .int .i64 k ∧ k ≤ L.length ∧ Only (fun _ => False) w1 wr ∧ RecRow wr w1.heap.size v3 (L.take k) ∧ g = L.length - k)
  case atStart => exact ⟨0, rfl, Nat.zero_le _, Only.refl _ _, World.ownsRow_nil w1 _ _ _, rfl⟩
  case round =>
    obtain ⟨k, rfl, hk, ho, hown, hg⟩ := hrel
    have Hg := Lib.hid hg
    have HO := Lib.hid ho
    have HW := Lib.hid hown
    clear hg ho hown
    by_cases hlt : k < L.length
    · obtain ⟨kb, koff, ha, hc⟩ := HK.out.resolve_left (by omega)
      subst ha
      have z0 : wr.cell? ⟨kb, koff + k, none⟩ = some (.string L[k].key) := HO.out.cell (hc k _ (by simp [hlt])) id
      have htk : L.take (k + 1) = L.take k ++ [L[k]] := by rw [List.take_add_one, List.getElem?_eq_getElem hlt]; rfl
      have hhr := H1.out.new HO.out
      have c0 : wr.cell? ⟨s, 0, none⟩ = some (.map (some b)) := cell_at hhr.blk 0
      have hlk := hhr.map.look strKeyed strInj Tryd.underlying138 (z := zeroR) (zeroRec wr) (strOk (HZ.out _ (List.getElem_mem hlt))) false
      rw [look_prs, findS_mem hhr.ok.rises (List.getElem_mem hlt)] at hlk
      have hln : (L.take k).length = k := by simp; omega
      have HTK := Lib.hid htk
      have HLN := Lib.hid hln
      clear htk hln
      clear hc hhr
      generalize L[k] = x at *
      obtain ⟨k1, v1, o1, a1, g1, d1⟩ := x
      have hlk2 : (Instr.lookup 138 (.map (some b)) (.string k1) false).run Tryd.prog wr = .ok (.agg #[.string k1, .int .u64 v1, .int .i64 o1, .int .i64 a1, .bool g1, .string d1]) wr := hlk
      clear hlk
      have hlt' : (k : Int) < (L.length : Int) := by omega
      go_wp2_with (at_builtin; refine Wait.mk ?_)
      refine Wait.go (wpList_append_src _ rfl (.tmp 13) (.tmp 20) 28 28 rfl w1.heap.size 33 i0 _ 6 64 Tryd.underlying28 hi0 iz0 iz1 iz2 rfl _ (L.take k).length ((L.take k).flatMap recC) rfl (HW.out.alloc _) _ 1 (recC ⟨k1, v1, o1, a1, g1, d1⟩) rfl ?src4 ?m4 ?b4 ?base4 ?_)
      case src4 => exact Src.ofSlice _ Tryd.underlying28 _ _ _ _ rfl (news_new _ _ _) (recC_one _)
      case m4 => have := HLN.out; unfold maxLen; omega
      case b4 => have := HLN.out; omega
      case base4 => have := HO.out.size; simp; omega
      intro v4 w5 own4 gr4 hv4
      have ho5 : Only (fun _ => False) w1 w5 := (HO.out.alloc _).own (HW.out.alloc _) (Nat.le_refl _) gr4
      have HO5 := Lib.hid ho5
      have HW5 := Lib.hid own4
      clear ho5 own4
      clear hlk2 z0 c0 gr4 hv4
      go_wp2_with fail
      go_roundg (L.length - (k + 1))
      case measure => rw [Hg.out]; omega
      case rel =>
        refine ⟨k + 1, by go_num, by omega, HO5.out, ?_, rfl⟩
        unfold RecRow
        rw [HTK.out, List.length_append, List.flatMap_append]
        have e1 : [RecT.mk k1 v1 o1 a1 g1 d1].flatMap recC = recC ⟨k1, v1, o1, a1, g1, d1⟩ := by simp
        rw [e1]
        exact HW5.out
    · have hke : k = L.length := by omega
      have hlt' : ¬ (k : Int) < (L.length : Int) := by omega
      have hW := HW.out
      rw [hke, List.take_length] at hW
      have HW2 := Lib.hid hW
      clear hW
      clear hke
      go_wp2_with fail
      go_ret
      exact ⟨_, rfl, HO1.out.trans HO.out, ownsRow_base_a HW2.out HO1.out.size⟩
end Go.Proofs.YtianboachknfmaaDoor
