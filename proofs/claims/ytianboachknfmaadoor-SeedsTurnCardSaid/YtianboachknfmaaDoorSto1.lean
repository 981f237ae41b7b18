/- A store: New, Len, Refused, TTL, Get. -/
import Derived.Test.YtianboachknfmaaDoorSto0
import Derived.Deep.RegionWith
import Derived.Deep.RegionLaw
import Derived.RegionTactic
namespace Go.Proofs.YtianboachknfmaaDoor
open Go.Conc Go.RowKit Go.Maps

theorem strKeyed : Keyed Tryd.prog 9 := string_keyed Tryd.underlying9
theorem strInj : ∀ a b : ByteArray, Value.string a = Value.string b → a = b := fun _ _ h => Value.string.inj h
theorem strOk {s : ByteArray} (h : s.size ≤ maxLen) : KeyOk Tryd.prog 9 Value.string s := ⟨_, Go.WideMaps.keyOf_string_mk Tryd.underlying9 h⟩
theorem zeroRec (w : World) : (zeroValue 33).run Tryd.prog w = .ok (recT zeroR) w := by kernel_rfl
abbrev RMap (w : World) (b : Nat) (L : List RecT) : Prop := MapIs Tryd.prog 9 Value.string recT w b (prs L)
/-- A store: its block s, its map's block b, what it holds. -/
structure StoreAt (w : World) (s b : Nat) (most ttl r : Int) (L : List RecT) : Prop where
  blk : w.heap[s]? = some (.cells #[.map (some b), .int .i64 most, .int .i64 ttl, .int .i64 r] 140 (0, 0))
  map : RMap w b L
  ok : StoreOk most ttl L
theorem StoreAt.ne {w : World} {s b : Nat} {most ttl r : Int} {L : List RecT} (h : StoreAt w s b most ttl r L) : s ≠ b := by
  obtain ⟨es, c, hb, _⟩ := h.map.own
  rintro rfl
  have := h.blk
  rw [hb] at this
  cases this
theorem StoreAt.lt {w : World} {s b : Nat} {most ttl r : Int} {L : List RecT} (h : StoreAt w s b most ttl r L) : s < w.heap.size ∧ b < w.heap.size := ⟨lt_of_block h.blk, h.map.lt⟩
theorem StoreAt.kept {w w' : World} {S : Nat → Prop} {s b : Nat} {most ttl r : Int} {L : List RecT} (h : StoreAt w s b most ttl r L) (ho : Only S w w') (h1 : ¬ S s) (h2 : ¬ S b) : StoreAt w' s b most ttl r L :=
  ⟨ho.old h.blk h1, h.map.kept ho h2, h.ok⟩
theorem StoreAt.new {w w' : World} {s b : Nat} {most ttl r : Int} {L : List RecT} (h : StoreAt w s b most ttl r L) (ho : Only (fun _ => False) w w') : StoreAt w' s b most ttl r L := h.kept ho id id
/-- Which sizes may be. -/
def sizesB (most ttl : Int) : Bool := decide (1 ≤ most ∧ most ≤ 48 ∧ 1 ≤ ttl ∧ ttl ≤ 65535)
theorem snew_ok (w : World) (most ttl : Int) (h1 : 1 ≤ most) (h2 : most ≤ 48) (h3 : 1 ≤ ttl) (h4 : ttl ≤ 65535) : Calls Tryd.prog 13 #[.int .i64 most, .int .i64 ttl] w fun e w' =>
    e = .returned (.tuple #[.pointer (some ⟨w.heap.size + 1, 0, none⟩), .int .i64 0]) ∧ Only (fun _ => False) w w' ∧ StoreAt w' (w.heap.size + 1) w.heap.size most ttl 0 [] := by
  have hmm := @run_makeMap Tryd.prog
  go_enter Tryd.func13, Tryd.ntmps13
  go_wp2_with fail
  go_ret2
  refine ⟨rfl, ((Only.refl _ _).alloc _).alloc _, ?_, ?_, StoreOk.empty h1 h2 h3 h4⟩
  · have := heap_alloc_new (w.alloc (.map #[] 0)) (.cells #[.map (some w.heap.size), .int .i64 most, .int .i64 ttl, .int .i64 0] 140 (0, 0))
    simpa using this
  · exact (MapIs.made w).kept ((Only.refl (fun _ => False) _).alloc _) id
theorem snew_no (w : World) (most ttl : Int) (h : ¬ (1 ≤ most ∧ most ≤ 48 ∧ 1 ≤ ttl ∧ ttl ≤ 65535)) : Calls Tryd.prog 13 #[.int .i64 most, .int .i64 ttl] w fun e w' =>
    e = .returned (.tuple #[.pointer none, .int .i64 1]) ∧ w = w' := by
  by_cases h1 : most < 1 <;> by_cases h2 : most > 48 <;> by_cases h3 : ttl < 1 <;> by_cases h4 : ttl > 65535
  all_goals first
    | (exfalso; omega)
    | (go_enter Tryd.func13, Tryd.ntmps13
       go_wp2_with fail
       go_ret2
       exact ⟨rfl, rfl⟩)
theorem slen_any (w : World) (s b : Nat) (most ttl r : Int) (L : List RecT) (h : StoreAt w s b most ttl r L) : Calls Tryd.prog 19 #[.pointer (some ⟨s, 0, none⟩)] w fun e w' => e = .returned (.int .i64 (L.length : Nat)) ∧ w = w' := by
  have c0 : w.cell? ⟨s, 0, none⟩ = some (.map (some b)) := cell_at h.blk 0
  have hl := h.map.len Tryd.underlying138 (k := 9)
  rw [prs_length] at hl
  clear h
  go_enter Tryd.func19, Tryd.ntmps19
  go_wp2_with fail
  go_ret
  exact ⟨rfl, rfl⟩
theorem sref_any (w : World) (s b : Nat) (most ttl r : Int) (L : List RecT) (h : StoreAt w s b most ttl r L) : Calls Tryd.prog 47 #[.pointer (some ⟨s, 0, none⟩)] w fun e w' => e = .returned (.int .i64 r) ∧ w = w' := by
  have c3 : w.cell? ⟨s, 3, none⟩ = some (.int .i64 r) := cell_at h.blk 3
  clear h
  go_enter Tryd.func47, Tryd.ntmps47
  go_wp2_with fail
  go_ret
  exact ⟨rfl, rfl⟩
theorem sttl_any (w : World) (s b : Nat) (most ttl r : Int) (L : List RecT) (h : StoreAt w s b most ttl r L) : Calls Tryd.prog 38 #[.pointer (some ⟨s, 0, none⟩)] w fun e w' => e = .returned (.int .i64 ttl) ∧ w = w' := by
  have c2 : w.cell? ⟨s, 2, none⟩ = some (.int .i64 ttl) := cell_at h.blk 2
  clear h
  go_enter Tryd.func38, Tryd.ntmps38
  go_wp2_with fail
  go_ret
  exact ⟨rfl, rfl⟩
theorem slen_nil (w : World) : Calls Tryd.prog 19 #[.pointer none] w fun e w' => e = .returned (.int .i64 0) ∧ w = w' := by
  go_enter Tryd.func19, Tryd.ntmps19
  go_wp2_with fail
  go_ret
  exact ⟨rfl, rfl⟩
theorem sref_nil (w : World) : Calls Tryd.prog 47 #[.pointer none] w fun e w' => e = .returned (.int .i64 0) ∧ w = w' := by
  go_enter Tryd.func47, Tryd.ntmps47
  go_wp2_with fail
  go_ret
  exact ⟨rfl, rfl⟩
theorem sttl_nil (w : World) : Calls Tryd.prog 38 #[.pointer none] w fun e w' => e = .returned (.int .i64 0) ∧ w = w' := by
  go_enter Tryd.func38, Tryd.ntmps38
  go_wp2_with fail
  go_ret
  exact ⟨rfl, rfl⟩
theorem sget_nil (w : World) (k : ByteArray) : Calls Tryd.prog 17 #[.pointer none, .string k] w fun e w' => e = .returned (.tuple #[recT zeroR, .bool false]) ∧ Only (fun _ => False) w w' := by
  go_enter Tryd.func17, Tryd.ntmps17
  go_wp2_with fail
  refine bodyPost_ret (v := .tuple #[recT zeroR, .bool false]) (by simp [results, Tryd.results17, go_sem, recT, zeroR]) rfl ⟨rfl, ?_⟩
  exact (Only.refl _ _).alloc _
set_option maxRecDepth 100000 in
theorem sget_any (w : World) (s b : Nat) (most ttl r : Int) (L : List RecT) (h : StoreAt w s b most ttl r L) (k : ByteArray) (hk : k.size ≤ maxLen) :
    Calls Tryd.prog 17 #[.pointer (some ⟨s, 0, none⟩), .string k] w fun e w' => e = .returned (.tuple #[recT (findV L k), .bool (findS L k).isSome]) ∧ Only (fun _ => False) w w' := by
  have hl0 := fun w1 (ho : Only (fun _ => False) w w1) => (h.map.kept ho id).look strKeyed strInj Tryd.underlying138 (z := zeroR) (zeroRec w1) (strOk hk) true
  simp only [look_prs] at hl0
  unfold findV
  have c0 : w.cell? ⟨s, 0, none⟩ = some (.map (some b)) := cell_at h.blk 0
  generalize (findS L k).getD zeroR = y at *
  generalize (findS L k).isSome = ok at *
  obtain ⟨k1, v1, o1, a1, g1, d1⟩ := y
  have hlk : ∀ w1, Only (fun _ => False) w w1 → (Instr.lookup 138 (.map (some b)) (.string k) true).run Tryd.prog w1 = .ok (.tuple #[.agg #[.string k1, .int .u64 v1, .int .i64 o1, .int .i64 a1, .bool g1, .string d1], .bool ok]) w1 := fun w1 ho => hl0 w1 ho
  have HLK := Lib.hid hlk
  clear hl0 hlk h
  obtain ⟨W, hW⟩ : ∃ W, W = w.alloc (.cells #[.string ⟨#[]⟩, .int .u64 0, .int .i64 0, .int .i64 0, .bool false, .string ⟨#[]⟩] 33) := ⟨_, rfl⟩
  have hbW : W.heap[w.heap.size]? = some (.cells #[.string ⟨#[]⟩, .int .u64 0, .int .i64 0, .int .i64 0, .bool false, .string ⟨#[]⟩] 33 (0, 0)) := by rw [hW]; exact heap_alloc_new w _
  have hoW : Only (fun _ => False) w W := by rw [hW]; exact (Only.refl _ _).alloc _
  have hsW : W.heap.size = w.heap.size + 1 := by rw [hW]; simp
  have hlk1 := HLK.out W hoW
  have c1 := hoW.cell c0 id
  have HO := Lib.hid hoW
  have HZ := Lib.hid hbW
  have HS := Lib.hid hsW
  clear hoW hbW hsW
  clear c0
  go_enter Tryd.func17, Tryd.ntmps17
  go_upto_region 1 with (fail)
  rw [← hW]
  clear hW
  obtain ⟨W2, hW2⟩ : ∃ W2, W2 = W.alloc (.cells #[.string k1, .int .u64 v1, .int .i64 o1, .int .i64 a1, .bool g1, .string d1] 33) := ⟨_, rfl⟩
  have hbW2 : W2.heap[W.heap.size]? = some (.cells #[.string k1, .int .u64 v1, .int .i64 o1, .int .i64 a1, .bool g1, .string d1] 33 (0, 0)) := by rw [hW2]; exact heap_alloc_new W _
  have hoW2 : Only (fun _ => False) W W2 := by rw [hW2]; exact (Only.refl _ _).alloc _
  have hsW2 : W2.heap.size = W.heap.size + 1 := by rw [hW2]; simp
  have hz2 := hoW2.old HZ.out id
  have x0 : W2.cell? ⟨W.heap.size, 0, none⟩ = some (.string k1) := cell_at hbW2 0
  have x1 : W2.cell? ⟨W.heap.size, 1, none⟩ = some (.int .u64 v1) := cell_at hbW2 1
  have x2 : W2.cell? ⟨W.heap.size, 2, none⟩ = some (.int .i64 o1) := cell_at hbW2 2
  have x3 : W2.cell? ⟨W.heap.size, 3, none⟩ = some (.int .i64 a1) := cell_at hbW2 3
  have x4 : W2.cell? ⟨W.heap.size, 4, none⟩ = some (.bool g1) := cell_at hbW2 4
  have x5 : W2.cell? ⟨W.heap.size, 5, none⟩ = some (.string d1) := cell_at hbW2 5
  have z0 : W2.cell? ⟨w.heap.size, 0, none⟩ = some (.string ⟨#[]⟩) := cell_at hz2 0
  have z1 : W2.cell? ⟨w.heap.size, 1, none⟩ = some (.int .u64 0) := cell_at hz2 1
  have z2 : W2.cell? ⟨w.heap.size, 2, none⟩ = some (.int .i64 0) := cell_at hz2 2
  have z3 : W2.cell? ⟨w.heap.size, 3, none⟩ = some (.int .i64 0) := cell_at hz2 3
  have z4 : W2.cell? ⟨w.heap.size, 4, none⟩ = some (.bool false) := cell_at hz2 4
  have z5 : W2.cell? ⟨w.heap.size, 5, none⟩ = some (.string ⟨#[]⟩) := cell_at hz2 5
  have zf : ∀ i, W2.frozen? ⟨w.heap.size, i, none⟩ = false := free_at hz2
  have HO2 := Lib.hid hoW2
  have HZ2 := Lib.hid hz2
  have HB2 := Lib.hid hbW2
  have HS2 := Lib.hid hsW2
  clear hoW2 hz2 hbW2 hsW2
  go_upto_region 4 with (fail)
  rw [← hW2]
  clear hW2
  go_wp2_with fail
  obtain ⟨s1, s2⟩ := six_set HZ2.out (.string k1) (.int .u64 v1) (.int .i64 o1) (.int .i64 a1) (.bool g1) (.string d1)
  generalize ((((((W2.setCell ⟨w.heap.size, 0, none⟩ (.string k1)).setCell ⟨w.heap.size, 1, none⟩ (.int .u64 v1)).setCell ⟨w.heap.size, 2, none⟩ (.int .i64 o1)).setCell ⟨w.heap.size, 3, none⟩ (.int .i64 a1)).setCell ⟨w.heap.size, 4, none⟩ (.bool g1)).setCell ⟨w.heap.size, 5, none⟩ (.string d1)) = wz at *
  have q0 : wz.cell? ⟨w.heap.size, 0, none⟩ = some (.string k1) := cell_at s1 0
  have q1 : wz.cell? ⟨w.heap.size, 1, none⟩ = some (.int .u64 v1) := cell_at s1 1
  have q2 : wz.cell? ⟨w.heap.size, 2, none⟩ = some (.int .i64 o1) := cell_at s1 2
  have q3 : wz.cell? ⟨w.heap.size, 3, none⟩ = some (.int .i64 a1) := cell_at s1 3
  have q4 : wz.cell? ⟨w.heap.size, 4, none⟩ = some (.bool g1) := cell_at s1 4
  have q5 : wz.cell? ⟨w.heap.size, 5, none⟩ = some (.string d1) := cell_at s1 5
  refine bodyPost_ret (v := .tuple #[.agg #[.string k1, .int .u64 v1, .int .i64 o1, .int .i64 a1, .bool g1, .string d1], .bool ok]) (by simp [results, Tryd.results17, go_sem, q0, q1, q2, q3, q4, q5]) rfl ?_
  exact ⟨rfl, (HO.out.trans HO2.out).tr s2 (fun i hi e => by omega)⟩
end Go.Proofs.YtianboachknfmaaDoor
