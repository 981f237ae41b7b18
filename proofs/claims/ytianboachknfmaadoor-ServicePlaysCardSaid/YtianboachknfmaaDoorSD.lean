/- bellhopref26: Register. -/
import Derived.Test.YtianboachknfmaaDoorSB
import Derived.Test.YtianboachknfmaaDoorMA
import Derived.Test.YtianboachknfmaaDoorSA
import Derived.Test.YtianboachknfmaaDoorMB
import Derived.Test.YtianboachknfmaaDoorME
import Derived.Deep.CutBlock
/-! bellhopref26: find. -/
namespace Go.Proofs.YtianboachknfmaaDoor
open Go.Conc Go.RowKit Go.Maps

/-- A slice of the reference's services. -/
abbrev VSl (w : World) (v : Value) (L : List SvcT) : Prop := Sl w 8 v L.length (L.flatMap svcCs)
def findVI (L : List SvcT) (n : ByteArray) : Int := if L.all (fun x => !decide (x.name = n)) then -1 else (L.findIdx (fun x => decide (x.name = n)) : Nat)
set_option maxRecDepth 100000 in
theorem rfindV_any (w : World) (v : Value) (L : List SvcT) (key : ByteArray) (h : VSl w v L) :
    Calls Tryd.prog 77 #[v, .string key] w fun e w' => e = .returned (.int .i64 (findVI L key)) ∧ w = w' := by
  obtain ⟨a, cap, rfl, h1, h2, h3⟩ := Sl.cells svcCs_length h
  unfold maxLen at h2
  have HC := Lib.hid h3
  clear h3
  clear h
  go_enter Tryd.func77, Tryd.ntmps77
  go_wp2_with fail
  go_loopg [5] L.length (fun g v5 wr => ∃ j : Nat, v5 = .int .i64 j ∧ j ≤ L.length ∧ w = wr ∧ (∀ i (hi : i < L.length), i < j → L[i].name ≠ key) ∧ g = L.length - j)
  case atStart => exact ⟨0, rfl, Nat.zero_le _, rfl, fun _ _ h => absurd h (Nat.not_lt_zero _), rfl⟩
  case round =>
    obtain ⟨j, rfl, hj, rfl, hall, hg⟩ := hrel
    have Hg := Lib.hid hg
    have HA := Lib.hid hall
    clear hg hall
    by_cases hlt : j < L.length
    · obtain ⟨b, off, ha, hc⟩ := HC.out.at j hlt
      subst ha
      have y0 : w.cell? ⟨b, off + j * 8, none⟩ = some (.string L[j].name) := hc 0 _ rfl
      have hkj : ∃ k1, L[j].name = k1 := ⟨_, rfl⟩
      obtain ⟨k1, hk1⟩ := hkj
      rw [hk1] at y0
      have HK1 := Lib.hid hk1
      clear hk1
      clear hc
      have hlt' : (j : Int) < (L.length : Int) := by omega
      by_cases hx : k1 = key
      · have hxb := str_eq hx
        have HX := Lib.hid hx
        clear hx
        go_wp2_with fail
        go_ret
        refine ⟨?_, rfl⟩
        have hp : decide (L[j].name = key) = true := decide_eq_true (HK1.out.trans HX.out)
        have hi : L.findIdx (fun x => decide (x.name = key)) = j := (List.findIdx_eq hlt).2 ⟨hp, fun i hi => decide_eq_false (HA.out i (by omega) hi)⟩
        have hn : L.all (fun x => !decide (x.name = key)) = false := by
          rw [List.all_eq_false]
          exact ⟨L[j], List.getElem_mem hlt, by simp [HK1.out, HX.out]⟩
        unfold findVI
        rw [hn, hi]
        rfl
      · have hxb := str_ne hx
        have HX := Lib.hid hx
        clear hx
        go_wp2_with fail
        go_roundg (L.length - (j + 1))
        case measure => rw [Hg.out]; omega
        case rel =>
          refine ⟨j + 1, by go_num, by omega, rfl, fun i hi hij => ?_, rfl⟩
          rcases (by omega : i < j ∨ i = j) with h | rfl
          · exact HA.out i hi h
          · rw [HK1.out]; exact HX.out
    · have hlt' : ¬ (j : Int) < (L.length : Int) := by omega
      go_wp2_with fail
      go_ret
      refine ⟨?_, rfl⟩
      have hn : L.all (fun x => !decide (x.name = key)) = true := by
        rw [List.all_eq_true]
        intro x hx
        obtain ⟨i, hi, rfl⟩ := List.getElem_of_mem hx
        simp [HA.out i hi (by omega)]
      unfold findVI
      rw [hn]
      rfl
end Go.Proofs.YtianboachknfmaaDoor
/-! bellhopref26: made. -/
namespace Go.Proofs.YtianboachknfmaaDoor
open Go.Conc Go.RowKit Go.Maps

/-- The reference's keeper. -/
def rkV (self : Int) (life count : Nat) (every now : Int) (v : Value) : Value := .agg #[.int .i64 self, .int .u64 life, .int .u64 count, .int .i64 every, .int .i64 now, v]
theorem onlySetAB {V w : World} {A B c i : Nat} (h : Only (fun k => k = A ∨ k = B) V w) (hc : c = A ∨ c = B ∨ V.heap.size ≤ c) (v : Value) : Only (fun k => k = A ∨ k = B) V (w.setCell ⟨c, i, none⟩ v) := h.setCell (S := fun k => k = A ∨ k = B) (p := ⟨c, i, none⟩) (by rcases hc with e | e | e; exact .inr (.inl e); exact .inr (.inr e); exact .inl e) v
theorem heldAB {A B : Nat} {W w' : World} {C : World → Prop} (hC : ∀ w', Only (fun k => k = A ∨ k = B) W w' → C w') (h : Only (fun k => k = A ∨ k = B) W w') : Only (fun k => k = A ∨ k = B) W w' ∧ C w' := ⟨h, hC _ h⟩
set_option maxRecDepth 100000 in
set_option maxHeartbeats 4000000 in
theorem rmadeV_any (w : World) (self : Int) (life count : Nat) (every now : Int) (a : Option Addr) (len cap : Nat) (x : SvcT) (h1 : 1 ≤ self) (h2 : self ≤ 65535) (h3 : life < 4294967296) (h4 : count < 4294967295) (hs : svcOk x) :
    Calls Tryd.prog 78 #[rkV self life count every now (.slice a len cap), svcT x] w fun e w' => e = .returned (.tuple #[rkV self life (count + 1) every now (.slice a len cap), recT (madeR self life (count + 1) x)]) ∧ Only (fun _ => False) w w' := by
  obtain ⟨n, a0, a1, a2, a3, p, q, r⟩ := x
  obtain ⟨s0, s1, s2, s3, s4, s5, s6, s7⟩ := hs
  unfold svcT rkV recT madeR
  simp only at s0 s1 s2 s3 s4 s5 s6 s7 ⊢
  have HK := Lib.hid (fun w => rkey_any w self n (by omega) h2 (by omega))
  have HD := Lib.hid (fun w => rdata_any w a0 a1 a2 a3 p q r s5 s6 s7)
  obtain ⟨W1, hW1⟩ : ∃ W1, W1 = w.alloc (.cells #[.int .i64 self, .int .u64 life, .int .u64 count, .int .i64 every, .int .i64 now, .slice a len cap] 72) := ⟨_, rfl⟩
  have hbW1 : W1.heap[w.heap.size]? = some (.cells #[.int .i64 self, .int .u64 life, .int .u64 count, .int .i64 every, .int .i64 now, .slice a len cap] 72 (0, 0)) := by rw [hW1]; exact heap_alloc_new w _
  have hoW1 : Only (fun _ => False) w W1 := by rw [hW1]; exact (Only.refl _ _).alloc _
  have hsW1 : W1.heap.size = w.heap.size + 1 := by rw [hW1]; simp
  obtain ⟨W2, hW2⟩ : ∃ W2, W2 = W1.alloc (.cells #[.string n, .int .u8 a0, .int .u8 a1, .int .u8 a2, .int .u8 a3, .int .u16 p, .int .u16 q, .int .u16 r] 89) := ⟨_, rfl⟩
  have hbW2 : W2.heap[W1.heap.size]? = some (.cells #[.string n, .int .u8 a0, .int .u8 a1, .int .u8 a2, .int .u8 a3, .int .u16 p, .int .u16 q, .int .u16 r] 89 (0, 0)) := by rw [hW2]; exact heap_alloc_new W1 _
  have hoW2 : Only (fun _ => False) W1 W2 := by rw [hW2]; exact (Only.refl _ _).alloc _
  have hsW2 : W2.heap.size = W1.heap.size + 1 := by rw [hW2]; simp
  obtain ⟨W3, hW3⟩ : ∃ W3, W3 = W2.alloc (.cells #[.int .i64 0, .int .u64 0, .int .u64 0, .int .i64 0, .int .i64 0, .slice none 0 0] 72) := ⟨_, rfl⟩
  have hbW3 : W3.heap[W2.heap.size]? = some (.cells #[.int .i64 0, .int .u64 0, .int .u64 0, .int .i64 0, .int .i64 0, .slice none 0 0] 72 (0, 0)) := by rw [hW3]; exact heap_alloc_new W2 _
  have hoW3 : Only (fun _ => False) W2 W3 := by rw [hW3]; exact (Only.refl _ _).alloc _
  have hsW3 : W3.heap.size = W2.heap.size + 1 := by rw [hW3]; simp
  obtain ⟨W4, hW4⟩ : ∃ W4, W4 = W3.alloc (.cells #[.string ⟨#[]⟩, .int .u64 0, .int .i64 0, .int .i64 0, .bool false, .string ⟨#[]⟩] 35) := ⟨_, rfl⟩
  have hbW4 : W4.heap[W3.heap.size]? = some (.cells #[.string ⟨#[]⟩, .int .u64 0, .int .i64 0, .int .i64 0, .bool false, .string ⟨#[]⟩] 35 (0, 0)) := by rw [hW4]; exact heap_alloc_new W3 _
  have hoW4 : Only (fun _ => False) W3 W4 := by rw [hW4]; exact (Only.refl _ _).alloc _
  have hsW4 : W4.heap.size = W3.heap.size + 1 := by rw [hW4]; simp
  have b1 := hoW4.old (hoW3.old (hoW2.old hbW1 id) id) id
  have b2 := hoW4.old (hoW3.old hbW2 id) id
  have b3 := hoW4.old hbW3 id
  have hoA := ((hoW1.trans hoW2).trans hoW3).trans hoW4
  go_enter Tryd.func78, Tryd.ntmps78
  go_upto_region 1 with (fail)
  rw [← hW1, ← hW2, ← hW3, ← hW4]
  clear hW1 hW2 hW3 hW4 hoW1 hoW2 hoW3 hoW4
  have x0 : W4.cell? ⟨w.heap.size, 0, none⟩ = some (.int .i64 self) := cell_at b1 0
  have x1 : W4.cell? ⟨w.heap.size, 1, none⟩ = some (.int .u64 life) := cell_at b1 1
  have x2 : W4.cell? ⟨w.heap.size, 2, none⟩ = some (.int .u64 count) := cell_at b1 2
  have x3 : W4.cell? ⟨w.heap.size, 3, none⟩ = some (.int .i64 every) := cell_at b1 3
  have x4 : W4.cell? ⟨w.heap.size, 4, none⟩ = some (.int .i64 now) := cell_at b1 4
  have x5 : W4.cell? ⟨w.heap.size, 5, none⟩ = some (.slice a len cap) := cell_at b1 5
  have xf : ∀ i, W4.frozen? ⟨w.heap.size, i, none⟩ = false := free_at b1
  go_upto_region 2 with (fail)
  obtain ⟨V, hV⟩ : ∃ V, V = W4.setCell ⟨w.heap.size, 2, none⟩ (.int .u64 ((count : Int) + 1)) := ⟨_, rfl⟩
  rw [← hV]
  have v1 : V.heap[w.heap.size]? = some (.cells #[.int .i64 self, .int .u64 life, .int .u64 ((count : Int) + 1), .int .i64 every, .int .i64 now, .slice a len cap] 72 (0, 0)) := by rw [hV]; exact set_at b1 2 _
  have hne1 : ¬ w.heap.size = W1.heap.size := by omega
  have hne2 : ¬ w.heap.size = W2.heap.size := by omega
  have hne3 : ¬ w.heap.size = W3.heap.size := by omega
  have v2 := by have h := blk_ne (v := .int .u64 ((count : Int) + 1)) (i := 2) b2 hne1; rw [← hV] at h; exact h
  have v3 := by have h := blk_ne (v := .int .u64 ((count : Int) + 1)) (i := 2) b3 hne2; rw [← hV] at h; exact h
  have v4 := by have h := blk_ne (v := .int .u64 ((count : Int) + 1)) (i := 2) hbW4 hne3; rw [← hV] at h; exact h
  have hoV : Only (fun _ => False) w V := by rw [hV]; exact onlySet hoA (Nat.le_refl _) _
  have hz4 : V.heap.size = w.heap.size + 1 + 1 + 1 + 1 := by rw [hV]; simp; omega
  simp only [hsW3, hsW2, hsW1] at v2 v3 v4
  clear hne1 hne2 hne3 hsW1 hsW2 hsW3 hsW4 hV b1 b2 b3 hbW1 hbW2 hbW3 hbW4 hoA x0 x1 x2 x3 x4 x5 xf
  generalize hX : w.heap.size = X at *
  have HXW := Lib.hid hX
  clear hX
  have x0 : V.cell? ⟨X, 0, none⟩ = some (.int .i64 self) := cell_at v1 0
  have x1 : V.cell? ⟨X, 1, none⟩ = some (.int .u64 life) := cell_at v1 1
  have x2 : V.cell? ⟨X, 2, none⟩ = some (.int .u64 ((count : Int) + 1)) := cell_at v1 2
  have x3 : V.cell? ⟨X, 3, none⟩ = some (.int .i64 every) := cell_at v1 3
  have x4 : V.cell? ⟨X, 4, none⟩ = some (.int .i64 now) := cell_at v1 4
  have x5 : V.cell? ⟨X, 5, none⟩ = some (.slice a len cap) := cell_at v1 5
  have y0 : V.cell? ⟨(X + 1), 0, none⟩ = some (.string n) := cell_at v2 0
  have y1 : V.cell? ⟨(X + 1), 1, none⟩ = some (.int .u8 a0) := cell_at v2 1
  have y2 : V.cell? ⟨(X + 1), 2, none⟩ = some (.int .u8 a1) := cell_at v2 2
  have y3 : V.cell? ⟨(X + 1), 3, none⟩ = some (.int .u8 a2) := cell_at v2 3
  have y4 : V.cell? ⟨(X + 1), 4, none⟩ = some (.int .u8 a3) := cell_at v2 4
  have y5 : V.cell? ⟨(X + 1), 5, none⟩ = some (.int .u16 p) := cell_at v2 5
  have y6 : V.cell? ⟨(X + 1), 6, none⟩ = some (.int .u16 q) := cell_at v2 6
  have y7 : V.cell? ⟨(X + 1), 7, none⟩ = some (.int .u16 r) := cell_at v2 7
  have hnX : ¬ (X = X + 1 + 1 ∨ X = X + 1 + 1 + 1) := by omega
  have hnY : ¬ (X + 1 = X + 1 + 1 ∨ X + 1 = X + 1 + 1 + 1) := by omega
  have HC := Lib.hid (show ∀ w', Only (fun i => i = X + 1 + 1 ∨ i = X + 1 + 1 + 1) V w' → w'.cell? ⟨X, 0, none⟩ = some (.int .i64 self) ∧ w'.cell? ⟨X, 1, none⟩ = some (.int .u64 life) ∧ w'.cell? ⟨X, 2, none⟩ = some (.int .u64 ((count : Int) + 1)) ∧ w'.cell? ⟨X, 3, none⟩ = some (.int .i64 every) ∧ w'.cell? ⟨X, 4, none⟩ = some (.int .i64 now) ∧ w'.cell? ⟨X, 5, none⟩ = some (.slice a len cap) ∧ w'.cell? ⟨X + 1, 0, none⟩ = some (.string n) ∧ w'.cell? ⟨X + 1, 1, none⟩ = some (.int .u8 a0) ∧ w'.cell? ⟨X + 1, 2, none⟩ = some (.int .u8 a1) ∧ w'.cell? ⟨X + 1, 3, none⟩ = some (.int .u8 a2) ∧ w'.cell? ⟨X + 1, 4, none⟩ = some (.int .u8 a3) ∧ w'.cell? ⟨X + 1, 5, none⟩ = some (.int .u16 p) ∧ w'.cell? ⟨X + 1, 6, none⟩ = some (.int .u16 q) ∧ w'.cell? ⟨X + 1, 7, none⟩ = some (.int .u16 r) from fun w' h => ⟨h.cell x0 hnX, h.cell x1 hnX, h.cell x2 hnX, h.cell x3 hnX, h.cell x4 hnX, h.cell x5 hnX, h.cell y0 hnY, h.cell y1 hnY, h.cell y2 hnY, h.cell y3 hnY, h.cell y4 hnY, h.cell y5 hnY, h.cell y6 hnY, h.cell y7 hnY⟩)
  clear x0 x1 x2 x3 x4 x5 y0 y1 y2 y3 y4 y5 y6 y7
  have HOV := Lib.hid hoV
  clear hoV
  have HVER := Lib.hid (show IntKind.u64.wrap (IntKind.u64.wrap ((life : Int) * 4294967296) + ((count : Int) + 1)) = (life : Int) * 4294967296 + ((count : Int) + 1) by
    show (((life : Int) * 4294967296) % 18446744073709551616 + ((count : Int) + 1)) % 18446744073709551616 = _
    omega)
  have HZA := Lib.hid v3
  have HZB := Lib.hid v4
  have za0 : V.cell? ⟨(X + 1 + 1), 0, none⟩ = some (.int .i64 0) := cell_at v3 0
  have za1 : V.cell? ⟨(X + 1 + 1), 1, none⟩ = some (.int .u64 0) := cell_at v3 1
  have za2 : V.cell? ⟨(X + 1 + 1), 2, none⟩ = some (.int .u64 0) := cell_at v3 2
  have za3 : V.cell? ⟨(X + 1 + 1), 3, none⟩ = some (.int .i64 0) := cell_at v3 3
  have za4 : V.cell? ⟨(X + 1 + 1), 4, none⟩ = some (.int .i64 0) := cell_at v3 4
  have za5 : V.cell? ⟨(X + 1 + 1), 5, none⟩ = some (.slice none 0 0) := cell_at v3 5
  have zb0 : V.cell? ⟨(X + 1 + 1 + 1), 0, none⟩ = some (.string ⟨#[]⟩) := cell_at v4 0
  have zb1 : V.cell? ⟨(X + 1 + 1 + 1), 1, none⟩ = some (.int .u64 0) := cell_at v4 1
  have zb2 : V.cell? ⟨(X + 1 + 1 + 1), 2, none⟩ = some (.int .i64 0) := cell_at v4 2
  have zb3 : V.cell? ⟨(X + 1 + 1 + 1), 3, none⟩ = some (.int .i64 0) := cell_at v4 3
  have zb4 : V.cell? ⟨(X + 1 + 1 + 1), 4, none⟩ = some (.bool false) := cell_at v4 4
  have zb5 : V.cell? ⟨(X + 1 + 1 + 1), 5, none⟩ = some (.string ⟨#[]⟩) := cell_at v4 5
  have zaf : ∀ i, V.frozen? ⟨X + 1 + 1, i, none⟩ = false := free_at v3
  have zbf : ∀ i, V.frozen? ⟨X + 1 + 1 + 1, i, none⟩ = false := free_at v4
  have hne1 : ¬ X + 1 + 1 = X + 1 + 1 + 1 := by omega
  have hne2 : ¬ X + 1 + 1 + 1 = X + 1 + 1 := by omega
  go_cut [33] (fun _ wx => wx.heap[X + 1 + 1]? = some (.cells #[.int .i64 self, .int .u64 life, .int .u64 ((count : Int) + 1), .int .i64 every, .int .i64 now, .slice a len cap] 72 (0, 0)) ∧ wx.heap[X + 1 + 1 + 1]? = some (.cells #[.string (keyB self n), .int .u64 ((life : Int) * 4294967296 + ((count : Int) + 1)), .int .i64 self, .int .i64 0, .bool false, .string (refD a0 a1 a2 a3 p q r)] 35 (0, 0)) ∧ Only (fun i => i = X + 1 + 1 ∨ i = X + 1 + 1 + 1) V wx)
  case first =>
    go_region_held3 (fun w' => Only (fun i => i = X + 1 + 1 ∨ i = X + 1 + 1 + 1) V w' ∧ w'.cell? ⟨X, 0, none⟩ = some (.int .i64 self) ∧ w'.cell? ⟨X, 1, none⟩ = some (.int .u64 life) ∧ w'.cell? ⟨X, 2, none⟩ = some (.int .u64 ((count : Int) + 1)) ∧ w'.cell? ⟨X, 3, none⟩ = some (.int .i64 every) ∧ w'.cell? ⟨X, 4, none⟩ = some (.int .i64 now) ∧ w'.cell? ⟨X, 5, none⟩ = some (.slice a len cap) ∧ w'.cell? ⟨X + 1, 0, none⟩ = some (.string n) ∧ w'.cell? ⟨X + 1, 1, none⟩ = some (.int .u8 a0) ∧ w'.cell? ⟨X + 1, 2, none⟩ = some (.int .u8 a1) ∧ w'.cell? ⟨X + 1, 3, none⟩ = some (.int .u8 a2) ∧ w'.cell? ⟨X + 1, 4, none⟩ = some (.int .u8 a3) ∧ w'.cell? ⟨X + 1, 5, none⟩ = some (.int .u16 p) ∧ w'.cell? ⟨X + 1, 6, none⟩ = some (.int .u16 q) ∧ w'.cell? ⟨X + 1, 7, none⟩ = some (.int .u16 r))
      ((go_split_ands; (refine heldAB HC.out ?_); (repeat (first | (with_reducible assumption) | (with_reducible exact Only.refl _ _) | (with_reducible refine Only.drew ?_) | (with_reducible refine Only.alloc ?_ _) | (with_reducible refine onlySetAB ?_ (by omega) _)))))
      (first
        | (go_at_call 66; (with_reducible refine (HK.out _).mono ?_); rintro e w9 ⟨rfl, ho9⟩; have o9 : Only (fun i => i = X + 1 + 1 ∨ i = X + 1 + 1 + 1) V w9 := (by (refine Only.trans (b := _) ?_ (Only.weaken (S := fun _ => False) ho9 (fun _ _ => False.elim))); (repeat (first | (with_reducible assumption) | (with_reducible exact Only.refl _ _) | (with_reducible refine Only.drew ?_) | (with_reducible refine Only.alloc ?_ _) | (with_reducible refine onlySetAB ?_ (by omega) _)))); (first | (have hA9 : w9.heap[X + 1 + 1]? = some (.cells #[.int .i64 0, .int .u64 0, .int .u64 0, .int .i64 0, .int .i64 0, .slice none 0 0] 72 (0, 0)) := Only.old ho9 (by (apply Eq.trans; (case h₁ => repeat (first | (with_reducible assumption) | (with_reducible exact heap_alloc_new _ _) | (with_reducible apply blk_new; (repeat (first | (with_reducible rfl) | (with_reducible apply sz_set) | (with_reducible apply sz_alloc) | (with_reducible apply sz_drew))); done) | (with_reducible apply blk_same) | (with_reducible apply blk_ne; case hn => (first | assumption | omega)) | (with_reducible apply blk_old) | (with_reducible apply blk_drew))); (case h₂ => rfl))) id) | (have hA9 : w9.heap[X + 1 + 1]? = some (.cells #[.int .i64 self, .int .u64 life, .int .u64 ((count : Int) + 1), .int .i64 every, .int .i64 now, .slice a len cap] 72 (0, 0)) := Only.old ho9 (by (apply Eq.trans; (case h₁ => repeat (first | (with_reducible assumption) | (with_reducible exact heap_alloc_new _ _) | (with_reducible apply blk_new; (repeat (first | (with_reducible rfl) | (with_reducible apply sz_set) | (with_reducible apply sz_alloc) | (with_reducible apply sz_drew))); done) | (with_reducible apply blk_same) | (with_reducible apply blk_ne; case hn => (first | assumption | omega)) | (with_reducible apply blk_old) | (with_reducible apply blk_drew))); (case h₂ => rfl))) id)); (have hB9 : w9.heap[X + 1 + 1 + 1]? = some (.cells #[.string ⟨#[]⟩, .int .u64 0, .int .i64 0, .int .i64 0, .bool false, .string ⟨#[]⟩] 35 (0, 0)) := Only.old ho9 (by (apply Eq.trans; (case h₁ => repeat (first | (with_reducible assumption) | (with_reducible exact heap_alloc_new _ _) | (with_reducible apply blk_new; (repeat (first | (with_reducible rfl) | (with_reducible apply sz_set) | (with_reducible apply sz_alloc) | (with_reducible apply sz_drew))); done) | (with_reducible apply blk_same) | (with_reducible apply blk_ne; case hn => (first | assumption | omega)) | (with_reducible apply blk_old) | (with_reducible apply blk_drew))); (case h₂ => rfl))) id); have fa9 : ∀ i, w9.frozen? ⟨X + 1 + 1, i, none⟩ = false := free_at hA9; have fb9 : ∀ i, w9.frozen? ⟨X + 1 + 1 + 1, i, none⟩ = false := free_at hB9; have pa0 := cell_at hA9 0; have pb0 := cell_at hB9 0; have pa1 := cell_at hA9 1; have pb1 := cell_at hB9 1; have pa2 := cell_at hA9 2; have pb2 := cell_at hB9 2; have pa3 := cell_at hA9 3; have pb3 := cell_at hB9 3; have pa4 := cell_at hA9 4; have pb4 := cell_at hB9 4; have pa5 := cell_at hA9 5; have pb5 := cell_at hB9 5; simp only [List.getElem?_toArray, List.getElem?_cons_zero, List.getElem?_cons_succ] at pa0 pa1 pa2 pa3 pa4 pa5 pb0 pb1 pb2 pb3 pb4 pb5)
        | (go_at_call 102; (with_reducible refine (HD.out _).mono ?_); rintro e w9 ⟨rfl, ho9⟩; have o9 : Only (fun i => i = X + 1 + 1 ∨ i = X + 1 + 1 + 1) V w9 := (by (refine Only.trans (b := _) ?_ (Only.weaken (S := fun _ => False) ho9 (fun _ _ => False.elim))); (repeat (first | (with_reducible assumption) | (with_reducible exact Only.refl _ _) | (with_reducible refine Only.drew ?_) | (with_reducible refine Only.alloc ?_ _) | (with_reducible refine onlySetAB ?_ (by omega) _)))); (first | (have hA9 : w9.heap[X + 1 + 1]? = some (.cells #[.int .i64 0, .int .u64 0, .int .u64 0, .int .i64 0, .int .i64 0, .slice none 0 0] 72 (0, 0)) := Only.old ho9 (by (apply Eq.trans; (case h₁ => repeat (first | (with_reducible assumption) | (with_reducible exact heap_alloc_new _ _) | (with_reducible apply blk_new; (repeat (first | (with_reducible rfl) | (with_reducible apply sz_set) | (with_reducible apply sz_alloc) | (with_reducible apply sz_drew))); done) | (with_reducible apply blk_same) | (with_reducible apply blk_ne; case hn => (first | assumption | omega)) | (with_reducible apply blk_old) | (with_reducible apply blk_drew))); (case h₂ => rfl))) id) | (have hA9 : w9.heap[X + 1 + 1]? = some (.cells #[.int .i64 self, .int .u64 life, .int .u64 ((count : Int) + 1), .int .i64 every, .int .i64 now, .slice a len cap] 72 (0, 0)) := Only.old ho9 (by (apply Eq.trans; (case h₁ => repeat (first | (with_reducible assumption) | (with_reducible exact heap_alloc_new _ _) | (with_reducible apply blk_new; (repeat (first | (with_reducible rfl) | (with_reducible apply sz_set) | (with_reducible apply sz_alloc) | (with_reducible apply sz_drew))); done) | (with_reducible apply blk_same) | (with_reducible apply blk_ne; case hn => (first | assumption | omega)) | (with_reducible apply blk_old) | (with_reducible apply blk_drew))); (case h₂ => rfl))) id)); (have hB9 : w9.heap[X + 1 + 1 + 1]? = some (.cells #[.string ⟨#[]⟩, .int .u64 0, .int .i64 0, .int .i64 0, .bool false, .string ⟨#[]⟩] 35 (0, 0)) := Only.old ho9 (by (apply Eq.trans; (case h₁ => repeat (first | (with_reducible assumption) | (with_reducible exact heap_alloc_new _ _) | (with_reducible apply blk_new; (repeat (first | (with_reducible rfl) | (with_reducible apply sz_set) | (with_reducible apply sz_alloc) | (with_reducible apply sz_drew))); done) | (with_reducible apply blk_same) | (with_reducible apply blk_ne; case hn => (first | assumption | omega)) | (with_reducible apply blk_old) | (with_reducible apply blk_drew))); (case h₂ => rfl))) id); have fa9 : ∀ i, w9.frozen? ⟨X + 1 + 1, i, none⟩ = false := free_at hA9; have fb9 : ∀ i, w9.frozen? ⟨X + 1 + 1 + 1, i, none⟩ = false := free_at hB9; have pa0 := cell_at hA9 0; have pb0 := cell_at hB9 0; have pa1 := cell_at hA9 1; have pb1 := cell_at hB9 1; have pa2 := cell_at hA9 2; have pb2 := cell_at hB9 2; have pa3 := cell_at hA9 3; have pb3 := cell_at hB9 3; have pa4 := cell_at hA9 4; have pb4 := cell_at hB9 4; have pa5 := cell_at hA9 5; have pb5 := cell_at hB9 5; simp only [List.getElem?_toArray, List.getElem?_cons_zero, List.getElem?_cons_succ] at pa0 pa1 pa2 pa3 pa4 pa5 pb0 pb1 pb2 pb3 pb4 pb5))
    all_goals
      go_split_ands
      go_wp2_with fail
      go_meet
      refine ⟨?_, ?_, ?_⟩
      · (apply Eq.trans; (case h₁ => repeat (first | (with_reducible assumption) | (with_reducible exact heap_alloc_new _ _) | (with_reducible apply blk_new; (repeat (first | (with_reducible rfl) | (with_reducible apply sz_set) | (with_reducible apply sz_alloc) | (with_reducible apply sz_drew))); done) | (with_reducible apply blk_same) | (with_reducible apply blk_ne; case hn => (first | assumption | omega)) | (with_reducible apply blk_old) | (with_reducible apply blk_drew))); (case h₂ => rfl))
      · rw [← HVER.out]
        (apply Eq.trans; (case h₁ => repeat (first | (with_reducible assumption) | (with_reducible exact heap_alloc_new _ _) | (with_reducible apply blk_new; (repeat (first | (with_reducible rfl) | (with_reducible apply sz_set) | (with_reducible apply sz_alloc) | (with_reducible apply sz_drew))); done) | (with_reducible apply blk_same) | (with_reducible apply blk_ne; case hn => (first | assumption | omega)) | (with_reducible apply blk_old) | (with_reducible apply blk_drew))); (case h₂ => rfl))
      · (repeat (first | (with_reducible assumption) | (with_reducible exact Only.refl _ _) | (with_reducible refine Only.drew ?_) | (with_reducible refine Only.alloc ?_ _) | (with_reducible refine onlySetAB ?_ (by omega) _)))
  case rest =>
  obtain ⟨e1, e2, ho⟩ := hcut
  go_wp2_with fail
  have o0 : wc.cell? ⟨(X + 1 + 1), 0, none⟩ = some (.int .i64 self) := cell_at e1 0
  have o1 : wc.cell? ⟨(X + 1 + 1), 1, none⟩ = some (.int .u64 life) := cell_at e1 1
  have o2 : wc.cell? ⟨(X + 1 + 1), 2, none⟩ = some (.int .u64 ((count : Int) + 1)) := cell_at e1 2
  have o3 : wc.cell? ⟨(X + 1 + 1), 3, none⟩ = some (.int .i64 every) := cell_at e1 3
  have o4 : wc.cell? ⟨(X + 1 + 1), 4, none⟩ = some (.int .i64 now) := cell_at e1 4
  have o5 : wc.cell? ⟨(X + 1 + 1), 5, none⟩ = some (.slice a len cap) := cell_at e1 5
  have r0 : wc.cell? ⟨(X + 1 + 1 + 1), 0, none⟩ = some (.string (keyB self n)) := cell_at e2 0
  have r1 : wc.cell? ⟨(X + 1 + 1 + 1), 1, none⟩ = some (.int .u64 ((life : Int) * 4294967296 + ((count : Int) + 1))) := cell_at e2 1
  have r2 : wc.cell? ⟨(X + 1 + 1 + 1), 2, none⟩ = some (.int .i64 self) := cell_at e2 2
  have r3 : wc.cell? ⟨(X + 1 + 1 + 1), 3, none⟩ = some (.int .i64 0) := cell_at e2 3
  have r4 : wc.cell? ⟨(X + 1 + 1 + 1), 4, none⟩ = some (.bool false) := cell_at e2 4
  have r5 : wc.cell? ⟨(X + 1 + 1 + 1), 5, none⟩ = some (.string (refD a0 a1 a2 a3 p q r)) := cell_at e2 5
  clear za0 za1 za2 za3 za4 za5 zb0 zb1 zb2 zb3 zb4 zb5 zaf zbf
  refine bodyPost_ret (v := .tuple #[.agg #[.int .i64 self, .int .u64 life, .int .u64 ((count : Int) + 1), .int .i64 every, .int .i64 now, .slice a len cap], .agg #[.string (keyB self n), .int .u64 ((life : Int) * 4294967296 + ((count : Int) + 1)), .int .i64 self, .int .i64 0, .bool false, .string (refD a0 a1 a2 a3 p q r)]]) (by simp [results, Tryd.results78, go_sem, o0, o1, o2, o3, o4, o5, r0, r1, r2, r3, r4, r5]) rfl ?_
  refine ⟨?_, ?_⟩
  · rw [dataB_ref a0 a1 a2 a3 p q r s5 s6 s7]
    rfl
  · exact HOV.out.tr ho (fun i hi e => by have := HXW.out; omega)
end Go.Proofs.YtianboachknfmaaDoor
/-! The reference's keeper, plainly: where a service is placed. -/
namespace Go.Proofs.YtianboachknfmaaDoor
open Go.Conc Go.RowKit Go.Maps

theorem insW_cons (s z : SvcT) (A : List SvcT) : insW s (z :: A) = if s.name = z.name then s :: A else if ltK s.name z.name then s :: z :: A else z :: insW s A := rfl
theorem insW_mid {s : SvcT} : ∀ {A B : List SvcT}, (∀ z ∈ A, s.name ≠ z.name ∧ ¬ ltK s.name z.name) → (∀ z ∈ B, ltK s.name z.name) → insW s (A ++ B) = A ++ s :: B
  | [], [], _, _ => rfl
  | [], z :: B, _, h => by
    have := h z (by simp)
    rw [List.nil_append, insW_cons, if_neg (ltK_ne this), if_pos this]
    rfl
  | z :: A, B, h1, h2 => by
    obtain ⟨n1, n2⟩ := h1 z (by simp)
    rw [List.cons_append, insW_cons, if_neg n1, if_neg n2, insW_mid (fun y hy => h1 y (by simp [hy])) h2]
    rfl
theorem insW_same {s : SvcT} : ∀ {A B : List SvcT} {y : SvcT}, RisingV (A ++ y :: B) → s.name = y.name → insW s (A ++ y :: B) = A ++ s :: B
  | [], B, y, _, h => by rw [List.nil_append, insW_cons, if_pos h]; rfl
  | z :: A, B, y, hr, h => by
    obtain ⟨h1, h2⟩ := List.pairwise_cons.1 hr
    have hlt : ltK z.name y.name := h1 y (by simp)
    have n1 : s.name ≠ z.name := fun e => by rw [← e, h] at hlt; exact ltK_irrefl _ hlt
    have n2 : ¬ ltK s.name z.name := fun e => ltK_irrefl _ (ltK_trans (by rw [← h] at hlt; exact hlt) e)
    rw [List.cons_append, insW_cons, if_neg n1, if_neg n2, insW_same h2 h]
    rfl
theorem insW_set {s : SvcT} {L : List SvcT} (h : RisingV L) {i : Nat} (hi : i < L.length) (hk : L[i].name = s.name) : insW s L = L.set i s := by
  have e : L = L.take i ++ L[i] :: L.drop (i + 1) := by rw [List.getElem_cons_drop, List.take_append_drop]
  have h2 : RisingV (L.take i ++ L[i] :: L.drop (i + 1)) := by rw [← e]; exact h
  have := insW_same h2 (s := s) hk.symm
  rw [← e] at this
  rw [this, List.set_eq_take_append_cons_drop, if_pos hi]
theorem findVI_some {L : List SvcT} {k : ByteArray} {y : SvcT} (h : findW L k = some y) : ∃ i, ∃ hi : i < L.length, findVI L k = (i : Nat) ∧ L[i] = y ∧ L[i].name = k := by
  obtain ⟨h1, h2⟩ := findW_some h
  have hn : L.all (fun x => !decide (x.name = k)) = false := by
    rw [List.all_eq_false]
    exact ⟨y, h1, by simp [h2]⟩
  have hlt : L.findIdx (fun x => decide (x.name = k)) < L.length := List.findIdx_lt_length_of_exists ⟨y, h1, by simpa using h2⟩
  have hp := List.findIdx_getElem (w := hlt)
  refine ⟨_, hlt, ?_, ?_, by simpa using hp⟩
  · unfold findVI
    rw [hn]
    rfl
  · have h3 : L.find? (fun x => decide (x.name = k)) = some y := h
    rw [List.find?_eq_getElem?_findIdx, List.getElem?_eq_getElem hlt] at h3
    exact Option.some.inj h3
theorem findVI_none {L : List SvcT} {k : ByteArray} (h : findW L k = none) : findVI L k = -1 := by
  have hn : L.all (fun x => !decide (x.name = k)) = true := by
    rw [List.all_eq_true]
    intro x hx
    simp [findW_none h x hx]
  unfold findVI
  rw [hn]
  rfl
/-- A new service, so far from its list's beginning. -/
def putAt (s : SvcT) (L : List SvcT) (i : Nat) : List SvcT := L.take i ++ s :: L.drop i
theorem putAt_length (s : SvcT) (L : List SvcT) {i : Nat} (hi : i ≤ L.length) : (putAt s L i).length = L.length + 1 := by unfold putAt; simp; omega
theorem putAt_here? (s : SvcT) (L : List SvcT) {i : Nat} (hi : i ≤ L.length) : (putAt s L i)[i]? = some s := by
  unfold putAt
  have e : (L.take i).length = i := by rw [List.length_take]; omega
  rw [List.getElem?_append_right (by omega), e]
  simp
theorem putAt_before? (s : SvcT) (L : List SvcT) {i : Nat} (hi : i < L.length) : (putAt s L (i + 1))[i]? = some L[i] := by
  unfold putAt
  rw [List.getElem?_append_left (by rw [List.length_take]; omega), List.getElem?_take, if_pos (by omega), List.getElem?_eq_getElem hi]
theorem putAt_here (s : SvcT) (L : List SvcT) {i : Nat} (hi : i ≤ L.length) (h : i < (putAt s L i).length) : (putAt s L i)[i] = s := Option.some.inj ((List.getElem?_eq_getElem h).symm.trans (putAt_here? s L hi))
theorem putAt_before (s : SvcT) (L : List SvcT) {i : Nat} (hi : i < L.length) (h : i < (putAt s L (i + 1)).length) : (putAt s L (i + 1))[i] = L[i] := Option.some.inj ((List.getElem?_eq_getElem h).symm.trans (putAt_before? s L hi))
theorem putAt_swap (s : SvcT) (L : List SvcT) {i : Nat} (hi : i < L.length) : ((putAt s L (i + 1)).set i s).set (i + 1) L[i] = putAt s L i := by
  have e1 : L.take (i + 1) = L.take i ++ [L[i]] := by rw [List.take_add_one, List.getElem?_eq_getElem hi]; rfl
  have e2 : L.drop i = L[i] :: L.drop (i + 1) := (List.getElem_cons_drop ..).symm
  have e3 : (L.take i).length = i := by rw [List.length_take]; omega
  unfold putAt
  rw [e1, e2, List.append_assoc, List.set_append_right _ _ (by omega), e3, Nat.sub_self]
  show (L.take i ++ (s :: s :: L.drop (i + 1))).set (i + 1) L[i] = _
  rw [List.set_append_right _ _ (by omega), e3, show i + 1 - i = 1 by omega]
  rfl
theorem putAt_end {s : SvcT} {L : List SvcT} (hr : RisingV L) (hn : ∀ z ∈ L, z.name ≠ s.name) {i : Nat} (h1 : ∀ z ∈ L.drop i, ltK s.name z.name) (h2 : i = 0 ∨ ∃ (h : i - 1 < L.length), ¬ ltK s.name L[i - 1].name) : insW s L = putAt s L i := by
  unfold putAt
  have e : insW s L = insW s (L.take i ++ L.drop i) := by rw [List.take_append_drop]
  rw [e]
  refine insW_mid (fun z hz => ⟨(hn z (List.mem_of_mem_take hz)).symm, fun hl => ?_⟩) h1
  rcases h2 with rfl | ⟨hi, h2⟩
  · simp at hz
  · obtain ⟨j, hj, rfl⟩ := List.getElem_of_mem hz
    rw [List.length_take] at hj
    rw [List.getElem_take] at hl
    rcases (by omega : j = i - 1 ∨ j < i - 1) with rfl | hj'
    · exact h2 hl
    · exact h2 (ltK_trans hl (List.pairwise_iff_getElem.1 hr j (i - 1) (by omega) hi hj'))
theorem drop_more {s : SvcT} {L : List SvcT} {i : Nat} (hi : i < L.length) (h1 : ∀ z ∈ L.drop (i + 1), ltK s.name z.name) (h2 : ltK s.name L[i].name) : ∀ z ∈ L.drop i, ltK s.name z.name := by
  have e2 : L.drop i = L[i] :: L.drop (i + 1) := (List.getElem_cons_drop ..).symm
  intro z hz
  rw [e2] at hz
  rcases List.mem_cons.1 hz with rfl | hz
  · exact h2
  · exact h1 z hz
end Go.Proofs.YtianboachknfmaaDoor
/-! bellhopref26: Register. -/
namespace Go.Proofs.YtianboachknfmaaDoor
open Go.Conc Go.RowKit Go.Maps

theorem infoRSvc : (Tryd.prog.info? 89).map (fun i => (i.zero, i.size, i.bytes)) = some (some (.agg #[.string ⟨#[]⟩, .int .u8 0, .int .u8 0, .int .u8 0, .int .u8 0, .int .u16 0, .int .u16 0, .int .u16 0]), 8, 32) := by kernel_rfl
theorem less_ltK26 (a b : ByteArray) : Op.bytesLess a.toList b.toList = decide (ltK a b) := by
  rw [Proofs.bytesLess_eq, ByteArray.toList_eq, ByteArray.toList_eq]
  rfl
theorem gtr_ltK26 (a b : ByteArray) : (!decide (ltK a b) && !(a.toList == b.toList)) = decide (ltK b a) := by
  by_cases h : a = b
  · subst h
    rw [str_eq rfl, decide_eq_false (ltK_irrefl a)]
    rfl
  · rw [str_ne h]
    by_cases hl : ltK a b
    · rw [decide_eq_true hl, decide_eq_false (fun h2 => ltK_irrefl _ (ltK_trans hl h2))]
      rfl
    · rw [decide_eq_false hl, decide_eq_true (ltK_tri hl h)]
      rfl
def RRegP (w w' : World) (k : KeepT) (now : Int) (s : SvcT) (e : Ending) : Prop :=
  ∃ v', e = .returned (.tuple #[rkV k.self k.life (regK k s).count k.every now v', recT (regR k s), .int .i64 (regE k s)]) ∧ Only (fun _ => False) w w' ∧ VSl w' v' (regK k s).own
set_option maxRecDepth 100000 in
set_option maxHeartbeats 4000000 in
theorem rreg_any (w : World) (k : KeepT) (hk : KeepOk k) (now : Int) (v : Value) (h : VSl w v k.own) (s : SvcT) (hs : svcOk s) :
    Calls Tryd.prog 36 #[rkV k.self k.life k.count k.every now v, svcT s] w fun e w' => RRegP w w' k now s e := by
  obtain ⟨i0, hi0, iz0, iz1, iz2⟩ := info_parts infoRSvc
  have HE := Lib.hid (show regE k s = if namedP s.name = false then 9 else if (findW k.own s.name).isSome = false ∧ 8 ≤ k.own.length then 5 else if k.count = 4294967295 then 15 else 0 from rfl)
  have HRK := Lib.hid (show regE k s = 0 → (regK k s).count = k.count + 1 ∧ (regK k s).own = insW s k.own ∧ regR k s = madeR k.self k.life (k.count + 1) s from fun e => by unfold regK regR; rw [if_pos e, if_pos e]; exact ⟨rfl, rfl, rfl⟩)
  have HRN := Lib.hid (show regE k s ≠ 0 → (regK k s).count = k.count ∧ (regK k s).own = k.own ∧ regR k s = zeroR from fun e => by unfold regK regR; rw [if_neg e, if_neg e]; exact ⟨rfl, rfl, rfl⟩)
  obtain ⟨va, vcap, rfl, h1, h2, h3⟩ := Sl.cells svcCs_length h
  unfold maxLen at h2
  have HNO := Lib.hid (show ∀ (c : Int) (w' : World), regE k s = c → c ≠ 0 → Only (fun _ => False) w w' → RRegP w w' k now s (.returned (.tuple #[.agg #[.int .i64 k.self, .int .u64 k.life, .int .u64 k.count, .int .i64 k.every, .int .i64 now, .slice va k.own.length vcap], .agg #[.string ⟨#[]⟩, .int .u64 0, .int .i64 0, .int .i64 0, .bool false, .string ⟨#[]⟩], .int .i64 c])) from fun c w' e hc ho => by
    obtain ⟨n1, n2, n3⟩ := HRN.out (by rw [e]; exact hc)
    refine ⟨.slice va k.own.length vcap, ?_, ho, ?_⟩
    · rw [n1, n3, e]; rfl
    · rw [n2]; exact h.new ho)
  have HYES := Lib.hid (show ∀ (w' : World) v', regE k s = 0 → Only (fun _ => False) w w' → VSl w' v' (insW s k.own) → RRegP w w' k now s (.returned (.tuple #[rkV k.self k.life (k.count + 1) k.every now v', recT (madeR k.self k.life (k.count + 1) s), .int .i64 0])) from fun w' v' e ho hv => by
    obtain ⟨n1, n2, n3⟩ := HRK.out e
    refine ⟨v', ?_, ho, ?_⟩
    · rw [n1, n3, e]
    · rw [n2]; exact hv)
  have HNM := Lib.hid (fun w => rnamed_any w s.name (by have := hs.1; unfold maxLen; omega))
  have HFD := Lib.hid (fun w v h => rfindV_any w v k.own s.name h)
  have HSET := Lib.hid (fun i hi hk2 => insW_set (s := s) hk.rises (i := i) hi hk2)
  have HEND := Lib.hid (fun hn i h1 h2 => putAt_end (s := s) hk.rises hn (i := i) h1 h2)
  have HN := Lib.hid (fun h => findVI_none (L := k.own) (k := s.name) h)
  have HY := Lib.hid (fun y h => findVI_some (L := k.own) (k := s.name) (y := y) h)
  have HNK := Lib.hid (fun h => findW_none (L := k.own) (k := s.name) h)
  have HMD := Lib.hid (fun w a len cap hc => rmadeV_any w k.self k.life k.count k.every now a len cap s hk.selfB.1 hk.selfB.2 hk.lifeB.2 hc hs)
  have hroom := hk.room
  have hcb := hk.countB
  clear hk
  obtain ⟨self, life, count, every, tick, L⟩ := k
  simp only at HE HRK HRN HNO HYES HNM HFD HSET HEND HN HY HNK HMD h h1 h2 h3 hroom hcb ⊢
  generalize regE ⟨self, life, count, every, tick, L⟩ s = E at *
  unfold rkV at HMD HYES ⊢
  unfold svcT at HMD ⊢
  unfold recT madeR at HMD HYES
  dsimp only at HMD HYES
  generalize life * 4294967296 + (count + 1) = VER at *
  generalize dataB (s.a0 : Int) (s.a1 : Int) (s.a2 : Int) (s.a3 : Int) s.p s.q s.r = DAT at *
  obtain ⟨W1, hW1⟩ : ∃ W1, W1 = w.alloc (.cells #[.int .i64 self, .int .u64 life, .int .u64 count, .int .i64 every, .int .i64 now, .slice va L.length vcap] 72) := ⟨_, rfl⟩
  have hbW1 : W1.heap[w.heap.size]? = some (.cells #[.int .i64 self, .int .u64 life, .int .u64 count, .int .i64 every, .int .i64 now, .slice va L.length vcap] 72 (0, 0)) := by rw [hW1]; exact heap_alloc_new w _
  have hoW1 : Only (fun _ => False) w W1 := by rw [hW1]; exact (Only.refl _ _).alloc _
  have hsW1 : W1.heap.size = w.heap.size + 1 := by rw [hW1]; simp
  obtain ⟨W2, hW2⟩ : ∃ W2, W2 = W1.alloc (.cells #[.string s.name, .int .u8 s.a0, .int .u8 s.a1, .int .u8 s.a2, .int .u8 s.a3, .int .u16 s.p, .int .u16 s.q, .int .u16 s.r] 89) := ⟨_, rfl⟩
  have hbW2 : W2.heap[W1.heap.size]? = some (.cells #[.string s.name, .int .u8 s.a0, .int .u8 s.a1, .int .u8 s.a2, .int .u8 s.a3, .int .u16 s.p, .int .u16 s.q, .int .u16 s.r] 89 (0, 0)) := by rw [hW2]; exact heap_alloc_new W1 _
  have hoW2 : Only (fun _ => False) W1 W2 := by rw [hW2]; exact (Only.refl _ _).alloc _
  have hsW2 : W2.heap.size = W1.heap.size + 1 := by rw [hW2]; simp
  obtain ⟨W3, hW3⟩ : ∃ W3, W3 = W2.alloc (.cells #[.int .i64 0, .int .u64 0, .int .u64 0, .int .i64 0, .int .i64 0, .slice none 0 0] 72) := ⟨_, rfl⟩
  have hbW3 : W3.heap[W2.heap.size]? = some (.cells #[.int .i64 0, .int .u64 0, .int .u64 0, .int .i64 0, .int .i64 0, .slice none 0 0] 72 (0, 0)) := by rw [hW3]; exact heap_alloc_new W2 _
  have hoW3 : Only (fun _ => False) W2 W3 := by rw [hW3]; exact (Only.refl _ _).alloc _
  have hsW3 : W3.heap.size = W2.heap.size + 1 := by rw [hW3]; simp
  obtain ⟨W4, hW4⟩ : ∃ W4, W4 = W3.alloc (.cells #[.string ⟨#[]⟩, .int .u64 0, .int .i64 0, .int .i64 0, .bool false, .string ⟨#[]⟩] 35) := ⟨_, rfl⟩
  have hbW4 : W4.heap[W3.heap.size]? = some (.cells #[.string ⟨#[]⟩, .int .u64 0, .int .i64 0, .int .i64 0, .bool false, .string ⟨#[]⟩] 35 (0, 0)) := by rw [hW4]; exact heap_alloc_new W3 _
  have hoW4 : Only (fun _ => False) W3 W4 := by rw [hW4]; exact (Only.refl _ _).alloc _
  have hsW4 : W4.heap.size = W3.heap.size + 1 := by rw [hW4]; simp
  have b0 := hoW4.old (hoW3.old (hoW2.old hbW1 id) id) id
  have b1 := hoW4.old (hoW3.old hbW2 id) id
  have b2 := hoW4.old hbW3 id
  have hoA := ((hoW1.trans hoW2).trans hoW3).trans hoW4
  have hsX : W1.heap.size = w.heap.size + 1 ∧ W2.heap.size = w.heap.size + 2 ∧ W3.heap.size = w.heap.size + 3 ∧ W4.heap.size = w.heap.size + 4 := by omega
  rw [hsX.1] at b1
  rw [hsX.2.1] at b2
  rw [hsX.2.2.1] at hbW4
  have HC := Lib.hid h3
  have HH := Lib.hid h
  have H0 := Lib.hid b0
  have H1 := Lib.hid b1
  have H2 := Lib.hid b2
  have H3 := Lib.hid hbW4
  have HOA := Lib.hid hoA
  clear h3 h b0 b1 b2 hbW4 hoA
  clear hbW1 hbW2 hbW3 hoW1 hoW2 hoW3 hoW4 hsW1 hsW2 hsW3 hsW4 hsX
  go_enter Tryd.func36, Tryd.ntmps36
  go_upto_region 1 with (fail)
  rw [← hW1, ← hW2, ← hW3, ← hW4]
  clear hW1 hW2 hW3 hW4
  generalize hX : w.heap.size = X at *
  have HXW := Lib.hid hX
  clear hX
  have s0 : W4.cell? ⟨(X + 1), 0, none⟩ = some (.string s.name) := cell_at H1.out 0
  have s1 : W4.cell? ⟨(X + 1), 1, none⟩ = some (.int .u8 s.a0) := cell_at H1.out 1
  have s2 : W4.cell? ⟨(X + 1), 2, none⟩ = some (.int .u8 s.a1) := cell_at H1.out 2
  have s3 : W4.cell? ⟨(X + 1), 3, none⟩ = some (.int .u8 s.a2) := cell_at H1.out 3
  have s4 : W4.cell? ⟨(X + 1), 4, none⟩ = some (.int .u8 s.a3) := cell_at H1.out 4
  have s5 : W4.cell? ⟨(X + 1), 5, none⟩ = some (.int .u16 s.p) := cell_at H1.out 5
  have s6 : W4.cell? ⟨(X + 1), 6, none⟩ = some (.int .u16 s.q) := cell_at H1.out 6
  have s7 : W4.cell? ⟨(X + 1), 7, none⟩ = some (.int .u16 s.r) := cell_at H1.out 7
  go_wp2_with fail
  refine (HNM.out _).mono ?_
  rintro e w3 ⟨rfl, rfl⟩
  clear HNM
  have HOB := HOA
  cases hnn : namedP s.name
  · -- name
    have e9 : E = 9 := by rw [HE.out, hnn]; rfl
    clear hnn s0 s1 s2 s3 s4 s5 s6 s7
    have x0 : W4.cell? ⟨X, 0, none⟩ = some (.int .i64 self) := cell_at H0.out 0
    have x1 : W4.cell? ⟨X, 1, none⟩ = some (.int .u64 life) := cell_at H0.out 1
    have x2 : W4.cell? ⟨X, 2, none⟩ = some (.int .u64 count) := cell_at H0.out 2
    have x3 : W4.cell? ⟨X, 3, none⟩ = some (.int .i64 every) := cell_at H0.out 3
    have x4 : W4.cell? ⟨X, 4, none⟩ = some (.int .i64 now) := cell_at H0.out 4
    have x5 : W4.cell? ⟨X, 5, none⟩ = some (.slice va L.length vcap) := cell_at H0.out 5
    have z0 : W4.cell? ⟨(X + 2), 0, none⟩ = some (.int .i64 0) := cell_at H2.out 0
    have z1 : W4.cell? ⟨(X + 2), 1, none⟩ = some (.int .u64 0) := cell_at H2.out 1
    have z2 : W4.cell? ⟨(X + 2), 2, none⟩ = some (.int .u64 0) := cell_at H2.out 2
    have z3 : W4.cell? ⟨(X + 2), 3, none⟩ = some (.int .i64 0) := cell_at H2.out 3
    have z4 : W4.cell? ⟨(X + 2), 4, none⟩ = some (.int .i64 0) := cell_at H2.out 4
    have z5 : W4.cell? ⟨(X + 2), 5, none⟩ = some (.slice none 0 0) := cell_at H2.out 5
    have y0 : W4.cell? ⟨(X + 3), 0, none⟩ = some (.string ⟨#[]⟩) := cell_at H3.out 0
    have y1 : W4.cell? ⟨(X + 3), 1, none⟩ = some (.int .u64 0) := cell_at H3.out 1
    have y2 : W4.cell? ⟨(X + 3), 2, none⟩ = some (.int .i64 0) := cell_at H3.out 2
    have y3 : W4.cell? ⟨(X + 3), 3, none⟩ = some (.int .i64 0) := cell_at H3.out 3
    have y4 : W4.cell? ⟨(X + 3), 4, none⟩ = some (.bool false) := cell_at H3.out 4
    have y5 : W4.cell? ⟨(X + 3), 5, none⟩ = some (.string ⟨#[]⟩) := cell_at H3.out 5
    have zf : ∀ i, W4.frozen? ⟨X + 2, i, none⟩ = false := free_at H2.out
    have yf : ∀ i, W4.frozen? ⟨X + 3, i, none⟩ = false := free_at H3.out
    go_wp2_with fail
    clear z0 z1 z2 z3 z4 z5 y0 y1 y2 y3 y4 y5 zf yf
    obtain ⟨s1, s2⟩ := lit_set H2.out [.int .i64 self, .int .u64 life, .int .u64 count, .int .i64 every, .int .i64 now, .slice va L.length vcap] rfl
    rw [show World.setCells W4 (X + 2) 0 [.int .i64 self, .int .u64 life, .int .u64 count, .int .i64 every, .int .i64 now, .slice va L.length vcap] = ((((((W4.setCell ⟨(X + 2), 0, none⟩ (.int .i64 self)).setCell ⟨(X + 2), 1, none⟩ (.int .u64 life)).setCell ⟨(X + 2), 2, none⟩ (.int .u64 count)).setCell ⟨(X + 2), 3, none⟩ (.int .i64 every)).setCell ⟨(X + 2), 4, none⟩ (.int .i64 now)).setCell ⟨(X + 2), 5, none⟩ (.slice va L.length vcap)) from rfl] at s1 s2
    generalize ((((((W4.setCell ⟨(X + 2), 0, none⟩ (.int .i64 self)).setCell ⟨(X + 2), 1, none⟩ (.int .u64 life)).setCell ⟨(X + 2), 2, none⟩ (.int .u64 count)).setCell ⟨(X + 2), 3, none⟩ (.int .i64 every)).setCell ⟨(X + 2), 4, none⟩ (.int .i64 now)).setCell ⟨(X + 2), 5, none⟩ (.slice va L.length vcap)) = wy at *
    have p0 : wy.cell? ⟨(X + 2), 0, none⟩ = some (.int .i64 self) := cell_at s1 0
    have p1 : wy.cell? ⟨(X + 2), 1, none⟩ = some (.int .u64 life) := cell_at s1 1
    have p2 : wy.cell? ⟨(X + 2), 2, none⟩ = some (.int .u64 count) := cell_at s1 2
    have p3 : wy.cell? ⟨(X + 2), 3, none⟩ = some (.int .i64 every) := cell_at s1 3
    have p4 : wy.cell? ⟨(X + 2), 4, none⟩ = some (.int .i64 now) := cell_at s1 4
    have p5 : wy.cell? ⟨(X + 2), 5, none⟩ = some (.slice va L.length vcap) := cell_at s1 5
    have t1 := s2
    have hb3 := s2.old H3.out (by omega)
    have hb2 := s1
    clear s1 s2 p0 p1 p2 p3 p4 p5
    obtain ⟨s1, s2⟩ := lit_set hb3 [.string ⟨#[]⟩, .int .u64 0, .int .i64 0, .int .i64 0, .bool false, .string ⟨#[]⟩] rfl
    rw [show World.setCells wy (X + 3) 0 [.string ⟨#[]⟩, .int .u64 0, .int .i64 0, .int .i64 0, .bool false, .string ⟨#[]⟩] = ((((((wy.setCell ⟨(X + 3), 0, none⟩ (.string ⟨#[]⟩)).setCell ⟨(X + 3), 1, none⟩ (.int .u64 0)).setCell ⟨(X + 3), 2, none⟩ (.int .i64 0)).setCell ⟨(X + 3), 3, none⟩ (.int .i64 0)).setCell ⟨(X + 3), 4, none⟩ (.bool false)).setCell ⟨(X + 3), 5, none⟩ (.string ⟨#[]⟩)) from rfl] at s1 s2
    generalize ((((((wy.setCell ⟨(X + 3), 0, none⟩ (.string ⟨#[]⟩)).setCell ⟨(X + 3), 1, none⟩ (.int .u64 0)).setCell ⟨(X + 3), 2, none⟩ (.int .i64 0)).setCell ⟨(X + 3), 3, none⟩ (.int .i64 0)).setCell ⟨(X + 3), 4, none⟩ (.bool false)).setCell ⟨(X + 3), 5, none⟩ (.string ⟨#[]⟩)) = wz at *
    have q0 : wz.cell? ⟨(X + 3), 0, none⟩ = some (.string ⟨#[]⟩) := cell_at s1 0
    have q1 : wz.cell? ⟨(X + 3), 1, none⟩ = some (.int .u64 0) := cell_at s1 1
    have q2 : wz.cell? ⟨(X + 3), 2, none⟩ = some (.int .i64 0) := cell_at s1 2
    have q3 : wz.cell? ⟨(X + 3), 3, none⟩ = some (.int .i64 0) := cell_at s1 3
    have q4 : wz.cell? ⟨(X + 3), 4, none⟩ = some (.bool false) := cell_at s1 4
    have q5 : wz.cell? ⟨(X + 3), 5, none⟩ = some (.string ⟨#[]⟩) := cell_at s1 5
    have hb2 := s2.old hb2 (by omega)
    have o0 : wz.cell? ⟨(X + 2), 0, none⟩ = some (.int .i64 self) := cell_at hb2 0
    have o1 : wz.cell? ⟨(X + 2), 1, none⟩ = some (.int .u64 life) := cell_at hb2 1
    have o2 : wz.cell? ⟨(X + 2), 2, none⟩ = some (.int .u64 count) := cell_at hb2 2
    have o3 : wz.cell? ⟨(X + 2), 3, none⟩ = some (.int .i64 every) := cell_at hb2 3
    have o4 : wz.cell? ⟨(X + 2), 4, none⟩ = some (.int .i64 now) := cell_at hb2 4
    have o5 : wz.cell? ⟨(X + 2), 5, none⟩ = some (.slice va L.length vcap) := cell_at hb2 5
    refine bodyPost_ret (v := .tuple #[.agg #[.int .i64 self, .int .u64 life, .int .u64 count, .int .i64 every, .int .i64 now, .slice va L.length vcap], .agg #[.string ⟨#[]⟩, .int .u64 0, .int .i64 0, .int .i64 0, .bool false, .string ⟨#[]⟩], .int .i64 9]) (by simp [results, Tryd.results36, go_sem, q0, q1, q2, q3, q4, q5, o0, o1, o2, o3, o4, o5]) rfl ?_
    exact HNO.out 9 _ e9 (by decide) ((HOB.out.tr t1 (fun i hi e => by have := HXW.out; omega)).tr s2 (fun i hi e => by have := HXW.out; omega))
  · have HE2 := Lib.hid (show E = if (findW L s.name).isSome = false ∧ 8 ≤ L.length then 5 else if count = 4294967295 then 15 else 0 by rw [HE.out, hnn]; rfl)
    clear hnn HE
    have x0 : W4.cell? ⟨X, 0, none⟩ = some (.int .i64 self) := cell_at H0.out 0
    have x1 : W4.cell? ⟨X, 1, none⟩ = some (.int .u64 life) := cell_at H0.out 1
    have x2 : W4.cell? ⟨X, 2, none⟩ = some (.int .u64 count) := cell_at H0.out 2
    have x3 : W4.cell? ⟨X, 3, none⟩ = some (.int .i64 every) := cell_at H0.out 3
    have x4 : W4.cell? ⟨X, 4, none⟩ = some (.int .i64 now) := cell_at H0.out 4
    have x5 : W4.cell? ⟨X, 5, none⟩ = some (.slice va L.length vcap) := cell_at H0.out 5
    have z0 : W4.cell? ⟨(X + 2), 0, none⟩ = some (.int .i64 0) := cell_at H2.out 0
    have z1 : W4.cell? ⟨(X + 2), 1, none⟩ = some (.int .u64 0) := cell_at H2.out 1
    have z2 : W4.cell? ⟨(X + 2), 2, none⟩ = some (.int .u64 0) := cell_at H2.out 2
    have z3 : W4.cell? ⟨(X + 2), 3, none⟩ = some (.int .i64 0) := cell_at H2.out 3
    have z4 : W4.cell? ⟨(X + 2), 4, none⟩ = some (.int .i64 0) := cell_at H2.out 4
    have z5 : W4.cell? ⟨(X + 2), 5, none⟩ = some (.slice none 0 0) := cell_at H2.out 5
    have y0 : W4.cell? ⟨(X + 3), 0, none⟩ = some (.string ⟨#[]⟩) := cell_at H3.out 0
    have y1 : W4.cell? ⟨(X + 3), 1, none⟩ = some (.int .u64 0) := cell_at H3.out 1
    have y2 : W4.cell? ⟨(X + 3), 2, none⟩ = some (.int .i64 0) := cell_at H3.out 2
    have y3 : W4.cell? ⟨(X + 3), 3, none⟩ = some (.int .i64 0) := cell_at H3.out 3
    have y4 : W4.cell? ⟨(X + 3), 4, none⟩ = some (.bool false) := cell_at H3.out 4
    have y5 : W4.cell? ⟨(X + 3), 5, none⟩ = some (.string ⟨#[]⟩) := cell_at H3.out 5
    have zf : ∀ i, W4.frozen? ⟨X + 2, i, none⟩ = false := free_at H2.out
    have yf : ∀ i, W4.frozen? ⟨X + 3, i, none⟩ = false := free_at H3.out
    have hfd := HFD.out W4 (.slice va L.length vcap) (HH.out.new HOA.out)
    have HFF := Lib.hid hfd
    clear hfd
    go_wp2_with fail
    refine HFF.out.mono ?_
    rintro e w5 ⟨rfl, rfl⟩
    clear HFF HFD
    generalize hfo : findW L s.name = fo at *
    generalize findVI L s.name = fi at *
    by_cases hfull : fo = none ∧ 8 ≤ L.length
    · -- full
      obtain ⟨rfl, h8⟩ := hfull
      have e5 : E = 5 := by rw [HE2.out, if_pos ⟨rfl, h8⟩]
      have hf := HN.out rfl
      subst hf
      have h8' : (8 : Int) ≤ (L.length : Int) := by omega
      clear s0 s1 s2 s3 s4 s5 s6 s7
      go_wp2_with fail
      clear z0 z1 z2 z3 z4 z5 y0 y1 y2 y3 y4 y5 zf yf
      obtain ⟨s1, s2⟩ := lit_set H2.out [.int .i64 self, .int .u64 life, .int .u64 count, .int .i64 every, .int .i64 now, .slice va L.length vcap] rfl
      rw [show World.setCells W4 (X + 2) 0 [.int .i64 self, .int .u64 life, .int .u64 count, .int .i64 every, .int .i64 now, .slice va L.length vcap] = ((((((W4.setCell ⟨(X + 2), 0, none⟩ (.int .i64 self)).setCell ⟨(X + 2), 1, none⟩ (.int .u64 life)).setCell ⟨(X + 2), 2, none⟩ (.int .u64 count)).setCell ⟨(X + 2), 3, none⟩ (.int .i64 every)).setCell ⟨(X + 2), 4, none⟩ (.int .i64 now)).setCell ⟨(X + 2), 5, none⟩ (.slice va L.length vcap)) from rfl] at s1 s2
      generalize ((((((W4.setCell ⟨(X + 2), 0, none⟩ (.int .i64 self)).setCell ⟨(X + 2), 1, none⟩ (.int .u64 life)).setCell ⟨(X + 2), 2, none⟩ (.int .u64 count)).setCell ⟨(X + 2), 3, none⟩ (.int .i64 every)).setCell ⟨(X + 2), 4, none⟩ (.int .i64 now)).setCell ⟨(X + 2), 5, none⟩ (.slice va L.length vcap)) = wy at *
      have p0 : wy.cell? ⟨(X + 2), 0, none⟩ = some (.int .i64 self) := cell_at s1 0
      have p1 : wy.cell? ⟨(X + 2), 1, none⟩ = some (.int .u64 life) := cell_at s1 1
      have p2 : wy.cell? ⟨(X + 2), 2, none⟩ = some (.int .u64 count) := cell_at s1 2
      have p3 : wy.cell? ⟨(X + 2), 3, none⟩ = some (.int .i64 every) := cell_at s1 3
      have p4 : wy.cell? ⟨(X + 2), 4, none⟩ = some (.int .i64 now) := cell_at s1 4
      have p5 : wy.cell? ⟨(X + 2), 5, none⟩ = some (.slice va L.length vcap) := cell_at s1 5
      have t1 := s2
      have hb3 := s2.old H3.out (by omega)
      have hb2 := s1
      clear s1 s2 p0 p1 p2 p3 p4 p5
      obtain ⟨s1, s2⟩ := lit_set hb3 [.string ⟨#[]⟩, .int .u64 0, .int .i64 0, .int .i64 0, .bool false, .string ⟨#[]⟩] rfl
      rw [show World.setCells wy (X + 3) 0 [.string ⟨#[]⟩, .int .u64 0, .int .i64 0, .int .i64 0, .bool false, .string ⟨#[]⟩] = ((((((wy.setCell ⟨(X + 3), 0, none⟩ (.string ⟨#[]⟩)).setCell ⟨(X + 3), 1, none⟩ (.int .u64 0)).setCell ⟨(X + 3), 2, none⟩ (.int .i64 0)).setCell ⟨(X + 3), 3, none⟩ (.int .i64 0)).setCell ⟨(X + 3), 4, none⟩ (.bool false)).setCell ⟨(X + 3), 5, none⟩ (.string ⟨#[]⟩)) from rfl] at s1 s2
      generalize ((((((wy.setCell ⟨(X + 3), 0, none⟩ (.string ⟨#[]⟩)).setCell ⟨(X + 3), 1, none⟩ (.int .u64 0)).setCell ⟨(X + 3), 2, none⟩ (.int .i64 0)).setCell ⟨(X + 3), 3, none⟩ (.int .i64 0)).setCell ⟨(X + 3), 4, none⟩ (.bool false)).setCell ⟨(X + 3), 5, none⟩ (.string ⟨#[]⟩)) = wz at *
      have q0 : wz.cell? ⟨(X + 3), 0, none⟩ = some (.string ⟨#[]⟩) := cell_at s1 0
      have q1 : wz.cell? ⟨(X + 3), 1, none⟩ = some (.int .u64 0) := cell_at s1 1
      have q2 : wz.cell? ⟨(X + 3), 2, none⟩ = some (.int .i64 0) := cell_at s1 2
      have q3 : wz.cell? ⟨(X + 3), 3, none⟩ = some (.int .i64 0) := cell_at s1 3
      have q4 : wz.cell? ⟨(X + 3), 4, none⟩ = some (.bool false) := cell_at s1 4
      have q5 : wz.cell? ⟨(X + 3), 5, none⟩ = some (.string ⟨#[]⟩) := cell_at s1 5
      have hb2 := s2.old hb2 (by omega)
      have o0 : wz.cell? ⟨(X + 2), 0, none⟩ = some (.int .i64 self) := cell_at hb2 0
      have o1 : wz.cell? ⟨(X + 2), 1, none⟩ = some (.int .u64 life) := cell_at hb2 1
      have o2 : wz.cell? ⟨(X + 2), 2, none⟩ = some (.int .u64 count) := cell_at hb2 2
      have o3 : wz.cell? ⟨(X + 2), 3, none⟩ = some (.int .i64 every) := cell_at hb2 3
      have o4 : wz.cell? ⟨(X + 2), 4, none⟩ = some (.int .i64 now) := cell_at hb2 4
      have o5 : wz.cell? ⟨(X + 2), 5, none⟩ = some (.slice va L.length vcap) := cell_at hb2 5
      refine bodyPost_ret (v := .tuple #[.agg #[.int .i64 self, .int .u64 life, .int .u64 count, .int .i64 every, .int .i64 now, .slice va L.length vcap], .agg #[.string ⟨#[]⟩, .int .u64 0, .int .i64 0, .int .i64 0, .bool false, .string ⟨#[]⟩], .int .i64 5]) (by simp [results, Tryd.results36, go_sem, q0, q1, q2, q3, q4, q5, o0, o1, o2, o3, o4, o5]) rfl ?_
      exact HNO.out 5 _ e5 (by decide) ((HOB.out.tr t1 (fun i hi e => by have := HXW.out; omega)).tr s2 (fun i hi e => by have := HXW.out; omega))
    · have HE3 := Lib.hid (show E = if count = 4294967295 then 15 else 0 by
        rw [HE2.out, if_neg]
        rintro ⟨h, h'⟩
        exact hfull ⟨by simpa using h, h'⟩)
      clear HE2
      go_upto_region 4 with (fail)
      go_cut [29] (fun v29 wx => v29 = .bool false ∧ W4 = wx)
      case first =>
        cases fo with
        | none =>
          have hf := HN.out rfl
          subst hf
          have h8 : ¬ (8 : Int) ≤ (L.length : Int) := fun h => hfull ⟨rfl, by omega⟩
          clear hfull
          go_wp2_with fail
          go_meet
          exact ⟨rfl, rfl⟩
        | some y =>
          obtain ⟨i, hi, hf, _⟩ := HY.out y rfl
          subst hf
          clear hfull
          go_wp2_with fail
          go_meet
          exact ⟨rfl, rfl⟩
      case rest =>
      obtain ⟨rfl, rfl⟩ := hcut
      clear hfull
      by_cases hcc : count = 4294967295
      · -- count
        have e15 : E = 15 := by rw [HE3.out, if_pos hcc]
        have hcc' : (4294967295 : Int) ≤ (count : Int) := by omega
        clear hcc s0 s1 s2 s3 s4 s5 s6 s7
        go_wp2_with fail
        clear z0 z1 z2 z3 z4 z5 y0 y1 y2 y3 y4 y5 zf yf
        obtain ⟨s1, s2⟩ := lit_set H2.out [.int .i64 self, .int .u64 life, .int .u64 count, .int .i64 every, .int .i64 now, .slice va L.length vcap] rfl
        rw [show World.setCells W4 (X + 2) 0 [.int .i64 self, .int .u64 life, .int .u64 count, .int .i64 every, .int .i64 now, .slice va L.length vcap] = ((((((W4.setCell ⟨(X + 2), 0, none⟩ (.int .i64 self)).setCell ⟨(X + 2), 1, none⟩ (.int .u64 life)).setCell ⟨(X + 2), 2, none⟩ (.int .u64 count)).setCell ⟨(X + 2), 3, none⟩ (.int .i64 every)).setCell ⟨(X + 2), 4, none⟩ (.int .i64 now)).setCell ⟨(X + 2), 5, none⟩ (.slice va L.length vcap)) from rfl] at s1 s2
        generalize ((((((W4.setCell ⟨(X + 2), 0, none⟩ (.int .i64 self)).setCell ⟨(X + 2), 1, none⟩ (.int .u64 life)).setCell ⟨(X + 2), 2, none⟩ (.int .u64 count)).setCell ⟨(X + 2), 3, none⟩ (.int .i64 every)).setCell ⟨(X + 2), 4, none⟩ (.int .i64 now)).setCell ⟨(X + 2), 5, none⟩ (.slice va L.length vcap)) = wy at *
        have p0 : wy.cell? ⟨(X + 2), 0, none⟩ = some (.int .i64 self) := cell_at s1 0
        have p1 : wy.cell? ⟨(X + 2), 1, none⟩ = some (.int .u64 life) := cell_at s1 1
        have p2 : wy.cell? ⟨(X + 2), 2, none⟩ = some (.int .u64 count) := cell_at s1 2
        have p3 : wy.cell? ⟨(X + 2), 3, none⟩ = some (.int .i64 every) := cell_at s1 3
        have p4 : wy.cell? ⟨(X + 2), 4, none⟩ = some (.int .i64 now) := cell_at s1 4
        have p5 : wy.cell? ⟨(X + 2), 5, none⟩ = some (.slice va L.length vcap) := cell_at s1 5
        have t1 := s2
        have hb3 := s2.old H3.out (by omega)
        have hb2 := s1
        clear s1 s2 p0 p1 p2 p3 p4 p5
        obtain ⟨s1, s2⟩ := lit_set hb3 [.string ⟨#[]⟩, .int .u64 0, .int .i64 0, .int .i64 0, .bool false, .string ⟨#[]⟩] rfl
        rw [show World.setCells wy (X + 3) 0 [.string ⟨#[]⟩, .int .u64 0, .int .i64 0, .int .i64 0, .bool false, .string ⟨#[]⟩] = ((((((wy.setCell ⟨(X + 3), 0, none⟩ (.string ⟨#[]⟩)).setCell ⟨(X + 3), 1, none⟩ (.int .u64 0)).setCell ⟨(X + 3), 2, none⟩ (.int .i64 0)).setCell ⟨(X + 3), 3, none⟩ (.int .i64 0)).setCell ⟨(X + 3), 4, none⟩ (.bool false)).setCell ⟨(X + 3), 5, none⟩ (.string ⟨#[]⟩)) from rfl] at s1 s2
        generalize ((((((wy.setCell ⟨(X + 3), 0, none⟩ (.string ⟨#[]⟩)).setCell ⟨(X + 3), 1, none⟩ (.int .u64 0)).setCell ⟨(X + 3), 2, none⟩ (.int .i64 0)).setCell ⟨(X + 3), 3, none⟩ (.int .i64 0)).setCell ⟨(X + 3), 4, none⟩ (.bool false)).setCell ⟨(X + 3), 5, none⟩ (.string ⟨#[]⟩)) = wz at *
        have q0 : wz.cell? ⟨(X + 3), 0, none⟩ = some (.string ⟨#[]⟩) := cell_at s1 0
        have q1 : wz.cell? ⟨(X + 3), 1, none⟩ = some (.int .u64 0) := cell_at s1 1
        have q2 : wz.cell? ⟨(X + 3), 2, none⟩ = some (.int .i64 0) := cell_at s1 2
        have q3 : wz.cell? ⟨(X + 3), 3, none⟩ = some (.int .i64 0) := cell_at s1 3
        have q4 : wz.cell? ⟨(X + 3), 4, none⟩ = some (.bool false) := cell_at s1 4
        have q5 : wz.cell? ⟨(X + 3), 5, none⟩ = some (.string ⟨#[]⟩) := cell_at s1 5
        have hb2 := s2.old hb2 (by omega)
        have o0 : wz.cell? ⟨(X + 2), 0, none⟩ = some (.int .i64 self) := cell_at hb2 0
        have o1 : wz.cell? ⟨(X + 2), 1, none⟩ = some (.int .u64 life) := cell_at hb2 1
        have o2 : wz.cell? ⟨(X + 2), 2, none⟩ = some (.int .u64 count) := cell_at hb2 2
        have o3 : wz.cell? ⟨(X + 2), 3, none⟩ = some (.int .i64 every) := cell_at hb2 3
        have o4 : wz.cell? ⟨(X + 2), 4, none⟩ = some (.int .i64 now) := cell_at hb2 4
        have o5 : wz.cell? ⟨(X + 2), 5, none⟩ = some (.slice va L.length vcap) := cell_at hb2 5
        refine bodyPost_ret (v := .tuple #[.agg #[.int .i64 self, .int .u64 life, .int .u64 count, .int .i64 every, .int .i64 now, .slice va L.length vcap], .agg #[.string ⟨#[]⟩, .int .u64 0, .int .i64 0, .int .i64 0, .bool false, .string ⟨#[]⟩], .int .i64 15]) (by simp [results, Tryd.results36, go_sem, q0, q1, q2, q3, q4, q5, o0, o1, o2, o3, o4, o5]) rfl ?_
        exact HNO.out 15 _ e15 (by decide) ((HOB.out.tr t1 (fun i hi e => by have := HXW.out; omega)).tr s2 (fun i hi e => by have := HXW.out; omega))
      · have e0 : E = 0 := by rw [HE3.out, if_neg hcc]
        have hcc' : ¬ (4294967295 : Int) ≤ (count : Int) := by omega
        have hc3 : count < 4294967295 := by omega
        have HE0 := Lib.hid e0
        have HC3 := Lib.hid hc3
        clear e0 hc3
        clear HE3 hcc z0 z1 z2 z3 z4 z5 y0 y1 y2 y3 y4 y5 zf yf HNO HRN HRK
        have hs5 := HH.out.new HOA.out
        have HS5 := Lib.hid hs5
        clear hs5
        have hxl : X < W4.heap.size := lt_of_block H0.out
        have hxl1 : X + 1 < W4.heap.size := lt_of_block H1.out
        go_upto_region 8 with (fail)
        clear hcc' hcb hfo
        go_wp2_with (at_builtin; refine Wait.mk ?_)
        refine Wait.go (wpList_append_src _ rfl (.tmp 37) (.tmp 39) 70 70 rfl W4.heap.size 89 i0 _ 8 32 Tryd.underlying70 hi0 iz0 iz1 iz2 rfl (.slice (some ⟨W4.heap.size, 0, none⟩) 0 0) 0 [] rfl (own_at (heap_alloc_new W4 _) _ _ (Nat.le_refl _)) _ L.length (L.flatMap svcCs) rfl ?src4 ?m4 ?b4 ?base4 ?_)
        case src4 => exact (HS5.out.new ((Only.refl _ _).alloc _)).src Tryd.underlying70 (fl_one svcCs_one L)
        case m4 => unfold maxLen; omega
        case b4 => omega
        case base4 => simp
        intro v6 w6 own6 gr6 _
        simp only [Nat.zero_add, List.nil_append] at own6
        have ho6 : Only (fun _ => False) W4 w6 := ((Only.refl _ _).alloc _).own (own_at (heap_alloc_new W4 _) W4.heap.size 8 (Nat.le_refl _)) (Nat.le_refl _) gr6
        obtain ⟨a6, cap6, rfl, hl6, hm6, _⟩ := Sl.cells svcCs_length (Sl.of_owns own6)
        unfold maxLen at hm6
        have hb0 := ho6.old H0.out id
        have hb1 := ho6.old H1.out id
        have hb2 := ho6.old H2.out id
        have hb3 := ho6.old H3.out id
        have hWs : W4.heap.size ≤ w6.heap.size := ho6.size
        have hX4 : X + 3 < W4.heap.size := lt_of_block H3.out
        have HO6 := Lib.hid ho6
        have K0 := Lib.hid hb0
        have K1 := Lib.hid hb1
        have K2 := Lib.hid hb2
        have K3 := Lib.hid hb3
        have OWN6 := Lib.hid own6
        clear ho6 hb0 hb1 hb2 hb3 own6
        clear gr6 x0 x1 x2 x3 x4 x5 s0 s1 s2 s3 s4 s5 s6 s7
        go_upto_if 42 with (fail)
        go_cut [8] (fun v8 wx => ∃ a8 cap8, v8 = .slice a8 (insW s L).length cap8 ∧ Only (fun _ => False) W4 wx ∧ wx.ownsRow W4.heap.size 89 8 (.slice a8 (insW s L).length cap8) (insW s L).length ((insW s L).flatMap svcCs))
        case first =>
          cases fo with
          | none =>
            have hf := HN.out rfl
            subst hf
            have hnk := HNK.out rfl
            have HNK1 := Lib.hid hnk
            clear hnk
            have s0 : w6.cell? ⟨(X + 1), 0, none⟩ = some (.string s.name) := cell_at K1.out 0
            have s1 : w6.cell? ⟨(X + 1), 1, none⟩ = some (.int .u8 s.a0) := cell_at K1.out 1
            have s2 : w6.cell? ⟨(X + 1), 2, none⟩ = some (.int .u8 s.a1) := cell_at K1.out 2
            have s3 : w6.cell? ⟨(X + 1), 3, none⟩ = some (.int .u8 s.a2) := cell_at K1.out 3
            have s4 : w6.cell? ⟨(X + 1), 4, none⟩ = some (.int .u8 s.a3) := cell_at K1.out 4
            have s5 : w6.cell? ⟨(X + 1), 5, none⟩ = some (.int .u16 s.p) := cell_at K1.out 5
            have s6 : w6.cell? ⟨(X + 1), 6, none⟩ = some (.int .u16 s.q) := cell_at K1.out 6
            have s7 : w6.cell? ⟨(X + 1), 7, none⟩ = some (.int .u16 s.r) := cell_at K1.out 7
            go_wp2_with (at_builtin; refine Wait.mk ?_)
            refine Wait.go (wpList_append_src _ rfl (.tmp 47) (.tmp 49) 70 70 rfl W4.heap.size 89 i0 _ 8 32 Tryd.underlying70 hi0 iz0 iz1 iz2 rfl (.slice a6 L.length cap6) L.length (L.flatMap svcCs) rfl (OWN6.out.alloc _) (.slice (some ⟨w6.heap.size, 0, none⟩) 1 1) 1 (svcCs s) rfl ?src5 ?m5 ?b5 ?base5 ?_)
            case src5 => exact Src.ofSlice _ Tryd.underlying70 _ _ _ _ rfl (news_new _ _ _) (svcCs_one _)
            case m5 => unfold maxLen; omega
            case b5 => omega
            case base5 => simp; omega
            intro v7 w7 own7 gr7 _
            have ho7 : Only (fun _ => False) W4 w7 := (HO6.out.alloc _).own (OWN6.out.alloc _) (Nat.le_refl _) gr7
            have e7 : L.flatMap svcCs ++ svcCs s = (putAt s L L.length).flatMap svcCs := by unfold putAt; simp
            rw [e7] at own7
            have hne : (putAt s L L.length).flatMap svcCs ≠ [] := fun e => by have := congrArg List.length e; rw [fl_length svcCs_length, putAt_length s L (Nat.le_refl _)] at this; simp at this
            obtain ⟨g, cap7, cur, rfl, hg, hgb, hgc, hcm, hcs, ht⟩ := row_form own7 hne
            unfold maxLen at hcm
            have HO7 := Lib.hid ho7
            have OWN7 := Lib.hid own7
            clear ho7 own7
            clear gr7 hgb hcs ht hne e7 s0 s1 s2 s3 s4 s5 s6 s7
            go_wp2_with fail
            go_loopg [9] L.length (fun gg v9 wr => ∃ i : Nat, v9 = .int .i64 i ∧ i ≤ L.length ∧ Only (fun _ => False) W4 wr ∧ wr.ownsRow W4.heap.size 89 8 (.slice (some ⟨g, 0, none⟩) (L.length + 1) cap7) (L.length + 1) ((putAt s L i).flatMap svcCs) ∧ (∀ z ∈ L.drop i, ltK s.name z.name) ∧ gg = i)
            case atStart => exact ⟨L.length, by go_num, Nat.le_refl _, HO7.out, OWN7.out, by simp, rfl⟩
            case round =>
              obtain ⟨i, rfl, hi, ho, hown, hdrop, hgg⟩ := hrel
              have Hgg := Lib.hid hgg
              have HO := Lib.hid ho
              have HOWN := Lib.hid hown
              have HDROP := Lib.hid hdrop
              clear hgg ho hown hdrop
              cases i with
              | zero =>
                go_upto_region 13 with (fail)
                go_quiet (fail)
                go_wp2_with fail
                go_meet
                have e := HEND.out HNK1.out 0 HDROP.out (.inl rfl)
                rw [e, putAt_length s L (Nat.zero_le _)]
                refine ⟨_, _, rfl, HO.out.drewN _, owns_only HOWN.out ((Only.refl (fun _ => False) _).drewN _) (fun _ _ => id)⟩
              | succ i =>
                have hiL : i < L.length := by omega
                have hpl := putAt_length s L hi
                have gc : ∀ j (hj : j < (putAt s L (i + 1)).length) k u, (svcCs (putAt s L (i + 1))[j])[k]? = some u → wr.cell? ⟨g, j * 8 + k, none⟩ = some u := fun j hj k u hu => by
                  have h6 : k < 8 := (List.getElem?_eq_some_iff.1 hu).1
                  have := HOWN.out.cells (g := g) rfl (j * 8 + k) u (by rw [fl_get svcCs_length _ j hj k h6]; exact hu)
                  simpa [Addr.add_lit] using this
                have gy := gc i (by omega)
                have gs := gc (i + 1) (by omega)
                rw [putAt_before s L hiL] at gy
                rw [putAt_here s L hi] at gs
                have hsw := putAt_swap s L hiL
                have hyl : ∃ y, L[i] = y := ⟨_, rfl⟩
                obtain ⟨y, hy⟩ := hyl
                rw [hy] at gy hsw
                have GY := Lib.hid gy
                have GS := Lib.hid gs
                have HSW := Lib.hid hsw
                have HYL := Lib.hid hy
                clear gy gs hsw hy
                clear gc
                have y0 : wr.cell? ⟨g, i * 8, none⟩ = some (.string y.name) := GY.out 0 _ rfl
                have z0 : wr.cell? ⟨g, (i + 1) * 8, none⟩ = some (.string s.name) := GS.out 0 _ rfl
                have q1 : (0 : Int) ≤ (i : Int) := by omega
                have q2 : (i : Int) < (L.length : Int) + 1 := by omega
                have q3 : (i : Int) + 1 < (L.length : Int) + 1 := by omega
                go_upto_region 13 with (fail)
                go_cut [69] (fun v69 wx => ∃ q, v69 = .bool q ∧ (q = true → ltK s.name y.name) ∧ (q = false → ¬ ltK s.name y.name) ∧ Only (fun _ => False) wr wx)
                case first =>
                  go_quiet (fail)
                  go_wp2_with fail
                  go_meet
                  rw [less_ltK26, gtr_ltK26]
                  exact ⟨_, rfl, of_decide_eq_true, of_decide_eq_false, (Only.refl _ _).drewN _⟩
                case rest =>
                obtain ⟨q, rfl, hq1, hq2, ho5⟩ := hcut
                have hown5 := owns_only HOWN.out ho5 (fun _ _ => id)
                have hoD := HO.out.trans ho5
                have HQ1 := Lib.hid hq1
                have HQ2 := Lib.hid hq2
                have HOD := Lib.hid hoD
                have HOWN5 := Lib.hid hown5
                clear hq1 hq2 hoD hown5
                cases q
                · -- stop
                  clear y0 z0 ho5
                  go_wp2_with fail
                  go_meet
                  have e := HEND.out HNK1.out (i + 1) HDROP.out (.inr ⟨by simpa using hiL, by have := HQ2.out (by first | rfl | trivial); rw [← HYL.out] at this; simpa using this⟩)
                  rw [e, hpl]
                  exact ⟨_, _, rfl, HOD.out, HOWN5.out⟩
                · -- swap
                  have hmore := drop_more hiL HDROP.out (by rw [HYL.out]; exact HQ1.out (by first | rfl | trivial))
                  obtain ⟨cur5, hg5, _⟩ := row_block HOWN5.out
                  have gf : ∀ i, wc.frozen? ⟨g, i, none⟩ = false := free_at hg5
                  have gy5 : ∀ k u, (svcCs y)[k]? = some u → wc.cell? ⟨g, i * 8 + k, none⟩ = some u := fun k u hu => ho5.cell (GY.out k u hu) id
                  have gs5 : ∀ k u, (svcCs s)[k]? = some u → wc.cell? ⟨g, (i + 1) * 8 + k, none⟩ = some u := fun k u hu => ho5.cell (GS.out k u hu) id
                  clear y0 z0
                  have y0 := gy5 0 _ rfl
                  have y1 := gy5 1 _ rfl
                  have y2 := gy5 2 _ rfl
                  have y3 := gy5 3 _ rfl
                  have y4 := gy5 4 _ rfl
                  have y5 := gy5 5 _ rfl
                  have y6 := gy5 6 _ rfl
                  have y7 := gy5 7 _ rfl
                  have z0 := gs5 0 _ rfl
                  have z1 := gs5 1 _ rfl
                  have z2 := gs5 2 _ rfl
                  have z3 := gs5 3 _ rfl
                  have z4 := gs5 4 _ rfl
                  have z5 := gs5 5 _ rfl
                  have z6 := gs5 6 _ rfl
                  have z7 := gs5 7 _ rfl
                  simp only [Nat.add_zero] at y0 z0
                  have HMORE := Lib.hid hmore
                  clear hmore
                  clear gy5 gs5 ho5 hg5
                  go_upto_region 15 with (fail)
                  go_region
                  obtain ⟨w8, hw8⟩ : ∃ w8, w8 = ((((((((((((((((wc.setCell ⟨g, i * 8, none⟩ (.string s.name)).setCell ⟨g, i * 8 + 1, none⟩ (.int .u8 s.a0)).setCell ⟨g, i * 8 + 2, none⟩ (.int .u8 s.a1)).setCell ⟨g, i * 8 + 3, none⟩ (.int .u8 s.a2)).setCell ⟨g, i * 8 + 4, none⟩ (.int .u8 s.a3)).setCell ⟨g, i * 8 + 5, none⟩ (.int .u16 s.p)).setCell ⟨g, i * 8 + 6, none⟩ (.int .u16 s.q)).setCell ⟨g, i * 8 + 7, none⟩ (.int .u16 s.r)).setCell ⟨g, (i + 1) * 8, none⟩ (.string y.name)).setCell ⟨g, (i + 1) * 8 + 1, none⟩ (.int .u8 y.a0)).setCell ⟨g, (i + 1) * 8 + 2, none⟩ (.int .u8 y.a1)).setCell ⟨g, (i + 1) * 8 + 3, none⟩ (.int .u8 y.a2)).setCell ⟨g, (i + 1) * 8 + 4, none⟩ (.int .u8 y.a3)).setCell ⟨g, (i + 1) * 8 + 5, none⟩ (.int .u16 y.p)).setCell ⟨g, (i + 1) * 8 + 6, none⟩ (.int .u16 y.q)).setCell ⟨g, (i + 1) * 8 + 7, none⟩ (.int .u16 y.r)) := ⟨_, rfl⟩
                  have e8 : w8 = (wc.setCells g (i * 8) (svcCs s)).setCells g ((i + 1) * 8) (svcCs y) := hw8.trans rfl
                  have own8 := row_over (row_over HOWN5.out (i * 8) (svcCs s) (by rw [svcCs_length]; omega)) ((i + 1) * 8) (svcCs y) (by rw [svcCs_length]; omega)
                  rw [← e8, fl_set svcCs_length _ i (by omega) s, fl_set svcCs_length _ (i + 1) (by rw [List.length_set]; omega) y, HSW.out] at own8
                  have t8 : Only (fun i => i = g) wc w8 := by rw [e8]; exact (setCells_only g _ _ _).trans (setCells_only g _ _ _)
                  rw [← hw8]
                  have hoE := HOD.out.tr t8 (fun j hj e => by omega)
                  have HOE := Lib.hid hoE
                  have OWN8 := Lib.hid own8
                  clear hoE own8
                  clear hw8 e8 y0 y1 y2 y3 y4 y5 y6 y7 z0 z1 z2 z3 z4 z5 z6 z7 gf t8
                  go_wp2_with fail
                  go_roundg i
                  case measure => rw [Hgg.out]; omega
                  case rel =>
                    refine ⟨i, by go_num, by omega, ?_, ?_, HMORE.out, rfl⟩
                    · exact HOE.out.drew
                    · exact owns_only OWN8.out (Only.drew (Only.refl (fun _ => False) _)) (fun _ _ => id)
          | some y0 =>
            obtain ⟨i, hi, hf, hLi, hLk⟩ := HY.out y0 rfl
            subst hf
            have hset := HSET.out i hi hLk
            have hne : L.flatMap svcCs ≠ [] := fun e => by have := congrArg List.length e; rw [fl_length svcCs_length] at this; simp at this; omega
            obtain ⟨g, cap7, cur, hve, hg, hgb, hgc, hcm, hcs, ht⟩ := row_form OWN6.out hne
            cases hve
            have gc : ∀ k u, (svcCs L[i])[k]? = some u → w6.cell? ⟨g, i * 8 + k, none⟩ = some u := fun k u hu => by
              have h6 : k < 8 := (List.getElem?_eq_some_iff.1 hu).1
              have := OWN6.out.cells (g := g) rfl (i * 8 + k) u (by rw [fl_get svcCs_length L i hi k h6]; exact hu)
              simpa [Addr.add_lit] using this
            have g0 := gc 0 _ rfl
            have g1 := gc 1 _ rfl
            have g2 := gc 2 _ rfl
            have g3 := gc 3 _ rfl
            have g4 := gc 4 _ rfl
            have g5 := gc 5 _ rfl
            have g6 := gc 6 _ rfl
            have g7 := gc 7 _ rfl
            simp only [Nat.add_zero] at g0
            have gf : ∀ i, w6.frozen? ⟨g, i, none⟩ = false := free_at hgb
            have hi1 : (0 : Int) ≤ (i : Int) := by omega
            have hi2 : (i : Int) < (L.length : Int) := by omega
            have s0 : w6.cell? ⟨(X + 1), 0, none⟩ = some (.string s.name) := cell_at K1.out 0
            have s1 : w6.cell? ⟨(X + 1), 1, none⟩ = some (.int .u8 s.a0) := cell_at K1.out 1
            have s2 : w6.cell? ⟨(X + 1), 2, none⟩ = some (.int .u8 s.a1) := cell_at K1.out 2
            have s3 : w6.cell? ⟨(X + 1), 3, none⟩ = some (.int .u8 s.a2) := cell_at K1.out 3
            have s4 : w6.cell? ⟨(X + 1), 4, none⟩ = some (.int .u8 s.a3) := cell_at K1.out 4
            have s5 : w6.cell? ⟨(X + 1), 5, none⟩ = some (.int .u16 s.p) := cell_at K1.out 5
            have s6 : w6.cell? ⟨(X + 1), 6, none⟩ = some (.int .u16 s.q) := cell_at K1.out 6
            have s7 : w6.cell? ⟨(X + 1), 7, none⟩ = some (.int .u16 s.r) := cell_at K1.out 7
            have HST := Lib.hid hset
            clear hset
            clear gc hgb hcs ht hne hLi hLk hxl hxl1
            go_wp2_with fail
            go_meet
            obtain ⟨w8, hw8⟩ : ∃ w8, w8 = ((((((((w6.setCell ⟨g, i * 8, none⟩ (.string s.name)).setCell ⟨g, i * 8 + 1, none⟩ (.int .u8 s.a0)).setCell ⟨g, i * 8 + 2, none⟩ (.int .u8 s.a1)).setCell ⟨g, i * 8 + 3, none⟩ (.int .u8 s.a2)).setCell ⟨g, i * 8 + 4, none⟩ (.int .u8 s.a3)).setCell ⟨g, i * 8 + 5, none⟩ (.int .u16 s.p)).setCell ⟨g, i * 8 + 6, none⟩ (.int .u16 s.q)).setCell ⟨g, i * 8 + 7, none⟩ (.int .u16 s.r)) := ⟨_, rfl⟩
            have e8 : w8 = w6.setCells g (i * 8) (svcCs s) := hw8.trans rfl
            have own8 := row_over OWN6.out (i * 8) (svcCs s) (by rw [svcCs_length]; omega)
            rw [← e8, fl_set svcCs_length L i hi s] at own8
            have t8 : Only (fun i => i = g) w6 w8 := by rw [e8]; exact setCells_only g _ _ _
            rw [← hw8, HST.out, List.length_set]
            exact ⟨_, _, rfl, HO6.out.tr t8 (fun j hj e => by omega), own8⟩
        case rest =>
        obtain ⟨a8, cap8, rfl, ho8, own8⟩ := hcut
        generalize insW s L = M at *
        have hb0 := ho8.old H0.out id
        have hb1 := ho8.old H1.out id
        have hb2 := ho8.old H2.out id
        have hb3 := ho8.old H3.out id
        have J0 := Lib.hid hb0
        have J1 := Lib.hid hb1
        have J2 := Lib.hid hb2
        have J3 := Lib.hid hb3
        have HO8 := Lib.hid ho8
        have OWN8 := Lib.hid own8
        clear hb0 hb1 hb2 hb3 ho8 own8
        have x5 : wc.cell? ⟨X, 5, none⟩ = some (.slice va L.length vcap) := cell_at J0.out 5
        have xf : ∀ i, wc.frozen? ⟨X, i, none⟩ = false := free_at J0.out
        clear K0 K1 K2 K3 H0 H1 H2 H3 hxl hxl1
        go_upto_region 17 with (fail)
        obtain ⟨w9, hw9⟩ : ∃ w9, w9 = wc.setCell ⟨X, 5, none⟩ (.slice a8 M.length cap8) := ⟨_, rfl⟩
        have t9 : Only (fun i => i = X) wc w9 := by rw [hw9]; exact (Only.refl _ _).setCell (S := fun i => i = X) (p := ⟨X, 5, none⟩) (.inr rfl) _
        have hb0 : w9.heap[X]? = some (.cells #[.int .i64 self, .int .u64 life, .int .u64 count, .int .i64 every, .int .i64 now, .slice a8 M.length cap8] 72 (0, 0)) := by rw [hw9]; exact set_at J0.out 5 _
        have hb1 := t9.old J1.out (by omega)
        have hb2 := t9.old J2.out (by omega)
        have hb3 := t9.old J3.out (by omega)
        have own9 := owns_only OWN8.out t9 (fun k hk e => by omega)
        have ho9 := (HOA.out.trans HO8.out).tr t9 (fun j hj e => by have := HXW.out; omega)
        rw [← hw9]
        clear hw9 x5 xf t9
        have x0 : w9.cell? ⟨X, 0, none⟩ = some (.int .i64 self) := cell_at hb0 0
        have x1 : w9.cell? ⟨X, 1, none⟩ = some (.int .u64 life) := cell_at hb0 1
        have x2 : w9.cell? ⟨X, 2, none⟩ = some (.int .u64 count) := cell_at hb0 2
        have x3 : w9.cell? ⟨X, 3, none⟩ = some (.int .i64 every) := cell_at hb0 3
        have x4 : w9.cell? ⟨X, 4, none⟩ = some (.int .i64 now) := cell_at hb0 4
        have x5 : w9.cell? ⟨X, 5, none⟩ = some (.slice a8 M.length cap8) := cell_at hb0 5
        have s0 : w9.cell? ⟨(X + 1), 0, none⟩ = some (.string s.name) := cell_at hb1 0
        have s1 : w9.cell? ⟨(X + 1), 1, none⟩ = some (.int .u8 s.a0) := cell_at hb1 1
        have s2 : w9.cell? ⟨(X + 1), 2, none⟩ = some (.int .u8 s.a1) := cell_at hb1 2
        have s3 : w9.cell? ⟨(X + 1), 3, none⟩ = some (.int .u8 s.a2) := cell_at hb1 3
        have s4 : w9.cell? ⟨(X + 1), 4, none⟩ = some (.int .u8 s.a3) := cell_at hb1 4
        have s5 : w9.cell? ⟨(X + 1), 5, none⟩ = some (.int .u16 s.p) := cell_at hb1 5
        have s6 : w9.cell? ⟨(X + 1), 6, none⟩ = some (.int .u16 s.q) := cell_at hb1 6
        have s7 : w9.cell? ⟨(X + 1), 7, none⟩ = some (.int .u16 s.r) := cell_at hb1 7
        have L0 := Lib.hid hb0
        have L1 := Lib.hid hb1
        have L2 := Lib.hid hb2
        have L3 := Lib.hid hb3
        have HO9 := Lib.hid ho9
        have OWN9 := Lib.hid own9
        clear hb0 hb1 hb2 hb3 ho9 own9
        clear J0 J1 J2 J3
        go_wp2_with fail
        refine (HMD.out w9 a8 M.length cap8 HC3.out).mono ?_
        rintro e w10 ⟨rfl, ho10⟩
        clear x0 x1 x2 x3 x4 x5 s0 s1 s2 s3 s4 s5 s6 s7
        have hb0 := ho10.old L0.out id
        have hb2 := ho10.old L2.out id
        have hb3 := ho10.old L3.out id
        have own10 := owns_only OWN9.out ho10 (fun _ _ => id)
        have hoA10 := HO9.out.trans ho10
        have xf : ∀ i, w10.frozen? ⟨X, i, none⟩ = false := free_at hb0
        have x0 : w10.cell? ⟨X, 0, none⟩ = some (.int .i64 self) := cell_at hb0 0
        have x1 : w10.cell? ⟨X, 1, none⟩ = some (.int .u64 life) := cell_at hb0 1
        have x2 : w10.cell? ⟨X, 2, none⟩ = some (.int .u64 count) := cell_at hb0 2
        have x3 : w10.cell? ⟨X, 3, none⟩ = some (.int .i64 every) := cell_at hb0 3
        have x4 : w10.cell? ⟨X, 4, none⟩ = some (.int .i64 now) := cell_at hb0 4
        have x5 : w10.cell? ⟨X, 5, none⟩ = some (.slice a8 M.length cap8) := cell_at hb0 5
        have hxl : X < w10.heap.size := lt_of_block hb0
        have hxl2 : X + 3 < w10.heap.size := lt_of_block hb3
        have N0 := Lib.hid hb0
        have N2 := Lib.hid hb2
        have N3 := Lib.hid hb3
        have OWNA := Lib.hid own10
        have HOAA := Lib.hid hoA10
        clear hb0 hb2 hb3 own10 hoA10
        clear L0 L1 L2 L3 OWN9 ho10
        go_upto_region 18 with (fail)
        have e1 : ((((((w10.setCell ⟨X, 0, none⟩ (.int .i64 self)).setCell ⟨X, 1, none⟩ (.int .u64 life)).setCell ⟨X, 2, none⟩ (.int .u64 ((count : Int) + 1))).setCell ⟨X, 3, none⟩ (.int .i64 every)).setCell ⟨X, 4, none⟩ (.int .i64 now)).setCell ⟨X, 5, none⟩ (.slice a8 M.length cap8)).heap.size = w10.heap.size := by simp
        obtain ⟨s1, s2⟩ := lit_set N0.out [.int .i64 self, .int .u64 life, .int .u64 ((count : Int) + 1), .int .i64 every, .int .i64 now, .slice a8 M.length cap8] rfl
        rw [show World.setCells w10 X 0 [.int .i64 self, .int .u64 life, .int .u64 ((count : Int) + 1), .int .i64 every, .int .i64 now, .slice a8 M.length cap8] = ((((((w10.setCell ⟨X, 0, none⟩ (.int .i64 self)).setCell ⟨X, 1, none⟩ (.int .u64 life)).setCell ⟨X, 2, none⟩ (.int .u64 ((count : Int) + 1))).setCell ⟨X, 3, none⟩ (.int .i64 every)).setCell ⟨X, 4, none⟩ (.int .i64 now)).setCell ⟨X, 5, none⟩ (.slice a8 M.length cap8)) from rfl] at s1 s2
        generalize ((((((w10.setCell ⟨X, 0, none⟩ (.int .i64 self)).setCell ⟨X, 1, none⟩ (.int .u64 life)).setCell ⟨X, 2, none⟩ (.int .u64 ((count : Int) + 1))).setCell ⟨X, 3, none⟩ (.int .i64 every)).setCell ⟨X, 4, none⟩ (.int .i64 now)).setCell ⟨X, 5, none⟩ (.slice a8 M.length cap8)) = wy at *
        have p0 : wy.cell? ⟨X, 0, none⟩ = some (.int .i64 self) := cell_at s1 0
        have p1 : wy.cell? ⟨X, 1, none⟩ = some (.int .u64 life) := cell_at s1 1
        have p2 : wy.cell? ⟨X, 2, none⟩ = some (.int .u64 ((count : Int) + 1)) := cell_at s1 2
        have p3 : wy.cell? ⟨X, 3, none⟩ = some (.int .i64 every) := cell_at s1 3
        have p4 : wy.cell? ⟨X, 4, none⟩ = some (.int .i64 now) := cell_at s1 4
        have p5 : wy.cell? ⟨X, 5, none⟩ = some (.slice a8 M.length cap8) := cell_at s1 5
        have hWy := s1
        have t1 := s2
        clear s1 s2 p0 p1 p2 p3 p4 p5 x0 x1 x2 x3 x4 x5 xf
        obtain ⟨wz, hwz⟩ : ∃ wz, wz = wy.alloc (.cells #[.string (keyB self s.name), .int .u64 VER, .int .i64 self, .int .i64 0, .bool false, .string DAT] 35) := ⟨_, rfl⟩
        have hbwz : wz.heap[wy.heap.size]? = some (.cells #[.string (keyB self s.name), .int .u64 VER, .int .i64 self, .int .i64 0, .bool false, .string DAT] 35 (0, 0)) := by rw [hwz]; exact heap_alloc_new wy _
        have howz : Only (fun _ => False) wy wz := by rw [hwz]; exact (Only.refl _ _).alloc _
        have hswz : wz.heap.size = wy.heap.size + 1 := by rw [hwz]; simp
        rw [e1] at hbwz hswz
        have hb0 := howz.old hWy id
        have hb2 := howz.old (t1.old N2.out (by omega)) id
        have hb3 := howz.old (t1.old N3.out (by omega)) id
        have ownz := owns_only (owns_only OWNA.out t1 (fun k hk e => by omega)) howz (fun _ _ => id)
        have hoB := (HOAA.out.tr t1 (fun j hj e => by have := HXW.out; omega)).trans howz
        rw [← hwz]
        clear hwz
        generalize w10.heap.size = B at *
        have hXW := HXW.out
        have hnX : ¬ (X = X + 2 ∨ X = X + 3) := by omega
        have hnB : ¬ (B = X + 2 ∨ B = X + 3) := by omega
        have x0 : wz.cell? ⟨X, 0, none⟩ = some (.int .i64 self) := cell_at hb0 0
        have x1 : wz.cell? ⟨X, 1, none⟩ = some (.int .u64 life) := cell_at hb0 1
        have x2 : wz.cell? ⟨X, 2, none⟩ = some (.int .u64 ((count : Int) + 1)) := cell_at hb0 2
        have x3 : wz.cell? ⟨X, 3, none⟩ = some (.int .i64 every) := cell_at hb0 3
        have x4 : wz.cell? ⟨X, 4, none⟩ = some (.int .i64 now) := cell_at hb0 4
        have x5 : wz.cell? ⟨X, 5, none⟩ = some (.slice a8 M.length cap8) := cell_at hb0 5
        have q0 : wz.cell? ⟨B, 0, none⟩ = some (.string (keyB self s.name)) := cell_at hbwz 0
        have q1 : wz.cell? ⟨B, 1, none⟩ = some (.int .u64 VER) := cell_at hbwz 1
        have q2 : wz.cell? ⟨B, 2, none⟩ = some (.int .i64 self) := cell_at hbwz 2
        have q3 : wz.cell? ⟨B, 3, none⟩ = some (.int .i64 0) := cell_at hbwz 3
        have q4 : wz.cell? ⟨B, 4, none⟩ = some (.bool false) := cell_at hbwz 4
        have q5 : wz.cell? ⟨B, 5, none⟩ = some (.string DAT) := cell_at hbwz 5
        have za0 : wz.cell? ⟨(X + 2), 0, none⟩ = some (.int .i64 0) := cell_at hb2 0
        have za1 : wz.cell? ⟨(X + 2), 1, none⟩ = some (.int .u64 0) := cell_at hb2 1
        have za2 : wz.cell? ⟨(X + 2), 2, none⟩ = some (.int .u64 0) := cell_at hb2 2
        have za3 : wz.cell? ⟨(X + 2), 3, none⟩ = some (.int .i64 0) := cell_at hb2 3
        have za4 : wz.cell? ⟨(X + 2), 4, none⟩ = some (.int .i64 0) := cell_at hb2 4
        have za5 : wz.cell? ⟨(X + 2), 5, none⟩ = some (.slice none 0 0) := cell_at hb2 5
        have zb0 : wz.cell? ⟨(X + 3), 0, none⟩ = some (.string ⟨#[]⟩) := cell_at hb3 0
        have zb1 : wz.cell? ⟨(X + 3), 1, none⟩ = some (.int .u64 0) := cell_at hb3 1
        have zb2 : wz.cell? ⟨(X + 3), 2, none⟩ = some (.int .i64 0) := cell_at hb3 2
        have zb3 : wz.cell? ⟨(X + 3), 3, none⟩ = some (.int .i64 0) := cell_at hb3 3
        have zb4 : wz.cell? ⟨(X + 3), 4, none⟩ = some (.bool false) := cell_at hb3 4
        have zb5 : wz.cell? ⟨(X + 3), 5, none⟩ = some (.string ⟨#[]⟩) := cell_at hb3 5
        have zaf : ∀ i, wz.frozen? ⟨X + 2, i, none⟩ = false := free_at hb2
        have zbf : ∀ i, wz.frozen? ⟨X + 3, i, none⟩ = false := free_at hb3
        have HCC := Lib.hid (show ∀ w', Only (fun i => i = X + 2 ∨ i = X + 3) wz w' → w'.cell? ⟨X, 0, none⟩ = some (.int .i64 self) ∧ w'.cell? ⟨X, 1, none⟩ = some (.int .u64 life) ∧ w'.cell? ⟨X, 2, none⟩ = some (.int .u64 ((count : Int) + 1)) ∧ w'.cell? ⟨X, 3, none⟩ = some (.int .i64 every) ∧ w'.cell? ⟨X, 4, none⟩ = some (.int .i64 now) ∧ w'.cell? ⟨X, 5, none⟩ = some (.slice a8 M.length cap8) ∧ w'.cell? ⟨B, 0, none⟩ = some (.string (keyB self s.name)) ∧ w'.cell? ⟨B, 1, none⟩ = some (.int .u64 VER) ∧ w'.cell? ⟨B, 2, none⟩ = some (.int .i64 self) ∧ w'.cell? ⟨B, 3, none⟩ = some (.int .i64 0) ∧ w'.cell? ⟨B, 4, none⟩ = some (.bool false) ∧ w'.cell? ⟨B, 5, none⟩ = some (.string DAT) from fun w' h => ⟨h.cell x0 hnX, h.cell x1 hnX, h.cell x2 hnX, h.cell x3 hnX, h.cell x4 hnX, h.cell x5 hnX, h.cell q0 hnB, h.cell q1 hnB, h.cell q2 hnB, h.cell q3 hnB, h.cell q4 hnB, h.cell q5 hnB⟩)
        clear x0 q0 x1 q1 x2 q2 x3 q3 x4 q4 x5 q5
        have hne1 : ¬ X + 2 = X + 3 := by omega
        have hne2 : ¬ X + 3 = X + 2 := by omega
        have O2 := Lib.hid hb2
        have O3 := Lib.hid hb3
        have OWNZ := Lib.hid ownz
        have HOBB := Lib.hid hoB
        clear hb2 hb3 ownz hoB
        go_cut [6] (fun v6 wx => v6 = .int .i64 0 ∧ wx.heap[X + 2]? = some (.cells #[.int .i64 self, .int .u64 life, .int .u64 ((count : Int) + 1), .int .i64 every, .int .i64 now, .slice a8 M.length cap8] 72 (0, 0)) ∧ wx.heap[X + 3]? = some (.cells #[.string (keyB self s.name), .int .u64 VER, .int .i64 self, .int .i64 0, .bool false, .string DAT] 35 (0, 0)) ∧ Only (fun i => i = X + 2 ∨ i = X + 3) wz wx)
        case first =>
          have hb2 := O2.out
          have hb3 := O3.out
          go_region_held3 (fun w' => Only (fun i => i = X + 2 ∨ i = X + 3) wz w' ∧ w'.cell? ⟨X, 0, none⟩ = some (.int .i64 self) ∧ w'.cell? ⟨X, 1, none⟩ = some (.int .u64 life) ∧ w'.cell? ⟨X, 2, none⟩ = some (.int .u64 ((count : Int) + 1)) ∧ w'.cell? ⟨X, 3, none⟩ = some (.int .i64 every) ∧ w'.cell? ⟨X, 4, none⟩ = some (.int .i64 now) ∧ w'.cell? ⟨X, 5, none⟩ = some (.slice a8 M.length cap8) ∧ w'.cell? ⟨B, 0, none⟩ = some (.string (keyB self s.name)) ∧ w'.cell? ⟨B, 1, none⟩ = some (.int .u64 VER) ∧ w'.cell? ⟨B, 2, none⟩ = some (.int .i64 self) ∧ w'.cell? ⟨B, 3, none⟩ = some (.int .i64 0) ∧ w'.cell? ⟨B, 4, none⟩ = some (.bool false) ∧ w'.cell? ⟨B, 5, none⟩ = some (.string DAT))
            ((go_split_ands; (refine heldAB HCC.out ?_); (repeat (first | (with_reducible assumption) | (with_reducible exact Only.refl _ _) | (with_reducible refine Only.drew ?_) | (with_reducible refine Only.alloc ?_ _) | (with_reducible refine onlySetAB ?_ (by omega) _)))))
            (fail)
          all_goals
            go_split_ands
            go_wp2_with fail
            go_meet
            refine ⟨rfl, ?_, ?_, ?_⟩
            · (apply Eq.trans; (case h₁ => repeat (first | (with_reducible assumption) | (with_reducible exact heap_alloc_new _ _) | (with_reducible apply blk_new; (repeat (first | (with_reducible rfl) | (with_reducible apply sz_set) | (with_reducible apply sz_alloc) | (with_reducible apply sz_drew))); done) | (with_reducible apply blk_same) | (with_reducible apply blk_ne; case hn => (first | assumption | omega)) | (with_reducible apply blk_old) | (with_reducible apply blk_drew))); (case h₂ => rfl))
            · (apply Eq.trans; (case h₁ => repeat (first | (with_reducible assumption) | (with_reducible exact heap_alloc_new _ _) | (with_reducible apply blk_new; (repeat (first | (with_reducible rfl) | (with_reducible apply sz_set) | (with_reducible apply sz_alloc) | (with_reducible apply sz_drew))); done) | (with_reducible apply blk_same) | (with_reducible apply blk_ne; case hn => (first | assumption | omega)) | (with_reducible apply blk_old) | (with_reducible apply blk_drew))); (case h₂ => rfl))
            · (repeat (first | (with_reducible assumption) | (with_reducible exact Only.refl _ _) | (with_reducible refine Only.drew ?_) | (with_reducible refine Only.alloc ?_ _) | (with_reducible refine onlySetAB ?_ (by omega) _)))
        case rest =>
        obtain ⟨rfl, e1, e2, ho⟩ := hcut
        clear za0 za1 za2 za3 za4 za5 zb0 zb1 zb2 zb3 zb4 zb5 zaf zbf
        have o0 : wc.cell? ⟨(X + 2), 0, none⟩ = some (.int .i64 self) := cell_at e1 0
        have o1 : wc.cell? ⟨(X + 2), 1, none⟩ = some (.int .u64 life) := cell_at e1 1
        have o2 : wc.cell? ⟨(X + 2), 2, none⟩ = some (.int .u64 ((count : Int) + 1)) := cell_at e1 2
        have o3 : wc.cell? ⟨(X + 2), 3, none⟩ = some (.int .i64 every) := cell_at e1 3
        have o4 : wc.cell? ⟨(X + 2), 4, none⟩ = some (.int .i64 now) := cell_at e1 4
        have o5 : wc.cell? ⟨(X + 2), 5, none⟩ = some (.slice a8 M.length cap8) := cell_at e1 5
        have r0 : wc.cell? ⟨(X + 3), 0, none⟩ = some (.string (keyB self s.name)) := cell_at e2 0
        have r1 : wc.cell? ⟨(X + 3), 1, none⟩ = some (.int .u64 VER) := cell_at e2 1
        have r2 : wc.cell? ⟨(X + 3), 2, none⟩ = some (.int .i64 self) := cell_at e2 2
        have r3 : wc.cell? ⟨(X + 3), 3, none⟩ = some (.int .i64 0) := cell_at e2 3
        have r4 : wc.cell? ⟨(X + 3), 4, none⟩ = some (.bool false) := cell_at e2 4
        have r5 : wc.cell? ⟨(X + 3), 5, none⟩ = some (.string DAT) := cell_at e2 5
        go_wp2_with fail
        refine bodyPost_ret (v := .tuple #[.agg #[.int .i64 self, .int .u64 life, .int .u64 ((count : Int) + 1), .int .i64 every, .int .i64 now, .slice a8 M.length cap8], .agg #[.string (keyB self s.name), .int .u64 VER, .int .i64 self, .int .i64 0, .bool false, .string DAT], .int .i64 0]) (by simp [results, Tryd.results36, go_sem, o0, o1, o2, o3, o4, o5, r0, r1, r2, r3, r4, r5]) rfl ?_
        have hfin := HOBB.out.tr ho (fun i hi e => by omega)
        exact HYES.out _ (.slice a8 M.length cap8) HE0.out hfin (Sl.of_owns (owns_only OWNZ.out ho (fun k hk e => by omega)))
end Go.Proofs.YtianboachknfmaaDoor
