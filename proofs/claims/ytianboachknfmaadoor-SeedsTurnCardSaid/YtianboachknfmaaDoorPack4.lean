/- pack: Reader.Raw, Num, Left; Read. -/
import Derived.Test.YtianboachknfmaaDoorPack3
import Derived.Test.YtianboachknfmaaDoorByt1
import Derived.Laws.IdiomStrings
namespace Go.Proofs.YtianboachknfmaaDoor
open Go.Conc Go.RowKit

/-- A Reader: its block, what is left. -/
def RdAt (w : World) (b : Nat) (s : ByteArray) : Prop := w.heap[b]? = some (.cells #[.string s] 198 (0, 0))
theorem RdAt.kept {S : Nat → Prop} {w w' : World} {b : Nat} {s : ByteArray} (h : RdAt w b s) (ho : Only S w w') (hn : ¬ S b) : RdAt w' b s := ho.old h hn
def RPost (w w' : World) (b : Nat) (s : ByteArray) : Prop := Only (fun x => x = b) w w' ∧ RdAt w' b s

theorem left_any (w : World) (b : Nat) (s : ByteArray) (h : RdAt w b s) : Calls Tryd.prog 112 #[.pointer (some ⟨b, 0, none⟩)] w fun e w' => e = .returned (.int .i64 s.size) ∧ w = w' := by
  have hc : w.cell? ⟨b, 0, none⟩ = some (.string s) := cell_at h 0
  go_enter Tryd.func112, Tryd.ntmps112
  go_wp2_with fail
  go_ret
  exact ⟨rfl, rfl⟩

set_option maxRecDepth 100000 in
theorem rraw_ok (w : World) (b : Nat) (s : ByteArray) (n : Nat) (h : RdAt w b s) (hn : n ≤ s.size) :
    Calls Tryd.prog 95 #[.pointer (some ⟨b, 0, none⟩), .int .i64 n] w fun e w' => e = .returned (.string (s.extract 0 n)) ∧ RPost w w' b (s.extract n s.size) := by
  have hc : w.cell? ⟨b, 0, none⟩ = some (.string s) := cell_at h 0
  have hz := free_at h 0
  have q1 : decide ((n : Int) < 0) = false := by simp
  have q2 : decide ((s.size : Int) < (n : Int)) = false := by simp; omega
  have q3 : decide (s.size < n) = false := by simp; omega
  have hn2 : (n : Int) ≤ (s.size : Int) := by omega
  have HB := Lib.hid h
  clear h
  go_enter Tryd.func95, Tryd.ntmps95
  go_wp2_with fail
  go_ret
  exact ⟨rfl, (Only.refl _ _).setCell (S := fun x => x = b) (p := ⟨b, 0, none⟩) (.inr rfl) _, set_at HB.out 0 _⟩
set_option maxRecDepth 100000 in
theorem rraw_short (w : World) (b : Nat) (s : ByteArray) (n : Nat) (h : RdAt w b s) (hn : s.size < n) :
    Calls Tryd.prog 95 #[.pointer (some ⟨b, 0, none⟩), .int .i64 n] w fun e w' => e = refused 2 ∧ w = w' := by
  have hc : w.cell? ⟨b, 0, none⟩ = some (.string s) := cell_at h 0
  have q1 : decide ((n : Int) < 0) = false := by simp
  have q2 : decide ((s.size : Int) < (n : Int)) = true := by simp; omega
  have q3 : decide (s.size < n) = true := by simp; omega
  clear h
  go_enter Tryd.func95, Tryd.ntmps95
  go_wp2_with fail
  refine (refuse_any _ 2 (by decide)).mono ?_
  rintro e w' ⟨rfl, rfl⟩
  unfold refused
  go_wp2_with fail
  exact ⟨rfl, rfl, rfl⟩

/-- Bytes as a number, the greatest first. -/
def beN (l : List UInt8) (n : Nat) : Nat := l.foldl (fun n c => n * 256 + c.toNat) n
theorem beN_snoc (l : List UInt8) (n : Nat) (c : UInt8) : beN (l ++ [c]) n = beN l n * 256 + c.toNat := by simp [beN]
theorem beN_lt : ∀ (l : List UInt8), beN l 0 < 256 ^ l.length := by
  intro l
  rcases List.eq_nil_or_concat l with rfl | ⟨m, c, rfl⟩
  · decide
  · rw [List.concat_eq_append, beN_snoc, List.length_append]
    have := beN_lt m
    have hc := c.toNat_lt
    rw [show m.length + [c].length = m.length + 1 from rfl, Nat.pow_succ]
    have h2 : (beN m 0 + 1) * 256 ≤ 256 ^ m.length * 256 := Nat.mul_le_mul_right 256 this
    omega
termination_by l => l.length
theorem u64_or (a b : Nat) (ha : a < 2 ^ 56) (hb : b < 256) : bits .or .u64 ((a : Int) * 256) (b : Int) = ((a * 256 + b : Nat) : Int) := by
  have hx : a * 256 ||| b < 2 ^ 64 := Nat.or_lt_two_pow (by omega) (by omega)
  rw [show ((a : Int) * 256) = ((a * 256 : Nat) : Int) by omega]
  show IntKind.u64.wrap ((BitVec.ofInt 64 ((a * 256 : Nat) : Int) ||| BitVec.ofInt 64 (b : Int)).toNat : Int) = _
  rw [BitVec.toNat_or, BitVec.ofInt_natCast, BitVec.ofInt_natCast, BitVec.toNat_ofNat, BitVec.toNat_ofNat, Nat.mod_eq_of_lt (by omega), Nat.mod_eq_of_lt (by omega)]
  rw [show a * 256 = a <<< 8 by rw [Nat.shiftLeft_eq]] at hx ⊢
  rw [← Nat.shiftLeft_add_eq_or_of_lt (i := 8) (by omega) a, Nat.shiftLeft_eq] at hx ⊢
  exact IntWalk.u64_in _ (by omega)

set_option maxRecDepth 100000 in
set_option maxHeartbeats 1000000 in
theorem rnum_ok (w : World) (b : Nat) (s : ByteArray) (size : Nat) (h : RdAt w b s) (h1 : 1 ≤ size) (h8 : size ≤ 8) (hn : size ≤ s.size) :
    Calls Tryd.prog 96 #[.pointer (some ⟨b, 0, none⟩), .int .i64 size] w fun e w' => e = .returned (.int .u64 (beN (s.data.toList.take size) 0 : Nat)) ∧ RPost w w' b (s.extract size s.size) := by
  have s1 : (1 : Int) ≤ size := by omega
  have s2 : (size : Int) ≤ 8 := by omega
  go_enter Tryd.func96, Tryd.ntmps96
  go_wp2_with fail
  refine (rraw_ok _ b s size h hn).mono ?_
  rintro e w1 ⟨rfl, ho1, hr1⟩
  have hT : (s.extract 0 size).data.toList = s.data.toList.take size := by
    rw [ByteArray.data_extract, Array.toList_extract]
    simp
  have hTs : (s.extract 0 size).size = size := by rw [ByteArray.size_extract]; omega
  have hge := grownCap_ge w1 (s.extract 0 size).size 0 5
  have hle := grownCap_le_maxLen w1 (s.extract 0 size).size 0 5 (by unfold maxLen; omega)
  have hB := Byt.new w1 (s.extract 0 size) (grownCap w1 (s.extract 0 size).size 0 5)
  generalize s.extract 0 size = t at *
  have HT := Lib.hid hT
  have HB := Lib.hid hB
  have HO := Lib.hid ho1
  have HR := Lib.hid hr1
  have hlen : t.data.toList.length = size := hTs
  have HTS := Lib.hid hTs
  clear hB ho1 hr1 hT h hTs
  have hcv := run_bytes_of_string (P := Tryd.prog) w1 9 130 5 t Tryd.underlying9 Tryd.underlying130 Tryd.underlying5
  go_wp2_with fail
  generalize grownCap w1 t.size 0 5 = C at *
  generalize (bytesRow t C).size = N at *
  go_loopg [5, 7, 20] size (fun g v5 v7 v20 wx => ∃ j : Nat, v20 = .int .i64 j ∧ j ≤ size ∧ v5 = .int .u64 (beN (t.data.toList.take j) 0 : Nat) ∧ (w1.alloc (.cells (bytesRow t C) 5 (N, N + 1))).drew = wx ∧ g = size - j)
  case atStart => exact ⟨0, rfl, Nat.zero_le _, rfl, rfl, rfl⟩
  case round =>
    obtain ⟨j, rfl, hj, rfl, rfl, hg⟩ := hrel
    have Hg := Lib.hid hg
    clear hg
    by_cases hlt : j < size
    · have hjl : j < t.data.toList.length := by omega
      have hz := HB.out.cell (j := j) (u := .int .u8 (t.data.toList[j].toNat)) (by rw [byteVals, List.getElem?_map, List.getElem?_eq_getElem hjl]; rfl)
      have hsn : t.data.toList.take (j + 1) = t.data.toList.take j ++ [t.data.toList[j]] := by rw [List.take_succ_eq_append_getElem hjl]
      have hblt := beN_lt (t.data.toList.take j)
      have hc := t.data.toList[j].toNat_lt
      have hnx : beN (t.data.toList.take (j + 1)) 0 = beN (t.data.toList.take j) 0 * 256 + t.data.toList[j].toNat := by rw [hsn, beN_snoc]
      have hb56 : beN (t.data.toList.take j) 0 < 2 ^ 56 := by
        refine Nat.lt_of_lt_of_le hblt ?_
        rw [List.length_take]
        exact Nat.le_trans (Nat.pow_le_pow_right (by decide) (show min j t.data.toList.length ≤ 7 by omega)) (by decide)
      have hor := u64_or (beN (t.data.toList.take j) 0) (t.data.toList[j].toNat) hb56 (by omega)
      rw [← hnx] at hor
      have hnn : beN (t.data.toList.take (j + 1)) 0 < 2 ^ 64 := by rw [hnx]; omega
      generalize beN (t.data.toList.take j) 0 = x at *
      generalize hy : beN (t.data.toList.take (j + 1)) 0 = y at *
      have HY := Lib.hid hy
      clear hy
      generalize t.data.toList[j].toNat = c at *
      have hts : j < t.size := by rw [HTS.out]; exact hlt
      have hw1 : ∀ z : Int, z = (x : Int) * 256 → IntKind.u64.wrap z = (x : Int) * 256 := by
        rintro z rfl
        exact IntWalk.u64_in _ (by omega)
      have hb2 : (0 : Int) ≤ (x : Int) := by omega
      have hor2 : ∀ z : Int, z = (c : Int) → bits BinOp.or IntKind.u64 ((x : Int) * 256) z = (y : Int) := by rintro z rfl; exact hor
      clear hblt hsn hnx hb56 hnn hor
      go_wp2_with fail
      go_roundg (size - (j + 1))
      case measure => rw [Hg.out]; omega
      case rel => exact ⟨j + 1, by go_num, by omega, by rw [HY.out], rfl, rfl⟩
    · have hjs : j = size := by omega
      have HJ := Lib.hid hjs
      have hts : ¬ j < t.size := by rw [HTS.out]; exact hlt
      have q1 : decide ((j : Int) < (t.size : Int)) = false := by simp; omega
      clear hjs
      go_wp2_with fail
      go_ret
      rw [HJ.out, List.take_of_length_le (Nat.le_of_eq hlen), HT.out]
      exact ⟨rfl, (HO.out.alloc _).drew, HR.out.kept (S := fun _ => False) (((Only.refl _ _).alloc _).drew) id⟩
set_option maxRecDepth 100000 in
theorem rnum_short (w : World) (b : Nat) (s : ByteArray) (size : Nat) (h : RdAt w b s) (h1 : 1 ≤ size) (h8 : size ≤ 8) (hn : s.size < size) :
    Calls Tryd.prog 96 #[.pointer (some ⟨b, 0, none⟩), .int .i64 size] w fun e w' => e = refused 2 ∧ w = w' := by
  have s1 : (1 : Int) ≤ size := by omega
  have s2 : (size : Int) ≤ 8 := by omega
  go_enter Tryd.func96, Tryd.ntmps96
  go_wp2_with fail
  refine (rraw_short _ b s size h hn).mono ?_
  rintro e w1 ⟨rfl, rfl⟩
  unfold refused
  go_wp2_with fail
  exact ⟨rfl, rfl, rfl⟩

theorem r1_any (w : World) (fb pb b k : Nat) (cap : Array Value) (R : Ending → World → Prop) (he : ∀ args w, (callFunc k args).run Tryd.prog w = .ok (.enter k args) w)
    (hf : w.heap[fb]? = some (.cells #[.func (.func k) #[] cap] 181 (0, 0))) (hp : w.heap[pb]? = some (.cells #[.pointer (some ⟨b, 0, none⟩)] 178 (0, 0)))
    (h : Calls Tryd.prog k (#[.pointer (some ⟨b, 0, none⟩)] ++ cap) w R) (hR : ∀ e w', R e w' → e = .returned (.tuple #[]) ∨ ∃ n, e = refused n) :
    Calls Tryd.prog 116 #[.pointer (some ⟨fb, 0, none⟩), .pointer (some ⟨pb, 0, none⟩)] w R := by
  have c1 : w.cell? ⟨fb, 0, none⟩ = some (.func (.func k) #[] cap) := cell_at hf 0
  have c2 : w.cell? ⟨pb, 0, none⟩ = some (.pointer (some ⟨b, 0, none⟩)) := cell_at hp 0
  go_enter Tryd.func116, Tryd.ntmps116
  go_wp2_with fail
  refine h.mono ?_
  intro e w' hr
  rcases hR e w' hr with rfl | ⟨n, rfl⟩
  · have HR := Lib.hid hr
    clear hr
    go_wp2_with fail
    go_end0
    exact HR.out
  · have HR := Lib.hid hr
    clear hr
    unfold refused at HR ⊢
    go_wp2_with fail
    exact ⟨rfl, HR.out⟩
set_option maxRecDepth 100000 in
set_option maxHeartbeats 1000000 in
/-- Read: a call that returns. T: the blocks that it may have written besides. -/
theorem read_ok (w : World) (s : ByteArray) (k : Nat) (cap : Array Value) (T : Nat → Prop) (rest : ByteArray) (X : World → Prop) (he : ∀ args w, (callFunc k args).run Tryd.prog w = .ok (.enter k args) w)
    (hX : ∀ a c, X a → Only (fun x => w.heap.size ≤ x) a c → X c)
    (h : ∀ (w1 : World) (b : Nat), Only (fun _ => False) w w1 → RdAt w1 b s → w.heap.size ≤ b → Calls Tryd.prog k (#[.pointer (some ⟨b, 0, none⟩)] ++ cap) w1 fun e w' => e = .returned (.tuple #[]) ∧ Only (fun x => x = b ∨ (T x ∧ x < w.heap.size)) w1 w' ∧ RdAt w' b rest ∧ X w') :
    Calls Tryd.prog 93 #[.string s, .func (.func k) #[] cap] w fun e w' => e = .returned (.int .i64 (if rest.size = 0 then 0 else 3)) ∧ Only T w w' ∧ X w' := by
  have hmf : ∀ (fn : Fn) (first cap : Array Value) (w : World), (Instr.makeFunc fn first cap).run Tryd.prog w = .ok (.func fn first cap) w := fun _ _ _ _ => rfl
  obtain ⟨z, hz⟩ : ∃ z : Int, z = if rest.size = 0 then 0 else 3 := ⟨_, rfl⟩
  rw [← hz]
  have Hz := Lib.hid hz
  clear hz
  have H := Lib.hid h
  have HE := Lib.hid he
  have HX := Lib.hid hX
  clear h he hX
  go_enter Tryd.func93, Tryd.ntmps93
  go_wp2_with fail
  obtain ⟨W, hW⟩ : ∃ W, W = (((w.alloc (.cells #[.func (.func k) #[] cap] 181)).alloc (.cells #[.string s] 198)).alloc (.cells #[.pointer (some ⟨w.heap.size + 1, 0, none⟩)] 178)) := ⟨_, rfl⟩
  rw [← hW]
  obtain ⟨W1, hW1⟩ : ∃ W1, W1 = W.alloc (.cells #[.int .i64 0] 25) := ⟨_, rfl⟩
  obtain ⟨z0, z1, z2, z3, z4, z5⟩ := write_blocks w _ _ _ W W1 hW _ hW1
  have hcall := H.out W1 (w.heap.size + 1) z5 z2 (by omega)
  have hw1 := r1_any W1 w.heap.size (w.heap.size + 1 + 1) (w.heap.size + 1) k cap _ HE.out z1 z3 hcall (fun e w' h => .inl h.1)
  rw [hW1] at hw1
  refine (run_ok W 116 _ _ (fun _ _ => by go_simp) hw1 (fun w' h => ?_)).mono ?_
  · obtain ⟨h1, _⟩ := h
    rw [← hW1] at h1
    exact h1.old z4 (by omega)
  rintro e wz ⟨rfl, w2, ⟨h1, h2, h3⟩, h4⟩
  rw [← hW1] at h1
  have hz3 : wz.heap[w.heap.size + 1 + 1]? = _ := h4.old (h1.old z3 (by omega)) (by omega)
  have hwz := h2.kept h4 (by omega)
  have hc : wz.cell? ⟨w.heap.size + 1 + 1, 0, none⟩ = some (.pointer (some ⟨w.heap.size + 1, 0, none⟩)) := cell_at hz3 0
  have hc2 : wz.cell? ⟨w.heap.size + 1, 0, none⟩ = some (.string rest) := cell_at hwz 0
  have ho : Only T w wz := ((z5.weaken (fun _ _ h => h.elim)).tr h1 (fun i hi e => by rcases e with e | e; omega; exact e.1)).tr h4 (fun i hi e => by omega)
  have hx := HX.out _ _ h3 (h4.weaken (fun i _ e => by omega))
  have HXX := Lib.hid hx
  have HO := Lib.hid ho
  clear z0 z1 z2 z3 z4 z5 hcall hw1 h1 h2 h3 h4 hz3 hwz ho hx hW hW1
  by_cases hr : rest.size = 0
  · have e0 := empty_true hr
    have e1 : (!rest.toList.isEmpty) = false := by rw [e0]; rfl
    have HR := Lib.hid hr
    clear hr
    go_wp2_with fail
    go_ret
    exact ⟨ret_int (by rw [Hz.out, if_pos HR.out]), HO.out, HXX.out⟩
  · have e0 := empty_false hr
    have e1 : (!rest.toList.isEmpty) = true := by rw [e0]; rfl
    have HR := Lib.hid hr
    clear hr
    go_wp2_with fail
    go_ret
    exact ⟨ret_int (by rw [Hz.out, if_neg HR.out]), HO.out, HXX.out⟩
set_option maxRecDepth 100000 in
set_option maxHeartbeats 1000000 in
/-- Read: a call that is refused. -/
theorem read_no (w : World) (s : ByteArray) (k : Nat) (cap : Array Value) (T : Nat → Prop) (n : Int) (hn : n ≠ 0) (X : World → Prop) (he : ∀ args w, (callFunc k args).run Tryd.prog w = .ok (.enter k args) w)
    (hX : ∀ a c, X a → Only (fun x => w.heap.size ≤ x) a c → X c)
    (h : ∀ (w1 : World) (b : Nat), Only (fun _ => False) w w1 → RdAt w1 b s → w.heap.size ≤ b → Calls Tryd.prog k (#[.pointer (some ⟨b, 0, none⟩)] ++ cap) w1 fun e w' => e = refused n ∧ Only (fun x => x = b ∨ (T x ∧ x < w.heap.size)) w1 w' ∧ X w') :
    Calls Tryd.prog 93 #[.string s, .func (.func k) #[] cap] w fun e w' => e = .returned (.int .i64 n) ∧ Only T w w' ∧ X w' := by
  have hmf : ∀ (fn : Fn) (first cap : Array Value) (w : World), (Instr.makeFunc fn first cap).run Tryd.prog w = .ok (.func fn first cap) w := fun _ _ _ _ => rfl
  have hn0 : (n != 0) = true := by simp; exact hn
  have H := Lib.hid h
  have HE := Lib.hid he
  have HX := Lib.hid hX
  clear h he hX
  go_enter Tryd.func93, Tryd.ntmps93
  go_wp2_with fail
  obtain ⟨W, hW⟩ : ∃ W, W = (((w.alloc (.cells #[.func (.func k) #[] cap] 181)).alloc (.cells #[.string s] 198)).alloc (.cells #[.pointer (some ⟨w.heap.size + 1, 0, none⟩)] 178)) := ⟨_, rfl⟩
  rw [← hW]
  obtain ⟨W1, hW1⟩ : ∃ W1, W1 = W.alloc (.cells #[.int .i64 0] 25) := ⟨_, rfl⟩
  obtain ⟨z0, z1, z2, z3, z4, z5⟩ := write_blocks w _ _ _ W W1 hW _ hW1
  have hcall := H.out W1 (w.heap.size + 1) z5 z2 (by omega)
  have hw1 := r1_any W1 w.heap.size (w.heap.size + 1 + 1) (w.heap.size + 1) k cap _ HE.out z1 z3 hcall (fun e w' h => .inr ⟨n, h.1⟩)
  rw [hW1] at hw1
  refine (run_no W 116 _ n _ (fun _ _ => by go_simp) hw1 (fun w' h => ?_)).mono ?_
  · obtain ⟨h1, _⟩ := h
    rw [← hW1] at h1
    exact h1.old z4 (by omega)
  rintro e wz ⟨rfl, w2, ⟨h1, h3⟩, h4⟩
  rw [← hW1] at h1
  have ho : Only T w wz := ((z5.weaken (fun _ _ h => h.elim)).tr h1 (fun i hi e => by rcases e with e | e; omega; exact e.1)).tr h4 (fun i hi e => by omega)
  have hx := HX.out _ _ h3 (h4.weaken (fun i _ e => by omega))
  have HXX := Lib.hid hx
  have HO := Lib.hid ho
  clear z0 z1 z2 z3 z4 z5 hcall hw1 h1 h3 h4 ho hx hW hW1
  go_wp2_with fail
  go_ret
  exact ⟨rfl, HO.out, HXX.out⟩
end Go.Proofs.YtianboachknfmaaDoor
