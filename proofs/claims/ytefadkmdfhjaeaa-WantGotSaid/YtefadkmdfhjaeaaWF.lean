/- What has been picked, what is left: the reference's way, plainly. -/
import Derived.Test.YtefadkmdfhjaeaaWA
import Derived.Deep.CutBlock
import Derived.Test.YtefadkmdfhjaeaaWB
/-! The reference's entries in memory. -/
namespace Go.Proofs.Ytefadkmdfhjaeaa
open Go.Conc Go.RowKit

/-- An entry of the reference's: its key, its version, who has it, when it is due; where that list lies. -/
structure EntR where
  key : ByteArray
  ver : Nat
  has : List Int
  due : Int
  a : Option Addr
  cap : Nat
def EntR.s (e : EntR) : Value := .slice e.a e.has.length e.cap
def entRC (e : EntR) : List Value := [.string e.key, .int .u64 e.ver, e.s, .int .i64 e.due]
theorem entRC_length (e : EntR) : (entRC e).length = 4 := rfl
theorem entRC_one (e : EntR) : ∀ u ∈ entRC e, u.oneCell' = true := by
  intro u hu
  simp only [entRC, List.mem_cons, List.not_mem_nil, or_false] at hu
  rcases hu with rfl | rfl | rfl | rfl <;> rfl
def entRV (e : EntR) : Value := .agg #[.string e.key, .int .u64 e.ver, e.s, .int .i64 e.due]
/-- A slice in memory that is only read, in blocks from B on. -/
structure SlB (w : World) (B size : Nat) (v : Value) (n : Nat) (xs : List Value) : Prop where
  sl : Sl w size v n xs
  own : ∀ g, v.ownBlock = some g → B ≤ g
section
variable {w w' : World} {B size n : Nat} {v : Value} {xs : List Value}
theorem SlB.kept {S : Nat → Prop} (h : SlB w B size v n xs) (ho : Only S w w') (hS : ∀ k, S k → k < B) : SlB w' B size v n xs := by
  refine ⟨?_, h.own⟩
  obtain ⟨h1, a, cap, rfl, h3, h4, h5⟩ := h.sl
  refine ⟨h1, a, cap, rfl, h3, h4, ?_⟩
  rcases h5 with h5 | ⟨b, off, rfl, h6⟩
  · exact .inl h5
  · exact .inr ⟨b, off, rfl, fun j u hu => ho.cell (h6 j u hu) (fun e => by
      have h7 := hS b e
      have h8 := h.own b rfl
      omega)⟩
theorem SlB.keptN {S : Nat → Prop} (h : SlB w B size v n xs) (ho : Only S w w') (hS : ∀ g, v.ownBlock = some g → ¬ S g) : SlB w' B size v n xs := by
  refine ⟨?_, h.own⟩
  obtain ⟨h1, a, cap, rfl, h3, h4, h5⟩ := h.sl
  refine ⟨h1, a, cap, rfl, h3, h4, ?_⟩
  rcases h5 with h5 | ⟨b, off, rfl, h6⟩
  · exact .inl h5
  · exact .inr ⟨b, off, rfl, fun j u hu => ho.cell (h6 j u hu) (hS b rfl)⟩
theorem SlB.new (h : SlB w B size v n xs) (ho : Only (fun _ => False) w w') : SlB w' B size v n xs := h.kept ho (fun _ => False.elim)
theorem SlB.of_owns {base : Nat} {e : TypeId} (h : w.ownsRow base e size v n xs) (hB : B ≤ base) : SlB w B size v n xs := ⟨Sl.of_owns h, fun g hg => Nat.le_trans hB (h.lt g hg).1⟩
theorem SlB.nil (w : World) (B size : Nat) : SlB w B size (.slice none 0 0) 0 [] := ⟨Sl.nil w size, fun g hg => by cases hg⟩
end
/-- The reference's entries. -/
structure REnts (w : World) (B : Nat) (v : Value) (R : List EntR) : Prop where
  row : SlB w B 4 v R.length (R.flatMap entRC)
  has : ∀ e ∈ R, SlB w B 1 e.s e.has.length (rowI e.has)
theorem REnts.kept {S : Nat → Prop} {w w' : World} {B : Nat} {v : Value} {R : List EntR} (h : REnts w B v R) (ho : Only S w w') (hS : ∀ k, S k → k < B) : REnts w' B v R := ⟨h.row.kept ho hS, fun e he => (h.has e he).kept ho hS⟩
theorem REnts.new {w w' : World} {B : Nat} {v : Value} {R : List EntR} (h : REnts w B v R) (ho : Only (fun _ => False) w w') : REnts w' B v R := ⟨h.row.new ho, fun e he => (h.has e he).new ho⟩
theorem REnts.nil (w : World) (B : Nat) : REnts w B (.slice none 0 0) [] := ⟨SlB.nil w B 4, fun e he => by cases he⟩
abbrev rwV (wait : Int) (v : Value) : Value := .agg #[.int .i64 wait, v]
theorem infoREnt : (Try.prog.info? 85).map (fun i => (i.zero, i.size, i.bytes)) = some (some (.agg #[.string ⟨#[]⟩, .int .u64 0, .slice none 0 0, .int .i64 0]), 4, 56) := by kernel_rfl
/-- Where a key is. -/
def findR (R : List EntR) (k : ByteArray) : Option Nat := R.findIdx? (fun e => decide (e.key = k))
def findRI (R : List EntR) (k : ByteArray) : Int := match findR R k with | some i => (i : Int) | none => -1
theorem findR_none {R : List EntR} {k : ByteArray} (h : findR R k = none) : ∀ e ∈ R, e.key ≠ k := by
  unfold findR at h
  rw [List.findIdx?_eq_none_iff] at h
  intro e he
  simpa using h e he
theorem findR_some {R : List EntR} {k : ByteArray} {i : Nat} (h : findR R k = some i) : ∃ hi : i < R.length, R[i].key = k := by
  unfold findR at h
  rw [List.findIdx?_eq_some_iff_getElem] at h
  obtain ⟨hi, h1, _⟩ := h
  exact ⟨hi, by simpa using h1⟩
theorem findR_at {R : List EntR} {k : ByteArray} {i : Nat} (hi : i < R.length) (hk : R[i].key = k) (hn : ∀ j (hj : j < i), (R[j]'(by omega)).key ≠ k) : findR R k = some i := by
  unfold findR
  rw [List.findIdx?_eq_some_iff_getElem]
  exact ⟨hi, by simpa using hk, fun j hj => by simpa using hn j hj⟩
theorem findR_no {R : List EntR} {k : ByteArray} (hn : ∀ e ∈ R, e.key ≠ k) : findR R k = none := by
  unfold findR
  rw [List.findIdx?_eq_none_iff]
  intro e he
  simpa using hn e he
end Go.Proofs.Ytefadkmdfhjaeaa
/-! bellhopref18: find, later; bellhopref03: Has. -/
namespace Go.Proofs.Ytefadkmdfhjaeaa
open Go.Conc Go.RowKit

set_option maxRecDepth 100000 in
theorem rhas03_any (w : World) (v : Value) (l : List Int) (h : Sl w 1 v l.length (rowI l)) (x : Int) :
    Calls Try.prog 33 #[v, .int .i64 x] w fun e w' => e = .returned (.bool (decide (x ∈ l))) ∧ w = w' := by
  obtain ⟨_, a, cap, rfl, _, _, _⟩ := id h
  obtain ⟨_, h1, h2, h3⟩ := h.intsAt
  unfold maxLen at h2
  have HC := Lib.hid h3
  clear h3
  clear h
  go_enter Try.func33, Try.ntmps33
  go_wp2_with fail
  go_loopg [5] l.length (fun g v5 wr => ∃ k : Nat, v5 = .int .i64 k ∧ k ≤ l.length ∧ w = wr ∧ x ∉ l.take k ∧ g = l.length - k)
  case atStart => exact ⟨0, rfl, Nat.zero_le _, rfl, by simp, rfl⟩
  case round =>
    obtain ⟨k, rfl, hk, rfl, hno, hg⟩ := hrel
    have Hg := Lib.hid hg
    have HNO := Lib.hid hno
    clear hg hno
    by_cases hlt : k < l.length
    · obtain ⟨b, off, rfl, hc⟩ := HC.out.at k hlt
      have hlt' : (k : Int) < (l.length : Int) := by omega
      have HTK := Lib.hid (show (x ∈ l.take (k + 1)) ↔ (x ∈ l.take k ∨ l[k] = x) by rw [List.take_add_one, List.getElem?_eq_getElem hlt, Option.toList_some, List.mem_append, List.mem_singleton]; exact or_congr Iff.rfl eq_comm)
      have HM := Lib.hid (show l[k] ∈ l from List.getElem_mem hlt)
      generalize l[k] = y at *
      by_cases hy : y = x
      · subst hy
        have HV := Lib.hid (show decide (y ∈ l) = true from decide_eq_true HM.out)
        go_wp2_with fail
        go_ret
        exact ⟨by rw [HV.out]; rfl, rfl⟩
      · have HV := Lib.hid (show x ∉ l.take (k + 1) from fun e => (HTK.out.1 e).elim HNO.out hy)
        go_wp2_with fail
        go_roundg (l.length - (k + 1))
        case measure => rw [Hg.out]; omega
        case rel => exact ⟨k + 1, by go_num, by omega, rfl, HV.out, rfl⟩
    · have hlt' : ¬ (k : Int) < (l.length : Int) := by omega
      have hn := HNO.out
      rw [List.take_of_length_le (by omega)] at hn
      have HV := Lib.hid (show decide (x ∈ l) = false from decide_eq_false hn)
      clear hn hk hlt
      go_wp2_with fail
      go_ret
      exact ⟨by rw [HV.out]; rfl, rfl⟩
set_option maxRecDepth 100000 in
theorem rlater_any (w : World) (wait : Int) (v : Value) (now : Int) (hw0 : 0 ≤ wait) (hw1 : wait ≤ 1000) (hnow : -9223372036854775808 ≤ now) :
    Calls Try.prog 31 #[rwV wait v, .int .i64 now] w fun e w' => e = .returned (.int .i64 (min now 4611686018427387904 + wait)) ∧ Only (fun _ => False) w w' := by
  unfold rwV
  by_cases h : now > 4611686018427387904
  · have h2 : min now 4611686018427387904 = 4611686018427387904 := by omega
    have h3 : IntKind.i64.wrap (4611686018427387904 + wait) = 4611686018427387904 + wait := by rw [IntKind.wrap_i64]; omega
    rw [h2]
    go_enter Try.func31, Try.ntmps31
    go_wp2_with fail
    go_ret
    exact ⟨rfl, (Only.refl _ _).alloc _⟩
  · have h2 : min now 4611686018427387904 = now := by omega
    have h3 : IntKind.i64.wrap (now + wait) = now + wait := by rw [IntKind.wrap_i64]; omega
    rw [h2]
    go_enter Try.func31, Try.ntmps31
    go_wp2_with fail
    go_ret
    exact ⟨rfl, (Only.refl _ _).alloc _⟩
set_option maxRecDepth 100000 in
theorem rfind18_any (w : World) (B : Nat) (wait : Int) (v : Value) (R : List EntR) (h : REnts w B v R) (key : ByteArray) :
    Calls Try.prog 27 #[rwV wait v, .string key] w fun e w' => e = .returned (.int .i64 (findRI R key)) ∧ Only (fun _ => False) w w' := by
  obtain ⟨a, cap, rfl, h1, h2, h3⟩ := Sl.cells entRC_length h.row.sl
  unfold maxLen at h2
  unfold rwV
  obtain ⟨W, hW⟩ : ∃ W, W = w.alloc (.cells #[.int .i64 wait, .slice a R.length cap] 43) := ⟨_, rfl⟩
  have hbW : W.heap[w.heap.size]? = some (.cells #[.int .i64 wait, .slice a R.length cap] 43 (0, 0)) := by rw [hW]; exact heap_alloc_new w _
  have hoW : Only (fun _ => False) w W := by rw [hW]; exact (Only.refl _ _).alloc _
  have hsW : W.heap.size = w.heap.size + 1 := by rw [hW]; simp
  have x1 : W.cell? ⟨w.heap.size, 1, none⟩ = some (.slice a R.length cap) := cell_at hbW 1
  have hc3 := h3.new hoW (fun _ _ _ => id)
  have HW := Lib.hid hW
  have HC := Lib.hid hc3
  have HO := Lib.hid hoW
  clear hc3 hoW
  clear h h3 hbW hsW hW
  go_enter Try.func27, Try.ntmps27
  go_upto_region 1 with (fail)
  rw [← HW.out]
  go_wp2_with fail
  go_loopg [5] R.length (fun g v5 wr => ∃ k : Nat, v5 = .int .i64 k ∧ k ≤ R.length ∧ W = wr ∧ (∀ j (hj : j < R.length), j < k → R[j].key ≠ key) ∧ g = R.length - k)
  case atStart => exact ⟨0, rfl, Nat.zero_le _, rfl, fun j _ h => absurd h (by omega), rfl⟩
  case round =>
    obtain ⟨k, rfl, hk, rfl, hno, hg⟩ := hrel
    have Hg := Lib.hid hg
    have HNO := Lib.hid hno
    clear hg hno
    by_cases hlt : k < R.length
    · obtain ⟨b, off, rfl, hc⟩ := HC.out.at k hlt
      have hlt' : (k : Int) < (R.length : Int) := by omega
      have p0 := hc 0 _ rfl
      simp only [Nat.add_zero] at p0
      have HF := Lib.hid (fun h : R[k].key = key => findR_at hlt h (fun j hj => HNO.out j (by omega) hj))
      have HN := Lib.hid (fun h : R[k].key ≠ key => show ∀ j (hj : j < R.length), j < k + 1 → R[j].key ≠ key from fun j hj hjk => by
        by_cases e : j = k
        · subst e; exact h
        · exact HNO.out j hj (by omega))
      clear hc
      generalize R[k].key = kx at *
      by_cases hx : kx = key
      · have hxb := str_eq hx
        have HV := Lib.hid (show findRI R key = (k : Int) by unfold findRI; rw [HF.out hx])
        clear hx
        go_wp2_with fail
        go_ret
        exact ⟨by rw [HV.out]; rfl, HO.out⟩
      · have hxb := str_ne hx
        have HV := Lib.hid (HN.out hx)
        clear hx
        go_wp2_with fail
        go_roundg (R.length - (k + 1))
        case measure => rw [Hg.out]; omega
        case rel => exact ⟨k + 1, by go_num, by omega, rfl, HV.out, rfl⟩
    · have hlt' : ¬ (k : Int) < (R.length : Int) := by omega
      have HV := Lib.hid (show findRI R key = -1 by
        unfold findRI
        rw [findR_no (fun e he => by
          obtain ⟨j, hj, rfl⟩ := List.mem_iff_getElem.1 he
          exact HNO.out j hj (by omega))])
      clear hk hlt
      go_wp2_with fail
      go_ret
      exact ⟨by rw [HV.out]; rfl, HO.out⟩
end Go.Proofs.Ytefadkmdfhjaeaa
/-! bellhopref18: put. -/
namespace Go.Proofs.Ytefadkmdfhjaeaa
open Go.Conc Go.RowKit

/-- A reference's Want is handed back. -/
structure RWRes (w w' : World) (B : Nat) (wait : Int) (R : List EntR) (e : Ending) : Prop where
  out : ∃ v', e = .returned (rwV wait v') ∧ REnts w' B v' R ∧ Only (fun _ => False) w w' ∧ ∀ g, v'.ownBlock = some g → w.heap.size ≤ g ∧ g < w'.heap.size
set_option maxRecDepth 100000 in
set_option maxHeartbeats 2000000 in
theorem rput18_any (w : World) (B : Nat) (wait : Int) (v : Value) (R : List EntR) (h : REnts w B v R) (hB : B ≤ w.heap.size) (hR : R.length ≤ 1000) (i : Nat) (hi : i < R.length) (x : EntR) (hx : SlB w B 1 x.s x.has.length (rowI x.has)) :
    Calls Try.prog 32 #[rwV wait v, .int .i64 i, entRV x] w fun e w' => RWRes w w' B wait (R.set i x) e := by
  obtain ⟨i0, hi0, iz0, iz1, iz2⟩ := info_parts infoREnt
  obtain ⟨a, cap, rfl, h1, h2, h3⟩ := Sl.cells entRC_length h.row.sl
  unfold maxLen at h2
  have HRP := Lib.hid (show ∀ w' e, (∃ v', e = .returned (rwV wait v') ∧ REnts w' B v' (R.set i x) ∧ Only (fun _ => False) w w' ∧ ∀ g, v'.ownBlock = some g → w.heap.size ≤ g ∧ g < w'.heap.size) → RWRes w w' B wait (R.set i x) e from fun _ _ h => ⟨h⟩)
  have HHAS := Lib.hid (show ∀ w', Only (fun _ => False) w w' → ∀ e ∈ R.set i x, SlB w' B 1 e.s e.has.length (rowI e.has) from fun w' ho e he => by
    rcases List.mem_or_eq_of_mem_set he with he | rfl
    · exact (h.has e he).new ho
    · exact hx.new ho)
  have HSL := Lib.hid h.row.sl
  unfold rwV entRV EntR.s
  obtain ⟨W, hW⟩ : ∃ W, W = w.alloc (.cells #[.int .i64 wait, .slice a R.length cap] 43) := ⟨_, rfl⟩
  have hbW : W.heap[w.heap.size]? = some (.cells #[.int .i64 wait, .slice a R.length cap] 43 (0, 0)) := by rw [hW]; exact heap_alloc_new w _
  have hoW : Only (fun _ => False) w W := by rw [hW]; exact (Only.refl _ _).alloc _
  have hsW : W.heap.size = w.heap.size + 1 := by rw [hW]; simp
  obtain ⟨W1, hW1⟩ : ∃ W1, W1 = W.alloc (.cells #[.string x.key, .int .u64 x.ver, .slice x.a x.has.length x.cap, .int .i64 x.due] 85) := ⟨_, rfl⟩
  have hbW1 : W1.heap[W.heap.size]? = some (.cells #[.string x.key, .int .u64 x.ver, .slice x.a x.has.length x.cap, .int .i64 x.due] 85 (0, 0)) := by rw [hW1]; exact heap_alloc_new W _
  have hoW1 : Only (fun _ => False) W W1 := by rw [hW1]; exact (Only.refl _ _).alloc _
  have hsW1 : W1.heap.size = W.heap.size + 1 := by rw [hW1]; simp
  obtain ⟨W2, hW2⟩ : ∃ W2, W2 = W1.alloc (.cells #[.int .i64 0, .slice none 0 0] 43) := ⟨_, rfl⟩
  have hbW2 : W2.heap[W1.heap.size]? = some (.cells #[.int .i64 0, .slice none 0 0] 43 (0, 0)) := by rw [hW2]; exact heap_alloc_new W1 _
  have hoW2 : Only (fun _ => False) W1 W2 := by rw [hW2]; exact (Only.refl _ _).alloc _
  have hsW2 : W2.heap.size = W1.heap.size + 1 := by rw [hW2]; simp
  have hb0 := hoW2.old (hoW1.old hbW id) id
  have hb1 := hoW2.old hbW1 id
  have hoA := (hoW.trans hoW1).trans hoW2
  have hsX : W.heap.size = w.heap.size + 1 ∧ W1.heap.size = w.heap.size + 2 ∧ W2.heap.size = w.heap.size + 3 := by omega
  rw [hsX.1] at hb1
  rw [hsX.2.1] at hbW2
  have hs5 := HSL.out.new hoA
  have H0 := Lib.hid hb0
  have H1 := Lib.hid hb1
  have H2 := Lib.hid hbW2
  have HOA := Lib.hid hoA
  have HSX := Lib.hid hsX
  have HS5 := Lib.hid hs5
  clear hb0 hb1 hbW2 hoA hsX hs5
  clear hbW hbW1 hoW hoW1 hoW2 hsW hsW1 hsW2 h hx h3
  go_enter Try.func32, Try.ntmps32
  go_upto_region 1 with (fail)
  rw [← hW, ← hW1, ← hW2]
  clear hW hW1 hW2
  generalize hX : w.heap.size = X at *
  have hxl2 : X + 2 < W2.heap.size := lt_of_block H2.out
  have hxl : X < W2.heap.size := by omega
  have hxl1 : X + 1 < W2.heap.size := by omega
  have x1 : W2.cell? ⟨X, 1, none⟩ = some (.slice a R.length cap) := cell_at H0.out 1
  have HXW := Lib.hid hX
  clear hX
  go_wp2_with (at_builtin; refine Wait.mk ?_)
  refine Wait.go (wpList_append_src _ rfl (.tmp 7) (.tmp 9) 41 41 rfl W2.heap.size 85 i0 _ 4 56 Try.underlying41 hi0 iz0 iz1 iz2 rfl (.slice (some ⟨W2.heap.size, 0, none⟩) 0 0) 0 [] rfl (own_at (heap_alloc_new W2 _) _ _ (Nat.le_refl _)) _ R.length (R.flatMap entRC) rfl ?src4 ?m4 ?b4 ?base4 ?_)
  case src4 => exact (HS5.out.new ((Only.refl _ _).alloc _)).src Try.underlying41 (fl_one entRC_one R)
  case m4 => unfold maxLen; omega
  case b4 => omega
  case base4 => simp
  intro v6 w6 own6 gr6 _
  simp only [Nat.zero_add, List.nil_append] at own6
  have hne : R.flatMap entRC ≠ [] := fun e => by have := congrArg List.length e; rw [fl_length entRC_length] at this; simp at this; omega
  obtain ⟨g, cap6, cur, rfl, hg, hgb, hgc, hcm, hcs, ht⟩ := row_form own6 hne
  have ho6 : Only (fun _ => False) W2 w6 := ((Only.refl _ _).alloc _).own (own_at (heap_alloc_new W2 _) W2.heap.size 4 (Nat.le_refl _)) (Nat.le_refl _) gr6
  have hb0 := ho6.old H0.out id
  have hb1 := ho6.old H1.out id
  have hb2 := ho6.old H2.out id
  have hoE := HOA.out.trans ho6
  clear x1
  have x1 : w6.cell? ⟨X, 1, none⟩ = some (.slice a R.length cap) := cell_at hb0 1
  have xf : ∀ i, w6.frozen? ⟨X, i, none⟩ = false := free_at hb0
  unfold maxLen at hcm
  have H06 := Lib.hid hb0
  have H16 := Lib.hid hb1
  have H26 := Lib.hid hb2
  have HOE := Lib.hid hoE
  have HOWN := Lib.hid own6
  clear hb0 hb1 hb2 hoE own6
  clear ho6 gr6 hgb hcs ht hne
  go_upto_region 2 with (fail)
  obtain ⟨w7, hw7⟩ : ∃ w7, w7 = w6.setCell ⟨X, 1, none⟩ (.slice (some ⟨g, 0, none⟩) R.length cap6) := ⟨_, rfl⟩
  have t7 : Only (fun i => i = X) w6 w7 := by rw [hw7]; exact (Only.refl _ _).setCell (S := fun i => i = X) (p := ⟨X, 1, none⟩) (.inr rfl) _
  have hb0 : w7.heap[X]? = some (.cells #[.int .i64 wait, .slice (some ⟨g, 0, none⟩) R.length cap6] 43 (0, 0)) := by rw [hw7]; exact set_at H06.out 1 _
  have hb1 := t7.old H16.out (by omega)
  have hb2 := t7.old H26.out (by omega)
  have own7 := owns_only HOWN.out t7 (fun k hk e => by omega)
  rw [← hw7]
  clear hw7 x1 xf
  have x1 : w7.cell? ⟨X, 1, none⟩ = some (.slice (some ⟨g, 0, none⟩) R.length cap6) := cell_at hb0 1
  have y0 : w7.cell? ⟨(X + 1), 0, none⟩ = some (.string x.key) := cell_at hb1 0
  have y1 : w7.cell? ⟨(X + 1), 1, none⟩ = some (.int .u64 x.ver) := cell_at hb1 1
  have y2 : w7.cell? ⟨(X + 1), 2, none⟩ = some (.slice x.a x.has.length x.cap) := cell_at hb1 2
  have y3 : w7.cell? ⟨(X + 1), 3, none⟩ = some (.int .i64 x.due) := cell_at hb1 3
  obtain ⟨cur7, hg7, _⟩ := row_block own7
  have gf : ∀ i, w7.frozen? ⟨g, i, none⟩ = false := free_at hg7
  have gc : ∀ k u, (entRC R[i])[k]? = some u → w7.cell? ⟨g, i * 4 + k, none⟩ = some u := fun k u hu => by
    have h6 : k < 4 := (List.getElem?_eq_some_iff.1 hu).1
    have := own7.cells (g := g) rfl (i * 4 + k) u (by rw [fl_get entRC_length R i hi k h6]; exact hu)
    simpa [Addr.add_lit] using this
  have g0 := gc 0 _ rfl
  have g1 := gc 1 _ rfl
  have g2 := gc 2 _ rfl
  have g3 := gc 3 _ rfl
  simp only [Nat.add_zero] at g0
  have hi1 : (0 : Int) ≤ (i : Int) ∧ (i : Int) < (R.length : Int) := by omega
  obtain ⟨hi2, hi3⟩ := hi1
  have H07 := Lib.hid hb0
  have H17 := Lib.hid hb1
  have H27 := Lib.hid hb2
  have HOWN7 := Lib.hid own7
  have HG7 := Lib.hid hg7
  clear hb0 hb1 hb2 own7 hg7
  clear gc
  go_upto_region 3 with (fail)
  obtain ⟨w8, hw8⟩ : ∃ w8, w8 = ((((w7.setCell ⟨g, i * 4, none⟩ (.string x.key)).setCell ⟨g, i * 4 + 1, none⟩ (.int .u64 x.ver)).setCell ⟨g, i * 4 + 2, none⟩ (.slice x.a x.has.length x.cap)).setCell ⟨g, i * 4 + 3, none⟩ (.int .i64 x.due)) := ⟨_, rfl⟩
  have e8 : w8 = w7.setCells g (i * 4) (entRC x) := hw8.trans rfl
  have own8 := row_over HOWN7.out (i * 4) (entRC x) (by rw [entRC_length]; omega)
  rw [← e8, fl_set entRC_length R i hi x] at own8
  have t8 : Only (fun i => i = g) w7 w8 := by rw [e8]; exact setCells_only g _ _ _
  rw [← hw8]
  clear hw8 e8 x1 y0 y1 y2 y3 g0 g1 g2 g3 gf
  have hb0 := t8.old H07.out (by omega)
  have hb2 := t8.old H27.out (by omega)
  have H08 := Lib.hid hb0
  have H28 := Lib.hid hb2
  have T7 := Lib.hid t7
  have T8 := Lib.hid t8
  have HOWN8 := Lib.hid own8
  clear hb0 hb2 t7 t8 own8
  have x0 : w8.cell? ⟨X, 0, none⟩ = some (.int .i64 wait) := cell_at H08.out 0
  have x1 : w8.cell? ⟨X, 1, none⟩ = some (.slice (some ⟨g, 0, none⟩) R.length cap6) := cell_at H08.out 1
  have zf : ∀ i, w8.frozen? ⟨X + 2, i, none⟩ = false := free_at H28.out
  have z0 : w8.cell? ⟨(X + 2), 0, none⟩ = some (.int .i64 0) := cell_at H28.out 0
  have z1 : w8.cell? ⟨(X + 2), 1, none⟩ = some (.slice none 0 0) := cell_at H28.out 1
  have hn1 : ¬ X + 2 = X := by omega
  have hn2 : ¬ X = X + 2 := by omega
  go_wp2_with fail
  clear x0 x1 z0 z1 zf
  obtain ⟨s1, s2⟩ := lit_set H28.out [.int .i64 wait, .slice (some ⟨g, 0, none⟩) R.length cap6] rfl
  rw [show World.setCells w8 (X + 2) 0 [.int .i64 wait, .slice (some ⟨g, 0, none⟩) R.length cap6] = ((w8.setCell ⟨(X + 2), 0, none⟩ (.int .i64 wait)).setCell ⟨(X + 2), 1, none⟩ (.slice (some ⟨g, 0, none⟩) R.length cap6)) from rfl] at s1 s2
  generalize ((w8.setCell ⟨(X + 2), 0, none⟩ (.int .i64 wait)).setCell ⟨(X + 2), 1, none⟩ (.slice (some ⟨g, 0, none⟩) R.length cap6)) = wz at *
  have p0 : wz.cell? ⟨(X + 2), 0, none⟩ = some (.int .i64 wait) := cell_at s1 0
  have p1 : wz.cell? ⟨(X + 2), 1, none⟩ = some (.slice (some ⟨g, 0, none⟩) R.length cap6) := cell_at s1 1
  refine bodyPost_ret (v := .agg #[.int .i64 wait, .slice (some ⟨g, 0, none⟩) R.length cap6]) (by simp [results, Try.results32, go_sem, p0, p1]) rfl ?_
  refine HRP.out _ _ ?_
  have hX := HXW.out
  have hX2 : X + 2 < W2.heap.size := hxl2
  have hfin := ((HOE.out.tr T7.out (fun i hi e => by omega)).tr T8.out (fun i hi e => by have := HOE.out.size; have h9 := HSX.out; omega)).tr s2 (fun i hi e => by omega)
  have how := owns_only HOWN8.out s2 (fun k hk e => by omega)
  refine ⟨_, rfl, ⟨SlB.of_owns (base := W2.heap.size) (e := 85) ?_ (by have h9 := HSX.out; omega), HHAS.out _ hfin⟩, hfin, fun g hg => by have h9 := HSX.out; have h8 := how.lt g hg; omega⟩
  rw [List.length_set]
  exact how
end Go.Proofs.Ytefadkmdfhjaeaa
/-! bellhopref18: without. -/
namespace Go.Proofs.Ytefadkmdfhjaeaa
open Go.Conc Go.RowKit

set_option maxRecDepth 100000 in
set_option maxHeartbeats 2000000 in
theorem rwo18_any (w : World) (B : Nat) (wait : Int) (v : Value) (R : List EntR) (h : REnts w B v R) (hB : B ≤ w.heap.size) (hR : R.length ≤ 1000) (k : Nat) (hk : k < R.length) :
    Calls Try.prog 28 #[rwV wait v, .int .i64 k] w fun e w' => RWRes w w' B wait (R.eraseIdx k) e := by
  obtain ⟨i0, hi0, iz0, iz1, iz2⟩ := info_parts infoREnt
  obtain ⟨a, cap, rfl, h1, h2, h3⟩ := Sl.cells entRC_length h.row.sl
  obtain ⟨b, off, rfl, _⟩ := h3.at k hk
  unfold maxLen at h2
  have HRP := Lib.hid (show ∀ w' e, (∃ v', e = .returned (rwV wait v') ∧ REnts w' B v' (R.eraseIdx k) ∧ Only (fun _ => False) w w' ∧ ∀ g, v'.ownBlock = some g → w.heap.size ≤ g ∧ g < w'.heap.size) → RWRes w w' B wait (R.eraseIdx k) e from fun _ _ h => ⟨h⟩)
  have HHAS := Lib.hid (show ∀ w', Only (fun _ => False) w w' → ∀ e ∈ R.eraseIdx k, SlB w' B 1 e.s e.has.length (rowI e.has) from fun w' ho e he => (h.has e (List.mem_of_mem_eraseIdx he)).new ho)
  have hsl := h.row.sl
  unfold rwV
  obtain ⟨W0, hW0⟩ : ∃ W0, W0 = w.alloc (.cells #[.int .i64 wait, .slice (some ⟨b, off, none⟩) R.length cap] 43) := ⟨_, rfl⟩
  have hbW0 : W0.heap[w.heap.size]? = some (.cells #[.int .i64 wait, .slice (some ⟨b, off, none⟩) R.length cap] 43 (0, 0)) := by rw [hW0]; exact heap_alloc_new w _
  have hoW0 : Only (fun _ => False) w W0 := by rw [hW0]; exact (Only.refl _ _).alloc _
  have hsW0 : W0.heap.size = w.heap.size + 1 := by rw [hW0]; simp
  obtain ⟨W, hW⟩ : ∃ W, W = W0.alloc (.cells #[.int .i64 0, .slice none 0 0] 43) := ⟨_, rfl⟩
  have hbW : W.heap[W0.heap.size]? = some (.cells #[.int .i64 0, .slice none 0 0] 43 (0, 0)) := by rw [hW]; exact heap_alloc_new W0 _
  have hoW : Only (fun _ => False) W0 W := by rw [hW]; exact (Only.refl _ _).alloc _
  have hsW : W.heap.size = W0.heap.size + 1 := by rw [hW]; simp
  have hb0 := hoW.old hbW0 id
  have hoA := hoW0.trans hoW
  have hsX : W0.heap.size = w.heap.size + 1 ∧ W.heap.size = w.heap.size + 2 := by omega
  rw [hsX.1] at hbW
  have hc := hsl.new hoA
  have hT1 : Sl W 4 (.slice (some ⟨b, off, none⟩) k cap) k ((R.take k).flatMap entRC) := by
    have := hc.take (m := k) (by omega)
    rwa [fl_take entRC_length] at this
  have hT2 : Sl W 4 (.slice (if cap = k + 1 then some ⟨b, off, none⟩ else some ⟨b, off + (k + 1) * 4, none⟩) (R.length - (k + 1)) (cap - (k + 1))) (R.length - (k + 1)) ((R.drop (k + 1)).flatMap entRC) := by
    have := hc.sliced (lo := k + 1) (by omega)
    rw [fl_drop entRC_length] at this
    simpa [Addr.add_lit] using this
  have HT1 := Lib.hid (fun w' (ho : Only (fun _ => False) W w') => hT1.new ho)
  have HT2 := Lib.hid (fun w' (ho : Only (fun _ => False) W w') => hT2.new ho)
  have HLN := Lib.hid (show 0 + k + (R.length - (k + 1)) = R.length - 1 by omega)
  have HFL := Lib.hid (show [] ++ (R.take k).flatMap entRC ++ (R.drop (k + 1)).flatMap entRC = (R.eraseIdx k).flatMap entRC by rw [List.nil_append, ← List.flatMap_append, List.eraseIdx_eq_take_drop_succ])
  have H0 := Lib.hid hb0
  have H2 := Lib.hid hbW
  have HOA := Lib.hid hoA
  have HSX := Lib.hid hsX
  clear hb0 hbW hoA hsX
  clear hbW0 hoW0 hoW hsW hsW0 h h3 hsl hc hT1 hT2
  go_enter Try.func28, Try.ntmps28
  go_upto_region 1 with (fail)
  rw [← hW0, ← hW]
  clear hW0 hW
  generalize hX : w.heap.size = X at *
  have hxl1 : X + 1 < W.heap.size := lt_of_block H2.out
  have hxl : X < W.heap.size := by omega
  have x1 : W.cell? ⟨X, 1, none⟩ = some (.slice (some ⟨b, off, none⟩) R.length cap) := cell_at H0.out 1
  have H1 := Lib.hid (fun w' (ho : Only (fun _ => False) W w') => ho.cell x1 id)
  have HF := Lib.hid (fun w' (ho : Only (fun _ => False) W w') (i : Nat) => free_at (ho.old H0.out id) i)
  have HXW := Lib.hid hX
  clear hX
  have k0 : (0 : Int) ≤ (k : Int) := by omega
  have k1 : (k : Int) < (R.length : Int) := by omega
  have e2 : (k : Int) + 1 ≤ (R.length : Int) := by omega
  have e3 : IntKind.i64.wrap ((k : Int) + 1) = (k : Int) + 1 := by rw [IntKind.wrap_i64]; omega
  have e4 : ((k : Int) + 1).toNat = k + 1 := by omega
  have e5 : (0 : Int) ≤ (k : Int) + 1 := by omega
  go_cut [16] (fun v16 wx => ∃ w9 a9 c9, v16 = .slice a9 (R.length - 1) c9 ∧ Only (fun _ => False) W w9 ∧ w9.ownsRow W.heap.size 85 4 (.slice a9 (R.length - 1) c9) (R.length - 1) ((R.eraseIdx k).flatMap entRC) ∧ wx = w9.setCell ⟨X, 1, none⟩ (.slice a9 (R.length - 1) c9))
  case first =>
    by_cases hcl : cap = k + 1
    · rw [if_pos hcl] at HT2
      subst hcl
      rw [Nat.sub_self] at HT2
      have e8 : R.length - (k + 1) = 0 := by omega
      have e1 : (k : Int) ≤ (k : Int) + 1 := by omega
      refine wp_region_G_drew (fun w' => w'.cell? ⟨X, 1, none⟩ = some (.slice (some ⟨b, off, none⟩) R.length (k + 1))) (fun w' => True) 13 (by kernel_rfl) (by first | exact x1 | exact H1.out _ (by (repeat (first | (with_reducible assumption) | (with_reducible exact Only.refl _ _) | (with_reducible refine Only.drew ?_) | (with_reducible refine Only.alloc ?_ _) | (with_reducible refine onlySet ?_ (by first | (with_reducible assumption) | omega) _) | (with_reducible refine Only.trans ?_ (by with_reducible assumption)))))) (fun hHeld => ?_)
      refine wpAnyG_takeWD (d := some 6) (i := 1) (oi := _) (v := ?vp1) rfl (by kernel_rfl) (by kernel_rfl) (by kernel_rfl) (by kernel_rfl) (by kernel_rfl) (fun _ _ _ h => h) (Or.inl ⟨by rfl, ?hyp1⟩) (Gn.start (by kernel_rfl) hHeld) ?restp1
      case hyp1 =>
        intro w _
        go_simp
        try with_reducible rfl
      refine wpAnyG_act (a' := ?nap1) ?nep1 ?nrp1
      case nep1 =>
        try simp [Act.put]
        try rfl
      refine wpAnyG_takeD (d := some 7) (i := 2) (oi := _) (v := ?vp2) rfl (by kernel_rfl) (by kernel_rfl) (by kernel_rfl) (by kernel_rfl) (by kernel_rfl) rfl (by rfl) (fun _ _ _ h => h) (Or.inl ⟨by rfl, ?hyp2⟩) hHeld ?restp2
      case hyp2 =>
        intro w hSw
        try dsimp only at hSw
        go_simp
        try with_reducible rfl
      refine wpAnyG_act (a' := ?nap2) ?nep2 ?nrp2
      case nep2 =>
        try simp [Act.put]
        try rfl
      refine wpAnyG_takeWD (d := some 8) (i := 3) (oi := _) (v := ?vp3) rfl (by kernel_rfl) (by kernel_rfl) (by kernel_rfl) (by kernel_rfl) (by kernel_rfl) (fun _ _ _ h => h) (Or.inl ⟨by rfl, ?hyp3⟩) (Gn.start (by kernel_rfl) hHeld) ?restp3
      case hyp3 =>
        intro w _
        go_simp
        try with_reducible rfl
      refine wpAnyG_act (a' := ?nap3) ?nep3 ?nrp3
      case nep3 =>
        try simp [Act.put]
        try rfl
      refine wpAnyG_takeWD (d := some 9) (i := 4) (oi := _) (v := ?vp4) rfl (by kernel_rfl) (by kernel_rfl) (by kernel_rfl) (by kernel_rfl) (by kernel_rfl) (fun _ _ _ h => h) (Or.inl ⟨by rfl, ?hyp4⟩) (Gn.start (by kernel_rfl) hHeld) ?restp4
      case hyp4 =>
        intro w _
        go_simp
        try with_reducible rfl
      refine wpAnyG_act (a' := ?nap4) ?nep4 ?nrp4
      case nep4 =>
        try simp [Act.put]
        try rfl
      refine wpAnyG_takeWD (d := some 11) (i := 6) (oi := _) (v := ?vp5) rfl (by kernel_rfl) (by kernel_rfl) (by kernel_rfl) (by kernel_rfl) (by kernel_rfl) (fun _ _ _ h => h) (Or.inl ⟨by rfl, ?hyp5⟩) (Gn.start (by kernel_rfl) hHeld) ?restp5
      case hyp5 =>
        intro w _
        go_simp
        try with_reducible rfl
      refine wpAnyG_act (a' := ?nap5) ?nep5 ?nrp5
      case nep5 =>
        try simp [Act.put]
        try rfl
      refine wpAnyG_takeD (d := some 12) (i := 7) (oi := _) (v := ?vp6) rfl (by kernel_rfl) (by kernel_rfl) (by kernel_rfl) (by kernel_rfl) (by kernel_rfl) rfl (by rfl) (fun _ _ _ h => h) (Or.inl ⟨by rfl, ?hyp6⟩) hHeld ?restp6
      case hyp6 =>
        intro w hSw
        try dsimp only at hSw
        go_simp
        try with_reducible rfl
      refine wpAnyG_act (a' := ?nap6) ?nep6 ?nrp6
      case nep6 =>
        try simp [Act.put]
        try rfl
      refine wpAnyG_takeWD (d := some 13) (i := 8) (oi := _) (v := ?vp7) rfl (by kernel_rfl) (by kernel_rfl) (by kernel_rfl) (by kernel_rfl) (by kernel_rfl) (fun _ _ _ h => h) (Or.inl ⟨by rfl, ?hyp7⟩) (Gn.start (by kernel_rfl) hHeld) ?restp7
      case hyp7 =>
        intro w _
        go_simp
        try with_reducible rfl
      refine wpAnyG_act (a' := ?nap7) ?nep7 ?nrp7
      case nep7 =>
        try simp [Act.put]
        try rfl
      refine wpAnyG_takeWD (d := some 14) (i := 9) (oi := _) (v := ?vp8) rfl (by kernel_rfl) (by kernel_rfl) (by kernel_rfl) (by kernel_rfl) (by kernel_rfl) (fun _ _ _ h => h) (Or.inl ⟨by rfl, ?hyp8⟩) (Gn.start (by kernel_rfl) hHeld) ?restp8
      case hyp8 =>
        intro w _
        go_simp
        try with_reducible rfl
      refine wpAnyG_act (a' := ?nap8) ?nep8 ?nrp8
      case nep8 =>
        try simp [Act.put]
        try rfl
      refine wpAnyG_takeWD (d := some 15) (i := 10) (oi := _) (v := ?vp9) rfl (by kernel_rfl) (by kernel_rfl) (by kernel_rfl) (by kernel_rfl) (by kernel_rfl) (fun _ _ _ h => h) (Or.inl ⟨by rfl, ?hyp9⟩) (Gn.start (by kernel_rfl) hHeld) ?restp9
      case hyp9 =>
        intro w _
        go_simp
        try with_reducible rfl
      refine wpAnyG_act (a' := ?nap9) ?nep9 ?nrp9
      case nep9 =>
        try simp [Act.put]
        try rfl
      refine wpAnyG_ready (rs := [0]) (by kernel_rfl) (by simp) ?_
      refine AllReadyG.cons (o := _) rfl (fun K hK => ?_) AllReadyG.nil
      go_simp
      refine hK.out _ _ (Gn.start (by kernel_rfl) (by first | exact x1 | exact H1.out _ (by (repeat (first | (with_reducible assumption) | (with_reducible exact Only.refl _ _) | (with_reducible refine Only.drew ?_) | (with_reducible refine Only.alloc ?_ _) | (with_reducible refine onlySet ?_ (by first | (with_reducible assumption) | omega) _) | (with_reducible refine Only.trans ?_ (by with_reducible assumption))))))) (fun hNew => ?_)
      clear hK K hHeld
      have hHeld := Gn.outS (by kernel_rfl) hNew
      clear hNew
      refine wpAnyG_act (a' := ?nap10) ?nep10 ?nrp10
      case nep10 =>
        try simp [Act.put]
        try rfl
      refine wpAnyG_ready (rs := [5]) (by kernel_rfl) (by simp) ?_
      refine AllReadyG.cons (o := _) rfl (fun K hK => ?_) AllReadyG.nil
      refine step_append_src rfl (.tmp 5) (.tmp 9) 41 41 rfl W.heap.size 85 i0 _ 4 56 Try.underlying41 hi0 iz0 iz1 iz2 rfl (.slice (some ⟨W.heap.size, 0, none⟩) 0 0) 0 [] rfl (own_at (by first | exact heapA _ _ _ rfl | exact heap_alloc_new _ _) _ _ (Nat.le_refl _)) _ k ((R.take k).flatMap entRC) rfl ?srcp6 ?mp6 ?bp6 ?basep6 ?_
      case srcp6 => exact Sl.src Try.underlying41 (HT1.out _ (by (repeat (first | (with_reducible assumption) | (with_reducible exact Only.refl _ _) | (with_reducible refine Only.drew ?_) | (with_reducible refine Only.alloc ?_ _) | (with_reducible refine onlySet ?_ (by first | (with_reducible assumption) | omega) _) | (with_reducible refine Only.trans ?_ (by with_reducible assumption)))))) (fl_one entRC_one _)
      case mp6 => unfold maxLen; omega
      case bp6 => omega
      case basep6 => simp
      intro v8 w8 own8 gr8 hv8
      have ho8 : Only (fun _ => False) W w8 := Only.grown (by (repeat (first | (with_reducible assumption) | (with_reducible exact Only.refl _ _) | (with_reducible refine Only.drew ?_) | (with_reducible refine Only.alloc ?_ _) | (with_reducible refine onlySet ?_ (by first | (with_reducible assumption) | omega) _) | (with_reducible refine Only.trans ?_ (by with_reducible assumption))))) gr8 (fun k e => .inl (hv8 k e))
      refine hK.out _ _ (Gn.start (by kernel_rfl) (by first | exact x1 | exact H1.out _ (by (repeat (first | (with_reducible assumption) | (with_reducible exact Only.refl _ _) | (with_reducible refine Only.drew ?_) | (with_reducible refine Only.alloc ?_ _) | (with_reducible refine onlySet ?_ (by first | (with_reducible assumption) | omega) _) | (with_reducible refine Only.trans ?_ (by with_reducible assumption))))))) (fun hNew => ?_)
      clear hK K hHeld
      have hHeld := Gn.outS (by kernel_rfl) hNew
      clear hNew
      refine wpAnyG_act (a' := ?nap11) ?nep11 ?nrp11
      case nep11 =>
        try simp [Act.put]
        try rfl
      refine wpAnyG_ready (rs := [11]) (by kernel_rfl) (by simp) ?_
      refine AllReadyG.cons (o := _) rfl (fun K hK => ?_) AllReadyG.nil
      refine step_append_src rfl (.tmp 10) (.tmp 15) 41 41 rfl W.heap.size 85 i0 _ 4 56 Try.underlying41 hi0 iz0 iz1 iz2 rfl v8 (0 + k) _ rfl own8 _ (R.length - (k + 1)) ((R.drop (k + 1)).flatMap entRC) rfl ?srcp7 ?mp7 ?bp7 ?basep7 ?_
      case srcp7 => first | exact Sl.src Try.underlying41 (HT2.out _ ho8) (fl_one entRC_one _) | (have h9 := HT2.out _ ho8; rw [e8] at h9 ⊢; exact Sl.src Try.underlying41 h9 (fl_one entRC_one _))
      case mp7 => unfold maxLen; omega
      case bp7 => omega
      case basep7 => exact ho8.size
      intro v9 w9 own9 gr9 hv9
      have ho9 : Only (fun _ => False) W w9 := ho8.grown gr9 (fun k e => .inl (hv9 k e))
      rw [HLN.out, HFL.out] at own9
      obtain ⟨_, a9, c9, rfl, _⟩ := Sl.of_owns own9
      have f9 : ∀ i, w9.frozen? ⟨X, i, none⟩ = false := HF.out _ ho9
      have x9 := H1.out _ ho9
      refine hK.out _ _ (Gn.start (by kernel_rfl) (by first | exact x1 | exact H1.out _ (by (repeat (first | (with_reducible assumption) | (with_reducible exact Only.refl _ _) | (with_reducible refine Only.drew ?_) | (with_reducible refine Only.alloc ?_ _) | (with_reducible refine onlySet ?_ (by first | (with_reducible assumption) | omega) _) | (with_reducible refine Only.trans ?_ (by with_reducible assumption))))))) (fun hNew => ?_)
      clear hK K hHeld
      have hHeld := Gn.outS (by kernel_rfl) hNew
      clear hNew
      refine wpAnyG_act (a' := ?nap12) ?nep12 ?nrp12
      case nep12 =>
        try simp [Act.put]
        try rfl
      refine wpAnyG_takeWD (d := some 17) (i := 12) (oi := _) (v := ?vp10) rfl (by kernel_rfl) (by kernel_rfl) (by kernel_rfl) (by kernel_rfl) (by kernel_rfl) (fun _ _ _ h => h) (Or.inl ⟨by rfl, ?hyp10⟩) (Gn.start (by kernel_rfl) hHeld) ?restp10
      case hyp10 =>
        intro w _
        go_simp
        try with_reducible rfl
      refine wpAnyG_act (a' := ?nap13) ?nep13 ?nrp13
      case nep13 =>
        try simp [Act.put]
        try rfl
      refine wpAnyG_ready (rs := [13]) (by kernel_rfl) (by simp) ?_
      refine AllReadyG.cons (o := _) rfl (fun K hK => ?_) AllReadyG.nil
      go_simp
      refine hK.out _ _ (Gn.tail (by kernel_rfl) (trivial)) (fun hNew => ?_)
      clear hK K hHeld hNew
      refine wpAnyG_act (a' := ?nap14) ?nep14 ?nrp14
      case nep14 =>
        try simp [Act.put]
        try rfl
      refine wpAnyG_done (by kernel_rfl) ?_ _
      go_wp2_with fail
      go_meet
      exact ⟨w9, a9, c9, by with_reducible rfl, ho9, own9, rfl⟩
    · rw [if_neg hcl] at HT2
      have e1 : (k : Int) ≤ (cap : Int) := by omega
      have e6 : (R.length : Int) ≤ (cap : Int) := by omega
      refine wp_region_G_drew (fun w' => w'.cell? ⟨X, 1, none⟩ = some (.slice (some ⟨b, off, none⟩) R.length cap)) (fun w' => True) 13 (by kernel_rfl) (by first | exact x1 | exact H1.out _ (by (repeat (first | (with_reducible assumption) | (with_reducible exact Only.refl _ _) | (with_reducible refine Only.drew ?_) | (with_reducible refine Only.alloc ?_ _) | (with_reducible refine onlySet ?_ (by first | (with_reducible assumption) | omega) _) | (with_reducible refine Only.trans ?_ (by with_reducible assumption)))))) (fun hHeld => ?_)
      refine wpAnyG_takeWD (d := some 6) (i := 1) (oi := _) (v := ?vq1) rfl (by kernel_rfl) (by kernel_rfl) (by kernel_rfl) (by kernel_rfl) (by kernel_rfl) (fun _ _ _ h => h) (Or.inl ⟨by rfl, ?hyq1⟩) (Gn.start (by kernel_rfl) hHeld) ?restq1
      case hyq1 =>
        intro w _
        go_simp
        try with_reducible rfl
      refine wpAnyG_act (a' := ?naq1) ?neq1 ?nrq1
      case neq1 =>
        try simp [Act.put]
        try rfl
      refine wpAnyG_takeD (d := some 7) (i := 2) (oi := _) (v := ?vq2) rfl (by kernel_rfl) (by kernel_rfl) (by kernel_rfl) (by kernel_rfl) (by kernel_rfl) rfl (by rfl) (fun _ _ _ h => h) (Or.inl ⟨by rfl, ?hyq2⟩) hHeld ?restq2
      case hyq2 =>
        intro w hSw
        try dsimp only at hSw
        go_simp
        try with_reducible rfl
      refine wpAnyG_act (a' := ?naq2) ?neq2 ?nrq2
      case neq2 =>
        try simp [Act.put]
        try rfl
      refine wpAnyG_takeWD (d := some 8) (i := 3) (oi := _) (v := ?vq3) rfl (by kernel_rfl) (by kernel_rfl) (by kernel_rfl) (by kernel_rfl) (by kernel_rfl) (fun _ _ _ h => h) (Or.inl ⟨by rfl, ?hyq3⟩) (Gn.start (by kernel_rfl) hHeld) ?restq3
      case hyq3 =>
        intro w _
        go_simp
        try with_reducible rfl
      refine wpAnyG_act (a' := ?naq3) ?neq3 ?nrq3
      case neq3 =>
        try simp [Act.put]
        try rfl
      refine wpAnyG_takeWD (d := some 9) (i := 4) (oi := _) (v := ?vq4) rfl (by kernel_rfl) (by kernel_rfl) (by kernel_rfl) (by kernel_rfl) (by kernel_rfl) (fun _ _ _ h => h) (Or.inl ⟨by rfl, ?hyq4⟩) (Gn.start (by kernel_rfl) hHeld) ?restq4
      case hyq4 =>
        intro w _
        go_simp
        try with_reducible rfl
      refine wpAnyG_act (a' := ?naq4) ?neq4 ?nrq4
      case neq4 =>
        try simp [Act.put]
        try rfl
      refine wpAnyG_takeWD (d := some 11) (i := 6) (oi := _) (v := ?vq5) rfl (by kernel_rfl) (by kernel_rfl) (by kernel_rfl) (by kernel_rfl) (by kernel_rfl) (fun _ _ _ h => h) (Or.inl ⟨by rfl, ?hyq5⟩) (Gn.start (by kernel_rfl) hHeld) ?restq5
      case hyq5 =>
        intro w _
        go_simp
        try with_reducible rfl
      refine wpAnyG_act (a' := ?naq5) ?neq5 ?nrq5
      case neq5 =>
        try simp [Act.put]
        try rfl
      refine wpAnyG_takeD (d := some 12) (i := 7) (oi := _) (v := ?vq6) rfl (by kernel_rfl) (by kernel_rfl) (by kernel_rfl) (by kernel_rfl) (by kernel_rfl) rfl (by rfl) (fun _ _ _ h => h) (Or.inl ⟨by rfl, ?hyq6⟩) hHeld ?restq6
      case hyq6 =>
        intro w hSw
        try dsimp only at hSw
        go_simp
        try with_reducible rfl
      refine wpAnyG_act (a' := ?naq6) ?neq6 ?nrq6
      case neq6 =>
        try simp [Act.put]
        try rfl
      refine wpAnyG_takeWD (d := some 13) (i := 8) (oi := _) (v := ?vq7) rfl (by kernel_rfl) (by kernel_rfl) (by kernel_rfl) (by kernel_rfl) (by kernel_rfl) (fun _ _ _ h => h) (Or.inl ⟨by rfl, ?hyq7⟩) (Gn.start (by kernel_rfl) hHeld) ?restq7
      case hyq7 =>
        intro w _
        go_simp
        try with_reducible rfl
      refine wpAnyG_act (a' := ?naq7) ?neq7 ?nrq7
      case neq7 =>
        try simp [Act.put]
        try rfl
      refine wpAnyG_takeWD (d := some 14) (i := 9) (oi := _) (v := ?vq8) rfl (by kernel_rfl) (by kernel_rfl) (by kernel_rfl) (by kernel_rfl) (by kernel_rfl) (fun _ _ _ h => h) (Or.inl ⟨by rfl, ?hyq8⟩) (Gn.start (by kernel_rfl) hHeld) ?restq8
      case hyq8 =>
        intro w _
        go_simp
        try with_reducible rfl
      refine wpAnyG_act (a' := ?naq8) ?neq8 ?nrq8
      case neq8 =>
        try simp [Act.put]
        try rfl
      refine wpAnyG_takeWD (d := some 15) (i := 10) (oi := _) (v := ?vq9) rfl (by kernel_rfl) (by kernel_rfl) (by kernel_rfl) (by kernel_rfl) (by kernel_rfl) (fun _ _ _ h => h) (Or.inl ⟨by rfl, ?hyq9⟩) (Gn.start (by kernel_rfl) hHeld) ?restq9
      case hyq9 =>
        intro w _
        go_simp
        try with_reducible rfl
      refine wpAnyG_act (a' := ?naq9) ?neq9 ?nrq9
      case neq9 =>
        try simp [Act.put]
        try rfl
      refine wpAnyG_ready (rs := [0]) (by kernel_rfl) (by simp) ?_
      refine AllReadyG.cons (o := _) rfl (fun K hK => ?_) AllReadyG.nil
      go_simp
      refine hK.out _ _ (Gn.start (by kernel_rfl) (by first | exact x1 | exact H1.out _ (by (repeat (first | (with_reducible assumption) | (with_reducible exact Only.refl _ _) | (with_reducible refine Only.drew ?_) | (with_reducible refine Only.alloc ?_ _) | (with_reducible refine onlySet ?_ (by first | (with_reducible assumption) | omega) _) | (with_reducible refine Only.trans ?_ (by with_reducible assumption))))))) (fun hNew => ?_)
      clear hK K hHeld
      have hHeld := Gn.outS (by kernel_rfl) hNew
      clear hNew
      refine wpAnyG_act (a' := ?naq10) ?neq10 ?nrq10
      case neq10 =>
        try simp [Act.put]
        try rfl
      refine wpAnyG_ready (rs := [5]) (by kernel_rfl) (by simp) ?_
      refine AllReadyG.cons (o := _) rfl (fun K hK => ?_) AllReadyG.nil
      refine step_append_src rfl (.tmp 5) (.tmp 9) 41 41 rfl W.heap.size 85 i0 _ 4 56 Try.underlying41 hi0 iz0 iz1 iz2 rfl (.slice (some ⟨W.heap.size, 0, none⟩) 0 0) 0 [] rfl (own_at (by first | exact heapA _ _ _ rfl | exact heap_alloc_new _ _) _ _ (Nat.le_refl _)) _ k ((R.take k).flatMap entRC) rfl ?srcq6 ?mq6 ?bq6 ?baseq6 ?_
      case srcq6 => exact Sl.src Try.underlying41 (HT1.out _ (by (repeat (first | (with_reducible assumption) | (with_reducible exact Only.refl _ _) | (with_reducible refine Only.drew ?_) | (with_reducible refine Only.alloc ?_ _) | (with_reducible refine onlySet ?_ (by first | (with_reducible assumption) | omega) _) | (with_reducible refine Only.trans ?_ (by with_reducible assumption)))))) (fl_one entRC_one _)
      case mq6 => unfold maxLen; omega
      case bq6 => omega
      case baseq6 => simp
      intro v8 w8 own8 gr8 hv8
      have ho8 : Only (fun _ => False) W w8 := Only.grown (by (repeat (first | (with_reducible assumption) | (with_reducible exact Only.refl _ _) | (with_reducible refine Only.drew ?_) | (with_reducible refine Only.alloc ?_ _) | (with_reducible refine onlySet ?_ (by first | (with_reducible assumption) | omega) _) | (with_reducible refine Only.trans ?_ (by with_reducible assumption))))) gr8 (fun k e => .inl (hv8 k e))
      refine hK.out _ _ (Gn.start (by kernel_rfl) (by first | exact x1 | exact H1.out _ (by (repeat (first | (with_reducible assumption) | (with_reducible exact Only.refl _ _) | (with_reducible refine Only.drew ?_) | (with_reducible refine Only.alloc ?_ _) | (with_reducible refine onlySet ?_ (by first | (with_reducible assumption) | omega) _) | (with_reducible refine Only.trans ?_ (by with_reducible assumption))))))) (fun hNew => ?_)
      clear hK K hHeld
      have hHeld := Gn.outS (by kernel_rfl) hNew
      clear hNew
      refine wpAnyG_act (a' := ?naq11) ?neq11 ?nrq11
      case neq11 =>
        try simp [Act.put]
        try rfl
      refine wpAnyG_ready (rs := [11]) (by kernel_rfl) (by simp) ?_
      refine AllReadyG.cons (o := _) rfl (fun K hK => ?_) AllReadyG.nil
      refine step_append_src rfl (.tmp 10) (.tmp 15) 41 41 rfl W.heap.size 85 i0 _ 4 56 Try.underlying41 hi0 iz0 iz1 iz2 rfl v8 (0 + k) _ rfl own8 _ (R.length - (k + 1)) ((R.drop (k + 1)).flatMap entRC) rfl ?srcq7 ?mq7 ?bq7 ?baseq7 ?_
      case srcq7 => first | exact Sl.src Try.underlying41 (HT2.out _ ho8) (fl_one entRC_one _) | (have h9 := HT2.out _ ho8; rw [e8] at h9 ⊢; exact Sl.src Try.underlying41 h9 (fl_one entRC_one _))
      case mq7 => unfold maxLen; omega
      case bq7 => omega
      case baseq7 => exact ho8.size
      intro v9 w9 own9 gr9 hv9
      have ho9 : Only (fun _ => False) W w9 := ho8.grown gr9 (fun k e => .inl (hv9 k e))
      rw [HLN.out, HFL.out] at own9
      obtain ⟨_, a9, c9, rfl, _⟩ := Sl.of_owns own9
      have f9 : ∀ i, w9.frozen? ⟨X, i, none⟩ = false := HF.out _ ho9
      have x9 := H1.out _ ho9
      refine hK.out _ _ (Gn.start (by kernel_rfl) (by first | exact x1 | exact H1.out _ (by (repeat (first | (with_reducible assumption) | (with_reducible exact Only.refl _ _) | (with_reducible refine Only.drew ?_) | (with_reducible refine Only.alloc ?_ _) | (with_reducible refine onlySet ?_ (by first | (with_reducible assumption) | omega) _) | (with_reducible refine Only.trans ?_ (by with_reducible assumption))))))) (fun hNew => ?_)
      clear hK K hHeld
      have hHeld := Gn.outS (by kernel_rfl) hNew
      clear hNew
      refine wpAnyG_act (a' := ?naq12) ?neq12 ?nrq12
      case neq12 =>
        try simp [Act.put]
        try rfl
      refine wpAnyG_takeWD (d := some 17) (i := 12) (oi := _) (v := ?vq10) rfl (by kernel_rfl) (by kernel_rfl) (by kernel_rfl) (by kernel_rfl) (by kernel_rfl) (fun _ _ _ h => h) (Or.inl ⟨by rfl, ?hyq10⟩) (Gn.start (by kernel_rfl) hHeld) ?restq10
      case hyq10 =>
        intro w _
        go_simp
        try with_reducible rfl
      refine wpAnyG_act (a' := ?naq13) ?neq13 ?nrq13
      case neq13 =>
        try simp [Act.put]
        try rfl
      refine wpAnyG_ready (rs := [13]) (by kernel_rfl) (by simp) ?_
      refine AllReadyG.cons (o := _) rfl (fun K hK => ?_) AllReadyG.nil
      go_simp
      refine hK.out _ _ (Gn.tail (by kernel_rfl) (trivial)) (fun hNew => ?_)
      clear hK K hHeld hNew
      refine wpAnyG_act (a' := ?naq14) ?neq14 ?nrq14
      case neq14 =>
        try simp [Act.put]
        try rfl
      refine wpAnyG_done (by kernel_rfl) ?_ _
      go_wp2_with fail
      go_meet
      exact ⟨w9, a9, c9, by with_reducible rfl, ho9, own9, rfl⟩
  case rest =>
    obtain ⟨w9, a9, c9, rfl, ho9, own9, hwx⟩ := hcut
    have hb0 : wc.heap[X]? = some (.cells #[.int .i64 wait, .slice a9 (R.length - 1) c9] 43 (0, 0)) := by rw [hwx]; exact set_at (ho9.old H0.out id) 1 _
    have t9 : Only (fun i => i = X) w9 wc := by rw [hwx]; exact (Only.refl _ _).setCell (S := fun i => i = X) (p := ⟨X, 1, none⟩) (.inr rfl) _
    have hb2 := t9.old (ho9.old H2.out id) (by omega)
    have own10 := owns_only own9 t9 (fun k hk e => by omega)
    have H08 := Lib.hid hb0
    have H28 := Lib.hid hb2
    have T9 := Lib.hid t9
    have OWN := Lib.hid own10
    have HO9 := Lib.hid ho9
    clear hb0 hb2 t9 own10 ho9
    clear hwx own9 x1
    have x0 : wc.cell? ⟨X, 0, none⟩ = some (.int .i64 wait) := cell_at H08.out 0
    have x1 : wc.cell? ⟨X, 1, none⟩ = some (.slice a9 (R.length - 1) c9) := cell_at H08.out 1
    have zf : ∀ i, wc.frozen? ⟨X + 1, i, none⟩ = false := free_at H28.out
    have z0 : wc.cell? ⟨(X + 1), 0, none⟩ = some (.int .i64 0) := cell_at H28.out 0
    have z1 : wc.cell? ⟨(X + 1), 1, none⟩ = some (.slice none 0 0) := cell_at H28.out 1
    have hn1 : ¬ X + 1 = X := by omega
    have hn2 : ¬ X = X + 1 := by omega
    go_wp2_with fail
    clear x0 x1 z0 z1 zf
    obtain ⟨s1, s2⟩ := lit_set H28.out [.int .i64 wait, .slice a9 (R.length - 1) c9] rfl
    rw [show World.setCells wc (X + 1) 0 [.int .i64 wait, .slice a9 (R.length - 1) c9] = ((wc.setCell ⟨(X + 1), 0, none⟩ (.int .i64 wait)).setCell ⟨(X + 1), 1, none⟩ (.slice a9 (R.length - 1) c9)) from rfl] at s1 s2
    generalize ((wc.setCell ⟨(X + 1), 0, none⟩ (.int .i64 wait)).setCell ⟨(X + 1), 1, none⟩ (.slice a9 (R.length - 1) c9)) = wz at *
    have p0 : wz.cell? ⟨(X + 1), 0, none⟩ = some (.int .i64 wait) := cell_at s1 0
    have p1 : wz.cell? ⟨(X + 1), 1, none⟩ = some (.slice a9 (R.length - 1) c9) := cell_at s1 1
    refine bodyPost_ret (v := .agg #[.int .i64 wait, .slice a9 (R.length - 1) c9]) (by simp [results, Try.results28, go_sem, p0, p1]) rfl ?_
    refine HRP.out _ _ ?_
    have hX := HXW.out
    have hfin := ((HOA.out.trans HO9.out).tr T9.out (fun i hi e => by omega)).tr s2 (fun i hi e => by omega)
    have hl : (R.eraseIdx k).length = R.length - 1 := by rw [List.length_eraseIdx, if_pos hk]
    have how := owns_only OWN.out s2 (fun k hk e => by omega)
    refine ⟨_, rfl, ⟨SlB.of_owns (base := W.heap.size) (e := 85) ?_ (by have h9 := HSX.out; omega), HHAS.out _ hfin⟩, hfin, fun g hg => by have h9 := HSX.out; have h8 := how.lt g hg; omega⟩
    rw [hl]
    exact how
end Go.Proofs.Ytefadkmdfhjaeaa
/-! What has been picked, what is left: the reference's way, plainly. -/
namespace Go.Proofs.Ytefadkmdfhjaeaa
open Go.Conc Go.RowKit

structure Picked (L : List (ByteArray × (Int × Int))) (now : Int) (OL RL : List (ByteArray × (Int × Int))) : Prop where
  perm : (OL ++ RL).Perm L
  sub : RL.Sublist L
  due : ∀ p ∈ OL, ¬ now < p.2.1
  sorted : OL.Pairwise (fun p q => ¬ ltE q.2 p.2)
  cross : ∀ p ∈ OL, ∀ q ∈ RL, ¬ now < q.2.1 → ¬ ltE q.2 p.2
theorem Picked.start (L : List (ByteArray × (Int × Int))) (now : Int) : Picked L now [] L :=
  ⟨by simp, List.Sublist.refl _, by simp, List.Pairwise.nil, by simp⟩
theorem take_drop_perm {α : Type} (l : List α) (k : Nat) (hk : k < l.length) : (l[k] :: (l.take k ++ l.drop (k + 1))).Perm l := by
  have h : l = l.take k ++ l[k] :: l.drop (k + 1) := by rw [List.getElem_cons_drop, List.take_append_drop]
  conv => rhs; rw [h]
  exact List.perm_middle.symm
theorem Picked.step {L : List (ByteArray × (Int × Int))} {now : Int} {OL RL : List (ByteArray × (Int × Int))} (h : Picked L now OL RL) (ho : Orders L) (k : Nat) (hk : k < RL.length) (h1 : ¬ now < RL[k].2.1)
    (h2 : ∀ j (hj : j < RL.length), ¬ now < RL[j].2.1 → RL[k].2.1 ≤ RL[j].2.1) (h3 : ∀ j (hj : j < RL.length), j < k → ¬ now < RL[j].2.1 → RL[k].2.1 < RL[j].2.1) : Picked L now (OL ++ [RL[k]]) (RL.take k ++ RL.drop (k + 1)) := by
  have hsub : (RL.take k ++ RL.drop (k + 1)).Sublist RL := by
    have e : RL = RL.take k ++ RL.drop k := (List.take_append_drop k RL).symm
    conv => rhs; rw [e]
    exact (List.Sublist.refl _).append (by rw [List.drop_eq_getElem_cons hk]; exact List.sublist_cons_self _ _)
  have hoR : Orders RL := List.Pairwise.sublist h.sub ho
  refine ⟨?_, hsub.trans h.sub, ?_, ?_, ?_⟩
  · rw [List.append_assoc]
    refine List.Perm.trans ?_ h.perm
    exact List.Perm.append_left OL (take_drop_perm RL k hk)
  · intro p hp
    rcases List.mem_append.1 hp with hp | hp
    · exact h.due p hp
    · obtain rfl : p = RL[k] := by simpa using hp
      exact h1
  · refine List.pairwise_append.2 ⟨h.sorted, by simp, fun p hp q hq => ?_⟩
    obtain rfl : q = RL[k] := by simpa using hq
    exact h.cross p hp _ (List.getElem_mem hk) h1
  · intro p hp q hq hn
    have hqm : q ∈ RL := hsub.subset hq
    rcases List.mem_append.1 hp with hp | hp
    · exact h.cross p hp q hqm hn
    · obtain rfl : p = RL[k] := by simpa using hp
      rcases List.mem_append.1 hq with hq | hq
      · obtain ⟨j, hj, e⟩ := List.getElem_of_mem hq
        have hjk : j < k := by simp at hj; omega
        have hjl : j < RL.length := by omega
        rw [List.getElem_take] at e
        subst e
        have := h3 j hjl hjk hn
        unfold ltE
        omega
      · obtain ⟨j, hj, e⟩ := List.getElem_of_mem hq
        rw [List.getElem_drop] at e
        subst e
        have hjl : k + 1 + j < RL.length := by simp at hj; omega
        have g1 := h2 _ hjl hn
        have g2 := List.pairwise_iff_getElem.1 hoR k (k + 1 + j) hk hjl (by omega)
        unfold ltE
        omega
theorem Picked.done {L : List (ByteArray × (Int × Int))} {now : Int} {OL RL : List (ByteArray × (Int × Int))} (h : Picked L now OL RL) (ha : L.Pairwise (fun p q => p.1 ≠ q.1)) (h0 : ∀ p ∈ RL, now < p.2.1) :
    (OL.map (·.1)).Perm ((L.filter (fun p => !decide (now < p.2.1))).map (·.1)) ∧ DueSorted L (OL.map (·.1)) ∧ RL = L.filter (fun p => decide (now < p.2.1)) := by
  have hO : OL.filter (fun p => !decide (now < p.2.1)) = OL := List.filter_eq_self.2 (fun p hp => by simpa using h.due p hp)
  have hR : RL.filter (fun p => !decide (now < p.2.1)) = [] := List.filter_eq_nil_iff.2 (fun p hp => by simpa using h0 p hp)
  have hO2 : OL.filter (fun p => decide (now < p.2.1)) = [] := List.filter_eq_nil_iff.2 (fun p hp => by simpa using h.due p hp)
  have hR2 : RL.filter (fun p => decide (now < p.2.1)) = RL := List.filter_eq_self.2 (fun p hp => by simpa using h0 p hp)
  have p1 := h.perm.filter (fun p => !decide (now < p.2.1))
  rw [List.filter_append, hO, hR, List.append_nil] at p1
  have p2 := h.perm.filter (fun p => decide (now < p.2.1))
  rw [List.filter_append, hO2, hR2, List.nil_append] at p2
  refine ⟨p1.map _, ?_, ?_⟩
  · unfold DueSorted
    rw [List.pairwise_map]
    refine List.Pairwise.imp_of_mem ?_ h.sorted
    intro p q hp hq hpq
    have mp : p ∈ L := h.perm.mem_iff.1 (List.mem_append_left _ hp)
    have mq : q ∈ L := h.perm.mem_iff.1 (List.mem_append_left _ hq)
    rw [entAt_mem ha mp, entAt_mem ha mq]
    exact hpq
  · have hs := h.sub.filter (fun p => decide (now < p.2.1))
    rw [hR2] at hs
    exact hs.eq_of_length p2.length_eq
/-- The earliest of those that are due among the first m, the first of them; -1: none. -/
def Best (RL : List (ByteArray × (Int × Int))) (now : Int) (m : Nat) (kv : Int) : Prop :=
  (kv = -1 ∧ ∀ j (hj : j < RL.length), j < m → now < RL[j].2.1) ∨
  ∃ (k : Nat) (hk : k < RL.length), kv = (k : Int) ∧ k < m ∧ ¬ now < RL[k].2.1 ∧ (∀ j (hj : j < RL.length), j < m → ¬ now < RL[j].2.1 → RL[k].2.1 ≤ RL[j].2.1) ∧ (∀ j (hj : j < RL.length), j < k → ¬ now < RL[j].2.1 → RL[k].2.1 < RL[j].2.1)
theorem best_zero (RL : List (ByteArray × (Int × Int))) (now : Int) : Best RL now 0 (-1) := .inl ⟨rfl, fun j _ h => absurd h (by omega)⟩
theorem best_skip {RL : List (ByteArray × (Int × Int))} {now : Int} {m : Nat} {kv : Int} (h : Best RL now m kv) (hm : m < RL.length) (hn : now < RL[m].2.1) : Best RL now (m + 1) kv := by
  rcases h with ⟨e, h⟩ | ⟨k, hk, e, h1, h2, h3, h4⟩
  · refine .inl ⟨e, fun j hj hjm => ?_⟩
    rcases (by omega : j < m ∨ j = m) with h5 | rfl
    · exact h j hj h5
    · exact hn
  · refine .inr ⟨k, hk, e, by omega, h2, fun j hj hjm hd => ?_, h4⟩
    rcases (by omega : j < m ∨ j = m) with h5 | rfl
    · exact h3 j hj h5 hd
    · exact absurd hn hd
theorem best_first {RL : List (ByteArray × (Int × Int))} {now : Int} {m : Nat} {kv : Int} (h : Best RL now m kv) (hkv : kv < 0) (hm : m < RL.length) (hn : ¬ now < RL[m].2.1) : Best RL now (m + 1) (m : Int) := by
  rcases h with ⟨_, h⟩ | ⟨k, hk, e, _⟩
  · refine .inr ⟨m, hm, rfl, by omega, hn, fun j hj hjm hd => ?_, fun j hj hjm hd => absurd (h j hj hjm) hd⟩
    rcases (by omega : j < m ∨ j = m) with h5 | rfl
    · exact absurd (h j hj h5) hd
    · exact Int.le_refl _
  · omega
theorem best_less {RL : List (ByteArray × (Int × Int))} {now : Int} {m k : Nat} (h : Best RL now m (k : Int)) (hk : k < RL.length) (hm : m < RL.length) (hn : ¬ now < RL[m].2.1) (hl : RL[m].2.1 < RL[k].2.1) : Best RL now (m + 1) (m : Int) := by
  rcases h with ⟨e, h⟩ | ⟨k', hk', e, h1, h2, h3, h4⟩
  · omega
  · obtain rfl : k = k' := by omega
    refine .inr ⟨m, hm, rfl, by omega, hn, fun j hj hjm hd => ?_, fun j hj hjm hd => ?_⟩
    · rcases (by omega : j < m ∨ j = m) with h5 | rfl
      · have := h3 j hj h5 hd; omega
      · exact Int.le_refl _
    · have := h3 j hj hjm hd; omega
theorem best_keep {RL : List (ByteArray × (Int × Int))} {now : Int} {m k : Nat} (h : Best RL now m (k : Int)) (hk : k < RL.length) (hm : m < RL.length) (hl : ¬ RL[m].2.1 < RL[k].2.1) : Best RL now (m + 1) (k : Int) := by
  rcases h with ⟨e, h⟩ | ⟨k', hk', e, h1, h2, h3, h4⟩
  · omega
  · obtain rfl : k = k' := by omega
    refine .inr ⟨k, hk, rfl, by omega, h2, fun j hj hjm hd => ?_, h4⟩
    rcases (by omega : j < m ∨ j = m) with h5 | rfl
    · exact h3 j hj h5 hd
    · omega
theorem best_cases {RL : List (ByteArray × (Int × Int))} {now : Int} {m : Nat} {kv : Int} (h : Best RL now m kv) : (kv = -1 ∧ Best RL now m (-1)) ∨ ∃ k : Nat, kv = (k : Int) ∧ k < RL.length ∧ k < m ∧ Best RL now m (k : Int) := by
  rcases h with ⟨e, h⟩ | ⟨k, hk, e, h1, h2⟩
  · exact .inl ⟨e, .inl ⟨rfl, h⟩⟩
  · subst e
    exact .inr ⟨k, rfl, hk, h1, .inr ⟨k, hk, rfl, h1, h2⟩⟩
theorem Picked.best {L : List (ByteArray × (Int × Int))} {now : Int} {OL RL : List (ByteArray × (Int × Int))} (h : Picked L now OL RL) (ho : Orders L) {k : Nat} (hb : Best RL now RL.length (k : Int)) (hk : k < RL.length) : Picked L now (OL ++ [RL[k]]) (RL.take k ++ RL.drop (k + 1)) := by
  rcases hb with ⟨e, _⟩ | ⟨k', hk', e, h1, h2, h3, h4⟩
  · omega
  · obtain rfl : k = k' := by omega
    exact h.step ho k hk h2 (fun j hj hd => h3 j hj hj hd) h4
theorem best_none {RL : List (ByteArray × (Int × Int))} {now : Int} (hb : Best RL now RL.length (-1)) : ∀ p ∈ RL, now < p.2.1 := by
  rcases hb with ⟨_, h⟩ | ⟨k', hk', e, _⟩
  · intro p hp
    obtain ⟨j, hj, e⟩ := List.getElem_of_mem hp
    subst e
    exact h j hj hj
  · omega

end Go.Proofs.Ytefadkmdfhjaeaa
