/- bellhopref18: Due. -/
import Derived.Test.YtefadkmdfhjaeaaWF
import Derived.Test.YtefadkmdfhjaeaaWG
import Derived.Test.YtefadkmdfhjaeaaWD
import Derived.Deep.RegionHeld3
/-! bellhopref18: Got. -/
namespace Go.Proofs.Ytefadkmdfhjaeaa
open Go.Conc Go.RowKit

/-- What the reference's Got does to the entries. -/
def RGStep (R R' : List EntR) (key : ByteArray) (ver : Nat) (b : Bool) : Prop :=
  (b = false ∧ R' = R ∧ (findR R key = none ∨ ∃ i, ∃ hi : i < R.length, findR R key = some i ∧ ver < R[i].ver)) ∨
  (b = true ∧ ∃ i, ∃ hi : i < R.length, findR R key = some i ∧ R[i].ver ≤ ver ∧ R' = R.eraseIdx i)
structure RGRes (w w' : World) (B : Nat) (wait : Int) (R : List EntR) (key : ByteArray) (ver : Nat) (e : Ending) : Prop where
  out : ∃ v' R' b, e = .returned (.tuple #[rwV wait v', .bool b]) ∧ RGStep R R' key ver b ∧ REnts w' B v' R' ∧ Only (fun _ => False) w w'
set_option maxRecDepth 100000 in
set_option maxHeartbeats 2000000 in
theorem rgot18_any (w : World) (B : Nat) (wait : Int) (v : Value) (R : List EntR) (h : REnts w B v R) (hB : B ≤ w.heap.size) (hR : R.length ≤ 1000) (key : ByteArray) (ver : Nat) :
    Calls Try.prog 12 #[rwV wait v, .string key, .int .u64 ver] w fun e w' => RGRes w w' B wait R key ver e := by
  obtain ⟨a, cap, rfl, h1, h2, h3⟩ := Sl.cells entRC_length h.row.sl
  unfold maxLen at h2
  have HRP := Lib.hid (show ∀ w' e R' b, (∃ v', e = .returned (.tuple #[rwV wait v', .bool b]) ∧ RGStep R R' key ver b ∧ REnts w' B v' R' ∧ Only (fun _ => False) w w') → RGRes w w' B wait R key ver e from fun _ _ R' b ⟨v', h⟩ => ⟨v', R', b, h⟩)
  have HH := Lib.hid h
  unfold rwV
  obtain ⟨W0, hW0⟩ : ∃ W0, W0 = w.alloc (.cells #[.int .i64 wait, .slice a R.length cap] 43) := ⟨_, rfl⟩
  have hbW0 : W0.heap[w.heap.size]? = some (.cells #[.int .i64 wait, .slice a R.length cap] 43 (0, 0)) := by rw [hW0]; exact heap_alloc_new w _
  have hoW0 : Only (fun _ => False) w W0 := by rw [hW0]; exact (Only.refl _ _).alloc _
  have hsW0 : W0.heap.size = w.heap.size + 1 := by rw [hW0]; simp
  obtain ⟨W, hW⟩ : ∃ W, W = W0.alloc (.cells #[.int .i64 0, .slice none 0 0] 43) := ⟨_, rfl⟩
  have hbW : W.heap[W0.heap.size]? = some (.cells #[.int .i64 0, .slice none 0 0] 43 (0, 0)) := by rw [hW]; exact heap_alloc_new W0 _
  have hoW : Only (fun _ => False) W0 W := by rw [hW]; exact (Only.refl _ _).alloc _
  have hsW : W.heap.size = W0.heap.size + 1 := by rw [hW]; simp
  have hb0 := hoW.old hbW0 id
  have hoA := hoW0.trans hoW
  have hsX : W0.heap.size = w.heap.size + 1 ∧ W.heap.size = w.heap.size + 2 := by omega
  rw [hsX.1] at hbW
  have hc3 := h3.new hoA (fun _ _ _ => id)
  have H0 := Lib.hid hb0
  have H2 := Lib.hid hbW
  have HOA := Lib.hid hoA
  have HSX := Lib.hid hsX
  have HC := Lib.hid hc3
  clear hb0 hbW hoA hsX hc3
  clear hbW0 hoW0 hoW hsW hsW0 h h3
  generalize hX : w.heap.size = X at *
  have HXW := Lib.hid hX
  clear hX
  go_enter Try.func12, Try.ntmps12
  go_upto_region 1 with (fail)
  rw [HXW.out, ← hW0, ← hW]
  clear hW0 hW
  have hxl1 : X + 1 < W.heap.size := lt_of_block H2.out
  have hxl : X < W.heap.size := by omega
  have x0 : W.cell? ⟨X, 0, none⟩ = some (.int .i64 wait) := cell_at H0.out 0
  have x1 : W.cell? ⟨X, 1, none⟩ = some (.slice a R.length cap) := cell_at H0.out 1
  have HFI := Lib.hid (rfind18_any W B wait _ R (HH.out.new HOA.out) key)
  have HFN := Lib.hid (show findR R key = none → findRI R key = -1 from fun e => by unfold findRI; rw [e])
  have HFS := Lib.hid (show ∀ i, findR R key = some i → findRI R key = (i : Int) from fun i e => by unfold findRI; rw [e])
  have HFK := Lib.hid (show ∀ i, findR R key = some i → ∃ hi : i < R.length, R[i].key = key from fun i e => findR_some e)
  generalize hfo : findR R key = fo at *
  generalize findRI R key = fi at *
  have HFO := Lib.hid hfo
  clear hfo
  go_wp2_with fail
  refine HFI.out.mono ?_
  rintro e w4 ⟨rfl, ho4⟩
  have hb0 := ho4.old H0.out id
  have hb2 := ho4.old H2.out id
  have hoC := HOA.out.trans ho4
  have hc4 := HC.out.new ho4 (fun _ _ _ => id)
  have hxl4 : X + 1 < w4.heap.size := lt_of_block hb2
  have hB4 : B ≤ w4.heap.size := by have := HOA.out.size; have := ho4.size; have := HXW.out; omega
  clear x0 x1 HFI hxl1 hxl
  have H04 := Lib.hid hb0
  have H24 := Lib.hid hb2
  have HOC := Lib.hid hoC
  have HC4 := Lib.hid hc4
  clear hb0 hb2 hoC hc4
  clear H0 H2 HOA HC ho4
  have hxl : X < w4.heap.size := by omega
  cases fo with
  | none =>
    have hm1 := HFN.out rfl
    subst hm1
    have HST := Lib.hid (show RGStep R R key ver false from .inl ⟨rfl, rfl, .inl HFO.out⟩)
    go_upto_region 3 with (fail)
    have x0 : w4.cell? ⟨X, 0, none⟩ = some (.int .i64 wait) := cell_at H04.out 0
    have x1 : w4.cell? ⟨X, 1, none⟩ = some (.slice a R.length cap) := cell_at H04.out 1
    have zf : ∀ i, w4.frozen? ⟨X + 1, i, none⟩ = false := free_at H24.out
    have z0 : w4.cell? ⟨(X + 1), 0, none⟩ = some (.int .i64 0) := cell_at H24.out 0
    have z1 : w4.cell? ⟨(X + 1), 1, none⟩ = some (.slice none 0 0) := cell_at H24.out 1
    have hn1 : ¬ X + 1 = X := by omega
    have hn2 : ¬ X = X + 1 := by omega
    go_wp2_with fail
    clear x0 x1 z0 z1 zf
    obtain ⟨s1, s2⟩ := lit_set H24.out [.int .i64 wait, .slice a R.length cap] rfl
    rw [show World.setCells w4 (X + 1) 0 [.int .i64 wait, .slice a R.length cap] = ((w4.setCell ⟨(X + 1), 0, none⟩ (.int .i64 wait)).setCell ⟨(X + 1), 1, none⟩ (.slice a R.length cap)) from rfl] at s1 s2
    generalize ((w4.setCell ⟨(X + 1), 0, none⟩ (.int .i64 wait)).setCell ⟨(X + 1), 1, none⟩ (.slice a R.length cap)) = wz at *
    have p0 : wz.cell? ⟨(X + 1), 0, none⟩ = some (.int .i64 wait) := cell_at s1 0
    have p1 : wz.cell? ⟨(X + 1), 1, none⟩ = some (.slice a R.length cap) := cell_at s1 1
    refine bodyPost_ret (v := .tuple #[.agg #[.int .i64 wait, .slice a R.length cap], .bool false]) (by simp [results, Try.results12, go_sem, p0, p1]) rfl ?_
    refine HRP.out _ _ R false ?_
    have hX := HXW.out
    have hfin := HOC.out.tr s2 (fun i hi e => by omega)
    exact ⟨_, rfl, HST.out, HH.out.new hfin, hfin⟩
  | some i =>
    obtain ⟨hi, _⟩ := HFK.out i rfl
    have hfi := HFS.out i rfl
    subst hfi
    clear HFN HFS HFK
    have hi0' : (0 : Int) ≤ (i : Int) := by omega
    have hi1' : (i : Int) < (R.length : Int) := by omega
    have hneg : ¬ (i : Int) < 0 := by omega
    have HWO := Lib.hid (rwo18_any w4 B wait _ R (HH.out.new HOC.out) hB4 hR i hi)
    obtain ⟨b, off, rfl, hc⟩ := HC4.out.at i hi
    have p1 := hc 1 _ rfl
    have x1 : w4.cell? ⟨X, 1, none⟩ = some (.slice (some ⟨b, off, none⟩) R.length cap) := cell_at H04.out 1
    have HST := Lib.hid (show ver < R[i].ver → RGStep R R key ver false from fun h => .inl ⟨rfl, rfl, .inr ⟨i, hi, HFO.out, h⟩⟩)
    have HST2 := Lib.hid (show R[i].ver ≤ ver → RGStep R (R.eraseIdx i) key ver true from fun h => .inr ⟨rfl, i, hi, HFO.out, h, rfl⟩)
    generalize R[i].ver = v1 at *
    clear hc
    by_cases hgt : (v1 : Int) > (ver : Int)
    · have HS := Lib.hid (HST.out (by omega))
      go_upto_region 3 with (fail)
      clear p1 x1
      have x0 : w4.cell? ⟨X, 0, none⟩ = some (.int .i64 wait) := cell_at H04.out 0
      have x1 : w4.cell? ⟨X, 1, none⟩ = some (.slice (some ⟨b, off, none⟩) R.length cap) := cell_at H04.out 1
      have zf : ∀ i, w4.frozen? ⟨X + 1, i, none⟩ = false := free_at H24.out
      have z0 : w4.cell? ⟨(X + 1), 0, none⟩ = some (.int .i64 0) := cell_at H24.out 0
      have z1 : w4.cell? ⟨(X + 1), 1, none⟩ = some (.slice none 0 0) := cell_at H24.out 1
      have hn1 : ¬ X + 1 = X := by omega
      have hn2 : ¬ X = X + 1 := by omega
      go_wp2_with fail
      clear x0 x1 z0 z1 zf
      obtain ⟨s1, s2⟩ := lit_set H24.out [.int .i64 wait, .slice (some ⟨b, off, none⟩) R.length cap] rfl
      rw [show World.setCells w4 (X + 1) 0 [.int .i64 wait, .slice (some ⟨b, off, none⟩) R.length cap] = ((w4.setCell ⟨(X + 1), 0, none⟩ (.int .i64 wait)).setCell ⟨(X + 1), 1, none⟩ (.slice (some ⟨b, off, none⟩) R.length cap)) from rfl] at s1 s2
      generalize ((w4.setCell ⟨(X + 1), 0, none⟩ (.int .i64 wait)).setCell ⟨(X + 1), 1, none⟩ (.slice (some ⟨b, off, none⟩) R.length cap)) = wz at *
      have p0 : wz.cell? ⟨(X + 1), 0, none⟩ = some (.int .i64 wait) := cell_at s1 0
      have p1 : wz.cell? ⟨(X + 1), 1, none⟩ = some (.slice (some ⟨b, off, none⟩) R.length cap) := cell_at s1 1
      refine bodyPost_ret (v := .tuple #[.agg #[.int .i64 wait, .slice (some ⟨b, off, none⟩) R.length cap], .bool false]) (by simp [results, Try.results12, go_sem, p0, p1]) rfl ?_
      refine HRP.out _ _ R false ?_
      have hX := HXW.out
      have hfin := HOC.out.tr s2 (fun i hi e => by omega)
      exact ⟨_, rfl, HS.out, HH.out.new hfin, hfin⟩
    · have HS := Lib.hid (HST2.out (by omega))
      have x0 : w4.cell? ⟨X, 0, none⟩ = some (.int .i64 wait) := cell_at H04.out 0
      have HLS := Lib.hid (show (R.eraseIdx i).length = R.length - 1 by rw [List.length_eraseIdx, if_pos hi])
      go_wp2_with fail
      refine HWO.out.mono ?_
      rintro e w7 ⟨v7, rfl, hent7, ho7, hfr7⟩
      obtain ⟨a9, c9, rfl, _, _, _⟩ := Sl.cells entRC_length hent7.row.sl
      rw [HLS.out] at hent7 ⊢ hfr7
      have hb2 := ho7.old H24.out id
      have hoG := HOC.out.trans ho7
      have hfr8 : ∀ g, (Value.slice a9 (R.length - 1) c9).ownBlock = some g → ¬ g = X + 1 := fun g hg e => by
        have h9 := hfr7 g hg
        omega
      have H27 := Lib.hid hb2
      have HOG := Lib.hid hoG
      have HENT7 := Lib.hid hent7
      have HFR8 := Lib.hid hfr8
      clear hb2 hoG hent7 hfr8
      clear x0 x1 ho7 hfr7
      have zf : ∀ i, w7.frozen? ⟨X + 1, i, none⟩ = false := free_at H27.out
      have z0 : w7.cell? ⟨(X + 1), 0, none⟩ = some (.int .i64 0) := cell_at H27.out 0
      have z1 : w7.cell? ⟨(X + 1), 1, none⟩ = some (.slice none 0 0) := cell_at H27.out 1
      go_wp2_with fail
      clear z0 z1 zf
      obtain ⟨s1, s2⟩ := lit_set H27.out [.int .i64 wait, .slice a9 (R.length - 1) c9] rfl
      rw [show World.setCells w7 (X + 1) 0 [.int .i64 wait, .slice a9 (R.length - 1) c9] = ((w7.setCell ⟨(X + 1), 0, none⟩ (.int .i64 wait)).setCell ⟨(X + 1), 1, none⟩ (.slice a9 (R.length - 1) c9)) from rfl] at s1 s2
      generalize ((w7.setCell ⟨(X + 1), 0, none⟩ (.int .i64 wait)).setCell ⟨(X + 1), 1, none⟩ (.slice a9 (R.length - 1) c9)) = wz at *
      have p0 : wz.cell? ⟨(X + 1), 0, none⟩ = some (.int .i64 wait) := cell_at s1 0
      have p1 : wz.cell? ⟨(X + 1), 1, none⟩ = some (.slice a9 (R.length - 1) c9) := cell_at s1 1
      refine bodyPost_ret (v := .tuple #[.agg #[.int .i64 wait, .slice a9 (R.length - 1) c9], .bool true]) (by simp [results, Try.results12, go_sem, p0, p1]) rfl ?_
      refine HRP.out _ _ (R.eraseIdx i) true ?_
      have hX := HXW.out
      have hfin := HOG.out.tr s2 (fun i hi e => by omega)
      refine ⟨_, rfl, HS.out, ⟨by have h9 := HENT7.out.row; rw [HLS.out] at h9 ⊢; exact h9.keptN s2 (fun g hg => HFR8.out g hg), fun e he => ?_⟩, hfin⟩
      exact (HH.out.has e (List.mem_of_mem_eraseIdx he)).new hfin
end Go.Proofs.Ytefadkmdfhjaeaa
/-! bellhopref18: Lost. -/
namespace Go.Proofs.Ytefadkmdfhjaeaa
open Go.Conc Go.RowKit

/-- An entry without the place of its list. -/
def EntR.p (e : EntR) : ByteArray × Nat × List Int × Int := (e.key, e.ver, e.has, e.due)
def lessN (n : Int) (l : List Int) : List Int := l.filter (fun k => !decide (k = n))
theorem lessN_snoc (n : Int) (l : List Int) (k : Int) : lessN n (l ++ [k]) = if k = n then lessN n l else lessN n l ++ [k] := by
  unfold lessN
  rw [List.filter_append]
  by_cases h : k = n
  · rw [if_pos h, List.filter_cons_of_neg (by simpa using h)]; simp
  · rw [if_neg h, List.filter_cons_of_pos (by simpa using h)]; simp
/-- A node is lost: who has what, plainly. -/
def lostP (n : Int) (l : List (ByteArray × Nat × List Int × Int)) : List (ByteArray × Nat × List Int × Int) :=
  (l.map (fun p => (p.1, p.2.1, lessN n p.2.2.1, p.2.2.2))).filter (fun p => !p.2.2.1.isEmpty)
theorem lostP_snoc (n : Int) (l : List (ByteArray × Nat × List Int × Int)) (p : ByteArray × Nat × List Int × Int) : lostP n (l ++ [p]) = if lessN n p.2.2.1 = [] then lostP n l else lostP n l ++ [(p.1, p.2.1, lessN n p.2.2.1, p.2.2.2)] := by
  unfold lostP
  rw [List.map_append, List.filter_append]
  by_cases h : lessN n p.2.2.1 = []
  · rw [if_pos h, List.map_singleton, List.filter_cons_of_neg (by simp [h])]; simp
  · rw [if_neg h, List.map_singleton, List.filter_cons_of_pos (by simpa using h)]; simp
structure RLRes (w w' : World) (B : Nat) (wait : Int) (R : List EntR) (n : Int) (e : Ending) : Prop where
  out : ∃ v' R', e = .returned (rwV wait v') ∧ R'.map EntR.p = lostP n (R.map EntR.p) ∧ REnts w' B v' R' ∧ Only (fun _ => False) w w'
set_option maxRecDepth 100000 in
set_option maxHeartbeats 4000000 in
theorem rlost18_any (w : World) (B : Nat) (wait : Int) (v : Value) (R : List EntR) (h : REnts w B v R) (hB : B ≤ w.heap.size) (hR : R.length ≤ 1000) (hH : ∀ e ∈ R, e.has.length ≤ 1000) (n : Int) :
    Calls Try.prog 14 #[rwV wait v, .int .i64 n] w fun e w' => RLRes w w' B wait R n e := by
  obtain ⟨i0, hi0, iz0, iz1, iz2⟩ := info_parts infoREnt
  obtain ⟨j0, hj0, jz0, jz1, jz2⟩ := info_parts infoIntR
  obtain ⟨a, cap, rfl, h1, h2, h3⟩ := Sl.cells entRC_length h.row.sl
  unfold maxLen at h2
  have HH := Lib.hid h
  unfold rwV
  obtain ⟨W0, hW0⟩ : ∃ W0, W0 = w.alloc (.cells #[.int .i64 wait, .slice a R.length cap] 43) := ⟨_, rfl⟩
  have hbW0 : W0.heap[w.heap.size]? = some (.cells #[.int .i64 wait, .slice a R.length cap] 43 (0, 0)) := by rw [hW0]; exact heap_alloc_new w _
  have hoW0 : Only (fun _ => False) w W0 := by rw [hW0]; exact (Only.refl _ _).alloc _
  have hsW0 : W0.heap.size = w.heap.size + 1 := by rw [hW0]; simp
  obtain ⟨W1, hW1⟩ : ∃ W1, W1 = W0.alloc (.cells #[.int .i64 0, .slice none 0 0] 43) := ⟨_, rfl⟩
  have hbW1 : W1.heap[W0.heap.size]? = some (.cells #[.int .i64 0, .slice none 0 0] 43 (0, 0)) := by rw [hW1]; exact heap_alloc_new W0 _
  have hoW1 : Only (fun _ => False) W0 W1 := by rw [hW1]; exact (Only.refl _ _).alloc _
  have hsW1 : W1.heap.size = W0.heap.size + 1 := by rw [hW1]; simp
  obtain ⟨W, hW⟩ : ∃ W, W = W1.alloc (.cells #[.int .i64 wait, .slice none 0 0] 43) := ⟨_, rfl⟩
  have hbW : W.heap[W1.heap.size]? = some (.cells #[.int .i64 wait, .slice none 0 0] 43 (0, 0)) := by rw [hW]; exact heap_alloc_new W1 _
  have hoW : Only (fun _ => False) W1 W := by rw [hW]; exact (Only.refl _ _).alloc _
  have hsW : W.heap.size = W1.heap.size + 1 := by rw [hW]; simp
  have hb0 := hoW.old (hoW1.old hbW0 id) id
  have hb1 := hoW.old hbW1 id
  have hoA := (hoW0.trans hoW1).trans hoW
  have hsX : W0.heap.size = w.heap.size + 1 ∧ W1.heap.size = w.heap.size + 2 ∧ W.heap.size = w.heap.size + 3 := by omega
  rw [hsX.1] at hb1
  rw [hsX.2.1] at hbW
  have hc3 := h3.new hoW0 (fun _ _ _ => id)
  have HC := Lib.hid h3
  have H0 := Lib.hid hb0
  have H1 := Lib.hid hb1
  have H2 := Lib.hid hbW
  have HOA := Lib.hid hoA
  have HSX := Lib.hid hsX
  clear hb0 hb1 hbW hoA hsX
  clear hbW0 hbW1 hoW0 hoW1 hoW hsW hsW0 hsW1 h h3 hc3
  generalize hX : w.heap.size = X at *
  have HXW := Lib.hid hX
  clear hX
  go_enter Try.func14, Try.ntmps14
  go_upto_region 2 with (fail)
  rw [HXW.out, ← hW0, ← hW1, ← hW]
  clear hW0 hW1 hW
  go_wp2_with fail
  go_loopg [6] R.length (fun gk v6 wr => ∃ (i : Nat) (R1 : List EntR) (v1 : Value), v6 = .int .i64 i ∧ i ≤ R.length ∧ Only (fun _ => False) w wr ∧ wr.heap[X]? = some (.cells #[.int .i64 wait, .slice a R.length cap] 43 (0, 0)) ∧ wr.heap[X + 1]? = some (.cells #[.int .i64 0, .slice none 0 0] 43 (0, 0)) ∧ wr.heap[X + 2]? = some (.cells #[.int .i64 wait, v1] 43 (0, 0)) ∧ wr.ownsRow X 85 4 v1 R1.length (R1.flatMap entRC) ∧ (∀ e ∈ R1, wr.ownsRow X 3 1 e.s e.has.length (rowI e.has)) ∧ R1.map EntR.p = lostP n ((R.take i).map EntR.p) ∧ R1.length ≤ i ∧ gk = R.length - i)
  case atStart => exact ⟨0, [], _, rfl, Nat.zero_le _, HOA.out, H0.out, H1.out, H2.out, World.ownsRow_nil _ _ _ _, fun e he => (by cases he), rfl, Nat.zero_le _, rfl⟩
  case round =>
    obtain ⟨i, R1, v1, rfl, hi, hor, hb0, hb1, hb2, hown, hhas, hR1, hR1l, hg⟩ := hrel
    have x1 : wr.cell? ⟨X, 1, none⟩ = some (.slice a R.length cap) := cell_at hb0 1
    by_cases hlt : i < R.length
    · -- round
      have hlt' : (i : Int) < (R.length : Int) := by omega
      have htk : R.take (i + 1) = R.take i ++ [R[i]] := by rw [List.take_add_one, List.getElem?_eq_getElem hlt]; rfl
      have HLP := Lib.hid (show lostP n ((R.take (i + 1)).map EntR.p) = if lessN n R[i].has = [] then lostP n ((R.take i).map EntR.p) else lostP n ((R.take i).map EntR.p) ++ [(R[i].key, R[i].ver, lessN n R[i].has, R[i].due)] by rw [htk, List.map_append, List.map_singleton, lostP_snoc]; rfl)
      have hHas := HH.out.has R[i] (List.getElem_mem hlt)
      have hH1 := hH R[i] (List.getElem_mem hlt)
      obtain ⟨b, off, rfl, hc⟩ := (HC.out.new hor (fun _ _ _ => id)).at i hlt
      have p0 := hc 0 _ rfl
      have p1 := hc 1 _ rfl
      have p2 := hc 2 _ rfl
      have p3 := hc 3 _ rfl
      simp only [Nat.add_zero] at p0
      unfold EntR.s at p2 hHas
      generalize R[i].key = k1 at *
      generalize R[i].ver = ver1 at *
      generalize R[i].has = has1 at *
      generalize R[i].due = d1 at *
      generalize R[i].a = a1 at *
      generalize R[i].cap = c1 at *
      obtain ⟨V, hV⟩ : ∃ V, V = wr.alloc (.cells #[.string k1, .int .u64 ver1, .slice a1 has1.length c1, .int .i64 d1] 85) := ⟨_, rfl⟩
      have hbV : V.heap[wr.heap.size]? = some (.cells #[.string k1, .int .u64 ver1, .slice a1 has1.length c1, .int .i64 d1] 85 (0, 0)) := by rw [hV]; exact heap_alloc_new wr _
      have hoV : Only (fun _ => False) wr V := by rw [hV]; exact (Only.refl _ _).alloc _
      have hsV : V.heap.size = wr.heap.size + 1 := by rw [hV]; simp
      have hHV := (hHas.new hor).new hoV
      obtain ⟨_, hh1, hh2, hh3⟩ := hHV.sl.intsAt
      unfold maxLen at hh2
      have hsz : X + 3 ≤ wr.heap.size := by have h9 := lt_of_block hb2; omega
      have q0 := hoV.old hb0 id
      have q1 := hoV.old hb1 id
      have q2 := hoV.old hb2 id
      have hoV2 := hor.trans hoV
      have hown2 := owns_only hown hoV (fun _ _ => id)
      have hlt1 : ∀ g, v1.ownBlock = some g → g < wr.heap.size := fun g hg => (hown.lt g hg).2
      have hhas2 : ∀ e ∈ R1, V.ownsRow X 3 1 e.s e.has.length (rowI e.has) := fun e he => owns_only (hhas e he) hoV (fun _ _ => id)
      have HIN := Lib.hid hh3
      have HOR := Lib.hid hoV2
      have Q0 := Lib.hid q0
      have Q1 := Lib.hid q1
      have Q2 := Lib.hid q2
      have HOWN := Lib.hid hown2
      have HHAS := Lib.hid hhas2
      have HR1 := Lib.hid hR1
      have Hg := Lib.hid hg
      have HBV := Lib.hid hbV
      have HLT := Lib.hid hlt1
      clear hh3 hoV2 q0 q1 q2 hown2 hhas2 hR1 hg hbV hlt1
      clear hc htk hHas hHV hor hb0 hb1 hb2 hown hhas hoV
      go_upto_region 6 with (fail)
      rw [← hV]
      clear hV p0 p1 p2 p3 x1
      have hYE := hsV
      generalize hZ : wr.heap.size = Z at *
      have HZE := Lib.hid hYE
      have HZ2 := Lib.hid hZ
      clear hYE hZ
      clear hsV
      go_wp2_with fail
      go_loopg [8, 9] has1.length (fun g2 v8 v9 w2 => ∃ k : Nat, v9 = .int .i64 k ∧ k ≤ has1.length ∧ Only (fun _ => False) V w2 ∧ w2.ownsRow V.heap.size 3 1 v8 (lessN n (has1.take k)).length (rowI (lessN n (has1.take k))) ∧ g2 = has1.length - k)
      case atStart => exact ⟨0, rfl, Nat.zero_le _, Only.refl _ _, World.ownsRow_nil _ _ _ _, rfl⟩
      case round =>
        obtain ⟨k, rfl, hk, ho2, hown8, hg2⟩ := hrel
        have hbz := ho2.old HBV.out id
        have z2 : wr.cell? ⟨Z, 2, none⟩ = some (.slice a1 has1.length c1) := cell_at hbz 2
        by_cases hkl : k < has1.length
        · -- scan
          have hkl' : (k : Int) < (has1.length : Int) := by omega
          obtain ⟨b3, off3, rfl, hc0⟩ := HIN.out.at k hkl
          have y0 := ho2.cell hc0 id
          have htk : has1.take (k + 1) = has1.take k ++ [has1[k]] := by rw [List.take_add_one, List.getElem?_eq_getElem hkl]; rfl
          have HTK := Lib.hid (show lessN n (has1.take (k + 1)) = if has1[k] = n then lessN n (has1.take k) else lessN n (has1.take k) ++ [has1[k]] by rw [htk, lessN_snoc])
          have hfl : (lessN n (has1.take k)).length ≤ k := Nat.le_trans (List.length_filter_le _ _) (by simp; omega)
          generalize has1[k] = x at *
          have Hg2 := Lib.hid hg2
          have HO2 := Lib.hid ho2
          have HOW8 := Lib.hid hown8
          have HBZ := Lib.hid hbz
          clear hg2 ho2 hown8 hbz
          clear hc0 htk
          by_cases hx : x = n
          · have HV := Lib.hid (show lessN n (has1.take (k + 1)) = lessN n (has1.take k) by rw [HTK.out, if_pos hx])
            go_wp2_with fail
            go_roundg (has1.length - (k + 1))
            case measure => rw [Hg2.out]; omega
            case rel => exact ⟨k + 1, by go_num, by omega, HO2.out, by rw [HV.out]; exact HOW8.out, rfl⟩
          · have HV := Lib.hid (show lessN n (has1.take (k + 1)) = lessN n (has1.take k) ++ [x] by rw [HTK.out, if_neg hx])
            go_wp2_with (at_builtin; refine Wait.mk ?_)
            refine Wait.go (wpList_append_src _ rfl (.tmp 39) (.tmp 45) 30 30 rfl V.heap.size 3 j0 _ 1 8 Try.underlying30 hj0 jz0 jz1 jz2 rfl u8 (lessN n (has1.take k)).length (rowI (lessN n (has1.take k))) rfl (HOW8.out.alloc _) _ 1 [.int .i64 x] rfl ?src5 ?m5 ?b5 ?base5 ?_)
            case src5 => exact Src.ofSlice _ Try.underlying30 _ _ _ _ rfl (news_new _ _ _) (by simp [Value.oneCell'])
            case m5 => unfold maxLen; omega
            case b5 => omega
            case base5 => have := HO2.out.size; simp; omega
            intro v5 w5 own5 gr5 hv5
            have ho5 : Only (fun _ => False) V w5 := (HO2.out.alloc _).own (HOW8.out.alloc _) (Nat.le_refl _) gr5
            have HO5 := Lib.hid ho5
            have HOW5 := Lib.hid own5
            clear ho5 own5
            clear gr5 hv5 z2 y0
            go_wp2_with fail
            go_roundg (has1.length - (k + 1))
            case measure => rw [Hg2.out]; omega
            case rel => exact ⟨k + 1, by go_num, by omega, HO5.out, by rw [HV.out, rowI_append, List.length_append]; exact HOW5.out, rfl⟩
        · -- done
          have hkl' : ¬ (k : Int) < (has1.length : Int) := by omega
          rw [List.take_of_length_le (by omega)] at hown8
          have HFN := Lib.hid (show lessN n has1 = [] ↔ (lessN n has1).length = 0 from List.length_eq_zero_iff.symm)
          generalize lessN n has1 = F at *
          obtain ⟨_, fa, fc, rfl, _⟩ := Sl.of_owns hown8
          have zf : ∀ i, wr.frozen? ⟨Z, i, none⟩ = false := free_at hbz
          have hZV : Z < V.heap.size := lt_of_block HBV.out
          have hZr : Z < wr.heap.size := lt_of_block hbz
          obtain ⟨w6, hw6⟩ : ∃ w6, w6 = wr.setCell ⟨Z, 2, none⟩ (.slice fa F.length fc) := ⟨_, rfl⟩
          have t6 : Only (fun i => i = Z) wr w6 := by rw [hw6]; exact (Only.refl _ _).setCell (S := fun i => i = Z) (p := ⟨Z, 2, none⟩) (.inr rfl) _
          have hbz6 : w6.heap[Z]? = some (.cells #[.string k1, .int .u64 ver1, .slice fa F.length fc, .int .i64 d1] 85 (0, 0)) := by rw [hw6]; exact set_at hbz 2 _
          have hown6 := owns_only hown8 t6 (fun k hk e => by omega)
          have hoR6 : Only (fun _ => False) w w6 := (HOR.out.trans ho2).tr t6 (fun i hi e => by have := HXW.out; omega)
          have hV6 : Only (fun i => i = Z) V w6 := (ho2.weaken (fun _ _ => False.elim)).trans t6
          have q0 := hV6.old Q0.out (by omega)
          have q1 := hV6.old Q1.out (by omega)
          have q2 := hV6.old Q2.out (by omega)
          have hown1 : w6.ownsRow X 85 4 v1 R1.length (R1.flatMap entRC) := owns_n HOWN.out hV6 (fun g hg e => by have := HLT.out g hg; omega)
          have hhas6 : ∀ e ∈ R1, w6.ownsRow X 3 1 e.s e.has.length (rowI e.has) := fun e he => owns_ty (HHAS.out e he) hV6 (cells_not HBV.out (by decide))
          have hown6b := ownsBase hown6 (show X ≤ V.heap.size by omega)
          have HOR6 := Lib.hid hoR6
          have Q06 := Lib.hid q0
          have Q16 := Lib.hid q1
          have Q26 := Lib.hid q2
          have HOW6 := Lib.hid hown1
          have HHAS6 := Lib.hid hhas6
          have HF6 := Lib.hid hown6b
          have HBZ6 := Lib.hid hbz6
          clear hoR6 q0 q1 q2 hown1 hhas6 hown6b hbz6
          clear t6 hown6 hV6 hown8 ho2
          by_cases hF : F.length = 0
          · -- empty
            have hF2 : ¬ (0 : Int) < (F.length : Int) := by omega
            have HV := Lib.hid (show lostP n ((R.take (i + 1)).map EntR.p) = lostP n ((R.take i).map EntR.p) by rw [HLP.out, if_pos (HFN.out.2 hF)])
            clear hF
            go_upto_region 13 with (fail)
            rw [← hw6]
            clear hw6 z2 zf
            go_wp2_with fail
            go_roundg (R.length - (i + 1))
            case measure => rw [Hg.out]; omega
            case rel => exact ⟨i + 1, R1, v1, by go_num, by omega, HOR6.out, Q06.out, Q16.out, Q26.out, HOW6.out, HHAS6.out, by rw [HV.out]; exact HR1.out, by omega, rfl⟩
          · -- kept
            have hF2 : (0 : Int) < (F.length : Int) := by omega
            have HV := Lib.hid (show lostP n ((R.take (i + 1)).map EntR.p) = lostP n ((R.take i).map EntR.p) ++ [(k1, ver1, F, d1)] by rw [HLP.out, if_neg (fun e => hF (HFN.out.1 e))])
            go_upto_region 13 with (fail)
            rw [← hw6]
            clear hw6 z2 zf hF
            have x1 : w6.cell? ⟨X + 2, 1, none⟩ = some v1 := cell_at Q26.out 1
            have hX26 : X + 2 < w6.heap.size := lt_of_block Q26.out
            have z0 : w6.cell? ⟨Z, 0, none⟩ = some (.string k1) := cell_at HBZ6.out 0
            have z1 : w6.cell? ⟨Z, 1, none⟩ = some (.int .u64 ver1) := cell_at HBZ6.out 1
            have z2 : w6.cell? ⟨Z, 2, none⟩ = some (.slice fa F.length fc) := cell_at HBZ6.out 2
            have z3 : w6.cell? ⟨Z, 3, none⟩ = some (.int .i64 d1) := cell_at HBZ6.out 3
            go_wp2_with (at_builtin; refine Wait.mk ?_)
            refine Wait.go (wpList_append_src _ rfl (.tmp 53) (.tmp 55) 41 41 rfl X 85 i0 _ 4 56 Try.underlying41 hi0 iz0 iz1 iz2 rfl v1 R1.length (R1.flatMap entRC) rfl (HOW6.out.alloc _) _ 1 (entRC ⟨k1, ver1, F, d1, fa, fc⟩) rfl ?src5 ?m5 ?b5 ?base5 ?_)
            case src5 => exact Src.ofSlice _ Try.underlying41 _ _ _ _ rfl (news_new _ _ _) (entRC_one _)
            case m5 => unfold maxLen; omega
            case b5 => omega
            case base5 => simp; omega
            intro v5 w7 own5 gr5 hv5
            have hal := (Only.refl (fun _ => False) w6).alloc (.cells #[.string k1, .int .u64 ver1, .slice fa F.length fc, .int .i64 d1] 85)
            have hov := HOW6.out.alloc (.cells #[.string k1, .int .u64 ver1, .slice fa F.length fc, .int .i64 d1] 85)
            have q0 := blkGr (hal.old Q06.out id) hov (by decide) gr5
            have q1 := blkGr (hal.old Q16.out id) hov (by decide) gr5
            have q2 := blkGr (hal.old Q26.out id) hov (by decide) gr5
            have hhas7 : ∀ e ∈ R1 ++ [(⟨k1, ver1, F, d1, fa, fc⟩ : EntR)], w7.ownsRow X 3 1 e.s e.has.length (rowI e.has) := fun e he => by
              rcases List.mem_append.1 he with he | he
              · exact ownsGr (owns_only (HHAS6.out e he) hal (fun _ _ => id)) hov (by decide) gr5 rfl
              · obtain rfl := List.mem_singleton.1 he
                exact ownsGr (owns_only HF6.out hal (fun _ _ => id)) hov (by decide) gr5 rfl
            have ho7 : Only (fun _ => False) w w7 := (HOR6.out.alloc _).grown gr5 (fun k e => .inl (by have := (HOW6.out.lt k e).1; have := HXW.out; omega))
            obtain ⟨_, va, vc, rfl, _⟩ := Sl.of_owns own5
            have HO7 := Lib.hid ho7
            have HOW7 := Lib.hid own5
            have HHAS7 := Lib.hid hhas7
            have Q07 := Lib.hid q0
            have Q17 := Lib.hid q1
            have Q27 := Lib.hid q2
            clear ho7 own5 hhas7 q0 q1 q2
            clear gr5 hv5 hal hov x1 z0 z1 z2 z3
            have xf : ∀ i, w7.frozen? ⟨X + 2, i, none⟩ = false := free_at Q27.out
            have x1 : w7.cell? ⟨X + 2, 1, none⟩ = some v1 := cell_at Q27.out 1
            obtain ⟨w8, hw8⟩ : ∃ w8, w8 = w7.setCell ⟨X + 2, 1, none⟩ (.slice va (R1.length + 1) vc) := ⟨_, rfl⟩
            have t8 : Only (fun i => i = X + 2) w7 w8 := by rw [hw8]; exact (Only.refl _ _).setCell (S := fun i => i = X + 2) (p := ⟨X + 2, 1, none⟩) (.inr rfl) _
            have q2 : w8.heap[X + 2]? = some (.cells #[.int .i64 wait, .slice va (R1.length + 1) vc] 43 (0, 0)) := by rw [hw8]; exact set_at Q27.out 1 _
            have q0 := t8.old Q07.out (by omega)
            have q1 := t8.old Q17.out (by omega)
            have how8 : w8.ownsRow X 85 4 (.slice va (R1.length + 1) vc) (R1.length + 1) (R1.flatMap entRC ++ entRC ⟨k1, ver1, F, d1, fa, fc⟩) := owns_ty HOW7.out t8 (cells_not Q27.out (by decide))
            have hhas8 : ∀ e ∈ R1 ++ [(⟨k1, ver1, F, d1, fa, fc⟩ : EntR)], w8.ownsRow X 3 1 e.s e.has.length (rowI e.has) := fun e he => owns_ty (HHAS7.out e he) t8 (cells_not Q27.out (by decide))
            have ho8 := HO7.out.tr t8 (fun i hi e => by have := HXW.out; omega)
            have HO8 := Lib.hid ho8
            have HOW8 := Lib.hid how8
            have HHAS8 := Lib.hid hhas8
            have Q08 := Lib.hid q0
            have Q18 := Lib.hid q1
            have Q28 := Lib.hid q2
            clear ho8 how8 hhas8 q0 q1 q2
            clear t8
            go_wp2_with fail
            rw [← hw8]
            clear hw8 x1 xf
            go_roundg (R.length - (i + 1))
            case measure => rw [Hg.out]; omega
            case rel => exact ⟨i + 1, R1 ++ [⟨k1, ver1, F, d1, fa, fc⟩], _, by go_num, by omega, HO8.out, Q08.out, Q18.out, Q28.out, by rw [List.length_append, List.flatMap_append]; exact (by simpa using HOW8.out), HHAS8.out, by rw [HV.out, List.map_append, HR1.out]; rfl, by rw [List.length_append]; exact Nat.add_le_add_right hR1l 1, rfl⟩
    · -- end
      have hlt' : ¬ (i : Int) < (R.length : Int) := by omega
      rw [List.take_of_length_le (by omega)] at hR1
      obtain ⟨_, va, vc, rfl, _⟩ := Sl.of_owns hown
      have HOR := Lib.hid hor
      have Q1 := Lib.hid hb1
      have Q2 := Lib.hid hb2
      have HOWN := Lib.hid hown
      have HHAS := Lib.hid hhas
      have HR1 := Lib.hid hR1
      clear hor hb1 hb2 hown hhas hR1
      clear hb0 hg
      have x0 : wr.cell? ⟨X + 2, 0, none⟩ = some (.int .i64 wait) := cell_at Q2.out 0
      have x2 : wr.cell? ⟨X + 2, 1, none⟩ = some (.slice va R1.length vc) := cell_at Q2.out 1
      have zf : ∀ i, wr.frozen? ⟨X + 1, i, none⟩ = false := free_at Q1.out
      have z0 : wr.cell? ⟨(X + 1), 0, none⟩ = some (.int .i64 0) := cell_at Q1.out 0
      have z1 : wr.cell? ⟨(X + 1), 1, none⟩ = some (.slice none 0 0) := cell_at Q1.out 1
      go_wp2_with fail
      clear x0 x1 x2 z0 z1 zf
      obtain ⟨s1, s2⟩ := lit_set Q1.out [.int .i64 wait, .slice va R1.length vc] rfl
      rw [show World.setCells wr (X + 1) 0 [.int .i64 wait, .slice va R1.length vc] = ((wr.setCell ⟨(X + 1), 0, none⟩ (.int .i64 wait)).setCell ⟨(X + 1), 1, none⟩ (.slice va R1.length vc)) from rfl] at s1 s2
      generalize ((wr.setCell ⟨(X + 1), 0, none⟩ (.int .i64 wait)).setCell ⟨(X + 1), 1, none⟩ (.slice va R1.length vc)) = wz at *
      have p0 : wz.cell? ⟨(X + 1), 0, none⟩ = some (.int .i64 wait) := cell_at s1 0
      have p1 : wz.cell? ⟨(X + 1), 1, none⟩ = some (.slice va R1.length vc) := cell_at s1 1
      refine bodyPost_ret (v := .agg #[.int .i64 wait, .slice va R1.length vc]) (by simp [results, Try.results14, go_sem, p0, p1]) rfl ?_
      have hfin := HOR.out.tr s2 (fun i hi e => by have := HXW.out; omega)
      have hX1 := cells_not Q1.out (e := 85) (by decide)
      have hX2 := cells_not Q1.out (e := 3) (by decide)
      exact ⟨⟨_, R1, rfl, HR1.out, ⟨SlB.of_owns (owns_ty HOWN.out s2 hX1) hB, fun e he => SlB.of_owns (owns_ty (HHAS.out e he) s2 hX2) hB⟩, hfin⟩⟩
end Go.Proofs.Ytefadkmdfhjaeaa
/-! bellhopref18: Due. -/
namespace Go.Proofs.Ytefadkmdfhjaeaa
open Go.Conc Go.RowKit

theorem infoRAsk : (Try.prog.info? 55).map (fun i => (i.zero, i.size, i.bytes)) = some (some (.agg #[.int .i64 0, .string ⟨#[]⟩, .int .u64 0]), 3, 32) := by kernel_rfl
/-- An entry as a thing with a tick and an order. -/
def kdo (ord : ByteArray → Int) (e : EntR) : ByteArray × (Int × Int) := (e.key, (e.due, ord e.key))
/-- Whom an entry asks. -/
def askR (e : EntR) : AskT := ⟨e.has.headD 0, e.key, e.ver⟩
/-- What is set again. -/
def againP (at_ : Int) (l : List EntR) : List (ByteArray × Nat × List Int × Int) := (l.filter (fun e => decide (1 < e.has.length))).map (fun e => (e.key, e.ver, e.has.tail, at_))
theorem againP_snoc (at_ : Int) (l : List EntR) (e : EntR) : againP at_ (l ++ [e]) = if 1 < e.has.length then againP at_ l ++ [(e.key, e.ver, e.has.tail, at_)] else againP at_ l := by
  unfold againP
  rw [List.filter_append]
  by_cases h : 1 < e.has.length
  · rw [if_pos h, List.filter_cons_of_pos (by simpa using h), List.map_append]; rfl
  · rw [if_neg h, List.filter_cons_of_neg (by simpa using h)]; simp
theorem erase_map {α β : Type} (f : α → β) (l : List α) (k : Nat) : (l.eraseIdx k).map f = (l.map f).take k ++ (l.map f).drop (k + 1) := by
  rw [List.eraseIdx_eq_take_drop_succ, List.map_append, List.map_take, List.map_drop]
theorem erase_perm {α : Type} (O l : List α) (k : Nat) (hk : k < l.length) : (O ++ [l[k]] ++ l.eraseIdx k).Perm (O ++ l) := by
  rw [List.append_assoc, List.eraseIdx_eq_take_drop_succ]
  exact List.Perm.append_left O (take_drop_perm l k hk)
theorem rowI_tail {w : World} {a : Option Addr} {n cap : Nat} {h0 : Int} {t : List Int} (h : Sl w 1 (.slice a n cap) (h0 :: t).length (rowI (h0 :: t))) (b off : Nat) (ha : a = some ⟨b, off, none⟩) : Sl w 1 (.slice (some ⟨b, off + 1, none⟩) t.length (cap - 1)) t.length (rowI t) := by
  subst ha
  obtain ⟨_, a', cap', he, h3, h4, h5⟩ := h
  simp only [Value.slice.injEq] at he
  obtain ⟨rfl, rfl, rfl⟩ := he
  simp only [List.length_cons] at h3 h5
  refine ⟨by rw [rowI_length]; omega, _, _, rfl, by omega, by omega, ?_⟩
  rcases h5 with h5 | ⟨b', off', h6, hc⟩
  · omega
  · simp only [Option.some.injEq, Addr.mk.injEq] at h6
    obtain ⟨rfl, rfl, _⟩ := h6
    refine .inr ⟨b, off + 1, rfl, fun j u hu => ?_⟩
    have := hc (j + 1) u (by unfold rowI at hu ⊢; simpa using hu)
    rwa [show off + (j + 1) = off + 1 + j by omega] at this
structure RDPost (w w' : World) (B : Nat) (wait : Int) (R : List EntR) (ord : ByteArray → Int) (now at_ : Int) (e : Ending) : Prop where
  out : ∃ v' va OR RR G, e = .returned (.tuple #[rwV wait v', va]) ∧ Picked (R.map (kdo ord)) now (OR.map (kdo ord)) (RR.map (kdo ord)) ∧ (∀ e ∈ RR, now < e.due) ∧ (OR ++ RR).Perm R ∧ REnts w' B v' (RR ++ G) ∧ G.map EntR.p = againP at_ OR ∧ SlB w' B 3 va OR.length ((OR.map askR).flatMap askC) ∧ Only (fun _ => False) w w'
set_option maxRecDepth 100000 in
set_option maxHeartbeats 8000000 in
theorem rdue18_any (w : World) (B : Nat) (wait : Int) (v : Value) (R : List EntR) (h : REnts w B v R) (hB : B ≤ w.heap.size) (hR : R.length ≤ 1000) (hH : ∀ e ∈ R, e.has.length ≤ 1000 ∧ e.has ≠ []) (ord : ByteArray → Int) (hord : Orders (R.map (kdo ord))) (now : Int) (hw0 : 0 ≤ wait) (hw1 : wait ≤ 1000) (hnow : -9223372036854775808 ≤ now) :
    Calls Try.prog 15 #[rwV wait v, .int .i64 now] w fun e w' => RDPost w w' B wait R ord now (min now 4611686018427387904 + wait) e := by
  obtain ⟨i0, hi0, iz0, iz1, iz2⟩ := info_parts infoREnt
  obtain ⟨j0, hj0, jz0, jz1, jz2⟩ := info_parts infoIntR
  obtain ⟨k0, hk0, kz0, kz1, kz2⟩ := info_parts infoRAsk
  obtain ⟨a, cap, rfl, h1, h2, h3⟩ := Sl.cells entRC_length h.row.sl
  unfold maxLen at h2
  have HH := Lib.hid h
  have HORD := Lib.hid hord
  unfold rwV
  obtain ⟨W0, hW0⟩ : ∃ W0, W0 = w.alloc (.cells #[.int .i64 wait, .slice a R.length cap] 43) := ⟨_, rfl⟩
  have hbW0 : W0.heap[w.heap.size]? = some (.cells #[.int .i64 wait, .slice a R.length cap] 43 (0, 0)) := by rw [hW0]; exact heap_alloc_new w _
  have hoW0 : Only (fun _ => False) w W0 := by rw [hW0]; exact (Only.refl _ _).alloc _
  have hsW0 : W0.heap.size = w.heap.size + 1 := by rw [hW0]; simp
  obtain ⟨W, hW⟩ : ∃ W, W = W0.alloc (.cells #[.int .i64 0, .slice none 0 0] 43) := ⟨_, rfl⟩
  have hbW : W.heap[W0.heap.size]? = some (.cells #[.int .i64 0, .slice none 0 0] 43 (0, 0)) := by rw [hW]; exact heap_alloc_new W0 _
  have hoW : Only (fun _ => False) W0 W := by rw [hW]; exact (Only.refl _ _).alloc _
  have hsW : W.heap.size = W0.heap.size + 1 := by rw [hW]; simp
  have hb0 := hoW.old hbW0 id
  have hoA := hoW0.trans hoW
  have hsX : W0.heap.size = w.heap.size + 1 ∧ W.heap.size = w.heap.size + 2 := by omega
  rw [hsX.1] at hbW
  have H0 := Lib.hid hb0
  have H1 := Lib.hid hbW
  have HOA := Lib.hid hoA
  have HSX := Lib.hid hsX
  clear hb0 hbW hoA hsX
  clear hbW0 hoW0 hoW hsW hsW0 h h3 hord
  generalize hX : w.heap.size = X at *
  have HXW := Lib.hid hX
  clear hX
  go_enter Try.func15, Try.ntmps15
  go_upto_region 2 with (fail)
  rw [HXW.out, ← hW0, ← hW]
  clear hW0 hW
  go_wp2_with fail
  go_loopg [6, 7] R.length (fun gk v6 v7 wr => ∃ (OR RR G : List EntR) (vX : Value), Only (fun _ => False) w wr ∧ wr.heap[X]? = some (.cells #[.int .i64 wait, vX] 43 (0, 0)) ∧ wr.heap[X + 1]? = some (.cells #[.int .i64 0, .slice none 0 0] 43 (0, 0)) ∧ SlB wr B 4 vX RR.length (RR.flatMap entRC) ∧ (∀ e ∈ RR, e ∈ R) ∧
    wr.ownsRow X 55 3 v6 OR.length ((OR.map askR).flatMap askC) ∧ wr.ownsRow X 85 4 v7 G.length (G.flatMap entRC) ∧ (∀ g, v7.ownBlock = some g → vX.ownBlock ≠ some g) ∧ (∀ g, v6.ownBlock = some g → vX.ownBlock ≠ some g) ∧ (∀ e ∈ G, wr.ownsRow X 3 1 e.s e.has.length (rowI e.has)) ∧ G.map EntR.p = againP (min now 4611686018427387904 + wait) OR ∧ G.length ≤ OR.length ∧
    Picked (R.map (kdo ord)) now (OR.map (kdo ord)) (RR.map (kdo ord)) ∧ (OR ++ RR).Perm R ∧ gk = RR.length)
  case atStart => exact ⟨[], R, [], _, HOA.out, H0.out, H1.out, HH.out.row.new HOA.out, fun _ h => h, World.ownsRow_nil _ _ _ _, World.ownsRow_nil _ _ _ _, fun g hg => (by cases hg), fun g hg => (by cases hg), fun e he => (by cases he), rfl, Nat.le_refl _, Picked.start _ _, by simp, rfl⟩
  case round =>
    obtain ⟨OR, RR, G, vX, hor, hbx, hby, hrow, hmem, hask, hag, hap7, hap6, hG, hGp, hGl, hP, hperm, hg⟩ := hrel
    obtain ⟨xa, xc, rfl, hx1, hx2, hx3⟩ := Sl.cells entRC_length hrow.sl
    have hRR : OR.length + RR.length = R.length := by have := hperm.length_eq; rwa [List.length_append] at this
    have x1 : wr.cell? ⟨X, 1, none⟩ = some (.slice xa RR.length xc) := cell_at hbx 1
    unfold maxLen at hx2
    have Hg := Lib.hid hg
    have HOR := Lib.hid hor
    have HBX := Lib.hid hbx
    have HBY := Lib.hid hby
    have HROW := Lib.hid hrow
    have HMEM := Lib.hid hmem
    have HASK := Lib.hid hask
    have HAG := Lib.hid hag
    have HAP7 := Lib.hid hap7
    have HAP6 := Lib.hid hap6
    have HG := Lib.hid hG
    have HGP := Lib.hid hGp
    have HP := Lib.hid hP
    have HPERM := Lib.hid hperm
    have HCC := Lib.hid hx3
    clear hg hor hbx hby hrow hmem hask hag hap7 hap6 hG hGp hP hperm hx3
    obtain ⟨V, hV⟩ : ∃ V, V = wr := ⟨_, rfl⟩
    subst hV
    go_wp2_with fail
    go_loopg [8, 9] RR.length (fun g2 v8 v9 wx => ∃ (m : Nat) (kv : Int), v8 = .int .i64 kv ∧ v9 = .int .i64 m ∧ m ≤ RR.length ∧ Best (RR.map (kdo ord)) now m kv ∧ Only (fun _ => False) V wx ∧ g2 = RR.length - m)
    case atStart => exact ⟨0, -1, rfl, rfl, Nat.zero_le _, best_zero _ now, Only.refl _ _, rfl⟩
    case round =>
      obtain ⟨m, kv, rfl, rfl, hm, hb, hox, hg2⟩ := hrel
      have Hg2 := Lib.hid hg2
      have HB := Lib.hid hb
      have HOX := Lib.hid hox
      clear hg2 hb hox
      clear x1
      have x1 : wr.cell? ⟨X, 1, none⟩ = some (.slice xa RR.length xc) := cell_at (HOX.out.old HBX.out id) 1
      have hml : (RR.map (kdo ord)).length = RR.length := List.length_map ..
      by_cases hlt : m < RR.length
      · -- scan
        have hlt' : (m : Int) < (RR.length : Int) := by omega
        obtain ⟨b, off, rfl, hcc⟩ := HCC.out.once (by omega)
        have z1 : wr.cell? ⟨b, off + m * 4 + 3, none⟩ = some (.int .i64 RR[m].due) := HOX.out.cell (hcc m hlt 3 _ rfl) id
        have hge : ∀ j (hj : j < RR.length), ((RR.map (kdo ord))[j]'(by rw [List.length_map]; exact hj)).2.1 = RR[j].due := fun j hj => by rw [List.getElem_map]; rfl
        have HKO := Lib.hid (show (RR.map (kdo ord)).length = RR.length from hml)
        have HGE := Lib.hid hge
        clear hge hml
        by_cases hn : now < RR[m].due
        · have HB2 := Lib.hid (best_skip HB.out (by rw [HKO.out]; exact hlt) (by rw [HGE.out m hlt]; exact hn))
          clear hcc
          generalize RR[m].due = x at *
          have d1 : decide (x ≤ now) = false := decide_eq_false (by omega)
          clear hn
          go_upto_region 7 with (fail)
          go_quiet (fail)
          go_wp2_with fail
          go_roundg (RR.length - (m + 1))
          case measure => rw [Hg2.out]; omega
          case rel => exact ⟨m + 1, kv, rfl, by go_num, by omega, HB2.out, HOX.out.drewN _, rfl⟩
        · rcases best_cases HB.out with ⟨rfl, hb⟩ | ⟨k, rfl, hk, hkm, hb⟩
          · have HB2 := Lib.hid (best_first hb (by decide) (by rw [HKO.out]; exact hlt) (by rw [HGE.out m hlt]; exact hn))
            clear hcc hb
            generalize RR[m].due = x at *
            have d1 : decide (x ≤ now) = true := decide_eq_true (by omega)
            clear hn
            go_upto_region 7 with (fail)
            go_quiet (fail)
            go_wp2_with fail
            go_roundg (RR.length - (m + 1))
            case measure => rw [Hg2.out]; omega
            case rel => exact ⟨m + 1, _, rfl, by go_num, by omega, HB2.out, HOX.out.drewN _, rfl⟩
          · rw [HKO.out] at hk
            have z2 : wr.cell? ⟨b, off + k * 4 + 3, none⟩ = some (.int .i64 RR[k].due) := HOX.out.cell (hcc k hk 3 _ rfl) id
            have hk' : (k : Int) < (RR.length : Int) := by omega
            have d2 : decide ((k : Int) < 0) = false := decide_eq_false (by omega)
            clear hcc
            by_cases hl2 : RR[m].due < RR[k].due
            · have HB2 := Lib.hid (best_less hb (by rw [HKO.out]; exact hk) (by rw [HKO.out]; exact hlt) (by rw [HGE.out m hlt]; exact hn) (by rw [HGE.out m hlt, HGE.out k hk]; exact hl2))
              clear hb
              generalize RR[m].due = x at *
              generalize RR[k].due = y at *
              have d1 : decide (x ≤ now) = true := decide_eq_true (by omega)
              have d3 : decide (x < y) = true := decide_eq_true (by omega)
              clear hn hl2
              go_upto_region 7 with (fail)
              go_quiet (fail)
              go_wp2_with fail
              go_roundg (RR.length - (m + 1))
              case measure => rw [Hg2.out]; omega
              case rel => exact ⟨m + 1, _, rfl, by go_num, by omega, HB2.out, HOX.out.drewN _, rfl⟩
            · have HB2 := Lib.hid (best_keep hb (by rw [HKO.out]; exact hk) (by rw [HKO.out]; exact hlt) (by rw [HGE.out m hlt, HGE.out k hk]; exact hl2))
              clear hb
              generalize RR[m].due = x at *
              generalize RR[k].due = y at *
              have d1 : decide (x ≤ now) = true := decide_eq_true (by omega)
              have d3 : decide (x < y) = false := decide_eq_false (by omega)
              clear hn hl2
              go_upto_region 7 with (fail)
              go_quiet (fail)
              go_wp2_with fail
              go_roundg (RR.length - (m + 1))
              case measure => rw [Hg2.out]; omega
              case rel => exact ⟨m + 1, _, rfl, by go_num, by omega, HB2.out, HOX.out.drewN _, rfl⟩
      · -- picked
        obtain rfl : m = RR.length := by omega
        have hlt' : ¬ ((RR.length : Nat) : Int) < (RR.length : Int) := by omega
        have hbx := HOX.out.old HBX.out id
        have hby := HOX.out.old HBY.out id
        have hoX := HOR.out.trans HOX.out
        have hrow := HROW.out.new HOX.out
        have hask := owns_only HASK.out HOX.out (fun _ _ => id)
        have hag := owns_only HAG.out HOX.out (fun _ _ => id)
        have hG := fun e he => owns_only (HG.out e he) HOX.out (fun _ _ => id)
        have hBx : B ≤ wr.heap.size := by have := hoX.size; have := HXW.out; omega
        have hXl : X + 1 < wr.heap.size := lt_of_block hby
        have hGlen : G.length ≤ 1000 := by omega
        have hcc2 := HCC.out.new HOX.out (fun _ _ _ => id)
        have HBX2 := Lib.hid hbx
        have HBY2 := Lib.hid hby
        have HOX2 := Lib.hid hoX
        have HROW2 := Lib.hid hrow
        have HASK2 := Lib.hid hask
        have HAG2 := Lib.hid hag
        have HG2 := Lib.hid hG
        have HCC2 := Lib.hid hcc2
        clear hbx hby hoX hrow hask hag hG hcc2
        clear HBX HBY HOR HROW HASK HAG HG HOX x1
        have x1 : wr.cell? ⟨X, 1, none⟩ = some (.slice xa RR.length xc) := cell_at HBX2.out 1
        have HBB := Lib.hid (show Best (RR.map (kdo ord)) now (RR.map (kdo ord)).length kv by rw [hml]; exact HB.out)
        clear hml
        rcases best_cases HBB.out with ⟨rfl, hb⟩ | ⟨k, rfl, hk, _, hb⟩
        · -- none
          have hnone := best_none hb
          have HN := Lib.hid (show ∀ e ∈ RR, now < e.due from fun e he => hnone _ (List.mem_map.2 ⟨e, he, rfl⟩))
          clear hb hnone
          have hneg : (-1 : Int) < 0 := by decide
          have hxl : X < wr.heap.size := by omega
          go_upto_region 15 with (fail)
          go_wp2_with (at_builtin; refine Wait.mk ?_)
          refine Wait.go (wpList_append_src _ rfl (.tmp 88) (.tmp 90) 41 41 rfl wr.heap.size 85 i0 _ 4 56 Try.underlying41 hi0 iz0 iz1 iz2 rfl (.slice (some ⟨wr.heap.size, 0, none⟩) 0 0) 0 [] rfl (own_at (heap_alloc_new wr _) _ _ (Nat.le_refl _)) _ RR.length (RR.flatMap entRC) rfl ?src4 ?m4 ?b4 ?base4 ?_)
          case src4 => exact Sl.src Try.underlying41 ((HROW2.out.new ((Only.refl _ _).alloc _)).sl) (fl_one entRC_one RR)
          case m4 => unfold maxLen; omega
          case b4 => omega
          case base4 => simp
          intro v5 w5 own5 gr5 hv5
          simp only [Nat.zero_add, List.nil_append] at own5
          have ho5 : Only (fun _ => False) wr w5 := ((Only.refl _ _).alloc _).own (own_at (heap_alloc_new wr _) wr.heap.size 4 (Nat.le_refl _)) (Nat.le_refl _) gr5
          have HO5 := Lib.hid ho5
          have HOW5 := Lib.hid own5
          clear ho5 own5
          clear gr5 hv5 x1 hxl
          have hxl : X < w5.heap.size := by have := HO5.out.size; omega
          go_wp2_with (at_builtin; refine Wait.mk ?_)
          refine Wait.go (wpList_append_src _ rfl (.tmp 91) (.tmp 92) 41 41 rfl wr.heap.size 85 i0 _ 4 56 Try.underlying41 hi0 iz0 iz1 iz2 rfl v5 RR.length (RR.flatMap entRC) rfl HOW5.out u7 G.length (G.flatMap entRC) rfl ?src6 ?m6 ?b6 ?base6 ?_)
          case src6 => exact Sl.src Try.underlying41 (Sl.of_owns (owns_only HAG2.out HO5.out (fun _ _ => id))) (fl_one entRC_one G)
          case m6 => unfold maxLen; omega
          case b6 => omega
          case base6 => have := HO5.out.size; omega
          intro v8 w8 own8 gr8 hv8
          have ho8 : Only (fun _ => False) wr w8 := HO5.out.own HOW5.out (Nat.le_refl _) gr8
          obtain ⟨N, hN⟩ : ∃ N, N = RR.length + G.length := ⟨_, rfl⟩
          have HNN := Lib.hid (show (RR ++ G).length = N by rw [hN, List.length_append])
          have hcel : RR.flatMap entRC ++ G.flatMap entRC = (RR ++ G).flatMap entRC := (List.flatMap_append ..).symm
          rw [← hN, hcel] at own8
          obtain ⟨_, a9, c9, rfl, _⟩ := Sl.of_owns own8
          have hbx := ho8.old HBX2.out id
          have hby := ho8.old HBY2.out id
          have hX8 : X < w8.heap.size := lt_of_block hbx
          have xf : ∀ i, w8.frozen? ⟨X, i, none⟩ = false := free_at hbx
          have x1 : w8.cell? ⟨X, 1, none⟩ = some (.slice xa RR.length xc) := cell_at hbx 1
          have hoF := HOX2.out.trans ho8
          have hask := owns_only HASK2.out ho8 (fun _ _ => id)
          have hG := fun e he => owns_only (HG2.out e he) ho8 (fun _ _ => id)
          have HO8 := Lib.hid ho8
          have HOW8 := Lib.hid own8
          have HBX8 := Lib.hid hbx
          have HBY8 := Lib.hid hby
          have HOF := Lib.hid hoF
          have HASK8 := Lib.hid hask
          have HG8 := Lib.hid hG
          clear ho8 own8 hbx hby hoF hask hG
          clear hN hcel gr8 hv8 hxl
          go_upto_region 16 with (fail)
          obtain ⟨w9, hw9⟩ : ∃ w9, w9 = w8.setCell ⟨X, 1, none⟩ (.slice a9 N c9) := ⟨_, rfl⟩
          have t9 : Only (fun i => i = X) w8 w9 := by rw [hw9]; exact (Only.refl _ _).setCell (S := fun i => i = X) (p := ⟨X, 1, none⟩) (.inr rfl) _
          have hbx : w9.heap[X]? = some (.cells #[.int .i64 wait, .slice a9 N c9] 43 (0, 0)) := by rw [hw9]; exact set_at HBX8.out 1 _
          have hby := t9.old HBY8.out (by omega)
          rw [← hw9]
          clear hw9 x1 xf
          have T9 := Lib.hid t9
          have HBX9 := Lib.hid hbx
          have HBY9 := Lib.hid hby
          clear t9 hbx hby
          have x0 : w9.cell? ⟨X, 0, none⟩ = some (.int .i64 wait) := cell_at HBX9.out 0
          have x1 : w9.cell? ⟨X, 1, none⟩ = some (.slice a9 N c9) := cell_at HBX9.out 1
          have zf : ∀ i, w9.frozen? ⟨X + 1, i, none⟩ = false := free_at HBY9.out
          have z0 : w9.cell? ⟨(X + 1), 0, none⟩ = some (.int .i64 0) := cell_at HBY9.out 0
          have z1 : w9.cell? ⟨(X + 1), 1, none⟩ = some (.slice none 0 0) := cell_at HBY9.out 1
          have hn1 : ¬ X + 1 = X := by omega
          have hn2 : ¬ X = X + 1 := by omega
          go_wp2_with fail
          clear x0 x1 z0 z1 zf
          obtain ⟨s1, s2⟩ := lit_set HBY9.out [.int .i64 wait, .slice a9 N c9] rfl
          rw [show World.setCells w9 (X + 1) 0 [.int .i64 wait, .slice a9 N c9] = ((w9.setCell ⟨(X + 1), 0, none⟩ (.int .i64 wait)).setCell ⟨(X + 1), 1, none⟩ (.slice a9 N c9)) from rfl] at s1 s2
          generalize ((w9.setCell ⟨(X + 1), 0, none⟩ (.int .i64 wait)).setCell ⟨(X + 1), 1, none⟩ (.slice a9 N c9)) = wz at *
          have p0 : wz.cell? ⟨(X + 1), 0, none⟩ = some (.int .i64 wait) := cell_at s1 0
          have p1 : wz.cell? ⟨(X + 1), 1, none⟩ = some (.slice a9 N c9) := cell_at s1 1
          refine bodyPost_ret (v := .tuple #[.agg #[.int .i64 wait, .slice a9 N c9], u6]) (by simp [results, Try.results15, go_sem, p0, p1]) rfl ?_
          have hfin := (HOF.out.tr T9.out (fun i hi e => by have := HXW.out; omega)).tr s2 (fun i hi e => by have := HXW.out; omega)
          have hXE := fun e hne => cells_not HBX8.out (e := e) hne
          have hYE := fun e hne => cells_not HBY9.out (e := e) hne
          have how := owns_ty (owns_ty HOW8.out T9.out (hXE _ (by decide))) s2 (hYE _ (by decide))
          have hask9 := owns_ty (owns_ty HASK8.out T9.out (hXE _ (by decide))) s2 (hYE _ (by decide))
          refine ⟨⟨_, _, OR, RR, G, rfl, HP.out, HN.out, HPERM.out, ⟨by rw [HNN.out]; exact SlB.of_owns how hBx, fun e he => ?_⟩, HGP.out, SlB.of_owns hask9 (by have := HXW.out; omega), hfin⟩⟩
          rcases List.mem_append.1 he with he | he
          · exact (HH.out.has e (HMEM.out e he)).new hfin
          · exact SlB.of_owns (owns_ty (owns_ty (HG8.out e he) T9.out (hXE _ (by decide))) s2 (hYE _ (by decide))) (by have := HXW.out; omega)
        · -- one
          rw [List.length_map] at hk
          have hP2 := HP.out.best HORD.out hb (by rw [List.length_map]; exact hk)
          have hPM := (erase_perm OR RR k hk).trans HPERM.out
          have hEM : ∀ e ∈ RR.eraseIdx k, e ∈ R := fun e he => HMEM.out e (List.mem_of_mem_eraseIdx he)
          have hLE : (RR.eraseIdx k).length = RR.length - 1 := by rw [List.length_eraseIdx, if_pos hk]
          have hM := HMEM.out RR[k] (List.getElem_mem hk)
          have hHk := hH _ hM
          have hHas := (HH.out.has _ hM).new HOX2.out
          have hHO := HH.out.has _ hM
          obtain ⟨b, off, rfl, hc⟩ := HCC2.out.at k hk
          rw [List.getElem_map, ← erase_map] at hP2
          have hP3 : Picked (R.map (kdo ord)) now ((OR ++ [RR[k]]).map (kdo ord)) ((RR.eraseIdx k).map (kdo ord)) := by rw [List.map_append]; exact hP2
          have hGA := againP_snoc (min now 4611686018427387904 + wait) OR RR[k]
          clear hP2 hb hM
          generalize RR[k] = e at *
          obtain ⟨key, ver, has, due, a1, c1⟩ := e
          obtain ⟨hh1, hh2⟩ := hHk
          obtain ⟨h0, tl, rfl⟩ := List.exists_cons_of_ne_nil hh2
          have p0 := hc 0 _ rfl
          have p1 := hc 1 _ rfl
          have p2 : wr.cell? ⟨b, off + k * 4 + 2, none⟩ = some (.slice a1 (tl.length + 1) c1) := hc 2 _ rfl
          have p3 := hc 3 _ rfl
          simp only [Nat.add_zero] at p0 p1 p3
          simp only [List.length_cons] at hh1
          have hAS : ((OR ++ [(⟨key, ver, h0 :: tl, due, a1, c1⟩ : EntR)]).map askR).flatMap askC = (OR.map askR).flatMap askC ++ askC ⟨h0, key, ver⟩ := by rw [List.map_append, List.flatMap_append]; simp [askR]
          have hk1 : (0 : Int) ≤ (k : Int) ∧ (k : Int) < (RR.length : Int) := by omega
          obtain ⟨hk2, hk3⟩ := hk1
          have hneg : ¬ (k : Int) < 0 := by omega
          have hxl : X < wr.heap.size := by omega
          obtain ⟨VZ, hVZ⟩ : ∃ VZ, VZ = wr.alloc (.cells #[.string key, .int .u64 ver, .slice a1 (tl.length + 1) c1, .int .i64 due] 85) := ⟨_, rfl⟩
          have hbVZ : VZ.heap[wr.heap.size]? = some (.cells #[.string key, .int .u64 ver, .slice a1 (tl.length + 1) c1, .int .i64 due] 85 (0, 0)) := by rw [hVZ]; exact heap_alloc_new wr _
          have hoVZ : Only (fun _ => False) wr VZ := by rw [hVZ]; exact (Only.refl _ _).alloc _
          have hsVZ : VZ.heap.size = wr.heap.size + 1 := by rw [hVZ]; simp
          have hwo := rwo18_any VZ B wait (.slice (some ⟨b, off, none⟩) RR.length xc) RR ⟨HROW2.out.new hoVZ, fun e he => (HH.out.has e (HMEM.out e he)).new (HOX2.out.trans hoVZ)⟩ (by have := hoVZ.size; omega) (by omega) k hk
          have hbx := hoVZ.old HBX2.out id
          have hby := hoVZ.old HBY2.out id
          have hHV := hHas.new hoVZ
          have hoV2 := HOX2.out.trans hoVZ
          have hask := owns_only HASK2.out hoVZ (fun _ _ => id)
          have hag := owns_only HAG2.out hoVZ (fun _ _ => id)
          have hG := fun e he => owns_only (HG2.out e he) hoVZ (fun _ _ => id)
          have hlt6 : ∀ g, u6.ownBlock = some g → g < wr.heap.size := fun g hg => (HASK2.out.lt g hg).2
          have hlt7 : ∀ g, u7.ownBlock = some g → g < wr.heap.size := fun g hg => (HAG2.out.lt g hg).2
          have HP3 := Lib.hid hP3
          have HPM := Lib.hid hPM
          have HEM := Lib.hid hEM
          have HLE := Lib.hid hLE
          have HGA := Lib.hid hGA
          have HAS := Lib.hid hAS
          have HWO := Lib.hid hwo
          have HBX3 := Lib.hid hbx
          have HBY3 := Lib.hid hby
          have HHV := Lib.hid hHV
          have HOV := Lib.hid hoV2
          have HASK3 := Lib.hid hask
          have HAG3 := Lib.hid hag
          have HG3 := Lib.hid hG
          have HLT6 := Lib.hid hlt6
          have HLT7 := Lib.hid hlt7
          have HBZ := Lib.hid hbVZ
          have HHO := Lib.hid hHO
          clear hP3 hPM hEM hLE hGA hAS hwo hbx hby hHV hoV2 hask hag hG hlt6 hlt7 hbVZ hHO
          clear hc hHas hoVZ HCC HCC2 HB HBB HP HPERM
          go_upto_region 11 with (fail)
          rw [← hVZ]
          clear hVZ p0 p1 p2 p3 x1
          generalize hZ : wr.heap.size = Z at *
          have HZE := Lib.hid hZ
          clear hZ
          have hXV : X + 1 < VZ.heap.size := lt_of_block HBY3.out
          have x0 : VZ.cell? ⟨X, 0, none⟩ = some (.int .i64 wait) := cell_at HBX3.out 0
          have x1 : VZ.cell? ⟨X, 1, none⟩ = some (.slice (some ⟨b, off, none⟩) RR.length xc) := cell_at HBX3.out 1
          go_wp2_with fail
          refine HWO.out.mono ?_
          rintro e w8 ⟨v8, rfl, hent8, ho8, hfr8⟩
          obtain ⟨a9, c9, rfl, _, _, _⟩ := Sl.cells entRC_length hent8.row.sl
          have hrow8 := hent8.row
          rw [HLE.out] at hfr8 ⊢
          rw [show Value.slice a9 (RR.eraseIdx k).length c9 = .slice a9 (RR.length - 1) c9 by rw [HLE.out]] at hrow8
          have hbx := ho8.old HBX3.out id
          have hby := ho8.old HBY3.out id
          have hbz := ho8.old HBZ.out id
          clear x0 x1 hent8
          have hX8 : X < w8.heap.size := lt_of_block hbx
          have xf : ∀ i, w8.frozen? ⟨X, i, none⟩ = false := free_at hbx
          have x0 : w8.cell? ⟨X, 0, none⟩ = some (.int .i64 wait) := cell_at hbx 0
          have x1 : w8.cell? ⟨X, 1, none⟩ = some (.slice (some ⟨b, off, none⟩) RR.length xc) := cell_at hbx 1
          have HO8 := Lib.hid ho8
          have HROW8 := Lib.hid hrow8
          have HFR8 := Lib.hid hfr8
          have HBX8 := Lib.hid hbx
          have HBY8 := Lib.hid hby
          have HBZ8 := Lib.hid hbz
          clear ho8 hrow8 hfr8 hbx hby hbz
          go_upto_region 12 with (fail)
          clear x0 x1 xf
          obtain ⟨s1, s2⟩ := lit_set HBX8.out [.int .i64 wait, .slice a9 (RR.length - 1) c9] rfl
          rw [show World.setCells w8 X 0 [.int .i64 wait, .slice a9 (RR.length - 1) c9] = ((w8.setCell ⟨X, 0, none⟩ (.int .i64 wait)).setCell ⟨X, 1, none⟩ (.slice a9 (RR.length - 1) c9)) from rfl] at s1 s2
          generalize ((w8.setCell ⟨X, 0, none⟩ (.int .i64 wait)).setCell ⟨X, 1, none⟩ (.slice a9 (RR.length - 1) c9)) = w9 at *
          have p0 : w9.cell? ⟨X, 0, none⟩ = some (.int .i64 wait) := cell_at s1 0
          have p1 : w9.cell? ⟨X, 1, none⟩ = some (.slice a9 (RR.length - 1) c9) := cell_at s1 1
          have hXZ : X + 1 < Z := hXl
          have hby := s2.old HBY8.out (by omega)
          have hbz := s2.old HBZ8.out (by omega)
          have hXE := fun e hne => cells_not HBX8.out (e := e) hne
          have hask := owns_ty (owns_only HASK3.out HO8.out (fun _ _ => id)) s2 (hXE _ (by decide))
          have hag := owns_ty (owns_only HAG3.out HO8.out (fun _ _ => id)) s2 (hXE _ (by decide))
          have hG := fun e he => owns_ty (owns_only (HG3.out e he) HO8.out (fun _ _ => id)) s2 (hXE _ (by decide))
          have hVZs := HBZ.out
          have hZV : Z < VZ.heap.size := lt_of_block hVZs
          have hrow := HROW8.out.keptN s2 (fun g hg e => by have := HFR8.out g hg; omega)
          have ho9 : Only (fun _ => False) w w9 := (HOV.out.trans HO8.out).tr s2 (fun i hi e => by have := HXW.out; omega)
          have hs9 : VZ.heap.size ≤ w9.heap.size := Nat.le_trans HO8.out.size s2.size
          have hfr9 : ∀ g, (Value.slice a9 (RR.length - 1) c9).ownBlock = some g → VZ.heap.size ≤ g ∧ g < w9.heap.size := fun g hg => by have := HFR8.out g hg; have := s2.size; omega
          have hh9 := HHO.out.sl.intsAt
          obtain ⟨_, hc9, hm9, hia⟩ := hh9
          obtain ⟨b0, off0, rfl, g00⟩ := hia.at 0 (by simp)
          have hb0w : b0 < w.heap.size := World.block_lt_of_cell? _ _ g00
          have g0 : w9.cell? ⟨b0, off0, none⟩ = some (.int .i64 h0) := ho9.cell g00 id
          have hTLs : Sl w 1 (.slice (some ⟨b0, off0 + 1, none⟩) tl.length (c1 - 1)) tl.length (rowI tl) := rowI_tail HHO.out.sl b0 off0 rfl
          have z0 : w9.cell? ⟨Z, 0, none⟩ = some (.string key) := cell_at hbz 0
          have z1 : w9.cell? ⟨Z, 1, none⟩ = some (.int .u64 ver) := cell_at hbz 1
          have z2 : w9.cell? ⟨Z, 2, none⟩ = some (.slice (some ⟨b0, off0, none⟩) (tl.length + 1) c1) := cell_at hbz 2
          have hnz : ¬ u6.ownBlock = some Z := fun e9 => by have := HLT6.out Z e9; omega
          have hnb : ¬ u6.ownBlock = some b0 := fun e9 => by have := (hask.lt b0 e9).1; have := HXW.out; omega
          have HC12 := Lib.hid (show ∀ w', Only (fun k => u6.ownBlock = some k) w9 w' → w'.cell? ⟨Z, 2, none⟩ = some (.slice (some ⟨b0, off0, none⟩) (tl.length + 1) c1) ∧ w'.cell? ⟨b0, off0, none⟩ = some (.int .i64 h0) ∧ w'.cell? ⟨Z, 0, none⟩ = some (.string key) ∧ w'.cell? ⟨Z, 1, none⟩ = some (.int .u64 ver) from fun w' ho => ⟨ho.cell z2 hnz, ho.cell g0 hnb, ho.cell z0 hnz, ho.cell z1 hnz⟩)
          have hORl : OR.length ≤ 1000 := by omega
          have hX9 : X ≤ w9.heap.size := by omega
          unfold maxLen at hm9
          simp only [List.length_cons] at hc9
          have HBX9 := Lib.hid s1
          have HBY9 := Lib.hid hby
          have HBZ9 := Lib.hid hbz
          have HASK9 := Lib.hid hask
          have HAG9 := Lib.hid hag
          have HG9 := Lib.hid hG
          have HROW9 := Lib.hid hrow
          have HO9 := Lib.hid ho9
          have HFR9 := Lib.hid hfr9
          have HTL := Lib.hid hTLs
          have HS9 := Lib.hid hs9
          clear s1 hby hbz hask hag hG hrow ho9 hfr9 hTLs hs9
          clear z0 z1 z2 g0 p0 p1 g00 hia s2 hXE hVZs
          generalize u6 = uo at *
          go_cut [6] (fun v6 wx => Only (fun k => uo.ownBlock = some k) w9 wx ∧ wx.ownsRow X 55 3 v6 (OR.length + 1) ((OR.map askR).flatMap askC ++ askC ⟨h0, key, ver⟩) ∧ ∀ g, v6.ownBlock = some g → uo.ownBlock = some g ∨ w9.heap.size ≤ g)
          case first =>
            obtain ⟨z2, g0, z0, z1⟩ := HC12.out w9 (Only.refl _ _)
            have hpos : (0 : Int) < (tl.length : Int) + 1 := by omega
            have hask := HASK9.out
            go_region_held3 (fun w' => w'.cell? ⟨Z, 2, none⟩ = some (.slice (some ⟨b0, off0, none⟩) (tl.length + 1) c1) ∧ w'.cell? ⟨b0, off0, none⟩ = some (.int .i64 h0) ∧ w'.cell? ⟨Z, 0, none⟩ = some (.string key) ∧ w'.cell? ⟨Z, 1, none⟩ = some (.int .u64 ver))
              (((refine HC12.out _ ?_); (repeat (first | (with_reducible assumption) | (with_reducible exact Only.refl _ _) | (with_reducible refine Only.drew ?_) | (with_reducible refine Only.alloc ?_ _) | (with_reducible refine onlySet ?_ (by first | (with_reducible assumption) | omega) _) | (with_reducible refine Only.trans ?_ (by with_reducible assumption))))))
              (first
                | (refine stepAppend rfl (.tmp 56) (.tmp 66) 51 51 rfl X 55 k0 _ 3 32 Try.underlying51 hk0 kz0 kz1 kz2 rfl uo OR.length ((OR.map askR).flatMap askC) rfl ?_ _ 1 (askC ⟨h0, key, ver⟩) rfl (Src.ofSlice _ Try.underlying51 _ _ _ _ rfl (news_at (e := 55) ?_) (askC_one _)) ?_ ?_ ?_ ?_
                   · (repeat (first | (with_reducible assumption) | (with_reducible refine ownsDr ?_) | (with_reducible refine ownsAl ?_ _)))
                   · (apply Eq.trans; (case h₁ => repeat (first | (with_reducible assumption) | (with_reducible exact heap_alloc_new _ _) | (with_reducible apply blk_new; (repeat (first | (with_reducible rfl) | (with_reducible apply sz_set) | (with_reducible apply sz_alloc) | (with_reducible apply sz_drew))); done) | (with_reducible apply blk_same) | (with_reducible apply blk_ne; case hn => (first | assumption | omega)) | (with_reducible apply blk_old) | (with_reducible apply blk_drew))); (case h₂ => rfl))
                   · unfold maxLen; omega
                   · omega
                   · first | assumption | (simp; omega)
                   intro v8 wq own8 gr8 hv8
                   have hO8 : Only (fun k => uo.ownBlock = some k) w9 wq := (by (refine Only.grown ?_ gr8 (fun k e => .inr e); (repeat (first | (with_reducible assumption) | (with_reducible exact Only.refl _ _) | (with_reducible refine Only.drew ?_) | (with_reducible refine Only.alloc ?_ _) | (with_reducible refine onlySet ?_ (by first | (with_reducible assumption) | omega) _) | (with_reducible refine Only.trans ?_ (by with_reducible assumption))))))
                   have hv9 : ∀ g, v8.ownBlock = some g → uo.ownBlock = some g ∨ w9.heap.size ≤ g := fun g hg => (by rcases hv8 g hg with h9 | h9; exact .inl h9; exact .inr (by simp at h9; omega))))
            all_goals
              go_wp2_with fail
              go_meet
              exact ⟨hO8, own8, hv9⟩
          case rest =>
            obtain ⟨ho10, hask10, hv10⟩ := hcut
            generalize hw10 : wc = w10 at *
            clear hw10
            obtain ⟨z2, _, z0, z1⟩ := HC12.out w10 ho10
            have hbx := ho10.old HBX9.out (ownKind_not HASK9.out HBX9.out (by decide))
            have hby := ho10.old HBY9.out (ownKind_not HASK9.out HBY9.out (by decide))
            have hag := owns_ty HAG9.out ho10 (ownKind_ne HASK9.out (by decide))
            have hG := fun e he => owns_ty (HG9.out e he) ho10 (ownKind_ne HASK9.out (by decide))
            have hrow := HROW9.out.keptN ho10 (fun g hg e => by have := HFR9.out g hg; have := HLT6.out g e; omega)
            have how := HO9.out.tr ho10 (fun i hi e => by have := (HASK9.out.lt i e).1; have := HXW.out; omega)
            have hs10 := ho10.size
            have hap7 : ∀ g, u7.ownBlock = some g → (Value.slice a9 (RR.length - 1) c9).ownBlock ≠ some g := fun g h7 h8 => by have := HLT7.out g h7; have := HFR9.out g h8; omega
            have hap6 : ∀ g, u6.ownBlock = some g → (Value.slice a9 (RR.length - 1) c9).ownBlock ≠ some g := fun g h6 h8 => by
              have h9 := HFR9.out g h8
              rcases hv10 g h6 with h6 | h6
              · have := HLT6.out g h6; omega
              · omega
            have hask11 : w10.ownsRow X 55 3 u6 (OR ++ [(⟨key, ver, h0 :: tl, due, some ⟨b0, off0, none⟩, c1⟩ : EntR)]).length (((OR ++ [(⟨key, ver, h0 :: tl, due, some ⟨b0, off0, none⟩, c1⟩ : EntR)]).map askR).flatMap askC) := by rw [HAS.out, List.length_append]; exact hask10
            have hrow2 : SlB w10 B 4 (.slice a9 (RR.length - 1) c9) (RR.eraseIdx k).length ((RR.eraseIdx k).flatMap entRC) := hrow
            have hGl2 : G.length ≤ OR.length := hGl
            have HBX := Lib.hid hbx
            have HBY := Lib.hid hby
            have HAG := Lib.hid hag
            have HG := Lib.hid hG
            have HROW := Lib.hid hrow2
            have HOW := Lib.hid how
            have HAP7 := Lib.hid hap7
            have HAP6 := Lib.hid hap6
            have HASK := Lib.hid hask11
            clear hbx hby hag hG hrow2 how hap7 hap6 hask11
            clear hask10 hv10 ho10 hrow HBX9 HBY9 HASK9 HAG9 HG9 HROW9 HC12
            by_cases htl : tl = []
            · -- last
              have hgt : ¬ (1 : Int) < (tl.length : Int) + 1 := by rw [htl]; decide
              have HGQ := Lib.hid (show againP (min now 4611686018427387904 + wait) (OR ++ [(⟨key, ver, h0 :: tl, due, some ⟨b0, off0, none⟩, c1⟩ : EntR)]) = againP (min now 4611686018427387904 + wait) OR by rw [HGA.out, if_neg (by simp [htl])])
              clear htl z0 z1
              go_wp2_with fail
              go_roundg (RR.length - 1)
              case measure => rw [Hg.out]; omega
              case rel => exact ⟨_, _, G, _, HOW.out, HBX.out, HBY.out, HROW.out, HEM.out, HASK.out, HAG.out, HAP7.out, HAP6.out, HG.out, by rw [HGQ.out]; exact HGP.out, by rw [List.length_append]; exact Nat.le_add_right_of_le hGl2, HP3.out, HPM.out, HLE.out.symm⟩
            · -- more
              have htp : 0 < tl.length := List.length_pos_iff.2 htl
              have hgt : (1 : Int) < (tl.length : Int) + 1 := by omega
              have HGQ := Lib.hid (show againP (min now 4611686018427387904 + wait) (OR ++ [(⟨key, ver, h0 :: tl, due, some ⟨b0, off0, none⟩, c1⟩ : EntR)]) = againP (min now 4611686018427387904 + wait) OR ++ [(key, ver, tl, min now 4611686018427387904 + wait)] by rw [HGA.out, if_pos (by simp; omega)]; rfl)
              have HNE := Lib.hid (show rowI tl ≠ [] from fun e => by have h9 := congrArg List.length e; rw [rowI_length] at h9; simp only [List.length_nil] at h9; omega)
              have x0 : w10.cell? ⟨X, 0, none⟩ = some (.int .i64 wait) := cell_at HBX.out 0
              have x1 : w10.cell? ⟨X, 1, none⟩ = some (.slice a9 (RR.length - 1) c9) := cell_at HBX.out 1
              have hs2 : (1 : Int) ≤ (tl.length : Int) + 1 := by omega
              have hs3 : (tl.length : Int) + 1 ≤ (c1 : Int) := by omega
              have hs4 : ¬ c1 = 1 := by omega
              have hn7 : ¬ u7.ownBlock = some Z := fun e9 => by have := HLT7.out Z e9; omega
              have hnx : ¬ u7.ownBlock = some X := ownKind_not HAG.out HBX.out (by decide)
              have HC14 := Lib.hid (show ∀ w', Only (fun k => u7.ownBlock = some k) w10 w' → w'.cell? ⟨Z, 0, none⟩ = some (.string key) ∧ w'.cell? ⟨Z, 1, none⟩ = some (.int .u64 ver) ∧ w'.cell? ⟨Z, 2, none⟩ = some (.slice (some ⟨b0, off0, none⟩) (tl.length + 1) c1) ∧ w'.cell? ⟨X, 0, none⟩ = some (.int .i64 wait) ∧ w'.cell? ⟨X, 1, none⟩ = some (.slice a9 (RR.length - 1) c9) from fun w' ho => ⟨ho.cell z0 hn7, ho.cell z1 hn7, ho.cell z2 hn7, ho.cell x0 hnx, ho.cell x1 hnx⟩)
              have hX10 : X ≤ w10.heap.size := by omega
              clear htl
              go_upto_region 14 with (fail)
              go_region_held3 (fun w' => w'.cell? ⟨Z, 0, none⟩ = some (.string key) ∧ w'.cell? ⟨Z, 1, none⟩ = some (.int .u64 ver) ∧ w'.cell? ⟨Z, 2, none⟩ = some (.slice (some ⟨b0, off0, none⟩) (tl.length + 1) c1) ∧ w'.cell? ⟨X, 0, none⟩ = some (.int .i64 wait) ∧ w'.cell? ⟨X, 1, none⟩ = some (.slice a9 (RR.length - 1) c9))
                (((refine HC14.out _ ?_); (repeat (first | (with_reducible assumption) | (with_reducible exact Only.refl _ _) | (with_reducible refine Only.drew ?_) | (with_reducible refine Only.alloc ?_ _) | (with_reducible refine onlySet ?_ (by first | (with_reducible assumption) | omega) _) | (with_reducible refine Only.trans ?_ (by with_reducible assumption))))))
                (first
                  | (go_at_call 31; (with_reducible refine (rlater_any _ wait _ now hw0 hw1 hnow).mono ?_); rintro e9 wl ⟨rfl, hol⟩; have ol : Only (fun _ => False) w10 wl := (by (refine Only.trans (b := _) ?_ hol); (repeat (first | (with_reducible assumption) | (with_reducible exact Only.refl _ _) | (with_reducible refine Only.drew ?_) | (with_reducible refine Only.alloc ?_ _) | (with_reducible refine onlySet ?_ (by first | (with_reducible assumption) | omega) _) | (with_reducible refine Only.trans ?_ (by with_reducible assumption))))); have hzl := ol.size; have pl : Only (fun k => u7.ownBlock = some k) w10 wl := ol.weaken (fun _ _ => False.elim); (try (have own8 : wl.ownsRow w10.heap.size 3 1 (.slice (some ⟨K8, 0, none⟩) tl.length c8) tl.length (rowI tl) := by (refine owns_only ?_ hol (fun _ _ => id); (repeat (first | (with_reducible assumption) | (with_reducible refine ownsDr ?_) | (with_reducible refine ownsAl ?_ _)))))); (try (have hb77 : wl.heap[w10.heap.size]? = some (.cells #[] 3 (0, 0)) := by (refine Only.old hol ?_ id; (apply Eq.trans; (case h₁ => repeat (first | (with_reducible assumption) | (with_reducible exact heap_alloc_new _ _) | (with_reducible apply blk_new; (repeat (first | (with_reducible rfl) | (with_reducible apply sz_set) | (with_reducible apply sz_alloc) | (with_reducible apply sz_drew))); done) | (with_reducible apply blk_same) | (with_reducible apply blk_ne; case hn => (first | assumption | omega)) | (with_reducible apply blk_old) | (with_reducible apply blk_drew))); (case h₂ => rfl))))))
                  | (refine stepAppend rfl (.tmp 77) (.tmp 80) 30 30 rfl w10.heap.size 3 j0 _ 1 8 Try.underlying30 hj0 jz0 jz1 jz2 rfl (.slice (some ⟨_, 0, none⟩) 0 0) 0 [] rfl (own_at ?_ _ _ ?_) _ tl.length (rowI tl) rfl (Sl.src Try.underlying30 (HTL.out.new (HOW.out.trans ?_)) (rowI_one _)) ?_ ?_ ?_ ?_
                     · (apply Eq.trans; (case h₁ => repeat (first | (with_reducible assumption) | (with_reducible exact heap_alloc_new _ _) | (with_reducible apply blk_new; (repeat (first | (with_reducible rfl) | (with_reducible apply sz_set) | (with_reducible apply sz_alloc) | (with_reducible apply sz_drew))); done) | (with_reducible apply blk_same) | (with_reducible apply blk_ne; case hn => (first | assumption | omega)) | (with_reducible apply blk_old) | (with_reducible apply blk_drew))); (case h₂ => rfl))
                     · first | omega | (simp; done) | (simp; omega)
                     · (repeat (first | (with_reducible assumption) | (with_reducible exact Only.refl _ _) | (with_reducible refine Only.drew ?_) | (with_reducible refine Only.alloc ?_ _) | (with_reducible refine onlySet ?_ (by first | (with_reducible assumption) | omega) _) | (with_reducible refine Only.trans ?_ (by with_reducible assumption))))
                     · unfold maxLen; omega
                     · omega
                     · first | omega | (simp; done) | (simp; omega)
                     intro v8 w8 own8 gr8 hv8
                     simp only [Nat.zero_add, List.nil_append] at own8
                     have ho8 : Only (fun _ => False) w10 w8 := (by (refine Only.grown ?_ gr8 (fun k e => .inl (by simp [Value.ownBlock] at e; omega)); (repeat (first | (with_reducible assumption) | (with_reducible exact Only.refl _ _) | (with_reducible refine Only.drew ?_) | (with_reducible refine Only.alloc ?_ _) | (with_reducible refine onlySet ?_ (by first | (with_reducible assumption) | omega) _) | (with_reducible refine Only.trans ?_ (by with_reducible assumption))))))
                     have hz8 := ho8.size
                     have hp8 : Only (fun k => u7.ownBlock = some k) w10 w8 := ho8.weaken (fun _ _ => False.elim)
                     obtain ⟨K8, c8, cur8, rfl, _⟩ := row_form own8 HNE.out)
                  | (refine stepAppend rfl (.tmp 72) (.tmp 86) 41 41 rfl X 85 i0 _ 4 56 Try.underlying41 hi0 iz0 iz1 iz2 rfl u7 G.length (G.flatMap entRC) rfl (owns_only HAG.out (show Only (fun _ => False) w10 _ from ?_) (fun _ _ => id)) _ 1 (entRC ⟨key, ver, tl, min now 4611686018427387904 + wait, some ⟨K8, 0, none⟩, c8⟩) rfl (Src.ofSlice _ Try.underlying41 _ _ _ _ rfl (news_at (e := 85) ?_) (entRC_one _)) ?_ ?_ ?_ ?_
                     · (repeat (first | (with_reducible assumption) | (with_reducible exact Only.refl _ _) | (with_reducible refine Only.drew ?_) | (with_reducible refine Only.alloc ?_ _) | (with_reducible refine onlySet ?_ (by first | (with_reducible assumption) | omega) _) | (with_reducible refine Only.trans ?_ (by with_reducible assumption))))
                     · (apply Eq.trans; (case h₁ => repeat (first | (with_reducible assumption) | (with_reducible exact heap_alloc_new _ _) | (with_reducible apply blk_new; (repeat (first | (with_reducible rfl) | (with_reducible apply sz_set) | (with_reducible apply sz_alloc) | (with_reducible apply sz_drew))); done) | (with_reducible apply blk_same) | (with_reducible apply blk_ne; case hn => (first | assumption | omega)) | (with_reducible apply blk_old) | (with_reducible apply blk_drew))); (case h₂ => rfl))
                     · unfold maxLen; omega
                     · omega
                     · first | omega | (simp; done) | (simp; omega)
                     intro vA wA ownA grA hvA
                     have hOA : Only (fun k => u7.ownBlock = some k) w10 wA := (by (refine Only.grown ?_ grA (fun k e => .inr e); (repeat (first | (with_reducible assumption) | (with_reducible exact Only.refl _ _) | (with_reducible refine Only.drew ?_) | (with_reducible refine Only.alloc ?_ _) | (with_reducible refine onlySet ?_ (by first | (with_reducible assumption) | omega) _) | (with_reducible refine Only.trans ?_ (by with_reducible assumption))))))
                     have hvB : ∀ g, vA.ownBlock = some g → u7.ownBlock = some g ∨ w10.heap.size ≤ g := fun g hg => (by rcases hvA g hg with h9 | h9; exact .inl h9; exact .inr (by simp at h9; omega))
                     have hKA : wA.ownsRow w10.heap.size 3 1 (.slice (some ⟨K8, 0, none⟩) tl.length c8) tl.length (rowI tl) := ownsGr (base' := X) (size' := 4) (n' := G.length) (xs' := G.flatMap entRC) (by (repeat (first | (with_reducible assumption) | (with_reducible refine ownsDr ?_) | (with_reducible refine ownsAl ?_ _)))) (owns_only HAG.out (by (repeat (first | (with_reducible assumption) | (with_reducible exact Only.refl _ _) | (with_reducible refine Only.drew ?_) | (with_reducible refine Only.alloc ?_ _) | (with_reducible refine onlySet ?_ (by first | (with_reducible assumption) | omega) _) | (with_reducible refine Only.trans ?_ (by with_reducible assumption))))) (fun _ _ => id)) (by decide) grA rfl))
              all_goals
                have hoz : Only (fun _ => False) w wA := HOW.out.tr hOA (fun i hi e => by have := (HAG.out.lt i e).1; have := HXW.out; omega)
                have hbx := hOA.old HBX.out (ownKind_not HAG.out HBX.out (by decide))
                have hby := hOA.old HBY.out (ownKind_not HAG.out HBY.out (by decide))
                have hrz := HROW.out.keptN hOA (fun g hg e => HAP7.out g e hg)
                have haz := owns_ty HASK.out hOA (ownKind_ne HAG.out (by decide))
                have hgz : ∀ e ∈ G ++ [(⟨key, ver, tl, min now 4611686018427387904 + wait, some ⟨K8, 0, none⟩, c8⟩ : EntR)], wA.ownsRow X 3 1 e.s e.has.length (rowI e.has) := fun e he => by
                  rcases List.mem_append.1 he with he | he
                  · exact owns_ty (HG.out e he) hOA (ownKind_ne HAG.out (by decide))
                  · obtain rfl := List.mem_singleton.1 he
                    exact ownsBase hKA hX10
                have hap : ∀ g, vA.ownBlock = some g → (Value.slice a9 (RR.length - 1) c9).ownBlock ≠ some g := fun g h7 h8 => by
                  rcases hvB g h7 with h7 | h7
                  · exact HAP7.out g h7 h8
                  · have := HFR9.out g h8; omega
                have hagz : wA.ownsRow X 85 4 vA (G ++ [(⟨key, ver, tl, min now 4611686018427387904 + wait, some ⟨K8, 0, none⟩, c8⟩ : EntR)]).length ((G ++ [(⟨key, ver, tl, min now 4611686018427387904 + wait, some ⟨K8, 0, none⟩, c8⟩ : EntR)]).flatMap entRC) := by
                  rw [List.length_append, List.flatMap_append]
                  simpa using ownA
                have QA := Lib.hid hoz
                have QB := Lib.hid hbx
                have QC := Lib.hid hby
                have QD := Lib.hid hrz
                have QE := Lib.hid haz
                have QF := Lib.hid hgz
                have QG := Lib.hid hap
                have QH := Lib.hid hagz
                clear hoz hbx hby hrz haz hgz hap hagz
                clear ownA hKA hOA hvB x0 x1 z0 z1 z2 own8 gr8 grA hvA
                go_wp2_with fail
                go_roundg (RR.length - 1)
                case measure => rw [Hg.out]; omega
                case rel => exact ⟨_, _, _, _, QA.out, QB.out, QC.out, QD.out, HEM.out, QE.out, QH.out, QG.out, HAP6.out, QF.out, by rw [HGQ.out, List.map_append, HGP.out]; rfl, by rw [List.length_append, List.length_append]; exact Nat.add_le_add_right hGl2 1, HP3.out, HPM.out, HLE.out.symm⟩
end Go.Proofs.Ytefadkmdfhjaeaa
