/- bellhopref18: Heard. -/
import Derived.Test.YtefadkmdfhjaeaaWF
import Derived.Test.YtefadkmdfhjaeaaWA
/-! bellhopref18: Heard. -/
namespace Go.Proofs.Ytefadkmdfhjaeaa
open Go.Conc Go.RowKit

/-- What the reference's Heard does to the entries. -/
def RHStep (R R' : List EntR) (key : ByteArray) (ver : Nat) (fr at_ : Int) (b : Bool) : Prop :=
  (b = false ∧ R' = R ∧ (fr < 1 ∨ 65535 < fr ∨ (findR R key = none ∧ 64 ≤ R.length) ∨ ∃ i, ∃ hi : i < R.length, findR R key = some i ∧ (ver < R[i].ver ∨ (R[i].ver = ver ∧ fr ∉ R[i].has ∧ 64 ≤ R[i].has.length)))) ∨
  (b = true ∧ 1 ≤ fr ∧ fr ≤ 65535 ∧ ((findR R key = none ∧ R.length < 64 ∧ ∃ a cap, R' = R ++ [⟨key, ver, [fr], at_, a, cap⟩]) ∨
    (∃ i, ∃ hi : i < R.length, findR R key = some i ∧ ((R[i].ver < ver ∧ ∃ a cap, R' = R.set i ⟨R[i].key, ver, [fr], R[i].due, a, cap⟩) ∨ (R[i].ver = ver ∧ fr ∈ R[i].has ∧ R' = R) ∨ (R[i].ver = ver ∧ fr ∉ R[i].has ∧ R[i].has.length < 64 ∧ ∃ a cap, R' = R.set i ⟨R[i].key, R[i].ver, R[i].has ++ [fr], R[i].due, a, cap⟩)))))
/-- What it leaves. -/
structure RHRes (w w' : World) (B : Nat) (wait : Int) (R : List EntR) (key : ByteArray) (ver : Nat) (fr at_ : Int) (e : Ending) : Prop where
  out : ∃ v' R' b, e = .returned (.tuple #[rwV wait v', .bool b]) ∧ RHStep R R' key ver fr at_ b ∧ REnts w' B v' R' ∧ Only (fun _ => False) w w'
theorem infoIntR : (Try.prog.info? 3).map (fun i => (i.zero, i.size, i.bytes)) = some (some (.int .i64 0), 1, 8) := by kernel_rfl
theorem slb_one {w : World} {B b : Nat} {n : Int} (h : w.heap[b]? = some (.cells #[.int .i64 n] 3 (0, 0))) (hB : B ≤ b) : SlB w B 1 (.slice (some ⟨b, 0, none⟩) 1 1) 1 (rowI [n]) :=
  SlB.of_owns (base := B) (e := 3) ⟨by simp [rowI], .inr ⟨b, 1, #[.int .i64 n], rfl, hB, h, Nat.le_refl _, by unfold maxLen; omega, by simp, by simp [rowI]⟩⟩ (Nat.le_refl _)
set_option maxRecDepth 100000 in
set_option maxHeartbeats 4000000 in
theorem rheard18_any (w : World) (B : Nat) (wait : Int) (v : Value) (R : List EntR) (h : REnts w B v R) (hB : B ≤ w.heap.size) (hR : R.length ≤ 1000) (key : ByteArray) (ver : Nat) (fr now : Int) (hw0 : 0 ≤ wait) (hw1 : wait ≤ 1000) (hnow : -9223372036854775808 ≤ now) :
    Calls Try.prog 16 #[rwV wait v, .string key, .int .u64 ver, .int .i64 fr, .int .i64 now] w fun e w' => RHRes w w' B wait R key ver fr (min now 4611686018427387904 + wait) e := by
  obtain ⟨i0, hi0, iz0, iz1, iz2⟩ := info_parts infoREnt
  obtain ⟨j0, hj0, jz0, jz1, jz2⟩ := info_parts infoIntR
  obtain ⟨a, cap, rfl, h1, h2, h3⟩ := Sl.cells entRC_length h.row.sl
  unfold maxLen at h2
  have HRP := Lib.hid (show ∀ w' e R' b, (∃ v', e = .returned (.tuple #[rwV wait v', .bool b]) ∧ RHStep R R' key ver fr (min now 4611686018427387904 + wait) b ∧ REnts w' B v' R' ∧ Only (fun _ => False) w w') → RHRes w w' B wait R key ver fr (min now 4611686018427387904 + wait) e from fun _ _ R' b ⟨v', h⟩ => ⟨v', R', b, h⟩)
  have HH := Lib.hid h
  unfold rwV
  obtain ⟨W0, hW0⟩ : ∃ W0, W0 = w.alloc (.cells #[.int .i64 wait, .slice a R.length cap] 43) := ⟨_, rfl⟩
  have hbW0 : W0.heap[w.heap.size]? = some (.cells #[.int .i64 wait, .slice a R.length cap] 43 (0, 0)) := by rw [hW0]; exact heap_alloc_new w _
  have hoW0 : Only (fun _ => False) w W0 := by rw [hW0]; exact (Only.refl _ _).alloc _
  have hsW0 : W0.heap.size = w.heap.size + 1 := by rw [hW0]; simp
  obtain ⟨W, hW⟩ : ∃ W, W = W0.alloc (.cells #[.int .i64 0, .slice none 0 0] 43) := ⟨_, rfl⟩
  have hbW : W.heap[W0.heap.size]? = some (.cells #[.int .i64 0, .slice none 0 0] 43 (0, 0)) := by rw [hW]; exact heap_alloc_new W0 _
  have hoW : Only (fun _ => False) W0 W := by rw [hW]; exact (Only.refl _ _).alloc _
  have hsW : W.heap.size = W0.heap.size + 1 := by rw [hW]; simp
  have hb0 := hoW.old hbW0 id
  have hoA := hoW0.trans hoW
  have hsX : W0.heap.size = w.heap.size + 1 ∧ W.heap.size = w.heap.size + 2 := by omega
  rw [hsX.1] at hbW
  have hc3 := h3.new hoA (fun _ _ _ => id)
  have H0 := Lib.hid hb0
  have H2 := Lib.hid hbW
  have HOA := Lib.hid hoA
  have HSX := Lib.hid hsX
  have HC := Lib.hid hc3
  clear hb0 hbW hoA hsX hc3
  clear hbW0 hoW0 hoW hsW hsW0 h h3
  generalize hX : w.heap.size = X at *
  have HXW := Lib.hid hX
  clear hX
  by_cases hf : fr < 1 ∨ fr > 65535
  · -- bad
    have HST := Lib.hid (show RHStep R R key ver fr (min now 4611686018427387904 + wait) false from .inl ⟨rfl, rfl, hf.elim .inl (fun h => .inr (.inl h))⟩)
    rcases (show fr < 1 ∨ (¬ fr < 1 ∧ fr > 65535) by omega) with hf1 | ⟨hf1, hf2⟩
    all_goals
      clear hf
      go_enter Try.func16, Try.ntmps16
      go_upto_region 1 with (fail)
      rw [HXW.out, ← hW0, ← hW]
      clear hW0 hW
      have hxl1 : X + 1 < W.heap.size := lt_of_block H2.out
      have x0 : W.cell? ⟨X, 0, none⟩ = some (.int .i64 wait) := cell_at H0.out 0
      have x1 : W.cell? ⟨X, 1, none⟩ = some (.slice a R.length cap) := cell_at H0.out 1
      have zf : ∀ i, W.frozen? ⟨X + 1, i, none⟩ = false := free_at H2.out
      have z0 : W.cell? ⟨(X + 1), 0, none⟩ = some (.int .i64 0) := cell_at H2.out 0
      have z1 : W.cell? ⟨(X + 1), 1, none⟩ = some (.slice none 0 0) := cell_at H2.out 1
      have hn1 : ¬ X + 1 = X := by omega
      have hn2 : ¬ X = X + 1 := by omega
      go_wp2_with fail
      clear x0 x1 z0 z1 zf
      obtain ⟨s1, s2⟩ := lit_set H2.out [.int .i64 wait, .slice a R.length cap] rfl
      rw [show World.setCells W (X + 1) 0 [.int .i64 wait, .slice a R.length cap] = ((W.setCell ⟨(X + 1), 0, none⟩ (.int .i64 wait)).setCell ⟨(X + 1), 1, none⟩ (.slice a R.length cap)) from rfl] at s1 s2
      generalize ((W.setCell ⟨(X + 1), 0, none⟩ (.int .i64 wait)).setCell ⟨(X + 1), 1, none⟩ (.slice a R.length cap)) = wz at *
      have p0 : wz.cell? ⟨(X + 1), 0, none⟩ = some (.int .i64 wait) := cell_at s1 0
      have p1 : wz.cell? ⟨(X + 1), 1, none⟩ = some (.slice a R.length cap) := cell_at s1 1
      refine bodyPost_ret (v := .tuple #[.agg #[.int .i64 wait, .slice a R.length cap], .bool false]) (by simp [results, Try.results16, go_sem, p0, p1]) rfl ?_
      refine HRP.out _ _ R false ?_
      have hX := HXW.out
      have hfin := HOA.out.tr s2 (fun i hi e => by omega)
      exact ⟨_, rfl, HST.out, HH.out.new hfin, hfin⟩
  · have hf1 : ¬ fr < 1 := fun e => hf (.inl e)
    have hf2 : ¬ fr > 65535 := fun e => hf (.inr e)
    clear hf
    go_enter Try.func16, Try.ntmps16
    go_upto_region 1 with (fail)
    rw [HXW.out, ← hW0, ← hW]
    clear hW0 hW
    have hxl1 : X + 1 < W.heap.size := lt_of_block H2.out
    have hxl : X < W.heap.size := by omega
    have x0 : W.cell? ⟨X, 0, none⟩ = some (.int .i64 wait) := cell_at H0.out 0
    have x1 : W.cell? ⟨X, 1, none⟩ = some (.slice a R.length cap) := cell_at H0.out 1
    have HFI := Lib.hid (rfind18_any W B wait _ R (HH.out.new HOA.out) key)
    have HFN := Lib.hid (show findR R key = none → findRI R key = -1 from fun e => by unfold findRI; rw [e])
    have HFS := Lib.hid (show ∀ i, findR R key = some i → findRI R key = (i : Int) from fun i e => by unfold findRI; rw [e])
    have HFK := Lib.hid (show ∀ i, findR R key = some i → ∃ hi : i < R.length, R[i].key = key from fun i e => findR_some e)
    generalize hfo : findR R key = fo at *
    generalize findRI R key = fi at *
    have HFO := Lib.hid hfo
    clear hfo
    go_wp2_with fail
    refine HFI.out.mono ?_
    rintro e w4 ⟨rfl, ho4⟩
    have hb0 := ho4.old H0.out id
    have hb2 := ho4.old H2.out id
    have hoC := HOA.out.trans ho4
    have hc4 := HC.out.new ho4 (fun _ _ _ => id)
    have hxl4 : X + 1 < w4.heap.size := lt_of_block hb2
    have hB4 : B ≤ w4.heap.size := by have := HOA.out.size; have := ho4.size; have := HXW.out; omega
    clear x0 x1 HFI hxl1 hxl
    have H04 := Lib.hid hb0
    have H24 := Lib.hid hb2
    have HOC := Lib.hid hoC
    have HC4 := Lib.hid hc4
    clear hb0 hb2 hoC hc4
    clear H0 H2 HOA HC ho4
    cases fo with
    | none =>
      have hm1 := HFN.out rfl
      subst hm1
      clear HFN HFS HFK
      have x0 : w4.cell? ⟨X, 0, none⟩ = some (.int .i64 wait) := cell_at H04.out 0
      have x1 : w4.cell? ⟨X, 1, none⟩ = some (.slice a R.length cap) := cell_at H04.out 1
      by_cases h64 : 64 ≤ R.length
      · -- full
        have h64' : (64 : Int) ≤ (R.length : Int) := by omega
        have HST := Lib.hid (show RHStep R R key ver fr (min now 4611686018427387904 + wait) false from .inl ⟨rfl, rfl, .inr (.inr (.inl ⟨HFO.out, h64⟩))⟩)
        go_upto_region 6 with (fail)
        clear x0 x1
        have x0 : w4.cell? ⟨X, 0, none⟩ = some (.int .i64 wait) := cell_at H04.out 0
        have x1 : w4.cell? ⟨X, 1, none⟩ = some (.slice a R.length cap) := cell_at H04.out 1
        have zf : ∀ i, w4.frozen? ⟨X + 1, i, none⟩ = false := free_at H24.out
        have z0 : w4.cell? ⟨(X + 1), 0, none⟩ = some (.int .i64 0) := cell_at H24.out 0
        have z1 : w4.cell? ⟨(X + 1), 1, none⟩ = some (.slice none 0 0) := cell_at H24.out 1
        have hn1 : ¬ X + 1 = X := by omega
        have hn2 : ¬ X = X + 1 := by omega
        go_wp2_with fail
        clear x0 x1 z0 z1 zf
        obtain ⟨s1, s2⟩ := lit_set H24.out [.int .i64 wait, .slice a R.length cap] rfl
        rw [show World.setCells w4 (X + 1) 0 [.int .i64 wait, .slice a R.length cap] = ((w4.setCell ⟨(X + 1), 0, none⟩ (.int .i64 wait)).setCell ⟨(X + 1), 1, none⟩ (.slice a R.length cap)) from rfl] at s1 s2
        generalize ((w4.setCell ⟨(X + 1), 0, none⟩ (.int .i64 wait)).setCell ⟨(X + 1), 1, none⟩ (.slice a R.length cap)) = wz at *
        have p0 : wz.cell? ⟨(X + 1), 0, none⟩ = some (.int .i64 wait) := cell_at s1 0
        have p1 : wz.cell? ⟨(X + 1), 1, none⟩ = some (.slice a R.length cap) := cell_at s1 1
        refine bodyPost_ret (v := .tuple #[.agg #[.int .i64 wait, .slice a R.length cap], .bool false]) (by simp [results, Try.results16, go_sem, p0, p1]) rfl ?_
        refine HRP.out _ _ R false ?_
        have hX := HXW.out
        have hfin := HOC.out.tr s2 (fun i hi e => by omega)
        exact ⟨_, rfl, HST.out, HH.out.new hfin, hfin⟩
      · -- new
        have h64' : ¬ (64 : Int) ≤ (R.length : Int) := by omega
        have hxl : X < w4.heap.size := by omega
        have H1 := Lib.hid (fun w' (ho : Only (fun _ => False) w4 w') => And.intro (ho.cell x0 id) (ho.cell x1 id))
        have HF := Lib.hid (fun w' (ho : Only (fun _ => False) w4 w') (i : Nat) => free_at (ho.old H04.out id) i)
        have HSL := Lib.hid (fun w' (ho : Only (fun _ => False) w4 w') => HH.out.row.sl.new (HOC.out.trans ho))
        go_upto_region 7 with (fail)
        obtain ⟨Z, hZ1, hZ2⟩ : ∃ Z, w4.heap.size ≤ Z ∧ Z ≤ w4.heap.size := ⟨_, Nat.le_refl _, Nat.le_refl _⟩
        go_cut [44] (fun v44 wx => ∃ wj K2 a9 c9, v44 = .slice a9 (R.length + 1) c9 ∧ wj.ownsRow Z 85 4 (.slice a9 (R.length + 1) c9) (R.length + 1) (R.flatMap entRC ++ [.string key, .int .u64 ver, .slice (some ⟨K2, 0, none⟩) 1 1, .int .i64 (min now 4611686018427387904 + wait)]) ∧ wj.heap[K2]? = some (.cells #[.int .i64 fr] 3 (0, 0)) ∧ Z ≤ K2 ∧ Only (fun _ => False) w4 wj ∧ wx = wj.setCell ⟨X, 1, none⟩ (.slice a9 (R.length + 1) c9))
        case first =>
          refine' join_by5 (F := fun K1 v8 K2 K3 vA wj => wj.ownsRow Z 85 4 vA (R.length + 1) (R.flatMap entRC ++ [.string key, .int .u64 ver, .slice (some ⟨K2, 0, none⟩) 1 1, .int .i64 (min now 4611686018427387904 + wait)]) ∧ wj.heap[K2]? = some (.cells #[.int .i64 fr] 3 (0, 0)) ∧ Z ≤ K2 ∧ Only (fun _ => False) w4 wj) ?main ?hj
          case main =>
            intro hJ0
            have HJ := Lib.hid hJ0
            clear hJ0
            refine wp_region_G_drew (fun w' => w'.cell? ⟨X, 0, none⟩ = some (.int .i64 wait) ∧ w'.cell? ⟨X, 1, none⟩ = some (.slice a R.length cap)) (fun w' => True) 15 (by kernel_rfl) (by first | exact ⟨x0, x1⟩ | exact H1.out _ (by (repeat (first | (with_reducible assumption) | (with_reducible exact Only.refl _ _) | (with_reducible refine Only.drew ?_) | (with_reducible refine Only.alloc ?_ _) | (with_reducible refine onlySet ?_ (by first | (with_reducible assumption) | omega) _) | (with_reducible refine Only.trans ?_ (by with_reducible assumption)))))) (fun hHeld => ?_)
            refine wpAnyG_takeWD (d := some 32) (i := 1) (oi := _) (v := ?v1) rfl (by kernel_rfl) (by kernel_rfl) (by kernel_rfl) (by kernel_rfl) (by kernel_rfl) (fun _ _ _ h => h) (Or.inl ⟨by rfl, ?hy1⟩) (Gn.start (by kernel_rfl) hHeld) ?rest1
            case hy1 =>
              intro w _
              go_simp
              try with_reducible rfl
            refine wpAnyG_act (a' := ?na1) ?ne1 ?nr1
            case ne1 =>
              try simp [Act.put]
              try rfl
            refine wpAnyG_takeD (d := some 33) (i := 2) (oi := _) (v := ?v2) rfl (by kernel_rfl) (by kernel_rfl) (by kernel_rfl) (by kernel_rfl) (by kernel_rfl) rfl (by rfl) (fun _ _ _ h => h) (Or.inl ⟨by rfl, ?hy2⟩) hHeld ?rest2
            case hy2 =>
              intro w hSw
              try dsimp only at hSw
              go_simp
              try with_reducible rfl
            refine wpAnyG_act (a' := ?na2) ?ne2 ?nr2
            case ne2 =>
              try simp [Act.put]
              try rfl
            refine wpAnyG_takeWD (d := some 35) (i := 4) (oi := _) (v := ?v3) rfl (by kernel_rfl) (by kernel_rfl) (by kernel_rfl) (by kernel_rfl) (by kernel_rfl) (fun _ _ _ h => h) (Or.inl ⟨by rfl, ?hy3⟩) (Gn.start (by kernel_rfl) hHeld) ?rest3
            case hy3 =>
              intro w _
              go_simp
              try with_reducible rfl
            refine wpAnyG_act (a' := ?na3) ?ne3 ?nr3
            case ne3 =>
              try simp [Act.put]
              try rfl
            refine wpAnyG_takeWD (d := some 36) (i := 5) (oi := _) (v := ?v4) rfl (by kernel_rfl) (by kernel_rfl) (by kernel_rfl) (by kernel_rfl) (by kernel_rfl) (fun _ _ _ h => h) (Or.inl ⟨by rfl, ?hy4⟩) (Gn.start (by kernel_rfl) hHeld) ?rest4
            case hy4 =>
              intro w _
              go_simp
              try with_reducible rfl
            refine wpAnyG_act (a' := ?na4) ?ne4 ?nr4
            case ne4 =>
              try simp [Act.put]
              try rfl
            refine wpAnyG_takeWD (d := some 37) (i := 6) (oi := _) (v := ?v5) rfl (by kernel_rfl) (by kernel_rfl) (by kernel_rfl) (by kernel_rfl) (by kernel_rfl) (fun _ _ _ h => h) (Or.inl ⟨by rfl, ?hy5⟩) (Gn.start (by kernel_rfl) hHeld) ?rest5
            case hy5 =>
              intro w _
              go_simp
              try with_reducible rfl
            refine wpAnyG_act (a' := ?na5) ?ne5 ?nr5
            case ne5 =>
              try simp [Act.put]
              try rfl
            refine wpAnyG_takeD (d := some 39) (i := 8) (oi := _) (v := ?v6) rfl (by kernel_rfl) (by kernel_rfl) (by kernel_rfl) (by kernel_rfl) (by kernel_rfl) rfl (by rfl) (fun _ _ _ h => h) (Or.inl ⟨by rfl, ?hy6⟩) hHeld ?rest6
            case hy6 =>
              intro w hSw
              try dsimp only at hSw
              go_simp
              try with_reducible rfl
            refine wpAnyG_act (a' := ?na6) ?ne6 ?nr6
            case ne6 =>
              try simp [Act.put]
              try rfl
            refine wpAnyG_takeWD (d := some 40) (i := 9) (oi := _) (v := ?v7) rfl (by kernel_rfl) (by kernel_rfl) (by kernel_rfl) (by kernel_rfl) (by kernel_rfl) (fun _ _ _ h => h) (Or.inl ⟨by rfl, ?hy7⟩) (Gn.start (by kernel_rfl) hHeld) ?rest7
            case hy7 =>
              intro w _
              go_simp
              try with_reducible rfl
            refine wpAnyG_act (a' := ?na7) ?ne7 ?nr7
            case ne7 =>
              try simp [Act.put]
              try rfl
            refine wpAnyG_ready (rs := [0, 7]) (by kernel_rfl) (by simp) ?_
            refine AllReadyG.cons (o := _) rfl (fun K hK => ?_) ?_
            · go_simp
              refine hK.out _ _ (Gn.start (by kernel_rfl) (by first | exact ⟨x0, x1⟩ | exact H1.out _ (by (repeat (first | (with_reducible assumption) | (with_reducible exact Only.refl _ _) | (with_reducible refine Only.drew ?_) | (with_reducible refine Only.alloc ?_ _) | (with_reducible refine onlySet ?_ (by first | (with_reducible assumption) | omega) _) | (with_reducible refine Only.trans ?_ (by with_reducible assumption))))))) (fun hNew => ?_)
              clear hK K hHeld
              have hHeld := Gn.outS (by kernel_rfl) hNew
              clear hNew
              refine wpAnyG_act (a' := ?na8) ?ne8 ?nr8
              case ne8 =>
                try simp [Act.put]
                try rfl
              refine wpAnyG_ready (rs := [3, 7]) (by kernel_rfl) (by simp) ?_
              refine AllReadyG.cons (o := _) rfl (fun K hK => ?_) ?_
              · refine step_append_src rfl (.tmp 31) (.tmp 33) 41 41 rfl Z 85 i0 _ 4 56 Try.underlying41 hi0 iz0 iz1 iz2 rfl (.slice (some ⟨w4.heap.size, 0, none⟩) 0 0) 0 [] rfl (own_at (by (apply Eq.trans; (case h₁ => repeat (first | (with_reducible assumption) | (with_reducible exact heap_alloc_new _ _) | (with_reducible apply blk_new; (repeat (first | (with_reducible rfl) | (with_reducible apply sz_set) | (with_reducible apply sz_alloc) | (with_reducible apply sz_drew))); done) | (with_reducible apply blk_same) | (with_reducible apply blk_ne; case hn => (first | assumption | omega)) | (with_reducible apply blk_old) | (with_reducible apply blk_drew))); (case h₂ => rfl))) _ _ (by omega)) _ R.length (R.flatMap entRC) rfl ?_ ?_ ?_ ?_ ?_
                · exact Sl.src Try.underlying41 (HSL.out _ (by (repeat (first | (with_reducible assumption) | (with_reducible exact Only.refl _ _) | (with_reducible refine Only.drew ?_) | (with_reducible refine Only.alloc ?_ _) | (with_reducible refine onlySet ?_ (by first | (with_reducible assumption) | omega) _) | (with_reducible refine Only.trans ?_ (by with_reducible assumption)))))) (fl_one entRC_one _)
                · unfold maxLen; omega
                · omega
                · first | (simp; done) | (simp; omega) | omega
                intro v8 w8 own8 gr8 hv8
                simp only [Nat.zero_add, List.nil_append] at own8
                have ho8 : Only (fun _ => False) w4 w8 := Only.grown (by (repeat (first | (with_reducible assumption) | (with_reducible exact Only.refl _ _) | (with_reducible refine Only.drew ?_) | (with_reducible refine Only.alloc ?_ _) | (with_reducible refine onlySet ?_ (by first | (with_reducible assumption) | omega) _) | (with_reducible refine Only.trans ?_ (by with_reducible assumption))))) gr8 (fun k e => .inl (Nat.le_trans hZ1 (hv8 k e)))
                have hz8 : w4.heap.size ≤ w8.heap.size := ho8.size
                refine hK.out _ _ (Gn.start (by kernel_rfl) (by first | exact ⟨x0, x1⟩ | exact H1.out _ (by (repeat (first | (with_reducible assumption) | (with_reducible exact Only.refl _ _) | (with_reducible refine Only.drew ?_) | (with_reducible refine Only.alloc ?_ _) | (with_reducible refine onlySet ?_ (by first | (with_reducible assumption) | omega) _) | (with_reducible refine Only.trans ?_ (by with_reducible assumption))))))) (fun hNew => ?_)
                clear hK K hHeld
                have hHeld := Gn.outS (by kernel_rfl) hNew
                clear hNew
                refine wpAnyG_act (a' := ?na9) ?ne9 ?nr9
                case ne9 =>
                  try simp [Act.put]
                  try rfl
                refine wpAnyG_ready (rs := [7, 10]) (by kernel_rfl) (by simp) ?_
                refine AllReadyG.cons (o := _) rfl (fun K hK => ?_) ?_
                · go_simp
                  refine hK.out _ _ (Gn.start (by kernel_rfl) (by first | exact ⟨x0, x1⟩ | exact H1.out _ (by (repeat (first | (with_reducible assumption) | (with_reducible exact Only.refl _ _) | (with_reducible refine Only.drew ?_) | (with_reducible refine Only.alloc ?_ _) | (with_reducible refine onlySet ?_ (by first | (with_reducible assumption) | omega) _) | (with_reducible refine Only.trans ?_ (by with_reducible assumption))))))) (fun hNew => ?_)
                  clear hK K hHeld
                  have hHeld := Gn.outS (by kernel_rfl) hNew
                  clear hNew
                  refine wpAnyG_act (a' := ?na10) ?ne10 ?nr10
                  case ne10 =>
                    try simp [Act.put]
                    try rfl
                  refine wpAnyG_ready (rs := [10]) (by kernel_rfl) (by simp) ?_
                  refine AllReadyG.cons (o := _) rfl (fun K hK => ?_) AllReadyG.nil
                  go_simp
                  go_at_call 31
                  refine (rlater_any _ wait _ now hw0 hw1 hnow).mono ?_
                  rintro e9 w9 ⟨rfl, ho9⟩
                  have o9 : Only (fun _ => False) w4 w9 := by
                    refine Only.trans (b := _) ?_ ho9
                    (repeat (first | (with_reducible assumption) | (with_reducible exact Only.refl _ _) | (with_reducible refine Only.drew ?_) | (with_reducible refine Only.alloc ?_ _) | (with_reducible refine onlySet ?_ (by first | (with_reducible assumption) | omega) _) | (with_reducible refine Only.trans ?_ (by with_reducible assumption))))
                  have hz9 : w4.heap.size ≤ w9.heap.size := o9.size
                  have hB7w9 : w9.heap[w8.heap.size]? = some (.cells #[.int .i64 fr] 3 (0, 0)) := by (refine Only.old ho9 ?_ id); (apply Eq.trans; (case h₁ => repeat (first | (with_reducible assumption) | (with_reducible exact heap_alloc_new _ _) | (with_reducible apply blk_new; (repeat (first | (with_reducible rfl) | (with_reducible apply sz_set) | (with_reducible apply sz_alloc) | (with_reducible apply sz_drew))); done) | (with_reducible apply blk_same) | (with_reducible apply blk_ne; case hn => (first | assumption | omega)) | (with_reducible apply blk_old) | (with_reducible apply blk_drew))); (case h₂ => rfl))
                  have hL7w9 := lt_of_block hB7w9
                  have own8 : w9.ownsRow Z 85 4 v8 R.length (R.flatMap entRC) := by (refine owns_only ?_ ho9 (fun _ _ => id)); (repeat (first | (with_reducible assumption) | (with_reducible refine ownsDr ?_) | (with_reducible refine ownsAl ?_ _)))
                  go_wp2_with fail
                  refine hK.out _ _ (Gn.start (by kernel_rfl) (by first | exact ⟨x0, x1⟩ | exact H1.out _ (by (repeat (first | (with_reducible assumption) | (with_reducible exact Only.refl _ _) | (with_reducible refine Only.drew ?_) | (with_reducible refine Only.alloc ?_ _) | (with_reducible refine onlySet ?_ (by first | (with_reducible assumption) | omega) _) | (with_reducible refine Only.trans ?_ (by with_reducible assumption))))))) (fun hNew => ?_)
                  clear hK K hHeld
                  have hHeld := Gn.outS (by kernel_rfl) hNew
                  clear hNew
                  refine wpAnyG_act (a' := ?na11) ?ne11 ?nr11
                  case ne11 =>
                    try simp [Act.put]
                    try rfl
                  refine wpAnyG_takeWD (d := some 42) (i := 11) (oi := _) (v := ?v8) rfl (by kernel_rfl) (by kernel_rfl) (by kernel_rfl) (by kernel_rfl) (by kernel_rfl) (fun _ _ _ h => h) (Or.inl ⟨by rfl, ?hy8⟩) (Gn.start (by kernel_rfl) hHeld) ?rest8
                  case hy8 =>
                    intro w _
                    go_simp
                    try with_reducible rfl
                  refine wpAnyG_act (a' := ?na12) ?ne12 ?nr12
                  case ne12 =>
                    try simp [Act.put]
                    try rfl
                  refine wpAnyG_ready (rs := [12]) (by kernel_rfl) (by simp) ?_
                  refine AllReadyG.cons (o := _) rfl (fun K hK => ?_) AllReadyG.nil
                  go_simp
                  refine hK.out _ _ (Gn.start (by kernel_rfl) (by first | exact ⟨x0, x1⟩ | exact H1.out _ (by (repeat (first | (with_reducible assumption) | (with_reducible exact Only.refl _ _) | (with_reducible refine Only.drew ?_) | (with_reducible refine Only.alloc ?_ _) | (with_reducible refine onlySet ?_ (by first | (with_reducible assumption) | omega) _) | (with_reducible refine Only.trans ?_ (by with_reducible assumption))))))) (fun hNew => ?_)
                  clear hK K hHeld
                  have hHeld := Gn.outS (by kernel_rfl) hNew
                  clear hNew
                  refine wpAnyG_act (a' := ?na13) ?ne13 ?nr13
                  case ne13 =>
                    try simp [Act.put]
                    try rfl
                  refine wpAnyG_ready (rs := [13]) (by kernel_rfl) (by simp) ?_
                  refine AllReadyG.cons (o := _) rfl (fun K hK => ?_) AllReadyG.nil
                  refine step_append_src rfl (.tmp 34) (.tmp 43) 41 41 rfl Z 85 i0 _ 4 56 Try.underlying41 hi0 iz0 iz1 iz2 rfl v8 R.length (R.flatMap entRC) rfl ?_ _ 1 [.string key, .int .u64 ver, .slice (some ⟨w8.heap.size, 0, none⟩) 1 1, .int .i64 (min now 4611686018427387904 + wait)] rfl ?_ ?_ ?_ ?_ ?_
                  · (repeat (first | (with_reducible assumption) | (with_reducible refine ownsDr ?_) | (with_reducible refine ownsAl ?_ _)))
                  · exact Src.ofSlice _ Try.underlying41 _ _ _ _ rfl (news_at (e := 85) (by (apply Eq.trans; (case h₁ => repeat (first | (with_reducible assumption) | (with_reducible exact heap_alloc_new _ _) | (with_reducible apply blk_new; (repeat (first | (with_reducible rfl) | (with_reducible apply sz_set) | (with_reducible apply sz_alloc) | (with_reducible apply sz_drew))); done) | (with_reducible apply blk_same) | (with_reducible apply blk_ne; case hn => (first | assumption | omega)) | (with_reducible apply blk_old) | (with_reducible apply blk_drew))); (case h₂ => rfl)))) (entRC_one ⟨key, ver, [fr], min now 4611686018427387904 + wait, some ⟨w8.heap.size, 0, none⟩, 1⟩)
                  · unfold maxLen; omega
                  · omega
                  · first | (simp; done) | (simp; omega) | omega
                  intro vA wA ownA grA hvA
                  have oA : Only (fun _ => False) w4 wA := Only.grown (by (repeat (first | (with_reducible assumption) | (with_reducible exact Only.refl _ _) | (with_reducible refine Only.drew ?_) | (with_reducible refine Only.alloc ?_ _) | (with_reducible refine onlySet ?_ (by first | (with_reducible assumption) | omega) _) | (with_reducible refine Only.trans ?_ (by with_reducible assumption))))) grA (fun k e => .inl (Nat.le_trans hZ1 (hvA k e)))
                  have hKA : wA.heap[w8.heap.size]? = some (.cells #[.int .i64 fr] 3 (0, 0)) := by (refine blkGr (e' := 85) (size := 4) (base := Z) (n := R.length) (xs := R.flatMap entRC) ?_ ?_ (by decide) grA; (· (apply Eq.trans; (case h₁ => repeat (first | (with_reducible assumption) | (with_reducible exact heap_alloc_new _ _) | (with_reducible apply blk_new; (repeat (first | (with_reducible rfl) | (with_reducible apply sz_set) | (with_reducible apply sz_alloc) | (with_reducible apply sz_drew))); done) | (with_reducible apply blk_same) | (with_reducible apply blk_ne; case hn => (first | assumption | omega)) | (with_reducible apply blk_old) | (with_reducible apply blk_drew))); (case h₂ => rfl))); (· (repeat (first | (with_reducible assumption) | (with_reducible refine ownsDr ?_) | (with_reducible refine ownsAl ?_ _)))))
                  have hKs : Z ≤ w8.heap.size := by omega
                  refine hK.out _ _ (Gn.start (by kernel_rfl) (by first | exact ⟨x0, x1⟩ | exact H1.out _ (by (repeat (first | (with_reducible assumption) | (with_reducible exact Only.refl _ _) | (with_reducible refine Only.drew ?_) | (with_reducible refine Only.alloc ?_ _) | (with_reducible refine onlySet ?_ (by first | (with_reducible assumption) | omega) _) | (with_reducible refine Only.trans ?_ (by with_reducible assumption))))))) (fun hNew => ?_)
                  clear hK K hHeld
                  have hHeld := Gn.outS (by kernel_rfl) hNew
                  clear hNew
                  refine wpAnyG_act (a' := ?na14) ?ne14 ?nr14
                  case ne14 =>
                    try simp [Act.put]
                    try rfl
                  refine wpAnyG_takeWD (d := some 45) (i := 14) (oi := _) (v := ?v9) rfl (by kernel_rfl) (by kernel_rfl) (by kernel_rfl) (by kernel_rfl) (by kernel_rfl) (fun _ _ _ h => h) (Or.inl ⟨by rfl, ?hy9⟩) (Gn.start (by kernel_rfl) hHeld) ?rest9
                  case hy9 =>
                    intro w _
                    go_simp
                    try with_reducible rfl
                  refine wpAnyG_act (a' := ?na15) ?ne15 ?nr15
                  case ne15 =>
                    try simp [Act.put]
                    try rfl
                  refine wpAnyG_at (fuel' := 1) (listed' := #[true, true, true, true, true, true, true, true, true, true, true, true, true, true, true, false]) (by kernel_rfl) (by kernel_rfl) ?_
                  refine wpAnyG_joinW (fun wj => wj.ownsRow Z 85 4 vA (R.length + 1) (R.flatMap entRC ++ [.string key, .int .u64 ver, .slice (some ⟨w8.heap.size, 0, none⟩) 1 1, .int .i64 (min now 4611686018427387904 + wait)]) ∧ wj.heap[w8.heap.size]? = some (.cells #[.int .i64 fr] 3 (0, 0)) ∧ Z ≤ w8.heap.size ∧ Only (fun _ => False) w4 wj) ?_ (fun wj hwj => ?_)
                  · exact ⟨ownA, hKA, hKs, oA⟩
                  generalize w4.heap.size = K1 at hwj ⊢
                  generalize w8.heap.size = K2 at hwj ⊢
                  generalize w9.heap.size = K3 at hwj ⊢
                  exact HJ.out K1 v8 K2 K3 vA wj hwj
                refine AllReadyG.cons (o := _) rfl (fun K hK => ?_) AllReadyG.nil
                go_simp
                go_at_call 31
                refine (rlater_any _ wait _ now hw0 hw1 hnow).mono ?_
                rintro e9 w9 ⟨rfl, ho9⟩
                have o9 : Only (fun _ => False) w4 w9 := by
                  refine Only.trans (b := _) ?_ ho9
                  (repeat (first | (with_reducible assumption) | (with_reducible exact Only.refl _ _) | (with_reducible refine Only.drew ?_) | (with_reducible refine Only.alloc ?_ _) | (with_reducible refine onlySet ?_ (by first | (with_reducible assumption) | omega) _) | (with_reducible refine Only.trans ?_ (by with_reducible assumption))))
                have hz9 : w4.heap.size ≤ w9.heap.size := o9.size
                have own8 : w9.ownsRow Z 85 4 v8 R.length (R.flatMap entRC) := by (refine owns_only ?_ ho9 (fun _ _ => id)); (repeat (first | (with_reducible assumption) | (with_reducible refine ownsDr ?_) | (with_reducible refine ownsAl ?_ _)))
                go_wp2_with fail
                refine hK.out _ _ (Gn.start (by kernel_rfl) (by first | exact ⟨x0, x1⟩ | exact H1.out _ (by (repeat (first | (with_reducible assumption) | (with_reducible exact Only.refl _ _) | (with_reducible refine Only.drew ?_) | (with_reducible refine Only.alloc ?_ _) | (with_reducible refine onlySet ?_ (by first | (with_reducible assumption) | omega) _) | (with_reducible refine Only.trans ?_ (by with_reducible assumption))))))) (fun hNew => ?_)
                clear hK K hHeld
                have hHeld := Gn.outS (by kernel_rfl) hNew
                clear hNew
                refine wpAnyG_act (a' := ?na16) ?ne16 ?nr16
                case ne16 =>
                  try simp [Act.put]
                  try rfl
                refine wpAnyG_ready (rs := [7]) (by kernel_rfl) (by simp) ?_
                refine AllReadyG.cons (o := _) rfl (fun K hK => ?_) AllReadyG.nil
                go_simp
                refine hK.out _ _ (Gn.start (by kernel_rfl) (by first | exact ⟨x0, x1⟩ | exact H1.out _ (by (repeat (first | (with_reducible assumption) | (with_reducible exact Only.refl _ _) | (with_reducible refine Only.drew ?_) | (with_reducible refine Only.alloc ?_ _) | (with_reducible refine onlySet ?_ (by first | (with_reducible assumption) | omega) _) | (with_reducible refine Only.trans ?_ (by with_reducible assumption))))))) (fun hNew => ?_)
                clear hK K hHeld
                have hHeld := Gn.outS (by kernel_rfl) hNew
                clear hNew
                refine wpAnyG_act (a' := ?na17) ?ne17 ?nr17
                case ne17 =>
                  try simp [Act.put]
                  try rfl
                refine wpAnyG_takeWD (d := some 42) (i := 11) (oi := _) (v := ?v10) rfl (by kernel_rfl) (by kernel_rfl) (by kernel_rfl) (by kernel_rfl) (by kernel_rfl) (fun _ _ _ h => h) (Or.inl ⟨by rfl, ?hy10⟩) (Gn.start (by kernel_rfl) hHeld) ?rest10
                case hy10 =>
                  intro w _
                  go_simp
                  try with_reducible rfl
                refine wpAnyG_act (a' := ?na18) ?ne18 ?nr18
                case ne18 =>
                  try simp [Act.put]
                  try rfl
                refine wpAnyG_ready (rs := [12]) (by kernel_rfl) (by simp) ?_
                refine AllReadyG.cons (o := _) rfl (fun K hK => ?_) AllReadyG.nil
                go_simp
                refine hK.out _ _ (Gn.start (by kernel_rfl) (by first | exact ⟨x0, x1⟩ | exact H1.out _ (by (repeat (first | (with_reducible assumption) | (with_reducible exact Only.refl _ _) | (with_reducible refine Only.drew ?_) | (with_reducible refine Only.alloc ?_ _) | (with_reducible refine onlySet ?_ (by first | (with_reducible assumption) | omega) _) | (with_reducible refine Only.trans ?_ (by with_reducible assumption))))))) (fun hNew => ?_)
                clear hK K hHeld
                have hHeld := Gn.outS (by kernel_rfl) hNew
                clear hNew
                refine wpAnyG_act (a' := ?na19) ?ne19 ?nr19
                case ne19 =>
                  try simp [Act.put]
                  try rfl
                refine wpAnyG_ready (rs := [13]) (by kernel_rfl) (by simp) ?_
                refine AllReadyG.cons (o := _) rfl (fun K hK => ?_) AllReadyG.nil
                refine step_append_src rfl (.tmp 34) (.tmp 43) 41 41 rfl Z 85 i0 _ 4 56 Try.underlying41 hi0 iz0 iz1 iz2 rfl v8 R.length (R.flatMap entRC) rfl ?_ _ 1 [.string key, .int .u64 ver, .slice (some ⟨w9.heap.size, 0, none⟩) 1 1, .int .i64 (min now 4611686018427387904 + wait)] rfl ?_ ?_ ?_ ?_ ?_
                · (repeat (first | (with_reducible assumption) | (with_reducible refine ownsDr ?_) | (with_reducible refine ownsAl ?_ _)))
                · exact Src.ofSlice _ Try.underlying41 _ _ _ _ rfl (news_at (e := 85) (by (apply Eq.trans; (case h₁ => repeat (first | (with_reducible assumption) | (with_reducible exact heap_alloc_new _ _) | (with_reducible apply blk_new; (repeat (first | (with_reducible rfl) | (with_reducible apply sz_set) | (with_reducible apply sz_alloc) | (with_reducible apply sz_drew))); done) | (with_reducible apply blk_same) | (with_reducible apply blk_ne; case hn => (first | assumption | omega)) | (with_reducible apply blk_old) | (with_reducible apply blk_drew))); (case h₂ => rfl)))) (entRC_one ⟨key, ver, [fr], min now 4611686018427387904 + wait, some ⟨w9.heap.size, 0, none⟩, 1⟩)
                · unfold maxLen; omega
                · omega
                · first | (simp; done) | (simp; omega) | omega
                intro vA wA ownA grA hvA
                have oA : Only (fun _ => False) w4 wA := Only.grown (by (repeat (first | (with_reducible assumption) | (with_reducible exact Only.refl _ _) | (with_reducible refine Only.drew ?_) | (with_reducible refine Only.alloc ?_ _) | (with_reducible refine onlySet ?_ (by first | (with_reducible assumption) | omega) _) | (with_reducible refine Only.trans ?_ (by with_reducible assumption))))) grA (fun k e => .inl (Nat.le_trans hZ1 (hvA k e)))
                have hKA : wA.heap[w9.heap.size]? = some (.cells #[.int .i64 fr] 3 (0, 0)) := by (refine blkGr (e' := 85) (size := 4) (base := Z) (n := R.length) (xs := R.flatMap entRC) ?_ ?_ (by decide) grA; (· (apply Eq.trans; (case h₁ => repeat (first | (with_reducible assumption) | (with_reducible exact heap_alloc_new _ _) | (with_reducible apply blk_new; (repeat (first | (with_reducible rfl) | (with_reducible apply sz_set) | (with_reducible apply sz_alloc) | (with_reducible apply sz_drew))); done) | (with_reducible apply blk_same) | (with_reducible apply blk_ne; case hn => (first | assumption | omega)) | (with_reducible apply blk_old) | (with_reducible apply blk_drew))); (case h₂ => rfl))); (· (repeat (first | (with_reducible assumption) | (with_reducible refine ownsDr ?_) | (with_reducible refine ownsAl ?_ _)))))
                have hKs : Z ≤ w9.heap.size := by omega
                refine hK.out _ _ (Gn.start (by kernel_rfl) (by first | exact ⟨x0, x1⟩ | exact H1.out _ (by (repeat (first | (with_reducible assumption) | (with_reducible exact Only.refl _ _) | (with_reducible refine Only.drew ?_) | (with_reducible refine Only.alloc ?_ _) | (with_reducible refine onlySet ?_ (by first | (with_reducible assumption) | omega) _) | (with_reducible refine Only.trans ?_ (by with_reducible assumption))))))) (fun hNew => ?_)
                clear hK K hHeld
                have hHeld := Gn.outS (by kernel_rfl) hNew
                clear hNew
                refine wpAnyG_act (a' := ?na20) ?ne20 ?nr20
                case ne20 =>
                  try simp [Act.put]
                  try rfl
                refine wpAnyG_takeWD (d := some 45) (i := 14) (oi := _) (v := ?v11) rfl (by kernel_rfl) (by kernel_rfl) (by kernel_rfl) (by kernel_rfl) (by kernel_rfl) (fun _ _ _ h => h) (Or.inl ⟨by rfl, ?hy11⟩) (Gn.start (by kernel_rfl) hHeld) ?rest11
                case hy11 =>
                  intro w _
                  go_simp
                  try with_reducible rfl
                refine wpAnyG_act (a' := ?na21) ?ne21 ?nr21
                case ne21 =>
                  try simp [Act.put]
                  try rfl
                refine wpAnyG_at (fuel' := 1) (listed' := #[true, true, true, true, true, true, true, true, true, true, true, true, true, true, true, false]) (by kernel_rfl) (by kernel_rfl) ?_
                refine wpAnyG_joinW (fun wj => wj.ownsRow Z 85 4 vA (R.length + 1) (R.flatMap entRC ++ [.string key, .int .u64 ver, .slice (some ⟨w9.heap.size, 0, none⟩) 1 1, .int .i64 (min now 4611686018427387904 + wait)]) ∧ wj.heap[w9.heap.size]? = some (.cells #[.int .i64 fr] 3 (0, 0)) ∧ Z ≤ w9.heap.size ∧ Only (fun _ => False) w4 wj) ?_ (fun wj hwj => ?_)
                · exact ⟨ownA, hKA, hKs, oA⟩
                exact HJ.out (w4.heap.size) (v8) (w9.heap.size) (w9.heap.size + 1) (vA) wj hwj
              refine AllReadyG.cons (o := _) rfl (fun K hK => ?_) AllReadyG.nil
              go_simp
              refine hK.out _ _ (Gn.start (by kernel_rfl) (by first | exact ⟨x0, x1⟩ | exact H1.out _ (by (repeat (first | (with_reducible assumption) | (with_reducible exact Only.refl _ _) | (with_reducible refine Only.drew ?_) | (with_reducible refine Only.alloc ?_ _) | (with_reducible refine onlySet ?_ (by first | (with_reducible assumption) | omega) _) | (with_reducible refine Only.trans ?_ (by with_reducible assumption))))))) (fun hNew => ?_)
              clear hK K hHeld
              have hHeld := Gn.outS (by kernel_rfl) hNew
              clear hNew
              refine wpAnyG_act (a' := ?na22) ?ne22 ?nr22
              case ne22 =>
                try simp [Act.put]
                try rfl
              refine wpAnyG_ready (rs := [3]) (by kernel_rfl) (by simp) ?_
              refine AllReadyG.cons (o := _) rfl (fun K hK => ?_) AllReadyG.nil
              refine step_append_src rfl (.tmp 31) (.tmp 33) 41 41 rfl Z 85 i0 _ 4 56 Try.underlying41 hi0 iz0 iz1 iz2 rfl (.slice (some ⟨w4.heap.size, 0, none⟩) 0 0) 0 [] rfl (own_at (by (apply Eq.trans; (case h₁ => repeat (first | (with_reducible assumption) | (with_reducible exact heap_alloc_new _ _) | (with_reducible apply blk_new; (repeat (first | (with_reducible rfl) | (with_reducible apply sz_set) | (with_reducible apply sz_alloc) | (with_reducible apply sz_drew))); done) | (with_reducible apply blk_same) | (with_reducible apply blk_ne; case hn => (first | assumption | omega)) | (with_reducible apply blk_old) | (with_reducible apply blk_drew))); (case h₂ => rfl))) _ _ (by omega)) _ R.length (R.flatMap entRC) rfl ?_ ?_ ?_ ?_ ?_
              · exact Sl.src Try.underlying41 (HSL.out _ (by (repeat (first | (with_reducible assumption) | (with_reducible exact Only.refl _ _) | (with_reducible refine Only.drew ?_) | (with_reducible refine Only.alloc ?_ _) | (with_reducible refine onlySet ?_ (by first | (with_reducible assumption) | omega) _) | (with_reducible refine Only.trans ?_ (by with_reducible assumption)))))) (fl_one entRC_one _)
              · unfold maxLen; omega
              · omega
              · first | (simp; done) | (simp; omega) | omega
              intro v8 w8 own8 gr8 hv8
              simp only [Nat.zero_add, List.nil_append] at own8
              have ho8 : Only (fun _ => False) w4 w8 := Only.grown (by (repeat (first | (with_reducible assumption) | (with_reducible exact Only.refl _ _) | (with_reducible refine Only.drew ?_) | (with_reducible refine Only.alloc ?_ _) | (with_reducible refine onlySet ?_ (by first | (with_reducible assumption) | omega) _) | (with_reducible refine Only.trans ?_ (by with_reducible assumption))))) gr8 (fun k e => .inl (Nat.le_trans hZ1 (hv8 k e)))
              have hz8 : w4.heap.size ≤ w8.heap.size := ho8.size
              have hB7w8 : w8.heap[w4.heap.size + 1]? = some (.cells #[.int .i64 fr] 3 (0, 0)) := blkGrN (by (apply Eq.trans; (case h₁ => repeat (first | (with_reducible assumption) | (with_reducible exact heap_alloc_new _ _) | (with_reducible apply blk_new; (repeat (first | (with_reducible rfl) | (with_reducible apply sz_set) | (with_reducible apply sz_alloc) | (with_reducible apply sz_drew))); done) | (with_reducible apply blk_same) | (with_reducible apply blk_ne; case hn => (first | assumption | omega)) | (with_reducible apply blk_old) | (with_reducible apply blk_drew))); (case h₂ => rfl))) (by omega) gr8
              have hL7w8 := lt_of_block hB7w8
              refine hK.out _ _ (Gn.start (by kernel_rfl) (by first | exact ⟨x0, x1⟩ | exact H1.out _ (by (repeat (first | (with_reducible assumption) | (with_reducible exact Only.refl _ _) | (with_reducible refine Only.drew ?_) | (with_reducible refine Only.alloc ?_ _) | (with_reducible refine onlySet ?_ (by first | (with_reducible assumption) | omega) _) | (with_reducible refine Only.trans ?_ (by with_reducible assumption))))))) (fun hNew => ?_)
              clear hK K hHeld
              have hHeld := Gn.outS (by kernel_rfl) hNew
              clear hNew
              refine wpAnyG_act (a' := ?na23) ?ne23 ?nr23
              case ne23 =>
                try simp [Act.put]
                try rfl
              refine wpAnyG_ready (rs := [10]) (by kernel_rfl) (by simp) ?_
              refine AllReadyG.cons (o := _) rfl (fun K hK => ?_) AllReadyG.nil
              go_simp
              go_at_call 31
              refine (rlater_any _ wait _ now hw0 hw1 hnow).mono ?_
              rintro e9 w9 ⟨rfl, ho9⟩
              have o9 : Only (fun _ => False) w4 w9 := by
                refine Only.trans (b := _) ?_ ho9
                (repeat (first | (with_reducible assumption) | (with_reducible exact Only.refl _ _) | (with_reducible refine Only.drew ?_) | (with_reducible refine Only.alloc ?_ _) | (with_reducible refine onlySet ?_ (by first | (with_reducible assumption) | omega) _) | (with_reducible refine Only.trans ?_ (by with_reducible assumption))))
              have hz9 : w4.heap.size ≤ w9.heap.size := o9.size
              have hB7w9 : w9.heap[w4.heap.size + 1]? = some (.cells #[.int .i64 fr] 3 (0, 0)) := by (refine Only.old ho9 ?_ id); (apply Eq.trans; (case h₁ => repeat (first | (with_reducible assumption) | (with_reducible exact heap_alloc_new _ _) | (with_reducible apply blk_new; (repeat (first | (with_reducible rfl) | (with_reducible apply sz_set) | (with_reducible apply sz_alloc) | (with_reducible apply sz_drew))); done) | (with_reducible apply blk_same) | (with_reducible apply blk_ne; case hn => (first | assumption | omega)) | (with_reducible apply blk_old) | (with_reducible apply blk_drew))); (case h₂ => rfl))
              have hL7w9 := lt_of_block hB7w9
              have own8 : w9.ownsRow Z 85 4 v8 R.length (R.flatMap entRC) := by (refine owns_only ?_ ho9 (fun _ _ => id)); (repeat (first | (with_reducible assumption) | (with_reducible refine ownsDr ?_) | (with_reducible refine ownsAl ?_ _)))
              go_wp2_with fail
              refine hK.out _ _ (Gn.start (by kernel_rfl) (by first | exact ⟨x0, x1⟩ | exact H1.out _ (by (repeat (first | (with_reducible assumption) | (with_reducible exact Only.refl _ _) | (with_reducible refine Only.drew ?_) | (with_reducible refine Only.alloc ?_ _) | (with_reducible refine onlySet ?_ (by first | (with_reducible assumption) | omega) _) | (with_reducible refine Only.trans ?_ (by with_reducible assumption))))))) (fun hNew => ?_)
              clear hK K hHeld
              have hHeld := Gn.outS (by kernel_rfl) hNew
              clear hNew
              refine wpAnyG_act (a' := ?na24) ?ne24 ?nr24
              case ne24 =>
                try simp [Act.put]
                try rfl
              refine wpAnyG_takeWD (d := some 42) (i := 11) (oi := _) (v := ?v12) rfl (by kernel_rfl) (by kernel_rfl) (by kernel_rfl) (by kernel_rfl) (by kernel_rfl) (fun _ _ _ h => h) (Or.inl ⟨by rfl, ?hy12⟩) (Gn.start (by kernel_rfl) hHeld) ?rest12
              case hy12 =>
                intro w _
                go_simp
                try with_reducible rfl
              refine wpAnyG_act (a' := ?na25) ?ne25 ?nr25
              case ne25 =>
                try simp [Act.put]
                try rfl
              refine wpAnyG_ready (rs := [12]) (by kernel_rfl) (by simp) ?_
              refine AllReadyG.cons (o := _) rfl (fun K hK => ?_) AllReadyG.nil
              go_simp
              refine hK.out _ _ (Gn.start (by kernel_rfl) (by first | exact ⟨x0, x1⟩ | exact H1.out _ (by (repeat (first | (with_reducible assumption) | (with_reducible exact Only.refl _ _) | (with_reducible refine Only.drew ?_) | (with_reducible refine Only.alloc ?_ _) | (with_reducible refine onlySet ?_ (by first | (with_reducible assumption) | omega) _) | (with_reducible refine Only.trans ?_ (by with_reducible assumption))))))) (fun hNew => ?_)
              clear hK K hHeld
              have hHeld := Gn.outS (by kernel_rfl) hNew
              clear hNew
              refine wpAnyG_act (a' := ?na26) ?ne26 ?nr26
              case ne26 =>
                try simp [Act.put]
                try rfl
              refine wpAnyG_ready (rs := [13]) (by kernel_rfl) (by simp) ?_
              refine AllReadyG.cons (o := _) rfl (fun K hK => ?_) AllReadyG.nil
              refine step_append_src rfl (.tmp 34) (.tmp 43) 41 41 rfl Z 85 i0 _ 4 56 Try.underlying41 hi0 iz0 iz1 iz2 rfl v8 R.length (R.flatMap entRC) rfl ?_ _ 1 [.string key, .int .u64 ver, .slice (some ⟨w4.heap.size + 1, 0, none⟩) 1 1, .int .i64 (min now 4611686018427387904 + wait)] rfl ?_ ?_ ?_ ?_ ?_
              · (repeat (first | (with_reducible assumption) | (with_reducible refine ownsDr ?_) | (with_reducible refine ownsAl ?_ _)))
              · exact Src.ofSlice _ Try.underlying41 _ _ _ _ rfl (news_at (e := 85) (by (apply Eq.trans; (case h₁ => repeat (first | (with_reducible assumption) | (with_reducible exact heap_alloc_new _ _) | (with_reducible apply blk_new; (repeat (first | (with_reducible rfl) | (with_reducible apply sz_set) | (with_reducible apply sz_alloc) | (with_reducible apply sz_drew))); done) | (with_reducible apply blk_same) | (with_reducible apply blk_ne; case hn => (first | assumption | omega)) | (with_reducible apply blk_old) | (with_reducible apply blk_drew))); (case h₂ => rfl)))) (entRC_one ⟨key, ver, [fr], min now 4611686018427387904 + wait, some ⟨w4.heap.size + 1, 0, none⟩, 1⟩)
              · unfold maxLen; omega
              · omega
              · first | (simp; done) | (simp; omega) | omega
              intro vA wA ownA grA hvA
              have oA : Only (fun _ => False) w4 wA := Only.grown (by (repeat (first | (with_reducible assumption) | (with_reducible exact Only.refl _ _) | (with_reducible refine Only.drew ?_) | (with_reducible refine Only.alloc ?_ _) | (with_reducible refine onlySet ?_ (by first | (with_reducible assumption) | omega) _) | (with_reducible refine Only.trans ?_ (by with_reducible assumption))))) grA (fun k e => .inl (Nat.le_trans hZ1 (hvA k e)))
              have hKA : wA.heap[w4.heap.size + 1]? = some (.cells #[.int .i64 fr] 3 (0, 0)) := by (refine blkGr (e' := 85) (size := 4) (base := Z) (n := R.length) (xs := R.flatMap entRC) ?_ ?_ (by decide) grA; (· (apply Eq.trans; (case h₁ => repeat (first | (with_reducible assumption) | (with_reducible exact heap_alloc_new _ _) | (with_reducible apply blk_new; (repeat (first | (with_reducible rfl) | (with_reducible apply sz_set) | (with_reducible apply sz_alloc) | (with_reducible apply sz_drew))); done) | (with_reducible apply blk_same) | (with_reducible apply blk_ne; case hn => (first | assumption | omega)) | (with_reducible apply blk_old) | (with_reducible apply blk_drew))); (case h₂ => rfl))); (· (repeat (first | (with_reducible assumption) | (with_reducible refine ownsDr ?_) | (with_reducible refine ownsAl ?_ _)))))
              have hKs : Z ≤ w4.heap.size + 1 := by omega
              refine hK.out _ _ (Gn.start (by kernel_rfl) (by first | exact ⟨x0, x1⟩ | exact H1.out _ (by (repeat (first | (with_reducible assumption) | (with_reducible exact Only.refl _ _) | (with_reducible refine Only.drew ?_) | (with_reducible refine Only.alloc ?_ _) | (with_reducible refine onlySet ?_ (by first | (with_reducible assumption) | omega) _) | (with_reducible refine Only.trans ?_ (by with_reducible assumption))))))) (fun hNew => ?_)
              clear hK K hHeld
              have hHeld := Gn.outS (by kernel_rfl) hNew
              clear hNew
              refine wpAnyG_act (a' := ?na27) ?ne27 ?nr27
              case ne27 =>
                try simp [Act.put]
                try rfl
              refine wpAnyG_takeWD (d := some 45) (i := 14) (oi := _) (v := ?v13) rfl (by kernel_rfl) (by kernel_rfl) (by kernel_rfl) (by kernel_rfl) (by kernel_rfl) (fun _ _ _ h => h) (Or.inl ⟨by rfl, ?hy13⟩) (Gn.start (by kernel_rfl) hHeld) ?rest13
              case hy13 =>
                intro w _
                go_simp
                try with_reducible rfl
              refine wpAnyG_act (a' := ?na28) ?ne28 ?nr28
              case ne28 =>
                try simp [Act.put]
                try rfl
              refine wpAnyG_at (fuel' := 1) (listed' := #[true, true, true, true, true, true, true, true, true, true, true, true, true, true, true, false]) (by kernel_rfl) (by kernel_rfl) ?_
              refine wpAnyG_joinW (fun wj => wj.ownsRow Z 85 4 vA (R.length + 1) (R.flatMap entRC ++ [.string key, .int .u64 ver, .slice (some ⟨w4.heap.size + 1, 0, none⟩) 1 1, .int .i64 (min now 4611686018427387904 + wait)]) ∧ wj.heap[w4.heap.size + 1]? = some (.cells #[.int .i64 fr] 3 (0, 0)) ∧ Z ≤ w4.heap.size + 1 ∧ Only (fun _ => False) w4 wj) ?_ (fun wj hwj => ?_)
              · exact ⟨ownA, hKA, hKs, oA⟩
              exact HJ.out (w4.heap.size) (v8) (w4.heap.size + 1) (w9.heap.size) (vA) wj hwj
            refine AllReadyG.cons (o := _) rfl (fun K hK => ?_) AllReadyG.nil
            go_simp
            refine hK.out _ _ (Gn.start (by kernel_rfl) (by first | exact ⟨x0, x1⟩ | exact H1.out _ (by (repeat (first | (with_reducible assumption) | (with_reducible exact Only.refl _ _) | (with_reducible refine Only.drew ?_) | (with_reducible refine Only.alloc ?_ _) | (with_reducible refine onlySet ?_ (by first | (with_reducible assumption) | omega) _) | (with_reducible refine Only.trans ?_ (by with_reducible assumption))))))) (fun hNew => ?_)
            clear hK K hHeld
            have hHeld := Gn.outS (by kernel_rfl) hNew
            clear hNew
            refine wpAnyG_act (a' := ?na29) ?ne29 ?nr29
            case ne29 =>
              try simp [Act.put]
              try rfl
            refine wpAnyG_ready (rs := [0]) (by kernel_rfl) (by simp) ?_
            refine AllReadyG.cons (o := _) rfl (fun K hK => ?_) AllReadyG.nil
            go_simp
            refine hK.out _ _ (Gn.start (by kernel_rfl) (by first | exact ⟨x0, x1⟩ | exact H1.out _ (by (repeat (first | (with_reducible assumption) | (with_reducible exact Only.refl _ _) | (with_reducible refine Only.drew ?_) | (with_reducible refine Only.alloc ?_ _) | (with_reducible refine onlySet ?_ (by first | (with_reducible assumption) | omega) _) | (with_reducible refine Only.trans ?_ (by with_reducible assumption))))))) (fun hNew => ?_)
            clear hK K hHeld
            have hHeld := Gn.outS (by kernel_rfl) hNew
            clear hNew
            refine wpAnyG_act (a' := ?na30) ?ne30 ?nr30
            case ne30 =>
              try simp [Act.put]
              try rfl
            refine wpAnyG_ready (rs := [3]) (by kernel_rfl) (by simp) ?_
            refine AllReadyG.cons (o := _) rfl (fun K hK => ?_) AllReadyG.nil
            refine step_append_src rfl (.tmp 31) (.tmp 33) 41 41 rfl Z 85 i0 _ 4 56 Try.underlying41 hi0 iz0 iz1 iz2 rfl (.slice (some ⟨w4.heap.size + 1, 0, none⟩) 0 0) 0 [] rfl (own_at (by (apply Eq.trans; (case h₁ => repeat (first | (with_reducible assumption) | (with_reducible exact heap_alloc_new _ _) | (with_reducible apply blk_new; (repeat (first | (with_reducible rfl) | (with_reducible apply sz_set) | (with_reducible apply sz_alloc) | (with_reducible apply sz_drew))); done) | (with_reducible apply blk_same) | (with_reducible apply blk_ne; case hn => (first | assumption | omega)) | (with_reducible apply blk_old) | (with_reducible apply blk_drew))); (case h₂ => rfl))) _ _ (by omega)) _ R.length (R.flatMap entRC) rfl ?_ ?_ ?_ ?_ ?_
            · exact Sl.src Try.underlying41 (HSL.out _ (by (repeat (first | (with_reducible assumption) | (with_reducible exact Only.refl _ _) | (with_reducible refine Only.drew ?_) | (with_reducible refine Only.alloc ?_ _) | (with_reducible refine onlySet ?_ (by first | (with_reducible assumption) | omega) _) | (with_reducible refine Only.trans ?_ (by with_reducible assumption)))))) (fl_one entRC_one _)
            · unfold maxLen; omega
            · omega
            · first | (simp; done) | (simp; omega) | omega
            intro v8 w8 own8 gr8 hv8
            simp only [Nat.zero_add, List.nil_append] at own8
            have ho8 : Only (fun _ => False) w4 w8 := Only.grown (by (repeat (first | (with_reducible assumption) | (with_reducible exact Only.refl _ _) | (with_reducible refine Only.drew ?_) | (with_reducible refine Only.alloc ?_ _) | (with_reducible refine onlySet ?_ (by first | (with_reducible assumption) | omega) _) | (with_reducible refine Only.trans ?_ (by with_reducible assumption))))) gr8 (fun k e => .inl (Nat.le_trans hZ1 (hv8 k e)))
            have hz8 : w4.heap.size ≤ w8.heap.size := ho8.size
            have hB7w8 : w8.heap[w4.heap.size]? = some (.cells #[.int .i64 fr] 3 (0, 0)) := blkGrN (by (apply Eq.trans; (case h₁ => repeat (first | (with_reducible assumption) | (with_reducible exact heap_alloc_new _ _) | (with_reducible apply blk_new; (repeat (first | (with_reducible rfl) | (with_reducible apply sz_set) | (with_reducible apply sz_alloc) | (with_reducible apply sz_drew))); done) | (with_reducible apply blk_same) | (with_reducible apply blk_ne; case hn => (first | assumption | omega)) | (with_reducible apply blk_old) | (with_reducible apply blk_drew))); (case h₂ => rfl))) (by omega) gr8
            have hL7w8 := lt_of_block hB7w8
            refine hK.out _ _ (Gn.start (by kernel_rfl) (by first | exact ⟨x0, x1⟩ | exact H1.out _ (by (repeat (first | (with_reducible assumption) | (with_reducible exact Only.refl _ _) | (with_reducible refine Only.drew ?_) | (with_reducible refine Only.alloc ?_ _) | (with_reducible refine onlySet ?_ (by first | (with_reducible assumption) | omega) _) | (with_reducible refine Only.trans ?_ (by with_reducible assumption))))))) (fun hNew => ?_)
            clear hK K hHeld
            have hHeld := Gn.outS (by kernel_rfl) hNew
            clear hNew
            refine wpAnyG_act (a' := ?na31) ?ne31 ?nr31
            case ne31 =>
              try simp [Act.put]
              try rfl
            refine wpAnyG_ready (rs := [10]) (by kernel_rfl) (by simp) ?_
            refine AllReadyG.cons (o := _) rfl (fun K hK => ?_) AllReadyG.nil
            go_simp
            go_at_call 31
            refine (rlater_any _ wait _ now hw0 hw1 hnow).mono ?_
            rintro e9 w9 ⟨rfl, ho9⟩
            have o9 : Only (fun _ => False) w4 w9 := by
              refine Only.trans (b := _) ?_ ho9
              (repeat (first | (with_reducible assumption) | (with_reducible exact Only.refl _ _) | (with_reducible refine Only.drew ?_) | (with_reducible refine Only.alloc ?_ _) | (with_reducible refine onlySet ?_ (by first | (with_reducible assumption) | omega) _) | (with_reducible refine Only.trans ?_ (by with_reducible assumption))))
            have hz9 : w4.heap.size ≤ w9.heap.size := o9.size
            have hB7w9 : w9.heap[w4.heap.size]? = some (.cells #[.int .i64 fr] 3 (0, 0)) := by (refine Only.old ho9 ?_ id); (apply Eq.trans; (case h₁ => repeat (first | (with_reducible assumption) | (with_reducible exact heap_alloc_new _ _) | (with_reducible apply blk_new; (repeat (first | (with_reducible rfl) | (with_reducible apply sz_set) | (with_reducible apply sz_alloc) | (with_reducible apply sz_drew))); done) | (with_reducible apply blk_same) | (with_reducible apply blk_ne; case hn => (first | assumption | omega)) | (with_reducible apply blk_old) | (with_reducible apply blk_drew))); (case h₂ => rfl))
            have hL7w9 := lt_of_block hB7w9
            have own8 : w9.ownsRow Z 85 4 v8 R.length (R.flatMap entRC) := by (refine owns_only ?_ ho9 (fun _ _ => id)); (repeat (first | (with_reducible assumption) | (with_reducible refine ownsDr ?_) | (with_reducible refine ownsAl ?_ _)))
            go_wp2_with fail
            refine hK.out _ _ (Gn.start (by kernel_rfl) (by first | exact ⟨x0, x1⟩ | exact H1.out _ (by (repeat (first | (with_reducible assumption) | (with_reducible exact Only.refl _ _) | (with_reducible refine Only.drew ?_) | (with_reducible refine Only.alloc ?_ _) | (with_reducible refine onlySet ?_ (by first | (with_reducible assumption) | omega) _) | (with_reducible refine Only.trans ?_ (by with_reducible assumption))))))) (fun hNew => ?_)
            clear hK K hHeld
            have hHeld := Gn.outS (by kernel_rfl) hNew
            clear hNew
            refine wpAnyG_act (a' := ?na32) ?ne32 ?nr32
            case ne32 =>
              try simp [Act.put]
              try rfl
            refine wpAnyG_takeWD (d := some 42) (i := 11) (oi := _) (v := ?v14) rfl (by kernel_rfl) (by kernel_rfl) (by kernel_rfl) (by kernel_rfl) (by kernel_rfl) (fun _ _ _ h => h) (Or.inl ⟨by rfl, ?hy14⟩) (Gn.start (by kernel_rfl) hHeld) ?rest14
            case hy14 =>
              intro w _
              go_simp
              try with_reducible rfl
            refine wpAnyG_act (a' := ?na33) ?ne33 ?nr33
            case ne33 =>
              try simp [Act.put]
              try rfl
            refine wpAnyG_ready (rs := [12]) (by kernel_rfl) (by simp) ?_
            refine AllReadyG.cons (o := _) rfl (fun K hK => ?_) AllReadyG.nil
            go_simp
            refine hK.out _ _ (Gn.start (by kernel_rfl) (by first | exact ⟨x0, x1⟩ | exact H1.out _ (by (repeat (first | (with_reducible assumption) | (with_reducible exact Only.refl _ _) | (with_reducible refine Only.drew ?_) | (with_reducible refine Only.alloc ?_ _) | (with_reducible refine onlySet ?_ (by first | (with_reducible assumption) | omega) _) | (with_reducible refine Only.trans ?_ (by with_reducible assumption))))))) (fun hNew => ?_)
            clear hK K hHeld
            have hHeld := Gn.outS (by kernel_rfl) hNew
            clear hNew
            refine wpAnyG_act (a' := ?na34) ?ne34 ?nr34
            case ne34 =>
              try simp [Act.put]
              try rfl
            refine wpAnyG_ready (rs := [13]) (by kernel_rfl) (by simp) ?_
            refine AllReadyG.cons (o := _) rfl (fun K hK => ?_) AllReadyG.nil
            refine step_append_src rfl (.tmp 34) (.tmp 43) 41 41 rfl Z 85 i0 _ 4 56 Try.underlying41 hi0 iz0 iz1 iz2 rfl v8 R.length (R.flatMap entRC) rfl ?_ _ 1 [.string key, .int .u64 ver, .slice (some ⟨w4.heap.size, 0, none⟩) 1 1, .int .i64 (min now 4611686018427387904 + wait)] rfl ?_ ?_ ?_ ?_ ?_
            · (repeat (first | (with_reducible assumption) | (with_reducible refine ownsDr ?_) | (with_reducible refine ownsAl ?_ _)))
            · exact Src.ofSlice _ Try.underlying41 _ _ _ _ rfl (news_at (e := 85) (by (apply Eq.trans; (case h₁ => repeat (first | (with_reducible assumption) | (with_reducible exact heap_alloc_new _ _) | (with_reducible apply blk_new; (repeat (first | (with_reducible rfl) | (with_reducible apply sz_set) | (with_reducible apply sz_alloc) | (with_reducible apply sz_drew))); done) | (with_reducible apply blk_same) | (with_reducible apply blk_ne; case hn => (first | assumption | omega)) | (with_reducible apply blk_old) | (with_reducible apply blk_drew))); (case h₂ => rfl)))) (entRC_one ⟨key, ver, [fr], min now 4611686018427387904 + wait, some ⟨w4.heap.size, 0, none⟩, 1⟩)
            · unfold maxLen; omega
            · omega
            · first | (simp; done) | (simp; omega) | omega
            intro vA wA ownA grA hvA
            have oA : Only (fun _ => False) w4 wA := Only.grown (by (repeat (first | (with_reducible assumption) | (with_reducible exact Only.refl _ _) | (with_reducible refine Only.drew ?_) | (with_reducible refine Only.alloc ?_ _) | (with_reducible refine onlySet ?_ (by first | (with_reducible assumption) | omega) _) | (with_reducible refine Only.trans ?_ (by with_reducible assumption))))) grA (fun k e => .inl (Nat.le_trans hZ1 (hvA k e)))
            have hKA : wA.heap[w4.heap.size]? = some (.cells #[.int .i64 fr] 3 (0, 0)) := by (refine blkGr (e' := 85) (size := 4) (base := Z) (n := R.length) (xs := R.flatMap entRC) ?_ ?_ (by decide) grA; (· (apply Eq.trans; (case h₁ => repeat (first | (with_reducible assumption) | (with_reducible exact heap_alloc_new _ _) | (with_reducible apply blk_new; (repeat (first | (with_reducible rfl) | (with_reducible apply sz_set) | (with_reducible apply sz_alloc) | (with_reducible apply sz_drew))); done) | (with_reducible apply blk_same) | (with_reducible apply blk_ne; case hn => (first | assumption | omega)) | (with_reducible apply blk_old) | (with_reducible apply blk_drew))); (case h₂ => rfl))); (· (repeat (first | (with_reducible assumption) | (with_reducible refine ownsDr ?_) | (with_reducible refine ownsAl ?_ _)))))
            have hKs : Z ≤ w4.heap.size := by omega
            refine hK.out _ _ (Gn.start (by kernel_rfl) (by first | exact ⟨x0, x1⟩ | exact H1.out _ (by (repeat (first | (with_reducible assumption) | (with_reducible exact Only.refl _ _) | (with_reducible refine Only.drew ?_) | (with_reducible refine Only.alloc ?_ _) | (with_reducible refine onlySet ?_ (by first | (with_reducible assumption) | omega) _) | (with_reducible refine Only.trans ?_ (by with_reducible assumption))))))) (fun hNew => ?_)
            clear hK K hHeld
            have hHeld := Gn.outS (by kernel_rfl) hNew
            clear hNew
            refine wpAnyG_act (a' := ?na35) ?ne35 ?nr35
            case ne35 =>
              try simp [Act.put]
              try rfl
            refine wpAnyG_takeWD (d := some 45) (i := 14) (oi := _) (v := ?v15) rfl (by kernel_rfl) (by kernel_rfl) (by kernel_rfl) (by kernel_rfl) (by kernel_rfl) (fun _ _ _ h => h) (Or.inl ⟨by rfl, ?hy15⟩) (Gn.start (by kernel_rfl) hHeld) ?rest15
            case hy15 =>
              intro w _
              go_simp
              try with_reducible rfl
            refine wpAnyG_act (a' := ?na36) ?ne36 ?nr36
            case ne36 =>
              try simp [Act.put]
              try rfl
            refine wpAnyG_at (fuel' := 1) (listed' := #[true, true, true, true, true, true, true, true, true, true, true, true, true, true, true, false]) (by kernel_rfl) (by kernel_rfl) ?_
            refine wpAnyG_joinW (fun wj => wj.ownsRow Z 85 4 vA (R.length + 1) (R.flatMap entRC ++ [.string key, .int .u64 ver, .slice (some ⟨w4.heap.size, 0, none⟩) 1 1, .int .i64 (min now 4611686018427387904 + wait)]) ∧ wj.heap[w4.heap.size]? = some (.cells #[.int .i64 fr] 3 (0, 0)) ∧ Z ≤ w4.heap.size ∧ Only (fun _ => False) w4 wj) ?_ (fun wj hwj => ?_)
            · exact ⟨ownA, hKA, hKs, oA⟩
            exact HJ.out (w4.heap.size + 1) (v8) (w4.heap.size) (w9.heap.size) (vA) wj hwj
          case hj =>
            intro K1 v8 K2 K3 vA wj hwj
            obtain ⟨ownJ, hKJ, hKs, hoJ⟩ := hwj
            obtain ⟨_, a9, c9, rfl, _⟩ := Sl.of_owns ownJ
            have f9 : ∀ i, wj.frozen? ⟨X, i, none⟩ = false := HF.out _ hoJ
            obtain ⟨x0, x9⟩ := H1.out _ hoJ
            refine wpAnyG_ready (rs := [15]) (by kernel_rfl) (by simp) ?_
            refine AllReadyG.cons (o := _) rfl (fun K hK => ?_) AllReadyG.nil
            go_simp
            refine hK.out _ _ (Gn.tail (by kernel_rfl) (trivial)) (fun hNew => ?_)
            clear hK K hNew
            refine wpAnyG_act (a' := ?na37) ?ne37 ?nr37
            case ne37 =>
              try simp [Act.put]
              try rfl
            refine wpAnyG_done (by kernel_rfl) ?_ _
            go_wp2_with fail
            go_meet
            exact ⟨wj, K2, a9, c9, by with_reducible rfl, ownJ, hKJ, hKs, hoJ, rfl⟩

        case rest =>
          obtain ⟨wj, K2, a9, c9, rfl, ownJ, hKJ, hKs, hoJ, hwx⟩ := hcut
          have hb0 : wc.heap[X]? = some (.cells #[.int .i64 wait, .slice a9 (R.length + 1) c9] 43 (0, 0)) := by rw [hwx]; exact set_at (hoJ.old H04.out id) 1 _
          have t9 : Only (fun i => i = X) wj wc := by rw [hwx]; exact (Only.refl _ _).setCell (S := fun i => i = X) (p := ⟨X, 1, none⟩) (.inr rfl) _
          have hb2 := t9.old (hoJ.old H24.out id) (by omega)
          have own10 := owns_only ownJ t9 (fun k hk e => by omega)
          have hK10 := t9.old hKJ (by omega)
          have HST := Lib.hid (show RHStep R (R ++ [⟨key, ver, [fr], min now 4611686018427387904 + wait, some ⟨K2, 0, none⟩, 1⟩]) key ver fr (min now 4611686018427387904 + wait) true from .inr ⟨rfl, by omega, by omega, .inl ⟨HFO.out, by omega, _, _, rfl⟩⟩)
          have H08 := Lib.hid hb0
          have H28 := Lib.hid hb2
          have T9 := Lib.hid t9
          have OWN := Lib.hid own10
          have HK := Lib.hid hK10
          have HOJ := Lib.hid hoJ
          clear hb0 hb2 t9 own10 hK10 hoJ
          clear hwx ownJ hKJ x0 x1 H1
          have x0 : wc.cell? ⟨X, 0, none⟩ = some (.int .i64 wait) := cell_at H08.out 0
          have x1 : wc.cell? ⟨X, 1, none⟩ = some (.slice a9 (R.length + 1) c9) := cell_at H08.out 1
          have zf : ∀ i, wc.frozen? ⟨X + 1, i, none⟩ = false := free_at H28.out
          have z0 : wc.cell? ⟨(X + 1), 0, none⟩ = some (.int .i64 0) := cell_at H28.out 0
          have z1 : wc.cell? ⟨(X + 1), 1, none⟩ = some (.slice none 0 0) := cell_at H28.out 1
          have hn1 : ¬ X + 1 = X := by omega
          have hn2 : ¬ X = X + 1 := by omega
          go_wp2_with fail
          clear x0 x1 z0 z1 zf
          obtain ⟨s1, s2⟩ := lit_set H28.out [.int .i64 wait, .slice a9 (R.length + 1) c9] rfl
          rw [show World.setCells wc (X + 1) 0 [.int .i64 wait, .slice a9 (R.length + 1) c9] = ((wc.setCell ⟨(X + 1), 0, none⟩ (.int .i64 wait)).setCell ⟨(X + 1), 1, none⟩ (.slice a9 (R.length + 1) c9)) from rfl] at s1 s2
          generalize ((wc.setCell ⟨(X + 1), 0, none⟩ (.int .i64 wait)).setCell ⟨(X + 1), 1, none⟩ (.slice a9 (R.length + 1) c9)) = wz at *
          have p0 : wz.cell? ⟨(X + 1), 0, none⟩ = some (.int .i64 wait) := cell_at s1 0
          have p1 : wz.cell? ⟨(X + 1), 1, none⟩ = some (.slice a9 (R.length + 1) c9) := cell_at s1 1
          refine bodyPost_ret (v := .tuple #[.agg #[.int .i64 wait, .slice a9 (R.length + 1) c9], .bool true]) (by simp [results, Try.results16, go_sem, p0, p1]) rfl ?_
          refine HRP.out _ _ (R ++ [⟨key, ver, [fr], min now 4611686018427387904 + wait, some ⟨K2, 0, none⟩, 1⟩]) true ?_
          have hX := HXW.out
          have hfin := ((HOC.out.trans HOJ.out).tr T9.out (fun i hi e => by omega)).tr s2 (fun i hi e => by omega)
          refine ⟨_, rfl, HST.out, ⟨?_, ?_⟩, hfin⟩
          · refine SlB.of_owns (base := Z) (e := 85) ?_ (by omega)
            rw [List.length_append, List.flatMap_append]
            have h9 := owns_only OWN.out s2 (fun k hk e => by omega)
            simpa [entRC, EntR.s] using h9
          · intro e he
            rcases List.mem_append.1 he with he | he
            · exact (HH.out.has e he).new hfin
            · obtain rfl := List.mem_singleton.1 he
              exact slb_one (s2.old HK.out (by omega)) (by omega)
    | some i =>
      obtain ⟨hi, hik⟩ := HFK.out i rfl
      have hfi := HFS.out i rfl
      subst hfi
      clear HFN HFS HFK
      have hxl : X < w4.heap.size := by omega
      have hi0' : (0 : Int) ≤ (i : Int) := by omega
      have hi1' : (i : Int) < (R.length : Int) := by omega
      have hneg : ¬ (i : Int) < 0 := by omega
      have hHas := HH.out.has R[i] (List.getElem_mem hi)
      have HHAS := Lib.hid (fun w' (ho : Only (fun _ => False) w4 w') => hHas.new (HOC.out.trans ho))
      have HENT := Lib.hid (fun w' (ho : Only (fun _ => False) w4 w') => HH.out.new (HOC.out.trans ho))
      obtain ⟨b, off, rfl, hc⟩ := HC4.out.at i hi
      have p0 := hc 0 _ rfl
      have p1 := hc 1 _ rfl
      have p2 := hc 2 _ rfl
      have p3 := hc 3 _ rfl
      simp only [Nat.add_zero] at p0
      unfold EntR.s at p2 hHas HHAS
      have x1 : w4.cell? ⟨X, 1, none⟩ = some (.slice (some ⟨b, off, none⟩) R.length cap) := cell_at H04.out 1
      have HHL := Lib.hid hHas
      have HIK := Lib.hid hik
      have HEQ := Lib.hid (show R[i] = ⟨R[i].key, R[i].ver, R[i].has, R[i].due, R[i].a, R[i].cap⟩ by cases R[i]; rfl)
      have HST := Lib.hid (show ∀ R' b, ((b = false ∧ R' = R ∧ (ver < R[i].ver ∨ (R[i].ver = ver ∧ fr ∉ R[i].has ∧ 64 ≤ R[i].has.length))) ∨ (b = true ∧ ((R[i].ver < ver ∧ ∃ a cap, R' = R.set i ⟨R[i].key, ver, [fr], R[i].due, a, cap⟩) ∨ (R[i].ver = ver ∧ fr ∈ R[i].has ∧ R' = R) ∨ (R[i].ver = ver ∧ fr ∉ R[i].has ∧ R[i].has.length < 64 ∧ ∃ a cap, R' = R.set i ⟨R[i].key, R[i].ver, R[i].has ++ [fr], R[i].due, a, cap⟩)))) → RHStep R R' key ver fr (min now 4611686018427387904 + wait) b from fun R' b h => by
        rcases h with ⟨rfl, rfl, h⟩ | ⟨rfl, h⟩
        · exact .inl ⟨rfl, rfl, .inr (.inr (.inr ⟨i, hi, HFO.out, h⟩))⟩
        · exact .inr ⟨rfl, by omega, by omega, .inr ⟨i, hi, HFO.out, h⟩⟩)
      generalize R[i].key = k1 at *
      generalize R[i].ver = v1 at *
      generalize R[i].has = has1 at *
      generalize R[i].due = d1 at *
      generalize R[i].a = a1 at *
      generalize R[i].cap = c1 at *
      clear hc hHas hik HEQ
      obtain ⟨W5, hW5⟩ : ∃ W5, W5 = w4.alloc (.cells #[.string k1, .int .u64 v1, .slice a1 has1.length c1, .int .i64 d1] 85) := ⟨_, rfl⟩
      have hbW5 : W5.heap[w4.heap.size]? = some (.cells #[.string k1, .int .u64 v1, .slice a1 has1.length c1, .int .i64 d1] 85 (0, 0)) := by rw [hW5]; exact heap_alloc_new w4 _
      have hoW5 : Only (fun _ => False) w4 W5 := by rw [hW5]; exact (Only.refl _ _).alloc _
      have hsW5 : W5.heap.size = w4.heap.size + 1 := by rw [hW5]; simp
      have hb0 := hoW5.old H04.out id
      have hb2 := hoW5.old H24.out id
      have hYX : X + 1 < w4.heap.size := hxl4
      have hoD := HOC.out.trans hoW5
      go_upto_region 10 with (fail)
      rw [← hW5]
      have HSZ := Lib.hid hsW5
      clear hW5 p0 p1 p2 p3 x1 hsW5
      generalize hY : w4.heap.size = Y at *
      have H05 := Lib.hid hb0
      have H25 := Lib.hid hb2
      have H5 := Lib.hid hbW5
      have HOD := Lib.hid hoD
      have HYE := Lib.hid hY
      have HO5 := Lib.hid hoW5
      clear hb0 hb2 hbW5 hoD hY hoW5
      have y1 : W5.cell? ⟨Y, 1, none⟩ = some (.int .u64 v1) := cell_at H5.out 1
      by_cases hgt : (v1 : Int) > (ver : Int)
      · -- older
        have HS2 := Lib.hid (HST.out R false (.inl ⟨rfl, rfl, .inl (by omega)⟩))
        go_upto_region 11 with (fail)
        clear y1
        have x0 : W5.cell? ⟨X, 0, none⟩ = some (.int .i64 wait) := cell_at H05.out 0
        have x1 : W5.cell? ⟨X, 1, none⟩ = some (.slice (some ⟨b, off, none⟩) R.length cap) := cell_at H05.out 1
        have zf : ∀ i, W5.frozen? ⟨X + 1, i, none⟩ = false := free_at H25.out
        have z0 : W5.cell? ⟨(X + 1), 0, none⟩ = some (.int .i64 0) := cell_at H25.out 0
        have z1 : W5.cell? ⟨(X + 1), 1, none⟩ = some (.slice none 0 0) := cell_at H25.out 1
        have hn1 : ¬ X + 1 = X := by omega
        have hn2 : ¬ X = X + 1 := by omega
        go_wp2_with fail
        clear x0 x1 z0 z1 zf
        obtain ⟨s1, s2⟩ := lit_set H25.out [.int .i64 wait, .slice (some ⟨b, off, none⟩) R.length cap] rfl
        rw [show World.setCells W5 (X + 1) 0 [.int .i64 wait, .slice (some ⟨b, off, none⟩) R.length cap] = ((W5.setCell ⟨(X + 1), 0, none⟩ (.int .i64 wait)).setCell ⟨(X + 1), 1, none⟩ (.slice (some ⟨b, off, none⟩) R.length cap)) from rfl] at s1 s2
        generalize ((W5.setCell ⟨(X + 1), 0, none⟩ (.int .i64 wait)).setCell ⟨(X + 1), 1, none⟩ (.slice (some ⟨b, off, none⟩) R.length cap)) = wz at *
        have p0 : wz.cell? ⟨(X + 1), 0, none⟩ = some (.int .i64 wait) := cell_at s1 0
        have p1 : wz.cell? ⟨(X + 1), 1, none⟩ = some (.slice (some ⟨b, off, none⟩) R.length cap) := cell_at s1 1
        refine bodyPost_ret (v := .tuple #[.agg #[.int .i64 wait, .slice (some ⟨b, off, none⟩) R.length cap], .bool false]) (by simp [results, Try.results16, go_sem, p0, p1]) rfl ?_
        refine HRP.out _ _ R false ?_
        have hX := HXW.out
        have hfin := HOD.out.tr s2 (fun i hi e => by omega)
        exact ⟨_, rfl, HS2.out, HH.out.new hfin, hfin⟩
      by_cases hlt : (v1 : Int) < (ver : Int)
      · -- newer
        have hYs : Y < W5.heap.size := lt_of_block H5.out
        have yf : ∀ i, W5.frozen? ⟨Y, i, none⟩ = false := free_at H5.out
        have y2 : W5.cell? ⟨Y, 2, none⟩ = some (.slice a1 has1.length c1) := cell_at H5.out 2
        have hYW : ¬ Y = W5.heap.size := by omega
        go_upto_region 14 with (fail)
        clear y1 y2 yf
        obtain ⟨w6, hw6⟩ : ∃ w6, w6 = ((W5.setCell ⟨Y, 1, none⟩ (.int .u64 ver)).setCell ⟨Y, 2, none⟩ (.slice (some ⟨W5.heap.size, 0, none⟩) 1 1)).alloc (.cells #[.int .i64 fr] 3) := ⟨_, rfl⟩
        have t6 : Only (fun i => i = Y) W5 w6 := by rw [hw6]; exact (((Only.refl _ _).setCell (S := fun i => i = Y) (p := ⟨Y, 1, none⟩) (.inr rfl) _).setCell (p := ⟨Y, 2, none⟩) (.inr rfl) _).alloc _
        have hb5 : w6.heap[Y]? = some (.cells #[.string k1, .int .u64 ver, .slice (some ⟨W5.heap.size, 0, none⟩) 1 1, .int .i64 d1] 85 (0, 0)) := by rw [hw6]; exact blk_old (set_at (set_at H5.out 1 _) 2 _)
        have hK6 : w6.heap[W5.heap.size]? = some (.cells #[.int .i64 fr] 3 (0, 0)) := by rw [hw6]; exact blk_new (by simp)
        rw [← hw6]
        have hb0 := t6.old H05.out (by omega)
        have hb2 := t6.old H25.out (by omega)
        have ho6 : Only (fun _ => False) w4 w6 := HO5.out.tr t6 (fun i hi e => by have := HYE.out; omega)
        have hsl6 := slb_one (B := B) hK6 (by omega)
        have HKX := Lib.hid (show X + 1 < W5.heap.size by omega)
        generalize W5.heap.size = K at *
        clear hw6 hK6 t6
        have y0 : w6.cell? ⟨Y, 0, none⟩ = some (.string k1) := cell_at hb5 0
        have y1 : w6.cell? ⟨Y, 1, none⟩ = some (.int .u64 ver) := cell_at hb5 1
        have y2 : w6.cell? ⟨Y, 2, none⟩ = some (.slice (some ⟨K, 0, none⟩) 1 1) := cell_at hb5 2
        have y3 : w6.cell? ⟨Y, 3, none⟩ = some (.int .i64 d1) := cell_at hb5 3
        have hent6 := HENT.out w6 ho6
        have hpu := rput18_any w6 B wait _ R hent6 (by have := ho6.size; have := HYE.out; omega) hR i hi ⟨k1, ver, [fr], d1, some ⟨K, 0, none⟩, 1⟩ hsl6
        have HLS := Lib.hid (show (R.set i ⟨k1, ver, [fr], d1, some ⟨K, 0, none⟩, 1⟩).length = R.length from List.length_set ..)
        simp only [entRV, EntR.s, rwV] at hpu
        rw [show ([fr]).length = 1 by simp] at hpu
        have x0 : w6.cell? ⟨X, 0, none⟩ = some (.int .i64 wait) := cell_at hb0 0
        have x1 : w6.cell? ⟨X, 1, none⟩ = some (.slice (some ⟨b, off, none⟩) R.length cap) := cell_at hb0 1
        have HPU := Lib.hid hpu
        have HZ6 := Lib.hid hb2
        have HO6 := Lib.hid (HOC.out.trans ho6)
        clear hpu hent6
        go_wp2_with fail
        refine HPU.out.mono ?_
        rintro e w7 ⟨v7, rfl, hent7, ho7, hfr7⟩
        obtain ⟨a9, c9, rfl, _, _, _⟩ := Sl.cells entRC_length hent7.row.sl
        rw [HLS.out] at hent7 ⊢
        have hb2 := ho7.old HZ6.out id
        have hoG := HO6.out.trans ho7
        have hsl7 := hsl6.new ho7
        have hxk : X + 1 < w6.heap.size := lt_of_block HZ6.out
        have hfr8 : ∀ g, (Value.slice a9 R.length c9).ownBlock = some g → ¬ g = X + 1 := fun g hg e => by
          rw [HLS.out] at hfr7
          have h9 := hfr7 g hg
          omega
        have H27 := Lib.hid hb2
        have HOG := Lib.hid hoG
        have HENT7 := Lib.hid hent7
        have HSL7 := Lib.hid hsl7
        have HFR8 := Lib.hid hfr8
        clear hb2 hoG hent7 hsl7 hfr8
        clear x0 x1 ho7 hfr7
        have zf : ∀ i, w7.frozen? ⟨X + 1, i, none⟩ = false := free_at H27.out
        have z0 : w7.cell? ⟨(X + 1), 0, none⟩ = some (.int .i64 0) := cell_at H27.out 0
        have z1 : w7.cell? ⟨(X + 1), 1, none⟩ = some (.slice none 0 0) := cell_at H27.out 1
        go_wp2_with fail
        clear z0 z1 zf
        obtain ⟨s1, s2⟩ := lit_set H27.out [.int .i64 wait, .slice a9 R.length c9] rfl
        rw [show World.setCells w7 (X + 1) 0 [.int .i64 wait, .slice a9 R.length c9] = ((w7.setCell ⟨(X + 1), 0, none⟩ (.int .i64 wait)).setCell ⟨(X + 1), 1, none⟩ (.slice a9 R.length c9)) from rfl] at s1 s2
        generalize ((w7.setCell ⟨(X + 1), 0, none⟩ (.int .i64 wait)).setCell ⟨(X + 1), 1, none⟩ (.slice a9 R.length c9)) = wz at *
        have p0 : wz.cell? ⟨(X + 1), 0, none⟩ = some (.int .i64 wait) := cell_at s1 0
        have p1 : wz.cell? ⟨(X + 1), 1, none⟩ = some (.slice a9 R.length c9) := cell_at s1 1
        refine bodyPost_ret (v := .tuple #[.agg #[.int .i64 wait, .slice a9 R.length c9], .bool true]) (by simp [results, Try.results16, go_sem, p0, p1]) rfl ?_
        refine HRP.out _ _ (R.set i ⟨k1, ver, [fr], d1, some ⟨K, 0, none⟩, 1⟩) true ?_
        have hX := HXW.out
        have hfin := HOG.out.tr s2 (fun i hi e => by omega)
        refine ⟨_, rfl, (HST.out _ true (.inr ⟨rfl, .inl ⟨by omega, _, _, rfl⟩⟩)), ⟨by have h9 := HENT7.out.row; rw [HLS.out] at h9 ⊢; exact h9.keptN s2 (fun g hg => HFR8.out g hg), fun e he => ?_⟩, hfin⟩
        rcases List.mem_or_eq_of_mem_set he with he | rfl
        · exact (HH.out.has e he).new hfin
        · exact HSL7.out.keptN s2 (fun g hg => by have h9 : K = g := (by simpa [Value.ownBlock] using hg); have h8 := HKX.out; omega)
      have hve : v1 = ver := by omega
      have hYs : Y < W5.heap.size := lt_of_block H5.out
      have y2 : W5.cell? ⟨Y, 2, none⟩ = some (.slice a1 has1.length c1) := cell_at H5.out 2
      have HHS := Lib.hid (rhas03_any W5 _ has1 (HHAS.out W5 HO5.out).sl fr)
      have HVE := Lib.hid hve
      clear hve
      go_wp2_with fail
      refine HHS.out.mono ?_
      rintro e w6 ⟨rfl, rfl⟩
      by_cases hm : fr ∈ has1
      · -- had
        have HS2 := Lib.hid (HST.out R true (.inr ⟨rfl, .inr (.inl ⟨HVE.out, hm, rfl⟩)⟩))
        rw [decide_eq_true hm]
        clear hm
        go_upto_region 16 with (fail)
        clear y1 y2
        have x0 : W5.cell? ⟨X, 0, none⟩ = some (.int .i64 wait) := cell_at H05.out 0
        have x1 : W5.cell? ⟨X, 1, none⟩ = some (.slice (some ⟨b, off, none⟩) R.length cap) := cell_at H05.out 1
        have zf : ∀ i, W5.frozen? ⟨X + 1, i, none⟩ = false := free_at H25.out
        have z0 : W5.cell? ⟨(X + 1), 0, none⟩ = some (.int .i64 0) := cell_at H25.out 0
        have z1 : W5.cell? ⟨(X + 1), 1, none⟩ = some (.slice none 0 0) := cell_at H25.out 1
        have hn1 : ¬ X + 1 = X := by omega
        have hn2 : ¬ X = X + 1 := by omega
        go_wp2_with fail
        clear x0 x1 z0 z1 zf
        obtain ⟨s1, s2⟩ := lit_set H25.out [.int .i64 wait, .slice (some ⟨b, off, none⟩) R.length cap] rfl
        rw [show World.setCells W5 (X + 1) 0 [.int .i64 wait, .slice (some ⟨b, off, none⟩) R.length cap] = ((W5.setCell ⟨(X + 1), 0, none⟩ (.int .i64 wait)).setCell ⟨(X + 1), 1, none⟩ (.slice (some ⟨b, off, none⟩) R.length cap)) from rfl] at s1 s2
        generalize ((W5.setCell ⟨(X + 1), 0, none⟩ (.int .i64 wait)).setCell ⟨(X + 1), 1, none⟩ (.slice (some ⟨b, off, none⟩) R.length cap)) = wz at *
        have p0 : wz.cell? ⟨(X + 1), 0, none⟩ = some (.int .i64 wait) := cell_at s1 0
        have p1 : wz.cell? ⟨(X + 1), 1, none⟩ = some (.slice (some ⟨b, off, none⟩) R.length cap) := cell_at s1 1
        refine bodyPost_ret (v := .tuple #[.agg #[.int .i64 wait, .slice (some ⟨b, off, none⟩) R.length cap], .bool true]) (by simp [results, Try.results16, go_sem, p0, p1]) rfl ?_
        refine HRP.out _ _ R true ?_
        have hX := HXW.out
        have hfin := HOD.out.tr s2 (fun i hi e => by omega)
        exact ⟨_, rfl, HS2.out, HH.out.new hfin, hfin⟩
      rw [decide_eq_false hm]
      by_cases h64 : 64 ≤ has1.length
      · -- full2
        have h64' : (64 : Int) ≤ (has1.length : Int) := by omega
        have HS2 := Lib.hid (HST.out R false (.inl ⟨rfl, rfl, .inr ⟨HVE.out, hm, h64⟩⟩))
        clear hm
        go_upto_region 18 with (fail)
        clear y1 y2
        have x0 : W5.cell? ⟨X, 0, none⟩ = some (.int .i64 wait) := cell_at H05.out 0
        have x1 : W5.cell? ⟨X, 1, none⟩ = some (.slice (some ⟨b, off, none⟩) R.length cap) := cell_at H05.out 1
        have zf : ∀ i, W5.frozen? ⟨X + 1, i, none⟩ = false := free_at H25.out
        have z0 : W5.cell? ⟨(X + 1), 0, none⟩ = some (.int .i64 0) := cell_at H25.out 0
        have z1 : W5.cell? ⟨(X + 1), 1, none⟩ = some (.slice none 0 0) := cell_at H25.out 1
        have hn1 : ¬ X + 1 = X := by omega
        have hn2 : ¬ X = X + 1 := by omega
        go_wp2_with fail
        clear x0 x1 z0 z1 zf
        obtain ⟨s1, s2⟩ := lit_set H25.out [.int .i64 wait, .slice (some ⟨b, off, none⟩) R.length cap] rfl
        rw [show World.setCells W5 (X + 1) 0 [.int .i64 wait, .slice (some ⟨b, off, none⟩) R.length cap] = ((W5.setCell ⟨(X + 1), 0, none⟩ (.int .i64 wait)).setCell ⟨(X + 1), 1, none⟩ (.slice (some ⟨b, off, none⟩) R.length cap)) from rfl] at s1 s2
        generalize ((W5.setCell ⟨(X + 1), 0, none⟩ (.int .i64 wait)).setCell ⟨(X + 1), 1, none⟩ (.slice (some ⟨b, off, none⟩) R.length cap)) = wz at *
        have p0 : wz.cell? ⟨(X + 1), 0, none⟩ = some (.int .i64 wait) := cell_at s1 0
        have p1 : wz.cell? ⟨(X + 1), 1, none⟩ = some (.slice (some ⟨b, off, none⟩) R.length cap) := cell_at s1 1
        refine bodyPost_ret (v := .tuple #[.agg #[.int .i64 wait, .slice (some ⟨b, off, none⟩) R.length cap], .bool false]) (by simp [results, Try.results16, go_sem, p0, p1]) rfl ?_
        refine HRP.out _ _ R false ?_
        have hX := HXW.out
        have hfin := HOD.out.tr s2 (fun i hi e => by omega)
        exact ⟨_, rfl, HS2.out, HH.out.new hfin, hfin⟩
      · -- app
        have h64' : ¬ (64 : Int) ≤ (has1.length : Int) := by omega
        have HS2 := Lib.hid (fun a cap => HST.out (R.set i ⟨k1, v1, has1 ++ [fr], d1, a, cap⟩) true (.inr ⟨rfl, .inr (.inr ⟨HVE.out, hm, by omega, a, cap, rfl⟩)⟩))
        have yf : ∀ i, W5.frozen? ⟨Y, i, none⟩ = false := free_at H5.out
        clear hm
        go_upto_region 19 with (fail)
        go_wp2_with (at_builtin; refine Wait.mk ?_)
        refine Wait.go (wpList_append_src _ rfl (.tmp 80) (.tmp 82) 30 30 rfl W5.heap.size 3 j0 _ 1 8 Try.underlying30 hj0 jz0 jz1 jz2 rfl (.slice (some ⟨W5.heap.size, 0, none⟩) 0 0) 0 [] rfl (own_at (heap_alloc_new W5 _) _ _ (Nat.le_refl _)) _ has1.length (rowI has1) rfl ?src4 ?m4 ?b4 ?base4 ?_)
        case src4 => exact Sl.src Try.underlying30 ((HHAS.out _ HO5.out).sl.new ((Only.refl _ _).alloc _)) (rowI_one _)
        case m4 => unfold maxLen; omega
        case b4 => omega
        case base4 => simp
        intro v6 w6 own6 gr6 hv6
        simp only [Nat.zero_add, List.nil_append] at own6
        have ho6 : Only (fun _ => False) W5 w6 := ((Only.refl _ _).alloc _).own (own_at (heap_alloc_new W5 _) W5.heap.size 1 (Nat.le_refl _)) (Nat.le_refl _) gr6
        have HO6 := Lib.hid ho6
        have HOWN := Lib.hid own6
        have hb5 := ho6.old H5.out id
        have HB5 := Lib.hid hb5
        clear ho6 own6 gr6 hv6 y1 y2 yf hb5
        have hYs6 : Y < w6.heap.size := lt_of_block HB5.out
        have yf : ∀ i, w6.frozen? ⟨Y, i, none⟩ = false := free_at HB5.out
        have y2 : w6.cell? ⟨Y, 2, none⟩ = some (.slice a1 has1.length c1) := cell_at HB5.out 2
        go_wp2_with (at_builtin; refine Wait.mk ?_)
        refine Wait.go (wpList_append_src _ rfl (.tmp 83) (.tmp 85) 30 30 rfl W5.heap.size 3 j0 _ 1 8 Try.underlying30 hj0 jz0 jz1 jz2 rfl v6 has1.length (rowI has1) rfl (HOWN.out.alloc _) _ 1 [.int .i64 fr] rfl ?src5 ?m5 ?b5 ?base5 ?_)
        case src5 => exact Src.ofSlice _ Try.underlying30 _ _ _ _ rfl (news_new _ _ _) (by simp [Value.oneCell'])
        case m5 => unfold maxLen; omega
        case b5 => omega
        case base5 => have := HO6.out.size; simp; omega
        intro v8 w8 own8 gr8 hv8
        have ho8 : Only (fun _ => False) W5 w8 := (HO6.out.alloc _).own (HOWN.out.alloc _) (Nat.le_refl _) gr8
        have hrow8 : w8.ownsRow W5.heap.size 3 1 v8 (has1 ++ [fr]).length (rowI (has1 ++ [fr])) := by rw [rowI_append, List.length_append]; exact own8
        obtain ⟨_, K, cp, hcp⟩ : ∃ x K cp, v8 = .slice (some ⟨K, 0, none⟩) (has1.length + 1) cp ∧ x = 0 := by
          obtain ⟨g, cp, cur, h9, _⟩ := row_form own8 (by simp)
          exact ⟨0, g, cp, h9, rfl⟩
        obtain ⟨rfl, _⟩ := hcp
        have hb5 := ho8.old H5.out id
        have hb0 := ho8.old H05.out id
        have hb2 := ho8.old H25.out id
        have HO8 := Lib.hid ho8
        have HB58 := Lib.hid hb5
        have HB08 := Lib.hid hb0
        have HB28 := Lib.hid hb2
        have HR8 := Lib.hid hrow8
        clear ho8 hb5 hb0 hb2 hrow8
        have HKX := Lib.hid (show X + 1 < K by have := (own8.lt K rfl).1; omega)
        clear own8 gr8 hv8 y2 yf
        have hYs8 : Y < w8.heap.size := lt_of_block HB58.out
        have yf : ∀ i, w8.frozen? ⟨Y, i, none⟩ = false := free_at HB58.out
        have y2 : w8.cell? ⟨Y, 2, none⟩ = some (.slice a1 has1.length c1) := cell_at HB58.out 2
        go_upto_region 20 with (fail)
        obtain ⟨w9, hw9⟩ : ∃ w9, w9 = w8.setCell ⟨Y, 2, none⟩ (.slice (some ⟨K, 0, none⟩) (has1.length + 1) cp) := ⟨_, rfl⟩
        have t9 : Only (fun i => i = Y) w8 w9 := by rw [hw9]; exact (Only.refl _ _).setCell (S := fun i => i = Y) (p := ⟨Y, 2, none⟩) (.inr rfl) _
        have hb5 : w9.heap[Y]? = some (.cells #[.string k1, .int .u64 v1, .slice (some ⟨K, 0, none⟩) (has1.length + 1) cp, .int .i64 d1] 85 (0, 0)) := by rw [hw9]; exact set_at HB58.out 2 _
        have hb0 := t9.old HB08.out (by omega)
        have hb2 := t9.old HB28.out (by omega)
        have hr9 := owns_only HR8.out t9 (fun k hk e => by omega)
        have ho9 : Only (fun _ => False) w4 w9 := (HO5.out.trans HO8.out).tr t9 (fun i hi e => by have := HYE.out; omega)
        rw [← hw9]
        clear hw9 t9 y2 yf
        have hsl9 : SlB w9 B 1 (.slice (some ⟨K, 0, none⟩) (has1 ++ [fr]).length cp) (has1 ++ [fr]).length (rowI (has1 ++ [fr])) := by
          have h9 := SlB.of_owns (B := B) hr9 (by omega)
          rwa [show has1.length + 1 = (has1 ++ [fr]).length by simp] at h9
        have y0 : w9.cell? ⟨Y, 0, none⟩ = some (.string k1) := cell_at hb5 0
        have y1 : w9.cell? ⟨Y, 1, none⟩ = some (.int .u64 v1) := cell_at hb5 1
        have y2 : w9.cell? ⟨Y, 2, none⟩ = some (.slice (some ⟨K, 0, none⟩) (has1.length + 1) cp) := cell_at hb5 2
        have y3 : w9.cell? ⟨Y, 3, none⟩ = some (.int .i64 d1) := cell_at hb5 3
        have hent6 := HENT.out w9 ho9
        have hpu := rput18_any w9 B wait _ R hent6 (by have := ho9.size; have := HYE.out; omega) hR i hi ⟨k1, v1, has1 ++ [fr], d1, some ⟨K, 0, none⟩, cp⟩ hsl9
        have HLS := Lib.hid (show (R.set i ⟨k1, v1, has1 ++ [fr], d1, some ⟨K, 0, none⟩, cp⟩).length = R.length from List.length_set ..)
        simp only [entRV, EntR.s, rwV] at hpu
        rw [show (has1 ++ [fr]).length = has1.length + 1 by simp] at hpu
        have x0 : w9.cell? ⟨X, 0, none⟩ = some (.int .i64 wait) := cell_at hb0 0
        have x1 : w9.cell? ⟨X, 1, none⟩ = some (.slice (some ⟨b, off, none⟩) R.length cap) := cell_at hb0 1
        have HPU := Lib.hid hpu
        have HZ6 := Lib.hid hb2
        have HO6 := Lib.hid (HOC.out.trans ho9)
        clear hpu hent6
        go_wp2_with fail
        refine HPU.out.mono ?_
        rintro e w7 ⟨v7, rfl, hent7, ho7, hfr7⟩
        obtain ⟨a9, c9, rfl, _, _, _⟩ := Sl.cells entRC_length hent7.row.sl
        rw [HLS.out] at hent7 ⊢
        have hb2 := ho7.old HZ6.out id
        have hoG := HO6.out.trans ho7
        have hsl7 := hsl9.new ho7
        have hxk : X + 1 < w9.heap.size := lt_of_block HZ6.out
        have hfr8 : ∀ g, (Value.slice a9 R.length c9).ownBlock = some g → ¬ g = X + 1 := fun g hg e => by
          rw [HLS.out] at hfr7
          have h9 := hfr7 g hg
          omega
        have H27 := Lib.hid hb2
        have HOG := Lib.hid hoG
        have HENT7 := Lib.hid hent7
        have HSL7 := Lib.hid hsl7
        have HFR8 := Lib.hid hfr8
        clear hb2 hoG hent7 hsl7 hfr8
        clear x0 x1 ho7 hfr7
        have zf : ∀ i, w7.frozen? ⟨X + 1, i, none⟩ = false := free_at H27.out
        have z0 : w7.cell? ⟨(X + 1), 0, none⟩ = some (.int .i64 0) := cell_at H27.out 0
        have z1 : w7.cell? ⟨(X + 1), 1, none⟩ = some (.slice none 0 0) := cell_at H27.out 1
        go_wp2_with fail
        clear z0 z1 zf
        obtain ⟨s1, s2⟩ := lit_set H27.out [.int .i64 wait, .slice a9 R.length c9] rfl
        rw [show World.setCells w7 (X + 1) 0 [.int .i64 wait, .slice a9 R.length c9] = ((w7.setCell ⟨(X + 1), 0, none⟩ (.int .i64 wait)).setCell ⟨(X + 1), 1, none⟩ (.slice a9 R.length c9)) from rfl] at s1 s2
        generalize ((w7.setCell ⟨(X + 1), 0, none⟩ (.int .i64 wait)).setCell ⟨(X + 1), 1, none⟩ (.slice a9 R.length c9)) = wz at *
        have p0 : wz.cell? ⟨(X + 1), 0, none⟩ = some (.int .i64 wait) := cell_at s1 0
        have p1 : wz.cell? ⟨(X + 1), 1, none⟩ = some (.slice a9 R.length c9) := cell_at s1 1
        refine bodyPost_ret (v := .tuple #[.agg #[.int .i64 wait, .slice a9 R.length c9], .bool true]) (by simp [results, Try.results16, go_sem, p0, p1]) rfl ?_
        refine HRP.out _ _ (R.set i ⟨k1, v1, has1 ++ [fr], d1, some ⟨K, 0, none⟩, cp⟩) true ?_
        have hX := HXW.out
        have hfin := HOG.out.tr s2 (fun i hi e => by omega)
        refine ⟨_, rfl, (by have h9 := HS2.out (some ⟨K, 0, none⟩) cp; rw [HVE.out] at h9 ⊢; exact h9), ⟨by have h9 := HENT7.out.row; rw [HLS.out] at h9 ⊢; exact h9.keptN s2 (fun g hg => HFR8.out g hg), fun e he => ?_⟩, hfin⟩
        rcases List.mem_or_eq_of_mem_set he with he | rfl
        · exact (HH.out.has e he).new hfin
        · exact HSL7.out.keptN s2 (fun g hg => by have h9 : K = g := (by simpa [Value.ownBlock] using hg); have h8 := HKX.out; omega)
end Go.Proofs.Ytefadkmdfhjaeaa
