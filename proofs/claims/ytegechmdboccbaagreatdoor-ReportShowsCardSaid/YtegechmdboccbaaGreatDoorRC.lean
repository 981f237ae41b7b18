/- tree.New. -/
import Derived.Test.YtegechmdboccbaaGreatDoorRB
import Derived.Test.YtegechmdboccbaaGreatDoorRA
import Derived.Conc.LoneSelectN
/-! overlay.New. -/
namespace Go.Proofs.YtegechmdboccbaaGreatDoor
open Go.Conc Go.RowKit Go.Maps

/-- An overlay as plain numbers: its config, its node, whom it has as active, as passive, whom it asked, its count of ticks, the next seed. -/
structure OverT where
  cfg : OCfgT
  self : Int
  act : List Int
  pas : List Int
  asked : List Int
  ticks : Int
  seed : Int
def overC (o : OverT) (vs va vp vk : Value) : List Value := o.cfg.cells vs ++ handC o.self va o.cfg.act vp o.cfg.pas vk ++ [.int .i64 o.ticks, .int .i64 o.seed]
structure OverAt (w : World) (x : Nat) (o : OverT) : Prop where
  out : ∃ vs va vp vk, w.heap[x]? = some (.cells (overC o vs va vp vk).toArray 122 (0, 0)) ∧ IR w vs o.cfg.seeds ∧ IR w va o.act ∧ IR w vp o.pas ∧ IR w vk o.asked
theorem OverAt.kept {S : Nat → Prop} {w w' : World} {x : Nat} {o : OverT} (h : OverAt w x o) (ho : Only S w w') (h1 : ¬ S x) (hn : ∀ k, S k → ∀ cs f, w.heap[k]? ≠ some (.cells cs 3 f)) : OverAt w' x o := by
  obtain ⟨vs, va, vp, vk, h2, h3, h4, h5, h6⟩ := h.out
  exact ⟨vs, va, vp, vk, ho.old h2 h1, h3.kept ho hn, h4.kept ho hn, h5.kept ho hn, h6.kept ho hn⟩
theorem OverAt.new {w w' : World} {x : Nat} {o : OverT} (h : OverAt w x o) (ho : Only (fun _ => False) w w') : OverAt w' x o := h.kept ho id (fun _ => False.elim)
theorem OverAt.lt {w : World} {x : Nat} {o : OverT} (h : OverAt w x o) : x < w.heap.size := by
  obtain ⟨vs, va, vp, vk, h2, _⟩ := h.out
  exact lt_of_block h2
def newO (self : Int) (c : OCfgT) : OverT := ⟨{ c with seeds := keepL (fun n => decide (n = self)) c.seeds }, self, [], [], [], 0, 0⟩
theorem enter_onewc : ∀ args w, (callFunc 92 args).run Tryz.prog w = .ok (.enter 92 args) w := enters_of Tryz.func92 (by kernel_rfl) rfl
theorem onewc_any (W : World) (B : Nat) (n x : Int) (h : W.cell? ⟨B, 0, none⟩ = some (.int .i64 n)) :
    Calls Tryz.prog 92 #[.int .i64 x, .pointer (some ⟨B, 0, none⟩)] W fun e w' => e = .returned (.bool (decide (x = n))) ∧ ∃ q, w' = W.drewN q := by
  go_enter Tryz.func92, Tryz.ntmps92
  go_wp2_with fail
  go_ret
  exact ⟨rfl, 0, rfl⟩
theorem infoOCfg (c : OCfgT) (v : Value) : (Tryz.prog.info? 39).map (·.size) = some (c.cells v).toArray.size := by kernel_rfl
def OverNew (w w' : World) (self : Int) (c : OCfgT) (e : Ending) : Prop :=
  Only (fun _ => False) w w' ∧ (((c.good && inB self 1 65535) = true ∧ ∃ x, w.heap.size ≤ x ∧ e = .returned (.tuple #[.pointer (some ⟨x, 0, none⟩), .int .i64 0]) ∧ OverAt w' x (newO self c)) ∨ ((c.good && inB self 1 65535) = false ∧ e = .returned (.tuple #[.pointer none, .int .i64 1])))
set_option maxRecDepth 100000 in
set_option maxHeartbeats 4000000 in
theorem onew_any (w : World) (self : Int) (c : OCfgT) (v : Value) (h : Sl w 1 v c.seeds.length (rowI c.seeds)) (hb : c.seeds.length ≤ 900000) :
    Calls Tryz.prog 70 #[.int .i64 self, .agg (c.cells v).toArray] w fun e w' => OverNew w w' self c e := by
  have HP := Lib.hid (show ∀ w' e, (Only (fun _ => False) w w' ∧ (((c.good && inB self 1 65535) = true ∧ ∃ x, w.heap.size ≤ x ∧ e = .returned (.tuple #[.pointer (some ⟨x, 0, none⟩), .int .i64 0]) ∧ OverAt w' x (newO self c)) ∨ ((c.good && inB self 1 65535) = false ∧ e = .returned (.tuple #[.pointer none, .int .i64 1])))) → OverNew w w' self c e from fun _ _ h => h)
  obtain ⟨W1, hW1⟩ : ∃ W1, W1 = w.alloc (.cells #[.int .i64 self] 3) := ⟨_, rfl⟩
  have hbW1 : W1.heap[w.heap.size]? = some (.cells #[.int .i64 self] 3 (0, 0)) := by rw [hW1]; exact heap_alloc_new w _
  have hoW1 : Only (fun _ => False) w W1 := by rw [hW1]; exact (Only.refl _ _).alloc _
  have hsW1 : W1.heap.size = w.heap.size + 1 := by rw [hW1]; simp
  obtain ⟨W, hW⟩ : ∃ W, W = W1.alloc (.cells (c.cells v).toArray 39) := ⟨_, rfl⟩
  have hbW : W.heap[W1.heap.size]? = some (.cells (c.cells v).toArray 39 (0, 0)) := by rw [hW]; exact heap_alloc_new W1 _
  have hoW : Only (fun _ => False) W1 W := by rw [hW]; exact (Only.refl _ _).alloc _
  have hsW : W.heap.size = W1.heap.size + 1 := by rw [hW]; simp
  rw [hsW1] at hbW
  have ho2 := hoW1.trans hoW
  have hb1 := hoW.old hbW1 id
  have hsz : W.heap.size = w.heap.size + 2 := by rw [hsW, hsW1]
  have hk := h.new ho2
  have hg := ogood_any W c v hk (by omega)
  have hi := oin_any W self 1 65535
  have y1 : W.cell? ⟨w.heap.size, 0, none⟩ = some (.int .i64 self) := cell_at hb1 0
  obtain ⟨gd, hgd⟩ : ∃ gd, gd = c.good := ⟨_, rfl⟩
  obtain ⟨gi, hgi⟩ : ∃ gi, gi = inB self 1 65535 := ⟨_, rfl⟩
  rw [← hgd] at hg
  rw [← hgi] at hi
  rw [← hgd, ← hgi] at HP
  have HG := Lib.hid hg
  have HI := Lib.hid hi
  have HK := Lib.hid hk
  have HB2 := Lib.hid hbW
  have HB1 := Lib.hid hb1
  have HO := Lib.hid ho2
  have HSZ := Lib.hid hsz
  have HGD := Lib.hid hgd
  have HGI := Lib.hid hgi
  clear hg hi hk hbW hb1 ho2 hsz hgd hgi
  clear h hbW1 hoW hoW1 hsW
  go_enter Tryz.func70, Tryz.ntmps70
  go_upto_region 1 with (fail)
  rw [← hW1, ← hW]
  clear hW hW1 hsW1
  go_wp2_with ((with_reducible refine wpList_load_row (o := ⟨some 6, .load 39 (.tmp 3), _, _, _, none⟩) rfl _ _ rfl (w.heap.size + 1) ?_ 39 _ (0, 0) _ HB2.out Tryz.underlying39 ?_ (infoOCfg _ _) ?_); (· rfl); (· rfl))
  refine HG.out.mono ?_
  rintro e w1 ⟨rfl, ho1⟩
  cases gd with
  | false =>
    have HO1 := Lib.hid ho1
    clear ho1
    go_wp2_with fail
    go_ret2
    exact HP.out _ _ ⟨HO.out.trans HO1.out, .inr ⟨rfl, rfl⟩⟩
  | true =>
    have y2 := ho1.cell y1 id
    have hi2 := oin_any w1 self 1 65535
    rw [← HGI.out] at hi2
    have HO1 := Lib.hid ho1
    have HI2 := Lib.hid hi2
    clear ho1 hi2
    clear y1
    go_wp2_with fail
    refine HI2.out.mono ?_
    rintro e w2 ⟨rfl, rfl⟩
    cases gi with
    | false =>
      go_wp2_with fail
      go_ret2
      exact HP.out _ _ ⟨HO.out.trans HO1.out, .inr ⟨rfl, rfl⟩⟩
    | true =>
      have hb2 := HO1.out.old HB2.out id
      have hb1 := HO1.out.old HB1.out id
      have hcl := clone_sl w1 v c.seeds (HK.out.new HO1.out) (by omega)
      have y7 : w1.cell? ⟨w.heap.size + 1, 7, none⟩ = some v := cell_at hb2 7
      have hs1 := HO1.out.size
      rw [HSZ.out] at hs1
      have HB2A := Lib.hid hb2
      have HB1A := Lib.hid hb1
      have HCL := Lib.hid hcl
      clear hb2 hb1 hcl
      go_wp2_with fail
      refine HCL.out.mono ?_
      rintro e w3 ⟨v3, rfl, hr3, ho3⟩
      have hrl := fun k hk => (hr3.lt k hk).1
      have hcb : ClosI 92 #[.pointer (some ⟨w.heap.size, 0, none⟩)] (fun n => decide (n = self)) w3 v3.ownBlock := by
        intro V x hV
        exact onewc_any V w.heap.size self x ((hV.cell (ho3.cell y2 id)) (fun e => by have := hrl _ e; simp only at this; omega))
      have hdl := del_row w3 w1.heap.size 92 #[.pointer (some ⟨w.heap.size, 0, none⟩)] (fun n => decide (n = self)) enter_onewc v3 c.seeds (by omega) hr3 hcb
      have hnb : ∀ k, v3.ownBlock = some k → w1.heap.size ≤ k := hrl
      have HDL := Lib.hid hdl
      have HNB := Lib.hid hnb
      have HO3 := Lib.hid ho3
      clear hdl hnb ho3
      clear hr3 hrl hcb y7
      go_wp2_with fail
      refine HDL.out.mono ?_
      rintro e w4 ⟨v4, rfl, ho4, hr4⟩
      have ho14 : Only (fun _ => False) w1 w4 := HO3.out.tr ho4 (fun i hi e => by have := HNB.out i e; omega)
      have hb4 := ho14.old HB2A.out id
      have hb5 := ho14.old HB1A.out id
      have hxl : w.heap.size + 1 < w4.heap.size := lt_of_block hb4
      have hf4 : ∀ i, w4.frozen? ⟨w.heap.size + 1, i, none⟩ = false := free_at hb4
      have y7 : w4.cell? ⟨w.heap.size + 1, 7, none⟩ = some v := cell_at hb4 7
      have hir := IR.of hr4
      obtain ⟨a4, cap4, hv4, _, _, _⟩ := id hir.form
      obtain ⟨n4, hn4⟩ : ∃ n4, n4 = (keepL (fun n => decide (n = self)) c.seeds).length := ⟨_, rfl⟩
      rw [← hn4] at hv4
      have HN4 := Lib.hid hn4
      subst hv4
      clear hn4
      have HO14 := Lib.hid ho14
      have HB4 := Lib.hid hb4
      have HB5 := Lib.hid hb5
      have HIR := Lib.hid hir
      clear ho14 hb4 hb5 hir
      clear ho4 hr4
      obtain ⟨V, hV⟩ : ∃ V, V = w4.setCell ⟨w.heap.size + 1, 7, none⟩ (.slice a4 n4 cap4) := ⟨_, rfl⟩
      have hbV : V.heap[w.heap.size + 1]? = some (.cells (c.cells (.slice a4 n4 cap4)).toArray 39 (0, 0)) := by
        rw [hV]
        exact (set_at HB4.out 7 (.slice a4 n4 cap4)).trans rfl
      have hoV : Only (fun i => i = w.heap.size + 1) w4 V := by
        rw [hV]
        exact (Only.refl (fun i => i = w.heap.size + 1) w4).setCell (p := ⟨w.heap.size + 1, 7, none⟩) (.inr rfl) _
      have hbV1 := hoV.old HB5.out (by omega)
      have hoW : Only (fun _ => False) w V := (HO.out.trans (HO1.out.trans HO14.out)).tr hoV (fun i hi e => by omega)
      have hirV : IR V (.slice a4 n4 cap4) (keepL (fun n => decide (n = self)) c.seeds) := HIR.out.kept hoV (cells_not HB4.out (by decide))
      have hhn := fun W => hnew_any W self c.act c.pas
      have hg1 : capN c.act = c.act ∧ capN c.pas = c.pas := by
        have h := HGD.out.symm
        unfold OCfgT.good inB at h
        simp only [Bool.and_eq_true, decide_eq_true_eq] at h
        unfold capN
        omega
      rw [hg1.1, hg1.2] at hhn
      unfold OCfgT.cells at hbV
      unfold handC at hhn
      have z0 : V.cell? ⟨(w.heap.size + 1), 0, none⟩ = some (.int .i64 c.act) := cell_at hbV 0
      have z1 : V.cell? ⟨(w.heap.size + 1), 1, none⟩ = some (.int .i64 c.pas) := cell_at hbV 1
      have z2 : V.cell? ⟨(w.heap.size + 1), 2, none⟩ = some (.int .i64 c.far) := cell_at hbV 2
      have z3 : V.cell? ⟨(w.heap.size + 1), 3, none⟩ = some (.int .i64 c.near) := cell_at hbV 3
      have z4 : V.cell? ⟨(w.heap.size + 1), 4, none⟩ = some (.int .i64 c.mixA) := cell_at hbV 4
      have z5 : V.cell? ⟨(w.heap.size + 1), 5, none⟩ = some (.int .i64 c.mixP) := cell_at hbV 5
      have z6 : V.cell? ⟨(w.heap.size + 1), 6, none⟩ = some (.int .i64 c.every) := cell_at hbV 6
      have z7 : V.cell? ⟨(w.heap.size + 1), 7, none⟩ = some (.slice a4 n4 cap4) := cell_at hbV 7
      have zs : V.cell? ⟨w.heap.size, 0, none⟩ = some (.int .i64 self) := cell_at hbV1 0
      have HCC : ∀ w', Only (fun _ => False) V w' → w'.cell? ⟨w.heap.size + 1, 0, none⟩ = some (.int .i64 c.act) ∧ w'.cell? ⟨w.heap.size + 1, 1, none⟩ = some (.int .i64 c.pas) ∧ w'.cell? ⟨w.heap.size + 1, 2, none⟩ = some (.int .i64 c.far) ∧ w'.cell? ⟨w.heap.size + 1, 3, none⟩ = some (.int .i64 c.near) ∧ w'.cell? ⟨w.heap.size + 1, 4, none⟩ = some (.int .i64 c.mixA) ∧ w'.cell? ⟨w.heap.size + 1, 5, none⟩ = some (.int .i64 c.mixP) ∧ w'.cell? ⟨w.heap.size + 1, 6, none⟩ = some (.int .i64 c.every) ∧ w'.cell? ⟨w.heap.size + 1, 7, none⟩ = some (.slice a4 n4 cap4) ∧ w'.cell? ⟨w.heap.size, 0, none⟩ = some (.int .i64 self) := fun w' h => ⟨h.cell z0 id, h.cell z1 id, h.cell z2 id, h.cell z3 id, h.cell z4 id, h.cell z5 id, h.cell z6 id, h.cell z7 id, h.cell zs id⟩
      have HC0 := Lib.hid HCC
      have HHN := Lib.hid hhn
      have HOW := Lib.hid hoW
      have HIRV := Lib.hid hirV
      clear HCC hhn hoW hirV
      clear hbV hbV1 hoV hg1
      go_upto_region 4 with (fail)
      rw [← hV]
      clear hV y7 y2
      go_region_held3 (fun w' => Only (fun _ => False) V w' ∧ w'.cell? ⟨w.heap.size + 1, 0, none⟩ = some (.int .i64 c.act) ∧ w'.cell? ⟨w.heap.size + 1, 1, none⟩ = some (.int .i64 c.pas) ∧ w'.cell? ⟨w.heap.size + 1, 2, none⟩ = some (.int .i64 c.far) ∧ w'.cell? ⟨w.heap.size + 1, 3, none⟩ = some (.int .i64 c.near) ∧ w'.cell? ⟨w.heap.size + 1, 4, none⟩ = some (.int .i64 c.mixA) ∧ w'.cell? ⟨w.heap.size + 1, 5, none⟩ = some (.int .i64 c.mixP) ∧ w'.cell? ⟨w.heap.size + 1, 6, none⟩ = some (.int .i64 c.every) ∧ w'.cell? ⟨w.heap.size + 1, 7, none⟩ = some (.slice a4 n4 cap4) ∧ w'.cell? ⟨w.heap.size, 0, none⟩ = some (.int .i64 self))
        ((go_split_ands; (refine heldO HC0.out ?_); (repeat (first | (with_reducible assumption) | (with_reducible exact Only.refl _ _) | (with_reducible refine Only.drew ?_) | (with_reducible refine Only.alloc ?_ _) | (with_reducible refine onlySet ?_ (by first | (with_reducible assumption) | omega) _) | (with_reducible refine Only.trans ?_ (by with_reducible assumption))))))
        (first
          | (go_at_call 93; (with_reducible refine (HHN.out _).mono ?_); rintro e w6 ⟨rfl, ho6⟩))
      all_goals
        go_split_ands
        go_wp2_with fail
        go_ret2
        have ho7 : Only (fun _ => False) V w6 := by (repeat (first | (with_reducible assumption) | (with_reducible exact Only.refl _ _) | (with_reducible refine Only.drew ?_) | (with_reducible refine Only.alloc ?_ _) | (with_reducible refine onlySet ?_ (by first | (with_reducible assumption) | omega) _) | (with_reducible refine Only.trans ?_ (by with_reducible assumption))))
        have hsV := HOW.out.size
        have hs6 := ho7.size
        refine HP.out _ _ ⟨HOW.out.trans (ho7.trans ((Only.refl _ _).alloc _)), .inl ⟨rfl, w6.heap.size, by omega, rfl, ⟨.slice a4 n4 cap4, nilS, nilS, nilS, (heap_alloc_new w6 _).trans rfl, ?_, IR.nil _, IR.nil _, IR.nil _⟩⟩⟩
        exact (HIRV.out.new ho7).new ((Only.refl _ _).alloc _)
end Go.Proofs.YtegechmdboccbaaGreatDoor
/-! Comparing. -/
namespace Go.Proofs.YtegechmdboccbaaGreatDoor
open Go.Conc Go.RowKit
theorem nanI_any (w : World) (a : Int) : Calls Tryz.prog 84 #[.int .i64 a] w fun e w' => e = .returned (.bool false) ∧ w = w' := by
  go_enter Tryz.func84, Tryz.ntmps84
  go_wp2_with fail
  go_ret
  exact ⟨by simp, rfl⟩
/-- Three ways. -/
def cmpZ (a b : Int) : Int := if a < b then -1 else if b < a then 1 else 0
theorem cmpI_any (w : World) (a b : Int) : Calls Tryz.prog 58 #[.int .i64 a, .int .i64 b] w fun e w' => e = .returned (.int .i64 (cmpZ a b)) ∧ w = w' := by
  unfold cmpZ
  go_enter Tryz.func58, Tryz.ntmps58
  go_wp2_with (first | (go_at_call 84; refine (nanI_any _ _).mono ?_; rintro e w2 ⟨rfl, rfl⟩))
  all_goals
    go_ret
    exact ⟨rfl, rfl⟩
end Go.Proofs.YtegechmdboccbaaGreatDoor
/-! cmp.Or of two ints. -/
namespace Go.Proofs.YtegechmdboccbaaGreatDoor
open Go.Conc Go.RowKit

/-- The first that is not 0. -/
def orZ (x y : Int) : Int := if x = 0 then y else x
set_option maxRecDepth 100000 in
theorem or_two (w : World) (B : Nat) (x y : Int) (c0 : w.cell? ⟨B, 0, none⟩ = some (.int .i64 x)) (c1 : w.cell? ⟨B, 1, none⟩ = some (.int .i64 y)) :
    Calls Tryz.prog 57 #[.slice (some ⟨B, 0, none⟩) 2 2] w fun e w' => e = .returned (.int .i64 (orZ x y)) ∧ w = w' := by
  go_enter Tryz.func57, Tryz.ntmps57
  go_wp2_with fail
  go_loopg [5, 8] 2 (fun g v5 v8 wx => ∃ k : Nat, v8 = .int .i64 k ∧ k ≤ 2 ∧ w = wx ∧ (1 ≤ k → x = 0) ∧ (2 ≤ k → y = 0) ∧ g = 2 - k)
  case atStart => exact ⟨0, rfl, Nat.zero_le _, rfl, fun h => absurd h (by decide), fun h => absurd h (by decide), rfl⟩
  case round =>
    obtain ⟨k, rfl, hk, rfl, hx, hy, hg⟩ := hrel
    have Hg := Lib.hid hg
    have HX := Lib.hid hx
    have HY := Lib.hid hy
    clear hg hx hy
    rcases (by omega : k = 0 ∨ k = 1 ∨ k = 2) with rfl | rfl | rfl
    · by_cases h0 : x = 0
      · subst h0
        go_wp2_with fail
        go_roundg 1
        case measure => rw [Hg.out]; omega
        case rel =>
          refine ⟨1, by go_num, by omega, rfl, (by simp), fun h => absurd h (by decide), rfl⟩
      · have h1 : (x != 0) = true := by simpa using h0
        go_wp2_with fail
        go_ret
        exact ⟨(by rw [show orZ x y = x from if_neg h0]; rfl), rfl⟩
    · have h0 := HX.out (by decide)
      subst h0
      by_cases h2 : y = 0
      · subst h2
        go_wp2_with fail
        go_roundg 0
        case measure => rw [Hg.out]; omega
        case rel =>
          refine ⟨2, by go_num, by omega, rfl, (by simp), (by simp), rfl⟩
      · have h1 : (y != 0) = true := by simpa using h2
        go_wp2_with fail
        go_ret
        exact ⟨rfl, rfl⟩
    · have h0 := HX.out (by decide)
      have h2 := HY.out (by decide)
      subst h0 h2
      go_wp2_with fail
      go_ret
      exact ⟨rfl, rfl⟩
end Go.Proofs.YtegechmdboccbaaGreatDoor
/-! A new clock. -/
namespace Go.Proofs.YtegechmdboccbaaGreatDoor
open Go.Conc Go.RowKit

set_option maxRecDepth 100000 in
theorem newClock_any (w : World) (m : Int) : Calls Tryz.prog 117 #[.int .i64 m] w fun e w' => e = .returned (.pointer (some ⟨w.heap.size + 1, 0, none⟩)) ∧ w' = (w.alloc (.map #[] 0)).alloc (.cells #[.map (some w.heap.size), .int .i64 (min (max m 0) 64), .int .i64 0] 215) := by
  have hmm := @run_makeMap Tryz.prog
  go_enter Tryz.func117, Tryz.ntmps117
  go_wp2_with fail
  all_goals
    go_ret
    refine ⟨rfl, ?_⟩
    exact congrArg (fun z : Int => (w.alloc (.map #[] 0)).alloc (.cells #[.map (some w.heap.size), .int .i64 z, .int .i64 0] 215)) (by omega)
end Go.Proofs.YtegechmdboccbaaGreatDoor
/-! want.New where no more of package want is reached. -/
namespace Go.Proofs.YtegechmdboccbaaGreatDoor
open Go.Conc Go.RowKit Go.Maps

structure EntW where
  key : ByteArray
structure WantAt (w : World) (x kb c cb : Nat) (wait cnt : Int) (L : List EntW) (C : List (ByteArray × (Int × Int))) : Prop where
  blk : w.heap[x]? = some (.cells #[.map (some kb), .pointer (some ⟨c, 0, none⟩), .int .i64 wait] 208 (0, 0))
theorem WantAt.new {w w' : World} {x kb c cb : Nat} {wait cnt : Int} {L : List EntW} {C : List (ByteArray × (Int × Int))} (h : WantAt w x kb c cb wait cnt L C) (ho : Only (fun _ => False) w w') : WantAt w' x kb c cb wait cnt L C := ⟨ho.old h.blk id⟩
theorem WantAt.keptS {w w' : World} {S : Nat → Prop} {x kb c cb : Nat} {wait cnt : Int} {L : List EntW} {C : List (ByteArray × (Int × Int))} (h : WantAt w x kb c cb wait cnt L C) (ho : Only S w w') (hx : ¬ S x) (_ : ¬ S kb) (_ : ¬ S c) (_ : ¬ S cb) (_ : ∀ k, S k → ∀ cs f, w.heap[k]? ≠ some (.cells cs 3 f)) : WantAt w' x kb c cb wait cnt L C := ⟨ho.old h.blk hx⟩
def WNewPost (w w' : World) (x kb c cb : Nat) (wait : Int) : Prop := Only (fun _ => False) w w' ∧ WantAt w' x kb c cb wait 0 [] [] ∧ w.heap.size ≤ x ∧ w.heap.size ≤ kb ∧ w.heap.size ≤ c ∧ w.heap.size ≤ cb
set_option maxRecDepth 100000 in
theorem wnew_in (w : World) (m : Int) (h0 : 0 ≤ m) (h1 : m ≤ 1000) : Calls Tryz.prog 95 #[.int .i64 m] w fun e w' => ∃ x kb c cb, e = .returned (.pointer (some ⟨x, 0, none⟩)) ∧ WNewPost w w' x kb c cb m ∧ kb ≠ cb ∧ kb < w'.heap.size ∧ cb < w'.heap.size := by
  have hmm := @run_makeMap Tryz.prog
  have HN := Lib.hid (newClock_any (w.alloc (.map #[] 0)) 64)
  have e1 : max m 0 = m := by omega
  have e2 : min m 1000 = m := by omega
  go_enter Tryz.func95, Tryz.ntmps95
  go_wp2_with fail
  refine HN.out.mono ?_
  rintro e w2 ⟨rfl, hw2⟩
  have ho2 : Only (fun _ => False) w w2 := by rw [hw2]; exact (((Only.refl _ _).alloc _).alloc _).alloc _
  have hs : w2.heap.size = w.heap.size + 3 := by rw [hw2]; simp
  have HO2 := Lib.hid ho2
  have HS := Lib.hid hs
  clear ho2 hs
  clear hw2
  go_wp2_with fail
  all_goals
    go_ret
    refine ⟨w2.heap.size, w.heap.size, w.heap.size + 1 + 1, w.heap.size + 1, rfl, ⟨HO2.out.trans ((Only.refl _ _).alloc _), ⟨heap_alloc_new w2 _⟩, ?_, ?_, ?_, ?_⟩, ?_, ?_, ?_⟩
    all_goals (have := HS.out; first | omega | (simp; omega))
end Go.Proofs.YtegechmdboccbaaGreatDoor
/-! tree.New. -/
namespace Go.Proofs.YtegechmdboccbaaGreatDoor
open Go.Conc Go.RowKit Go.Maps

/-- A tree's cells: its store's block, its peers, its Want's block, every how many ticks, now. -/
def treeC (s : Nat) (ve vl : Value) (x : Nat) (every now : Int) : List Value := [.pointer (some ⟨s, 0, none⟩), ve, .int .i64 64, vl, .int .i64 64, .pointer (some ⟨x, 0, none⟩), .int .i64 every, .int .i64 now]
structure TreeAt (w : World) (t s x : Nat) (every now : Int) (eager lazy : List Int) : Prop where
  out : ∃ ve vl, w.heap[t]? = some (.cells (treeC s ve vl x every now).toArray 178 (0, 0)) ∧ IR w ve eager ∧ IR w vl lazy
theorem TreeAt.kept {S : Nat → Prop} {w w' : World} {t s x : Nat} {every now : Int} {eager lazy : List Int} (h : TreeAt w t s x every now eager lazy) (ho : Only S w w') (h1 : ¬ S t) (hn : ∀ k, S k → ∀ cs f, w.heap[k]? ≠ some (.cells cs 3 f)) : TreeAt w' t s x every now eager lazy := by
  obtain ⟨ve, vl, h2, h3, h4⟩ := h.out
  exact ⟨ve, vl, ho.old h2 h1, h3.kept ho hn, h4.kept ho hn⟩
theorem TreeAt.new {w w' : World} {t s x : Nat} {every now : Int} {eager lazy : List Int} (h : TreeAt w t s x every now eager lazy) (ho : Only (fun _ => False) w w') : TreeAt w' t s x every now eager lazy := h.kept ho id (fun _ => False.elim)
def treeOk (wait every : Int) : Bool := decide (0 ≤ wait ∧ wait ≤ 1000 ∧ 1 ≤ every ∧ every ≤ 1000)
def TreeNew (w w' : World) (s : Nat) (wait every : Int) (e : Ending) : Prop :=
  ∃ t x kb c cb, e = .returned (.tuple #[.pointer (some ⟨t, 0, none⟩), .int .i64 0]) ∧ Only (fun _ => False) w w' ∧ TreeAt w' t s x every 0 [] [] ∧ WantAt w' x kb c cb wait 0 [] [] ∧ w.heap.size ≤ t ∧ w.heap.size ≤ x ∧ w.heap.size ≤ kb ∧ w.heap.size ≤ c ∧ w.heap.size ≤ cb ∧ kb ≠ cb ∧ kb < w'.heap.size ∧ cb < w'.heap.size
theorem tnew_nil (w : World) (wait every : Int) : Calls Tryz.prog 72 #[.pointer none, .int .i64 wait, .int .i64 every] w fun e w' => e = .returned (.tuple #[.pointer none, .int .i64 1]) ∧ w = w' := by
  go_enter Tryz.func72, Tryz.ntmps72
  go_wp2_with fail
  go_ret2
  exact ⟨rfl, rfl⟩
theorem tnew_no (w : World) (s : Nat) (wait every : Int) (h : treeOk wait every = false) : Calls Tryz.prog 72 #[.pointer (some ⟨s, 0, none⟩), .int .i64 wait, .int .i64 every] w fun e w' => e = .returned (.tuple #[.pointer none, .int .i64 1]) ∧ w = w' := by
  have hh : ¬ (0 ≤ wait ∧ wait ≤ 1000 ∧ 1 ≤ every ∧ every ≤ 1000) := by simpa [treeOk] using h
  clear h
  by_cases c1 : wait < 0
  · clear hh
    go_enter Tryz.func72, Tryz.ntmps72
    go_wp2_with fail
    go_ret2
    exact ⟨rfl, rfl⟩
  · by_cases c2 : wait > 1000
    · clear hh
      go_enter Tryz.func72, Tryz.ntmps72
      go_wp2_with fail
      go_ret2
      exact ⟨rfl, rfl⟩
    · by_cases c3 : every < 1
      · clear hh
        go_enter Tryz.func72, Tryz.ntmps72
        go_wp2_with fail
        go_ret2
        exact ⟨rfl, rfl⟩
      · have c4 : every > 1000 := by omega
        clear hh
        go_enter Tryz.func72, Tryz.ntmps72
        go_wp2_with fail
        go_ret2
        exact ⟨rfl, rfl⟩
theorem infoTree (s : Nat) (ve vl : Value) (x : Nat) (every now : Int) : (Tryz.prog.info? 178).map (·.size) = some (treeC s ve vl x every now).toArray.size := by kernel_rfl
set_option maxRecDepth 100000 in
theorem tnew_ok (w : World) (s : Nat) (wait every : Int) (h : treeOk wait every = true) : Calls Tryz.prog 72 #[.pointer (some ⟨s, 0, none⟩), .int .i64 wait, .int .i64 every] w fun e w' => TreeNew w w' s wait every e := by
  obtain ⟨c1, c2, c3, c4⟩ : 0 ≤ wait ∧ wait ≤ 1000 ∧ 1 ≤ every ∧ every ≤ 1000 := by simpa [treeOk] using h
  have d1 : ¬ wait < 0 := by omega
  have d2 : ¬ wait > 1000 := by omega
  have d3 : ¬ every < 1 := by omega
  have d4 : ¬ every > 1000 := by omega
  have hp := fun W => pnew_any W
  unfold peersC at hp
  have hw := fun W => wnew_in W wait c1 c2
  have HT := Lib.hid (show ∀ w' e, (∃ t x kb c cb, e = .returned (.tuple #[.pointer (some ⟨t, 0, none⟩), .int .i64 0]) ∧ Only (fun _ => False) w w' ∧ TreeAt w' t s x every 0 [] [] ∧ WantAt w' x kb c cb wait 0 [] [] ∧ w.heap.size ≤ t ∧ w.heap.size ≤ x ∧ w.heap.size ≤ kb ∧ w.heap.size ≤ c ∧ w.heap.size ≤ cb ∧ kb ≠ cb ∧ kb < w'.heap.size ∧ cb < w'.heap.size) → TreeNew w w' s wait every e from fun _ _ h => h)
  have HP := Lib.hid hp
  have HW := Lib.hid hw
  clear hp hw
  clear h c1 c2 c3 c4
  go_enter Tryz.func72, Tryz.ntmps72
  go_wp2_with fail
  refine (HP.out _).mono ?_
  rintro e w1 ⟨rfl, ho1⟩
  have HO1 := Lib.hid ho1
  clear ho1
  go_wp2_with fail
  refine (HW.out _).mono ?_
  rintro e w2 ⟨x, kb, c, cb, rfl, ⟨ho2, hw2, k1, k2, k3, k4⟩, k5, k6, k7⟩
  have HO2 := Lib.hid ho2
  have HW2 := Lib.hid hw2
  clear ho2 hw2
  go_wp2_with fail
  go_ret2
  have ho3 : Only (fun _ => False) w2 (w2.alloc (.cells #[.pointer (some ⟨s, 0, none⟩), .slice none 0 0, .int .i64 64, .slice none 0 0, .int .i64 64, .pointer (some ⟨x, 0, none⟩), .int .i64 every, .int .i64 0] 178)) := (Only.refl _ _).alloc _
  have s1 := HO1.out.size
  have s2 := HO2.out.size
  exact HT.out _ _ ⟨w2.heap.size, x, kb, c, cb, rfl, HO1.out.trans (HO2.out.trans ho3), ⟨_, _, heap_alloc_new w2 _, IR.nil _, IR.nil _⟩, HW2.out.new ho3, by omega, by omega, by omega, by omega, by omega, k5, by simp; omega, by simp; omega⟩
end Go.Proofs.YtegechmdboccbaaGreatDoor
