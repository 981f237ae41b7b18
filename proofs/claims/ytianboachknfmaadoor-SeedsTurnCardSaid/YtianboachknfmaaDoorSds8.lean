/- The walk of bellhoplaw20.SeedsTurn. -/
import Derived.Test.YtianboachknfmaaDoorSds7
import Derived.Test.YtianboachknfmaaDoorHeld
import Derived.Deep.CutBlock
namespace Go.Proofs.YtianboachknfmaaDoor
open Go.Conc Go.RowKit Go.Maps

theorem ints_fl (l : List Int) : l.map (Value.int .i64) = l.flatMap intC := by
  induction l with
  | nil => rfl
  | cons a l ih => rw [List.map_cons, List.flatMap_cons, ih]; rfl
theorem take_fl (l : List Int) (k : Nat) : (l.flatMap intC).take (k * 1) = (l.take k).flatMap intC := fl_take intC_length l k
theorem fieldR0 (k : ByteArray) (v o a : Int) (g : Bool) (d : ByteArray) (w : World) : (Instr.field 33 (.agg #[.string k, .int .u64 v, .int .i64 o, .int .i64 a, .bool g, .string d]) 0).run Tryd.prog w = .ok (.agg #[.string k, .int .u64 v]) w := by kernel_rfl
/-- The head's word on a list's seeds. -/
theorem good_snoc (self every : Int) (l : List Int) (k : Nat) (hk : k < l.length) : (headOk self every l.length && (l.take (k + 1)).all nodeOk) = ((headOk self every l.length && (l.take k).all nodeOk) && nodeOk l[k]) := by
  rw [all_snoc nodeOk l k hk, Bool.and_assoc]
theorem ok_parts {self every : Int} {l : List Int} (h : seedsOk self l every = true) : 0 ≤ every ∧ every ≤ 1000 ∧ (othersL self l).length ≤ 64 ∧ ∀ n ∈ othersL self l, 1 ≤ n ∧ n ≤ 65535 := by
  unfold seedsOk headOk at h
  simp only [Bool.and_eq_true, decide_eq_true_eq, List.all_eq_true] at h
  obtain ⟨⟨_, h1, h2, h3⟩, h4⟩ := h
  refine ⟨h2, h3, Nat.le_trans (List.length_filter_le _ _) h1, fun n hn => ?_⟩
  exact of_decide_eq_true (h4 n (List.mem_filter.1 hn).1)
set_option maxRecDepth 100000 in
set_option maxHeartbeats 8000000 in
theorem turns20_any (w : World) (m : Int) (hm : w.cell? ⟨0, 0, none⟩ = some (.int .i64 m)) (self : Int) (v : Value) (l0 : List Int) (every : Int) (_hS : (Lit.int .i64 self).wf = true) (h : Sl w 1 v l0.length (l0.map (.int .i64))) (_hl : ∀ z ∈ l0, (Lit.int .i64 z).wf = true) (_hE : (Lit.int .i64 every).wf = true) :
    Calls Tryd.prog 5 #[.int .i64 self, v, .int .i64 every] w fun e w' => e = .returned (.bool true) ∧ Only (fun _ => False) w w' := by
  rw [ints_fl] at h
  obtain ⟨a, cap, rfl, c1, c2, c3⟩ := Sl.cells intC_length h
  unfold maxLen at c2
  have HH := Lib.hid h
  clear h
  clear c3 _hl
  go_enter Tryd.func5, Tryd.ntmps5
  go_wp2_with fail
  refine (speaks20_any w).mono ?_
  rintro e w1 ⟨rfl, ho1⟩
  have hm1 := ho1.cell hm id
  have hh1 := HH.out.new ho1
  have HM1 := Lib.hid hm1
  have HO1 := Lib.hid ho1
  have HH1 := Lib.hid hh1
  clear hm1 ho1 hh1
  clear hm HH
  go_upto_region 3 with (fail)
  go_cut [1] (fun v1 wx => w1 = wx ∧ ∃ l : List Int, v1 = .slice a l.length cap ∧ l.length ≤ 70 ∧ Sl w1 1 (.slice a l.length cap) l.length (l.flatMap intC))
  case first =>
    have hT : (min (l0.length : Int) 70).toNat = (l0.take 70).length := by simp; omega
    have hsl := Sl.take HH1.out (show (l0.take 70).length ≤ l0.length by simp; omega)
    rw [take_fl, List.length_take, ← List.take_eq_take_min, ← List.length_take] at hsl
    have HT := Lib.hid hT
    have HSL := Lib.hid hsl
    clear hT hsl
    go_wp2_with fail
    go_meet
    rw [HT.out]
    exact ⟨rfl, l0.take 70, rfl, by simp; omega, HSL.out⟩
  case rest =>
  obtain ⟨rfl, l, rfl, hl70, hsl⟩ := hcut
  have HSL := Lib.hid hsl
  clear hsl
  clear HH1 c1
  go_wp2_with fail
  refine (snew_ok w1 4 100 (by omega) (by omega) (by omega) (by omega)).mono ?_
  rintro e w2 ⟨rfl, ho2, hs2⟩
  have hm2 := ho2.cell HM1.out id
  have h0b : 0 < w1.heap.size := World.block_lt_of_cell? _ _ HM1.out
  have hbb : w1.heap.size + 1 < w2.heap.size := hs2.lt.1
  have hws : w.heap.size ≤ w1.heap.size := HO1.out.size
  have hlt : ∀ a u, w1.cell? a = some u → ¬ (a.block = w1.heap.size + 1 ∨ a.block = w1.heap.size) := fun a u hu => by have := World.block_lt_of_cell? _ _ hu; omega
  generalize w1.heap.size = b at *
  have HO2 := Lib.hid ho2
  have HS2 := Lib.hid hs2
  have HM2 := Lib.hid hm2
  have HWS := Lib.hid hws
  have HLT := Lib.hid hlt
  clear ho2 hs2 hm2 hws hlt
  clear HM1
  go_wp2_with fail
  refine (rec20_100 w2).mono ?_
  rintro e w3 ⟨rfl, ho3⟩
  have hs3 := HS2.out.new ho3
  have hm3 := ho3.cell HM2.out id
  have HS3 := Lib.hid hs3
  have HM3 := Lib.hid hm3
  have HO3 := Lib.hid ho3
  clear hs3 hm3 ho3
  go_wp2_with fail
  refine (sput_20 w3 (b + 1) b m HS3.out HM3.out).mono ?_
  rintro e w4 ⟨rfl, ho4, hs4⟩
  have ho14 : Only (fun i => i = b + 1 ∨ i = b) w1 w4 := ((HO2.out.trans HO3.out).weaken (T := fun i => i = b + 1 ∨ i = b) (fun _ _ => False.elim)).trans ho4
  have hoB : Only (fun _ => False) w w4 := HO1.out.tr ho14 (fun i hi e => by have := HWS.out; omega)
  have hsl4 := HSL.out.kept ho14 HLT.out
  have HS4 := Lib.hid hs4
  have HOB := Lib.hid hoB
  have HSL4 := Lib.hid hsl4
  clear hs4 hoB hsl4
  clear HS2 HS3 HM2 HM3 HO2 HO3 HO1 HSL HLT ho4 ho14 h0b
  go_upto_region 6 with (fail)
  go_cut [9] (fun v9 wx => w4 = wx ∧ v9 = .bool (headOk self every l.length))
  case first =>
    by_cases d1 : 1 ≤ self
    · by_cases d2 : self ≤ 65535
      · by_cases d3 : (l.length : Int) ≤ 64
        · by_cases d4 : 0 ≤ every
          · by_cases d5 : every ≤ 1000
            · have HV := Lib.hid (show headOk self every l.length = true by unfold headOk nodeOk; rw [Bool.and_eq_true]; simp only [decide_eq_true_eq]; omega)
              go_wp2_with fail
              go_meet
              exact ⟨rfl, by rw [HV.out]⟩
            · have HV := Lib.hid (show headOk self every l.length = false by unfold headOk nodeOk; rw [Bool.and_eq_false_iff]; simp only [decide_eq_false_iff_not]; omega)
              go_wp2_with fail
              go_meet
              exact ⟨rfl, by rw [HV.out]⟩
          · have HV := Lib.hid (show headOk self every l.length = false by unfold headOk nodeOk; rw [Bool.and_eq_false_iff]; simp only [decide_eq_false_iff_not]; omega)
            go_wp2_with fail
            go_meet
            exact ⟨rfl, by rw [HV.out]⟩
        · have HV := Lib.hid (show headOk self every l.length = false by unfold headOk nodeOk; rw [Bool.and_eq_false_iff]; simp only [decide_eq_false_iff_not]; omega)
          go_wp2_with fail
          go_meet
          exact ⟨rfl, by rw [HV.out]⟩
      · have HV := Lib.hid (show headOk self every l.length = false by unfold headOk nodeOk; rw [Bool.and_eq_false_iff]; simp only [decide_eq_false_iff_not]; omega)
        go_wp2_with fail
        go_meet
        exact ⟨rfl, by rw [HV.out]⟩
    · have HV := Lib.hid (show headOk self every l.length = false by unfold headOk nodeOk; rw [Bool.and_eq_false_iff]; simp only [decide_eq_false_iff_not]; omega)
      go_wp2_with fail
      go_meet
      exact ⟨rfl, by rw [HV.out]⟩
  case rest =>
  obtain ⟨rfl, rfl⟩ := hcut
  go_upto_block 0 with fail
  go_cut [9] (fun v9 wx => w4 = wx ∧ v9 = .bool (seedsOk self l every))
  case first =>
    obtain ⟨_, _, hve, _, _, hcs⟩ := Sl.cells intC_length HSL4.out
    cases hve
    have HOKL := Lib.hid (show seedsOk self l every = (headOk self every l.length && (l.take l.length).all nodeOk) by rw [List.take_length]; rfl)
    have HCS := Lib.hid hcs
    clear hcs
    go_wp2_with fail
    go_loopg [9, 10] l.length (fun g v9 v10 wr => ∃ k : Nat, v10 = .int .i64 k ∧ k ≤ l.length ∧ w4 = wr ∧ v9 = .bool (headOk self every l.length && (l.take k).all nodeOk) ∧ g = l.length - k)
    case atStart => exact ⟨0, rfl, Nat.zero_le _, rfl, by simp, rfl⟩
    case round =>
      obtain ⟨k, rfl, hk, rfl, rfl, hg⟩ := hrel
      have Hg := Lib.hid hg
      clear hg
      by_cases hlt : k < l.length
      · obtain ⟨b', off, ha, hc⟩ := HCS.out.at k hlt
        subst ha
        have p0 := hc 0 _ rfl
        simp only [Nat.add_zero, Nat.mul_one] at p0
        have HGS := Lib.hid (good_snoc self every l k hlt)
        have hlt' : (k : Int) < (l.length : Int) := by omega
        generalize l[k] = z at *
        generalize (headOk self every l.length && (l.take k).all nodeOk) = q at *
        clear hc
        cases q
        · go_wp2_with fail
          go_roundg (l.length - (k + 1))
          case measure => rw [Hg.out]; omega
          case rel => exact ⟨k + 1, by go_num, by omega, rfl, by rw [HGS.out]; rfl, rfl⟩
        · by_cases d1 : 1 ≤ z
          · by_cases d2 : z ≤ 65535
            · have HZ := Lib.hid (show nodeOk z = true from decide_eq_true ⟨d1, d2⟩)
              go_wp2_with fail
              go_roundg (l.length - (k + 1))
              case measure => rw [Hg.out]; omega
              case rel => exact ⟨k + 1, by go_num, by omega, rfl, by rw [HGS.out, HZ.out]; rfl, rfl⟩
            · have HZ := Lib.hid (show nodeOk z = false from decide_eq_false (fun h => d2 h.2))
              go_wp2_with fail
              go_roundg (l.length - (k + 1))
              case measure => rw [Hg.out]; omega
              case rel => exact ⟨k + 1, by go_num, by omega, rfl, by rw [HGS.out, HZ.out]; rfl, rfl⟩
          · have HZ := Lib.hid (show nodeOk z = false from decide_eq_false (fun h => d1 h.1))
            go_wp2_with fail
            go_roundg (l.length - (k + 1))
            case measure => rw [Hg.out]; omega
            case rel => exact ⟨k + 1, by go_num, by omega, rfl, by rw [HGS.out, HZ.out]; rfl, rfl⟩
      · have hke : k = l.length := by omega
        have hlt' : ¬ (k : Int) < (l.length : Int) := by omega
        subst hke
        go_wp2_with fail
        go_meet
        exact ⟨rfl, by rw [HOKL.out, List.take_length]⟩
  case rest =>
  obtain ⟨rfl, rfl⟩ := hcut
  have hsl4 := HSL4.out
  go_wp2_with fail
  refine (sdnew_any w4 self l every (b + 1) _ hsl4).mono ?_
  rintro e w5 ⟨ho5, hpost⟩
  have hoC := HOB.out.trans ho5
  have hs5 := HS4.out.new ho5
  have hsl5 := HSL4.out.new ho5
  have HWX := Lib.hid (HOB.out.size)
  have HOC := Lib.hid hoC
  have HS5 := Lib.hid hs5
  have HSL5 := Lib.hid hsl5
  clear hoC hs5 hsl5
  clear HS4 HOB HSL4 ho5
  rcases hpost with ⟨hok, x, hx, rfl, hsd⟩ | ⟨hok, rfl⟩
  · -- yes
    have hT5 : TickAt w5 x every (othersL self l) (b + 1) b 0 := ⟨by rw [sdT_start, sdN_start]; exact hsd, HS5.out⟩
    have hwx : w.heap.size ≤ x := by rw [hx]; exact HWX.out
    obtain ⟨ob1, ob2, ob3⟩ := ok_parts hok
    rw [hok]
    generalize hLo : othersL self l = lo at *
    have HT5 := Lib.hid hT5
    have HX := Lib.hid hwx
    have HLO := Lib.hid hLo
    clear hT5 hwx hLo
    clear hsd hx hok
    go_wp2_with fail
    refine (snew_nil w5).mono ?_
    rintro e w6 ⟨rfl, rfl⟩
    go_wp2_with fail
    refine (rothers_any w5 _ l self HSL5.out (by omega)).mono ?_
    rintro e w7 ⟨vo, rfl, ho7, hrow⟩
    rw [HLO.out] at hrow
    have hT7 := HT5.out.new ho7
    have hoD := HOC.out.trans ho7
    have HT7 := Lib.hid hT7
    have HOD := Lib.hid hoD
    have HROW7 := Lib.hid hrow
    have HOB1 := Lib.hid ob1
    have HOB2 := Lib.hid ob2
    have HOB3 := Lib.hid ob3
    clear hT7 hoD hrow ob1 ob2 ob3
    clear ho7
    go_wp2_with fail
    go_loopg [16] 40 (fun gk v16 wr => ∃ (k : Nat) (q : Int), v16 = .int .i64 q ∧ q = ((k + 1 : Nat) : Int) ∧ k ≤ 39 ∧ Only (fun i => i = x) w7 wr ∧ TickAt wr x every lo (b + 1) b k ∧ IRow wr w5.heap.size vo lo ∧ gk = 40 - k)
    case atStart => exact ⟨0, 1, rfl, rfl, Nat.zero_le _, Only.refl _ _, HT7.out, HROW7.out, rfl⟩
    case round =>
      obtain ⟨k, q, rfl, hq, hk, ho, htk, hrow, hg⟩ := hrel
      have Hg := Lib.hid hg
      have HO := Lib.hid ho
      have HTK := Lib.hid htk
      have HROW := Lib.hid hrow
      have HQ := Lib.hid hq
      clear hg ho htk hrow hq
      by_cases hlt : k < 39
      · have hlt' : q < 40 := by have := HQ.out; omega
        have hq0 : 0 ≤ q := by have := HQ.out; omega
        by_cases hi : idle every lo.length k
        · -- idle
          have HT := Lib.hid (idle_tick wr x every lo (b + 1) b k HTK.out HOB1.out HOB2.out hi)
          have HI := Lib.hid hi
          clear hi
          go_wp2_with fail
          refine HT.out.mono ?_
          rintro e w8 ⟨rfl, ho8, ht8⟩
          have hrow8 := HTK.out.row HROW.out ho8
          have HA := Lib.hid (idle_asked w8 _ every lo k (Sl.of_owns hrow8) HOB2.out (by omega) HI.out q HQ.out)
          have hoE := HO.out.trans ho8
          have HT8 := Lib.hid ht8
          have HROW8 := Lib.hid hrow8
          have HOE := Lib.hid hoE
          clear ht8 hrow8 hoE
          clear ho8
          go_wp2_with fail
          refine HA.out.mono ?_
          rintro e w9 ⟨rfl, rfl⟩
          go_wp2_with fail
          go_roundg (40 - (k + 1))
          case measure => rw [Hg.out]; omega
          case rel => exact ⟨k + 1, q + 1, by go_num, by rw [HQ.out]; rfl, by omega, HOE.out, HT8.out, HROW8.out, rfl⟩
        · -- ask
          obtain ⟨n, hn, hT, hA⟩ := ask_tick wr x every lo (b + 1) b k HTK.out (by have := HOB3.out.1; omega) HOB1.out HOB2.out (by omega) hi
          have HT := Lib.hid hT
          have HAF := Lib.hid hA
          have hn1 := HOB3.out.2 n hn
          clear hi hn hT hA
          go_wp2_with fail
          refine HT.out.mono ?_
          rintro e w8 ⟨g, rfl, ho8, ht8, hout⟩
          have hrow8 := HTK.out.row HROW.out ho8
          have HA := Lib.hid (HAF.out w8 _ (Sl.of_owns hrow8) q HQ.out)
          have hoE := HO.out.trans ho8
          obtain ⟨vn, vi, vr, T, hgb, hmsg⟩ := hout.out
          have HT8 := Lib.hid ht8
          have HROW8 := Lib.hid hrow8
          have HOE := Lib.hid hoE
          have HGB := Lib.hid hgb
          have HMSG := Lib.hid hmsg
          clear ht8 hrow8 hoE hgb hmsg
          clear ho8 hout
          go_wp2_with fail
          refine HA.out.mono ?_
          rintro e w9 ⟨rfl, rfl⟩
          obtain ⟨un, ui, ur, he, m1, m2, m3⟩ := HMSG.out.out
          cases he
          obtain ⟨n1, n2, rfl, _⟩ := Sl.cells intC_length m1
          obtain ⟨j1, j2, rfl, _⟩ := Sl.cells idT_length m2
          obtain ⟨r1, r2, rfl, _⟩ := Sl.cells recC_length m3
          have hgb2 : w8.heap[g]? = some (.cells #[.int .i64 n, .int .i64 13, .int .i64 0, .int .i64 0, .bool false, .slice n1 0 n2, .slice j1 1 j2, .slice r1 0 r2] T (0, 0)) := HGB.out
          have hmsg2 : MsgIs w8 (.agg #[.int .i64 13, .int .i64 0, .int .i64 0, .bool false, .slice n1 0 n2, .slice j1 1 j2, .slice r1 0 r2]) (askMsg [spX]) := HMSG.out
          have hgl : g < w8.heap.size := lt_of_block hgb2
          have HGB2 := Lib.hid hgb2
          have HMSG2 := Lib.hid hmsg2
          clear hgb2 hmsg2
          clear m1 m2 m3 HGB HMSG
          have p0 : w8.cell? ⟨g, 0, none⟩ = some (.int .i64 n) := cell_at HGB2.out 0
          have p1 : w8.cell? ⟨g, 1, none⟩ = some (.int .i64 13) := cell_at HGB2.out 1
          have p2 : w8.cell? ⟨g, 2, none⟩ = some (.int .i64 0) := cell_at HGB2.out 2
          have p3 : w8.cell? ⟨g, 3, none⟩ = some (.int .i64 0) := cell_at HGB2.out 3
          have p4 : w8.cell? ⟨g, 4, none⟩ = some (.bool false) := cell_at HGB2.out 4
          have p5 : w8.cell? ⟨g, 5, none⟩ = some (.slice n1 0 n2) := cell_at HGB2.out 5
          have p6 : w8.cell? ⟨g, 6, none⟩ = some (.slice j1 1 j2) := cell_at HGB2.out 6
          have p7 : w8.cell? ⟨g, 7, none⟩ = some (.slice r1 0 r2) := cell_at HGB2.out 7
          have HCC : ∀ w', Only (fun _ => False) w8 w' → w'.cell? ⟨g, 0, none⟩ = some (.int .i64 n) ∧ w'.cell? ⟨g, 1, none⟩ = some (.int .i64 13) ∧ w'.cell? ⟨g, 2, none⟩ = some (.int .i64 0) ∧ w'.cell? ⟨g, 3, none⟩ = some (.int .i64 0) ∧ w'.cell? ⟨g, 4, none⟩ = some (.bool false) ∧ w'.cell? ⟨g, 5, none⟩ = some (.slice n1 0 n2) ∧ w'.cell? ⟨g, 6, none⟩ = some (.slice j1 1 j2) ∧ w'.cell? ⟨g, 7, none⟩ = some (.slice r1 0 r2) := fun w' h => ⟨h.cell p0 id, h.cell p1 id, h.cell p2 id, h.cell p3 id, h.cell p4 id, h.cell p5 id, h.cell p6 id, h.cell p7 id⟩
          have HC0 := Lib.hid HCC
          clear HCC
          have hn0 : ¬ n = 0 := by omega
          have hnb : (n == 0) = false := by simpa using hn0
          have hfr := fieldR0
          go_upto_region 24 with (fail)
          go_cut [148] (fun v148 wx => v148 = .bool false ∧ Only (fun _ => False) w8 wx)
          case first =>
            go_region_held3 (fun w' => Only (fun _ => False) w8 w' ∧ w'.cell? ⟨g, 0, none⟩ = some (.int .i64 n) ∧ w'.cell? ⟨g, 1, none⟩ = some (.int .i64 13) ∧ w'.cell? ⟨g, 2, none⟩ = some (.int .i64 0) ∧ w'.cell? ⟨g, 3, none⟩ = some (.int .i64 0) ∧ w'.cell? ⟨g, 4, none⟩ = some (.bool false) ∧ w'.cell? ⟨g, 5, none⟩ = some (.slice n1 0 n2) ∧ w'.cell? ⟨g, 6, none⟩ = some (.slice j1 1 j2) ∧ w'.cell? ⟨g, 7, none⟩ = some (.slice r1 0 r2))
              ((go_split_ands; (refine heldO HC0.out ?_); (repeat (first | (with_reducible assumption) | (with_reducible exact Only.refl _ _) | (with_reducible refine Only.drew ?_) | (with_reducible refine Only.alloc ?_ _) | (with_reducible refine onlySet ?_ (by first | (with_reducible assumption) | omega) _) | (with_reducible refine Only.trans ?_ (by with_reducible assumption))))))
              (first
                | (go_at_call 21; (with_reducible refine (rec20_100 _).mono ?_); rintro e w10 ⟨rfl, ho10⟩)
                | (go_at_call 26; (refine (same20 w8 _ _ _ HMSG2.out (by (repeat (first | (with_reducible assumption) | (with_reducible exact Only.refl _ _) | (with_reducible refine Only.drew ?_) | (with_reducible refine Only.alloc ?_ _) | (with_reducible refine onlySet ?_ (by first | (with_reducible assumption) | omega) _) | (with_reducible refine Only.trans ?_ (by with_reducible assumption))))) (by (apply Eq.trans; (case h₁ => repeat (first | (with_reducible assumption) | (with_reducible exact heap_alloc_new _ _) | (with_reducible apply blk_new; (repeat (first | (with_reducible rfl) | (with_reducible apply sz_set) | (with_reducible apply sz_alloc) | (with_reducible apply sz_drew))); done) | (with_reducible apply blk_same) | (with_reducible apply blk_ne; case hn => (first | assumption | omega)) | (with_reducible apply blk_old) | (with_reducible apply blk_drew))); (case h₂ => rfl)))).mono ?_); rintro e w11 ⟨rfl, ho11⟩))
            all_goals
              go_split_ands
              go_wp2_with fail
              go_meet
              exact ⟨rfl, by (repeat (first | (with_reducible assumption) | (with_reducible exact Only.refl _ _) | (with_reducible refine Only.drew ?_) | (with_reducible refine Only.alloc ?_ _) | (with_reducible refine onlySet ?_ (by first | (with_reducible assumption) | omega) _) | (with_reducible refine Only.trans ?_ (by with_reducible assumption))))⟩
          case rest =>
          obtain ⟨rfl, hoz⟩ := hcut
          have htz := HT8.out.new hoz
          have hrowz := owns_only HROW8.out hoz (fun _ _ => id)
          have hoy := HOE.out.trans (hoz.weaken (T := fun i => i = x) (fun _ _ => False.elim))
          have HTZ := Lib.hid htz
          have HROWZ := Lib.hid hrowz
          have HOY := Lib.hid hoy
          clear htz hrowz hoy
          clear hoz p0 p1 p2 p3 p4 p5 p6 p7
          go_wp2_with fail
          go_roundg (40 - (k + 1))
          case measure => rw [Hg.out]; omega
          case rel => exact ⟨k + 1, q + 1, by go_num, by rw [HQ.out]; rfl, by omega, HOY.out, HTZ.out, HROWZ.out, rfl⟩
      · have hke : k = 39 := by omega
        have hlt' : ¬ q < 40 := by have := HQ.out; omega
        go_wp2_with fail
        go_ret
        exact ⟨rfl, HOD.out.tr HO.out (fun i hi e => by have := HX.out; omega)⟩
  · -- no
    rw [hok]
    go_wp2_with fail
    refine (snew_nil w5).mono ?_
    rintro e w6 ⟨rfl, rfl⟩
    go_wp2_with fail
    refine (rothers_any w5 _ l self HSL5.out (by omega)).mono ?_
    rintro e w7 ⟨vo, rfl, ho7, hrow⟩
    have hoD := HOC.out.trans ho7
    have HOD := Lib.hid hoD
    clear hoD
    go_wp2_with fail
    go_loopg [16] 1 (fun gk v16 wr => w7 = wr ∧ ∃ q, v16 = .int .i64 q)
    case atStart => exact ⟨rfl, _, rfl⟩
    case round =>
      obtain ⟨rfl, q, rfl⟩ := hrel
      go_wp2_with fail
      go_ret
      exact ⟨rfl, HOD.out⟩
end Go.Proofs.YtianboachknfmaaDoor
