/- The step from a walk to a row that lists tables, with the world's shape at hand. -/
import Derived.Test.YtbdfijgejkimnaaGreatDoorNO
import Derived.Test.YtbdfijgejkimnaaGreatDoorNJ
import Derived.Test.YtbdfijgejkimnaaGreatDoorNA
import Derived.ProofKit
import Derived.OpenShut
import Derived.JoinedCond
import Derived.SizedLaws
import Derived.Deep.Slices
import Derived.Test.YtbdfijgejkimnaaGreatDoorShelf
import Derived.LaidMore
import Derived.Lay
import Derived.Stop.Joined
import Derived.HandedShaped
/-! Answer's reference: Lookup, what is told of a record that is kept. -/
namespace Go.Proofs.YtbdfijgejkimnaaGreatDoor
open Go.Conc Go.RowKit Go.Maps

theorem eqArr (w : World) (x y z u x' y' z' u' : Nat) : (binOp BinOp.eql 44 (.agg #[.int .u8 x, .int .u8 y, .int .u8 z, .int .u8 u]) (.agg #[.int .u8 x', .int .u8 y', .int .u8 z', .int .u8 u'])).run Tryz.prog w = .ok (.bool (decide ((x, y, z, u) = (x', y', z', u')))) w := by
  have hc : Tryz.prog.cellsOf 5 = 1 := by kernel_rfl
  have hsz : ∀ w, (Go.sizeOf 5).run Tryz.prog w = .ok 1 w := fun w => by kernel_rfl
  have info : (Tryz.prog.info? 5).map (fun i => (i.zero, i.size, i.bytes)) = some (some (.int .u8 0), 1, 1) := by kernel_rfl
  obtain ⟨i, hi, _⟩ := info_parts info
  rw [run_eql_struct, run_equalIn_array (P := Tryz.prog) w 9999 _ _ Tryz.underlying44 hi]
  simp [Op.eqItems, List.range, List.range.loop, hc, part, hsz, go_sem]
  by_cases h1 : x = x' <;> by_cases h2 : y = y' <;> by_cases h3 : z = z' <;> by_cases h4 : u = u' <;> simp [h1, h2, h3, h4] <;> omega
theorem hasA_snoc (E : List RR) (k : Nat) (hk : k < E.length) (a : Nat × Nat × Nat × Nat) : hasA (E.take (k + 1)) a = (hasA (E.take k) a || decide (E[k].a = a)) := by
  unfold hasA
  rw [List.take_add_one, List.getElem?_eq_getElem hk, Option.toList_some, List.any_append]
  simp
theorem RpRow24.beyond {w w' : World} {base : Nat} {v : Value} {E : List RRv} (h : RpRow24 w base v E) (ho : Only (fun i => w.heap.size ≤ i) w w') : RpRow24 w' base v E :=
  ⟨owns_kept h.row ho (fun k e hk => by have h1 := (h.row.lt k e).2; have hk : w.heap.size ≤ k := hk; omega), fun e he => owns_kept (h.tgt e he) ho (fun k e2 hk => by have h1 := ((h.tgt e he).lt k e2).2; have hk : w.heap.size ≤ k := hk; omega)⟩
theorem kcS {w : World} {b i j : Nat} {u v : Value} (h : w.cell? ⟨b, j, none⟩ = some v) (hne : i ≠ j) : (w.setCell ⟨b, i, none⟩ u).cell? ⟨b, j, none⟩ = some v := by
  unfold World.cell? at h ⊢
  cases hb : w.heap[b]? with
  | none => rw [hb] at h; cases h
  | some o =>
    cases o with
    | cells cs ty f =>
      rw [set_at hb i u]
      rw [hb] at h
      simp only at h ⊢
      rw [Array.getElem?_setIfInBounds_ne hne]
      exact h
    | _ => rw [hb] at h; cases h
theorem kcE {w : World} {b i : Nat} {u v : Value} (h : w.cell? ⟨b, i, none⟩ = some v) : (w.setCell ⟨b, i, none⟩ u).cell? ⟨b, i, none⟩ = some u := by
  unfold World.cell? at h ⊢
  cases hb : w.heap[b]? with
  | none => rw [hb] at h; cases h
  | some o =>
    cases o with
    | cells cs ty f =>
      rw [set_at hb i u]
      rw [hb] at h
      simp only at h ⊢
      have hi : i < cs.size := by
        rcases Nat.lt_or_ge i cs.size with h1 | h1
        · exact h1
        · rw [Array.getElem?_eq_none h1] at h; cases h
      rw [Array.getElem?_setIfInBounds_self_of_lt hi]
      rfl
    | _ => rw [hb] at h; cases h
theorem kcX {w : World} {b c i j : Nat} {u v : Value} (h : w.cell? ⟨c, j, none⟩ = some v) (hne : b ≠ c) : (w.setCell ⟨b, i, none⟩ u).cell? ⟨c, j, none⟩ = some v := (World.cell?_of_block (blk_ne rfl hne)).trans h
def FB (w : World) (b : Nat) : Prop := ∃ cs t, w.heap[b]? = some (.cells cs t (0, 0))
theorem FB.free {w : World} {b : Nat} (h : FB w b) (i : Nat) : w.frozen? ⟨b, i, none⟩ = false := by obtain ⟨cs, t, h⟩ := h; exact free_at h i
theorem FB.set {w : World} {b : Nat} (h : FB w b) (i : Nat) (v : Value) : FB (w.setCell ⟨b, i, none⟩ v) b := by obtain ⟨cs, t, h⟩ := h; exact ⟨_, _, set_at h i v⟩
theorem FB.drew {w : World} {b : Nat} (h : FB w b) : FB w.drew b := h
theorem FB.old {w w' : World} {b : Nat} (ho : Only (fun _ => False) w w') (h : FB w b) : FB w' b := by obtain ⟨cs, t, h⟩ := h; exact ⟨cs, t, ho.old h id⟩
theorem lookK_none {ttl : Int} {n : Nat} {t : ByteArray} {typ : Nat} {L : List RecT} (h1 : ¬ typ = 1) (h2 : ¬ (typ = 33 ∧ n = 0)) : lookK ttl n t typ L = [] := by
  unfold lookK
  rw [if_neg h1, if_neg h2]
set_option maxRecDepth 100000 in
set_option maxHeartbeats 8000000 in
theorem kept24 : goalM24 := by
  obtain ⟨i0, hi0, iz0, iz1, iz2⟩ := info_parts infoStr25
  obtain ⟨j0, hj0, jz0, jz1, jz2⟩ := info_parts infoRR24
  intro w most ttl r L l typ hl ht hn hty f n t KN HFF HNN HTT HKN lcap q1 yq20 yleft0 na nc yk11 k2 W HNC HOW HSW HTE HGO HSZ yQp2 yK3 ygk4 wr u20 u21 u22 u23 u24 u25 u26 u27 u28 u29 u30 u31 u32 u33 yJ5 yK6 ya7 yhk8 hg hlt HSF HLF
      yleft9 fa fc yright10 HN1 HS1 HO yK11 ya12 hlt' yK13 ya14 gk wq u12 u15 u16 yu171 u18 u19 yu3815 yu3916 yu4017 yu4118 yu4219 yu4320 yu4421 yu4522 yu4623 yu4724 yu4825 yu4926 yu5027 yu5128 yu5229 yu5330 yu5431 yu5532 yu5633
      yu5734 yu5835 yu5936 yu6037 yu6138 yu6239 yu6340 yu6441 yu6542 yu6643 yu6744 yu6845 yu6946 yu7047 yu7148 yu7249 yu7350 yu742 yu7551 yu7652 yu7753 yu7854 yu7955 yu8056 yu8157 yu8258 yu8359 yu8460 yu8561 yu8662 yu8763 yu8864
      yu8965 yu9066 yu9167 yu9268 yu9369 yu9470 yu9571 yu9672 yu9773 yu9874 yu9975 yu10076 yu10177 yu10278 yu10379 yu10480 yu10581 yu10682 yu10783 yu10884 yu10985 yu11086 yu11187 yu11288 yu11389 yu11490 yu11591 yu11692 yu11793
      yu11894 yu11995 yu12096 yu12197 yu12298 yu12399 yu124100 yu125101 yu126102 yu127103 yu128104 yu129105 yu130106 yu131107 yu132108 yu133109 yu134110 yu135111 yu136112 yu137113 yu138114 yu139115 yu140116 yu141117 yu142118
      yu143119 yu144120 yu145121 yu146122 yu147123 yu148124 yJ125 yK126 ya127 k E kn hk hEl hlk hlk' hk0 lb off HC HBW ya128 ya129 k1 n1 a1 d1 W15 hb1' hks HO2 HROW2 HE2 Hg2 HOW15 HSW15 HKNK yK130 ya131 yu383 yu394 yu405 yu416
      yu427 yu438 yu449 yu4510 yu4611 yu4712 yu4813 yu4914 yu5015 yu5116 yu5217 yu5318 yu5419 yu5520 yu5621 yu5722 yu5823 yu5924 yu6025 yu6126 yu6227 yu6328 yu6429 yu6530 yu6631 yu6732 yu6833 yu6934 yu7035 yu7136 yu7237 yu7338
      yu7539 yu7640 yu7741 yu7842 yu7943 yu8044 yu8145 yu8246 yu8347 yu8448 yu8549 yu8650 yu8751 yu8852 yu8953 yu9054 yu9155 yu9256 yu9357 yu9458 yu9559 yu9660 yu9761 yu9862 yu9963 yu10064 yu10165 yu10266 yu10367 yu10468 yu10569
      yu10670 yu10771 yu10872 yu10973 yu11074 yu11175 yu11276 yu11377 yu11478 yu11579 yu11680 yu11781 yu11882 yu11983 yu12084 yu12185 yu12286 yu12387 yu12488 yu12589 yu12690 yu12791 yu12892 yu12993 yu13094 yu13195 yu13296 yu13397
      yu13498 yu13599 yu136100 yu137101 yu138102 yu139103 yu140104 yu141105 yu142106 yu143107 yu144108 yu145109 yu146110 yu147111 yu148112 HSK HTF HTY oN HNG HTO HNO HAD HAO HRA HRS HB15 HTK HKM HKP HTT2 hor tt htt hw64 hw32 HRS3
      HRA3 W16 q5 q2 hds p0 p1 p2 p3 i1 i2 i3 i0' hb15s HO15 HR15 HB16 HOW16 HSW16 HYO HGS HFA yh113 yK114 ya115 b0 g0 b1 g1 b2 g2 b3 g3 HADR wc u17 u38 u39 u40 u41 u42 u43 u44 u45 u46 u47 u48 u49 u50 u51 u52 u53 u54 u55 u56 u57
      u58 u59 u60 u61 u62 u63 u64 u65 u66 u67 u68 u69 u70 u71 u72 u73 u74 u75 u76 u77 u78 u79 u80 u81 u82 u83 u84 u85 u86 u87 u88 u89 u90 u91 u92 u93 u94 u95 u96 u97 u98 u99 u100 u101 u102 u103 u104 u105 u106 u107 u108 u109 u110
      u111 u112 u113 u114 u115 u116 u117 u118 u119 u120 u121 u122 u123 u124 u125 u126 u127 u128 u129 u130 u131 u132 u133 u134 u135 u136 u137 u138 u139 u140 u141 u142 u143 u144 u145 u146 u147 u148 hcut
  obtain ⟨B17, rfl, ho17, hb17, hB17⟩ := hcut
  have HKF := Lib.hid HTT2.out.2
  have HKN1 := Lib.hid (show true = decide ((L.take (k + 1)).filter (keepM n t) ≠ []) from (decide_eq_true HKF.out).symm)
  have hoc : Only (fun _ => False) W15 wc := HOW16.out.trans ho17
  have hrc : RpRow24 wc W.heap.size u12 E := HR15.out.new hoc
  have hWc : Only (fun _ => False) W wc := HO15.out.trans hoc
  have hb16c := ho17.old HB16.out id
  have q5c := ho17.cell q5 id
  have q2c := ho17.cell q2 id
  have hs16 := HSW16.out
  have hs17 := ho17.size
  have HRC := Lib.hid hrc
  have HWC := Lib.hid hWc
  have HB16C := Lib.hid hb16c
  have HB17 := Lib.hid hb17
  clear hrc hWc hb16c hb17
  clear q5 q2 HB16 g0 g1 g2 g3 HTT HNN HFF HN1 HS1
  by_cases h1 : typ = 1
  · -- addr
    subst h1
    have hr := HRC.out
    obtain ⟨ea, ec, he, ecl1, ecl2, HEC0⟩ := Sl.cells rr24C_length (Sl.of_owns hr.row)
    subst he
    have HEC := Lib.hid HEC0
    have HM := Lib.hid (show lookK ttl n t 1 (L.take (k + 1)) = addA ttl (lookK ttl n t 1 (L.take k)) ⟨k1, n1, oN, a1, false, d1⟩ by
      have := HTT2.out.1
      rwa [if_pos rfl] at this)
    have HAE := Lib.hid (HAD.out (lookK ttl n t 1 (L.take k)))
    rw [← HE2.out, HADR.out, HRA3.out, HADR.out] at HAE
    have eqa := eqArr
    clear hr HEC0
    go_wp2_with fail
    go_loopg [18, 19] E.length (fun g v18 v19 wl => ∃ j : Nat, v19 = .int .i64 j ∧ j ≤ E.length ∧ v18 = .bool (hasA ((E.take j).map (·.r)) (b0, b1, b2, b3)) ∧ Only (fun _ => False) wc wl ∧ g = E.length - j)
    case atStart => exact ⟨0, rfl, Nat.zero_le _, rfl, Only.refl _ _, rfl⟩
    case round =>
      obtain ⟨j, rfl, hj, rfl, hol, hgl⟩ := hrel
      rename World => wl
      by_cases hjl : j < E.length
      · -- search
        have hjl' : (j : Int) < (E.length : Int) := by omega
        have hj0 : (0 : Int) ≤ (j : Int) := by omega
        obtain ⟨eb, eo, rfl, hec⟩ := HEC.out.at j hjl
        have HSN := Lib.hid (show hasA ((E.take (j + 1)).map (·.r)) (b0, b1, b2, b3) = (hasA ((E.take j).map (·.r)) (b0, b1, b2, b3) || decide (E[j].r.a = (b0, b1, b2, b3))) by
          rw [List.map_take, List.map_take, hasA_snoc _ j (by rw [List.length_map]; exact hjl), List.getElem_map])
        generalize hasA ((E.take j).map (·.r)) (b0, b1, b2, b3) = tw at *
        have z2 := hol.cell (hec 2 _ rfl) id
        have z3 := hol.cell (hec 3 _ rfl) id
        have z4 := hol.cell (hec 4 _ rfl) id
        have z5 := hol.cell (hec 5 _ rfl) id
        have r0 : wl.cell? ⟨B17, 0, none⟩ = some (.int .u8 b0) := hol.cell (cell_at HB17.out 0) id
        have r1 : wl.cell? ⟨B17, 1, none⟩ = some (.int .u8 b1) := hol.cell (cell_at HB17.out 1) id
        have r2 : wl.cell? ⟨B17, 2, none⟩ = some (.int .u8 b2) := hol.cell (cell_at HB17.out 2) id
        have r3 : wl.cell? ⟨B17, 3, none⟩ = some (.int .u8 b3) := hol.cell (cell_at HB17.out 3) id
        generalize E[j].r.a = ja at *
        obtain ⟨j0', j1', j2', j3'⟩ := ja
        have eqj := fun w => eqArr w j0' j1' j2' j3' b0 b1 b2 b3
        obtain ⟨dq, hdq⟩ : ∃ dq, dq = decide ((j0', j1', j2', j3') = (b0, b1, b2, b3)) := ⟨_, rfl⟩
        rw [← hdq] at HSN
        simp only [← hdq] at eqj
        have Hgl := Lib.hid hgl
        have HOL := Lib.hid hol
        clear hgl hol
        clear hec eqa hdq
        cases tw with
        | true =>
          go_upto_region 22 with (fail)
          go_quiet (fail)
          go_wp2_with fail
          go_roundg (E.length - (j + 1))
          case measure => rw [Hgl.out]; omega
          case rel => exact ⟨j + 1, by go_num, by omega, by rw [HSN.out]; rfl, HOL.out.drewN _, rfl⟩
        | false =>
          go_upto_region 22 with (fail)
          go_quiet (fail)
          go_wp2_with fail
          go_roundg (E.length - (j + 1))
          case measure => rw [Hgl.out]; omega
          case rel => exact ⟨j + 1, by go_num, by omega, by rw [HSN.out]; simp, HOL.out.drewN _, rfl⟩
      · -- put
        have hjl' : ¬ (j : Int) < (E.length : Int) := by omega
        obtain rfl : j = E.length := by omega
        rw [List.take_length]
        generalize hasA (E.map (·.r)) (b0, b1, b2, b3) = tw at *
        have r0 : wl.cell? ⟨B17, 0, none⟩ = some (.int .u8 b0) := hol.cell (cell_at HB17.out 0) id
        have r1 : wl.cell? ⟨B17, 1, none⟩ = some (.int .u8 b1) := hol.cell (cell_at HB17.out 1) id
        have r2 : wl.cell? ⟨B17, 2, none⟩ = some (.int .u8 b2) := hol.cell (cell_at HB17.out 2) id
        have r3 : wl.cell? ⟨B17, 3, none⟩ = some (.int .u8 b3) := hol.cell (cell_at HB17.out 3) id
        have hB := hol.old HB16C.out id
        rw [hb15s] at hB
        have hlb : wq.heap.size + 1 < wl.heap.size := lt_of_block hB
        obtain ⟨w23, hw23⟩ : ∃ w23, w23 = ((((wl.setCell ⟨wq.heap.size + 1, 2, none⟩ (.int .u8 b0)).setCell ⟨wq.heap.size + 1, 3, none⟩ (.int .u8 b1)).setCell ⟨wq.heap.size + 1, 4, none⟩ (.int .u8 b2)).setCell ⟨wq.heap.size + 1, 5, none⟩ (.int .u8 b3)) := ⟨_, rfl⟩
        have hB23 : w23.heap[wq.heap.size + 1]? = some (.cells #[.int .i64 (1 : Nat), .int .u32 tt, .int .u8 b0, .int .u8 b1, .int .u8 b2, .int .u8 b3, .int .u16 0, .int .u16 0, .int .u16 0, .slice none 0 0] 48 (0, 0)) := by
          rw [hw23]
          exact set_at (set_at (set_at (set_at hB 2 _) 3 _) 4 _) 5 _
        have ho23 : Only (fun i => W15.heap.size ≤ i) W15 w23 := by
          rw [hw23]
          have h0 : Only (fun i => W15.heap.size ≤ i) W15 wl := (hoc.trans hol).weaken (fun _ _ => False.elim)
          exact (((h0.setCell (.inl (by show W15.heap.size ≤ wq.heap.size + 1; omega)) _).setCell (.inl (by show W15.heap.size ≤ wq.heap.size + 1; omega)) _).setCell (.inl (by show W15.heap.size ≤ wq.heap.size + 1; omega)) _).setCell (.inl (by show W15.heap.size ≤ wq.heap.size + 1; omega)) _
        have hr23 := HR15.out.beyond ho23
        have hW23 : Only (fun _ => False) W w23 := HO15.out.tr ho23 (fun i hi e => by have h9 := HO15.out.size; have e : W15.heap.size ≤ i := e; omega)
        have fz : ∀ i, wl.frozen? ⟨wq.heap.size + 1, i, none⟩ = false := free_at hB
        have p2 : wl.cell? ⟨wq.heap.size + 1, 2, none⟩ = some (.int .u8 0) := cell_at hB 2
        have p3 : wl.cell? ⟨wq.heap.size + 1, 3, none⟩ = some (.int .u8 0) := cell_at hB 3
        have p4 : wl.cell? ⟨wq.heap.size + 1, 4, none⟩ = some (.int .u8 0) := cell_at hB 4
        have p5 : wl.cell? ⟨wq.heap.size + 1, 5, none⟩ = some (.int .u8 0) := cell_at hB 5
        have HB23 := Lib.hid hB23
        have HR23 := Lib.hid hr23
        have HW23 := Lib.hid hW23
        clear hB23 hr23 hW23
        clear hB eqa ho23
        go_upto_region 24 with (fail)
        rw [← hw23]
        clear hw23 r0 r1 r2 r3 p2 p3 p4 p5 fz
        cases tw with
        | true =>
          have HF := Lib.hid HAE.out
          rw [if_pos rfl] at HF
          go_wp2_with fail
          go_roundg (L.length - (k + 1))
          case measure => rw [Hg2.out]; omega
          case rel => exact ⟨k + 1, E, true, by go_num, by omega, HW23.out, HR23.out, by rw [HM.out, ← HE2.out, HF.out], rfl, HKN1.out, rfl⟩
        | false =>
          have HF := Lib.hid HAE.out
          rw [if_neg (by decide)] at HF
          have p0 : w23.cell? ⟨(wq.heap.size + 1), 0, none⟩ = some (.int .i64 (1 : Nat)) := cell_at HB23.out 0
          have p1 : w23.cell? ⟨(wq.heap.size + 1), 1, none⟩ = some (.int .u32 tt) := cell_at HB23.out 1
          have p2 : w23.cell? ⟨(wq.heap.size + 1), 2, none⟩ = some (.int .u8 b0) := cell_at HB23.out 2
          have p3 : w23.cell? ⟨(wq.heap.size + 1), 3, none⟩ = some (.int .u8 b1) := cell_at HB23.out 3
          have p4 : w23.cell? ⟨(wq.heap.size + 1), 4, none⟩ = some (.int .u8 b2) := cell_at HB23.out 4
          have p5 : w23.cell? ⟨(wq.heap.size + 1), 5, none⟩ = some (.int .u8 b3) := cell_at HB23.out 5
          have p6 : w23.cell? ⟨(wq.heap.size + 1), 6, none⟩ = some (.int .u16 0) := cell_at HB23.out 6
          have p7 : w23.cell? ⟨(wq.heap.size + 1), 7, none⟩ = some (.int .u16 0) := cell_at HB23.out 7
          have p8 : w23.cell? ⟨(wq.heap.size + 1), 8, none⟩ = some (.int .u16 0) := cell_at HB23.out 8
          have p9 : w23.cell? ⟨(wq.heap.size + 1), 9, none⟩ = some (.slice none 0 0) := cell_at HB23.out 9
          have hsz23 := HW23.out.size
          go_wp2_with (at_builtin; refine Wait.mk ?_)
          refine Wait.go (wpList_append_src _ rfl (.tmp 118) (.tmp 120) 40 40 rfl W.heap.size 48 j0 _ 10 48 Tryz.underlying40 hj0 jz0 jz1 jz2 rfl _ E.length (E.flatMap rr24C) rfl ?own4 _ 1 (rr24C ⟨⟨1, tt, (b0, b1, b2, b3), 0, 0, 0, []⟩, .slice none 0 0⟩) rfl ?src4 ?m4 ?b4 ?base4 ?_)
          case own4 => exact HR23.out.row.alloc _
          case src4 => exact Src.ofSlice _ Tryz.underlying40 _ _ _ _ rfl (news_new _ _ _) (rr24C_one (w := w23) (base := W.heap.size) (World.ownsRow_nil _ _ _ _))
          case m4 => unfold maxLen; omega
          case b4 => omega
          case base4 => simp; omega
          intro v6 w6 own6 gr6 _
          have ho6 : Only (fun _ => False) W w6 := (HW23.out.alloc _).own (HR23.out.row.alloc _) (Nat.le_refl _) gr6
          have hr6 : RpRow24 w6 W.heap.size v6 (E ++ [⟨⟨1, tt, (b0, b1, b2, b3), 0, 0, 0, []⟩, .slice none 0 0⟩]) := (HR23.out.new ((Only.refl _ _).alloc _)).app (World.ownsRow_nil _ _ _ _) rfl own6 gr6
          have HO6 := Lib.hid ho6
          have HR6 := Lib.hid hr6
          clear ho6 hr6
          clear own6 gr6 p0 p1 p2 p3 p4 p5 p6 p7 p8 p9
          go_wp2_with fail
          go_roundg (L.length - (k + 1))
          case measure => rw [Hg2.out]; omega
          case rel => exact ⟨k + 1, _, true, by go_num, by omega, HO6.out, HR6.out, by rw [HM.out, ← HE2.out, HF.out, List.map_append]; rfl, rfl, HKN1.out, rfl⟩
  · have h1' : ¬ (typ : Int) = 1 := by omega
    by_cases h33 : typ = 33 ∧ n = 0
    · -- place
      obtain ⟨rfl, rfl⟩ := h33
      have HM := Lib.hid (show lookK ttl 0 t 33 (L.take (k + 1)) = lookK ttl 0 t 33 (L.take k) ++ [rrS ttl ⟨k1, n1, oN, a1, false, d1⟩] by
        have := HTT2.out.1
        rwa [if_neg (by decide), if_pos ⟨rfl, rfl⟩] at this)
      have HN4 := Lib.hid (show ∀ w' : World, Calls Tryz.prog 42 #[.string d1, .int .i64 4] w' fun e w2 => e = .returned (.int .u16 (256 * bA d1 4 + bA d1 (4 + 1) : Nat)) ∧ Only (fun _ => False) w' w2 from fun w' => rnumber_any w' d1 4 (by rw [hds]; decide) (by decide))
      have HN6 := Lib.hid (show ∀ w' : World, Calls Tryz.prog 42 #[.string d1, .int .i64 6] w' fun e w2 => e = .returned (.int .u16 (256 * bA d1 6 + bA d1 (6 + 1) : Nat)) ∧ Only (fun _ => False) w' w2 from fun w' => rnumber_any w' d1 6 (by rw [hds]; decide) (by decide))
      have HN8 := Lib.hid (show ∀ w' : World, Calls Tryz.prog 42 #[.string d1, .int .i64 8] w' fun e w2 => e = .returned (.int .u16 (256 * bA d1 8 + bA d1 (8 + 1) : Nat)) ∧ Only (fun _ => False) w' w2 from fun w' => rnumber_any w' d1 8 (by rw [hds]; decide) (by decide))
      have hpo : bA d1 4 * 256 + bA d1 5 = 256 * bA d1 4 + bA d1 (4 + 1) := by show _ = 256 * bA d1 4 + bA d1 5; omega
      have hpr : bA d1 6 * 256 + bA d1 7 = 256 * bA d1 6 + bA d1 (6 + 1) := by show _ = 256 * bA d1 6 + bA d1 7; omega
      have hwt : bA d1 8 * 256 + bA d1 9 = 256 * bA d1 8 + bA d1 (8 + 1) := by show _ = 256 * bA d1 8 + bA d1 9; omega
      have HRS4 := HRS3.out
      rw [hpo, hpr, hwt] at HRS4
      have HRS5 := Lib.hid HRS4
      clear HRS4 hpo hpr hwt
      generalize 256 * bA d1 4 + bA d1 (4 + 1) = po at *
      generalize 256 * bA d1 6 + bA d1 (6 + 1) = pr at *
      generalize 256 * bA d1 8 + bA d1 (8 + 1) = wt at *
      have hB16 := HB16C.out
      rw [hb15s] at hB16
      have hne : wq.heap.size + 1 ≠ wq.heap.size := by omega
      generalize hBB : wq.heap.size + 1 = B16 at *
      have s0 : wc.cell? ⟨B16, 0, none⟩ = some (.int .i64 (33 : Nat)) := cell_at hB16 0
      have s1 : wc.cell? ⟨B16, 1, none⟩ = some (.int .u32 tt) := cell_at hB16 1
      have s2 : wc.cell? ⟨B16, 2, none⟩ = some (.int .u8 0) := cell_at hB16 2
      have s3 : wc.cell? ⟨B16, 3, none⟩ = some (.int .u8 0) := cell_at hB16 3
      have s4 : wc.cell? ⟨B16, 4, none⟩ = some (.int .u8 0) := cell_at hB16 4
      have s5 : wc.cell? ⟨B16, 5, none⟩ = some (.int .u8 0) := cell_at hB16 5
      have s6 : wc.cell? ⟨B16, 6, none⟩ = some (.int .u16 0) := cell_at hB16 6
      have s7 : wc.cell? ⟨B16, 7, none⟩ = some (.int .u16 0) := cell_at hB16 7
      have s8 : wc.cell? ⟨B16, 8, none⟩ = some (.int .u16 0) := cell_at hB16 8
      have s9 : wc.cell? ⟨B16, 9, none⟩ = some (.slice none 0 0) := cell_at hB16 9
      have fz0 : ∀ i, wc.frozen? ⟨B16, i, none⟩ = false := free_at hB16
      have fb0 : FB wc B16 := ⟨_, _, hB16⟩
      have HNE := Lib.hid hne
      have HB16D := Lib.hid hB16
      clear hne hB16
      have HSK2 := Lib.hid (fun (w' : World) (h : Only (fun i => i = B16) wc w') => And.intro (h.cell q5c HNE.out.symm) (And.intro (h.cell q2c HNE.out.symm) True.intro))
      clear HNC HSZ HC HTE HGO HO2 HROW2
      go_upto_region 27 with (fail)
      go_region_held3 (fun w' => Only (fun i => i = B16) wc w' ∧ w'.cell? ⟨wq.heap.size, 5, none⟩ = some (.string d1))
        ((go_split_ands; refine ⟨?_, ?_⟩ <;> (repeat (first | (with_reducible assumption) | (with_reducible exact Only.refl _ _) | (with_reducible refine Only.drew ?_) | (refine Only.setCell ?_ (Or.inr (show B16 = B16 from rfl)) _) | (with_reducible apply kcD) | (with_reducible refine kcX ?_ HNE.out)))))
        (first
          | (go_at_call 42; (with_reducible refine (HN4.out _).mono ?_); rintro e w8 ⟨rfl, ho8⟩
             have o8 : Only (fun i => i = B16) wc w8 := (by (refine Only.trans (b := _) ?_ (ho8.weaken (fun _ _ => False.elim)); (repeat (first | (with_reducible assumption) | (with_reducible exact Only.refl _ _) | (with_reducible refine Only.drew ?_) | (refine Only.setCell ?_ (Or.inr (show B16 = B16 from rfl)) _)))))
             have d8 : w8.cell? ⟨wq.heap.size, 5, none⟩ = some (.string d1) := HSK2.out w8 o8 |>.1
             (try have oF : Only (fun _ => False) wc w8 := (by (refine Only.trans (b := _) ?_ ho8; (repeat (first | (with_reducible assumption) | (with_reducible exact Only.refl _ _) | (with_reducible refine Only.drew ?_))))))
             have b8 : FB w8 B16 := FB.old ho8 (by (repeat (first | (with_reducible assumption) | (with_reducible refine FB.drew ?_) | (with_reducible refine FB.set ?_ _ _))))
             have f8 : ∀ i, w8.frozen? ⟨B16, i, none⟩ = false := b8.free
             have c6 := ho8.cell (p := ⟨B16, 6, none⟩) (by (repeat (first | (with_reducible assumption) | (with_reducible apply kcD) | (with_reducible refine kcE (v := .int .u16 0) ?_) | (with_reducible refine kcS ?_ (by decide))))) id
             have c7 := ho8.cell (p := ⟨B16, 7, none⟩) (by (repeat (first | (with_reducible assumption) | (with_reducible apply kcD) | (with_reducible refine kcE (v := .int .u16 0) ?_) | (with_reducible refine kcS ?_ (by decide))))) id
             have c8 := ho8.cell (p := ⟨B16, 8, none⟩) (by (repeat (first | (with_reducible assumption) | (with_reducible apply kcD) | (with_reducible refine kcE (v := .int .u16 0) ?_) | (with_reducible refine kcS ?_ (by decide))))) id)
          | (go_at_call 42; (with_reducible refine (HN6.out _).mono ?_); rintro e w8 ⟨rfl, ho8⟩
             have o8 : Only (fun i => i = B16) wc w8 := (by (refine Only.trans (b := _) ?_ (ho8.weaken (fun _ _ => False.elim)); (repeat (first | (with_reducible assumption) | (with_reducible exact Only.refl _ _) | (with_reducible refine Only.drew ?_) | (refine Only.setCell ?_ (Or.inr (show B16 = B16 from rfl)) _)))))
             have d8 : w8.cell? ⟨wq.heap.size, 5, none⟩ = some (.string d1) := HSK2.out w8 o8 |>.1
             (try have oF : Only (fun _ => False) wc w8 := (by (refine Only.trans (b := _) ?_ ho8; (repeat (first | (with_reducible assumption) | (with_reducible exact Only.refl _ _) | (with_reducible refine Only.drew ?_))))))
             have b8 : FB w8 B16 := FB.old ho8 (by (repeat (first | (with_reducible assumption) | (with_reducible refine FB.drew ?_) | (with_reducible refine FB.set ?_ _ _))))
             have f8 : ∀ i, w8.frozen? ⟨B16, i, none⟩ = false := b8.free
             have c6 := ho8.cell (p := ⟨B16, 6, none⟩) (by (repeat (first | (with_reducible assumption) | (with_reducible apply kcD) | (with_reducible refine kcE (v := .int .u16 0) ?_) | (with_reducible refine kcS ?_ (by decide))))) id
             have c7 := ho8.cell (p := ⟨B16, 7, none⟩) (by (repeat (first | (with_reducible assumption) | (with_reducible apply kcD) | (with_reducible refine kcE (v := .int .u16 0) ?_) | (with_reducible refine kcS ?_ (by decide))))) id
             have c8 := ho8.cell (p := ⟨B16, 8, none⟩) (by (repeat (first | (with_reducible assumption) | (with_reducible apply kcD) | (with_reducible refine kcE (v := .int .u16 0) ?_) | (with_reducible refine kcS ?_ (by decide))))) id)
          | (go_at_call 42; (with_reducible refine (HN8.out _).mono ?_); rintro e w8 ⟨rfl, ho8⟩
             have o8 : Only (fun i => i = B16) wc w8 := (by (refine Only.trans (b := _) ?_ (ho8.weaken (fun _ _ => False.elim)); (repeat (first | (with_reducible assumption) | (with_reducible exact Only.refl _ _) | (with_reducible refine Only.drew ?_) | (refine Only.setCell ?_ (Or.inr (show B16 = B16 from rfl)) _)))))
             have d8 : w8.cell? ⟨wq.heap.size, 5, none⟩ = some (.string d1) := HSK2.out w8 o8 |>.1
             (try have oF : Only (fun _ => False) wc w8 := (by (refine Only.trans (b := _) ?_ ho8; (repeat (first | (with_reducible assumption) | (with_reducible exact Only.refl _ _) | (with_reducible refine Only.drew ?_))))))
             have b8 : FB w8 B16 := FB.old ho8 (by (repeat (first | (with_reducible assumption) | (with_reducible refine FB.drew ?_) | (with_reducible refine FB.set ?_ _ _))))
             have f8 : ∀ i, w8.frozen? ⟨B16, i, none⟩ = false := b8.free
             have c6 := ho8.cell (p := ⟨B16, 6, none⟩) (by (repeat (first | (with_reducible assumption) | (with_reducible apply kcD) | (with_reducible refine kcE (v := .int .u16 0) ?_) | (with_reducible refine kcS ?_ (by decide))))) id
             have c7 := ho8.cell (p := ⟨B16, 7, none⟩) (by (repeat (first | (with_reducible assumption) | (with_reducible apply kcD) | (with_reducible refine kcE (v := .int .u16 0) ?_) | (with_reducible refine kcS ?_ (by decide))))) id
             have c8 := ho8.cell (p := ⟨B16, 8, none⟩) (by (repeat (first | (with_reducible assumption) | (with_reducible apply kcD) | (with_reducible refine kcE (v := .int .u16 0) ?_) | (with_reducible refine kcS ?_ (by decide))))) id))
      all_goals
        have hor9 := HNG.out
        have HDG := Lib.hid (fun w' : World => rdigits_any w' oN (by omega) (by omega))
        clear hor9
        have hbD := oF.old HB16D.out id
        obtain ⟨wD, hwD⟩ : ∃ wD, wD = ((w8.setCell ⟨B16, 8, none⟩ (.int .u16 po)).setCell ⟨B16, 6, none⟩ (.int .u16 pr)).setCell ⟨B16, 7, none⟩ (.int .u16 wt) := ⟨_, rfl⟩
        have hB23 : wD.heap[B16]? = some (.cells #[.int .i64 (33 : Nat), .int .u32 tt, .int .u8 0, .int .u8 0, .int .u8 0, .int .u8 0, .int .u16 pr, .int .u16 wt, .int .u16 po, .slice none 0 0] 48 (0, 0)) := by
          rw [hwD]
          exact set_at (set_at (set_at hbD 8 _) 6 _) 7 _
        have ho23 : Only (fun i => i = B16) wc wD := by
          rw [hwD]
          exact ((o8.setCell (Or.inr rfl) _).setCell (Or.inr rfl) _).setCell (Or.inr rfl) _
        rw [← hwD]
        have xd2 := (HSK2.out wD ho23).2.1
        have HB23 := Lib.hid hB23
        have HO23 := Lib.hid ho23
        clear hB23 ho23
        clear hbD hwD c6 c7 c8 f8 b8 d8 o8 oF ho8 s0 s1 s2 s3 s4 s5 s6 s7 s8 s9 fz0 fb0
        go_wp2_with fail
        refine (HDG.out _).mono ?_
        rintro e w9 ⟨rfl, ho9⟩
        have hB9 := ho9.old HB23.out id
        have x9 : (w9.alloc (.cells #[.string (itoaB oN), .string ⟨#[110, 111, 100, 101]⟩, .string ⟨#[98, 101, 108, 108]⟩] 9)).cell? ⟨B16, 9, none⟩ = some (.slice none 0 0) := kcN (cell_at hB9 9)
        have fz9 : ∀ i, (w9.alloc (.cells #[.string (itoaB oN), .string ⟨#[110, 111, 100, 101]⟩, .string ⟨#[98, 101, 108, 108]⟩] 9)).frozen? ⟨B16, i, none⟩ = false := (FB.old ((Only.refl _ _).alloc _) ⟨_, _, hB9⟩).free
        have HO9 := Lib.hid ho9
        have HB9 := Lib.hid hB9
        clear ho9 hB9
        go_upto_region 29 with (fail)
        clear x9 fz9
        obtain ⟨wE, hwE⟩ : ∃ wE, wE = (w9.alloc (.cells #[.string (itoaB oN), .string ⟨#[110, 111, 100, 101]⟩, .string ⟨#[98, 101, 108, 108]⟩] 9)).setCell ⟨B16, 9, none⟩ (.slice (some ⟨w9.heap.size, 0, none⟩) 3 3) := ⟨_, rfl⟩
        have hBE : wE.heap[B16]? = some (.cells #[.int .i64 (33 : Nat), .int .u32 tt, .int .u8 0, .int .u8 0, .int .u8 0, .int .u8 0, .int .u16 pr, .int .u16 wt, .int .u16 po, .slice (some ⟨w9.heap.size, 0, none⟩) 3 3] 48 (0, 0)) := by
          rw [hwE]
          exact set_at (((Only.refl (fun _ => False) w9).alloc _).old HB9.out id) 9 _
        have hb16 : W15.heap.size ≤ B16 := by rw [← hBB]; omega
        have hoE : Only (fun i => W15.heap.size ≤ i) W15 wE := by
          rw [hwE]
          exact ((((hoc.weaken (fun _ _ => False.elim)).trans (HO23.out.weaken (fun i _ e => by have e : i = B16 := e; rw [e]; exact hb16))).trans (HO9.out.weaken (fun _ _ => False.elim))).alloc _).setCell (.inl hb16) _
        have hrE := HR15.out.beyond hoE
        have hWE : Only (fun _ => False) W wE := HO15.out.tr hoE (fun i hi e => by have h9 := HO15.out.size; have e : W15.heap.size ≤ i := e; omega)
        have hlt9 : B16 < w9.heap.size := lt_of_block HB9.out
        have hsz9 : W.heap.size ≤ w9.heap.size := by have h9 := HO15.out.size; omega
        have htg : TgtRow wE W.heap.size ⟨⟨33, tt, (0, 0, 0, 0), pr, wt, po, tgtL oN⟩, .slice (some ⟨w9.heap.size, 0, none⟩) 3 3⟩ := by
          rw [hwE]
          have h0 := ownsNew w9 ((tgtL oN).map .string) 9 3 1 rfl (by unfold maxLen; decide)
          exact owns_kept (ownsBase1 h0 hsz9) ((Only.refl (fun i => i = B16) _).setCell (Or.inr rfl) _) (fun k e hk => by have e2 : some w9.heap.size = some k := e; injection e2 with e2; have hk : k = B16 := hk; omega)
        have HBE := Lib.hid hBE
        have HRE := Lib.hid hrE
        have HWE := Lib.hid hWE
        have HTG := Lib.hid htg
        clear hBE hrE hWE htg
        rw [← hwE]
        clear hwE hlt9 hoE hb16
        generalize hvv : (.slice (some ⟨w9.heap.size, 0, none⟩) 3 3 : Value) = vv at *
        clear hvv hsz9
        have p0 : wE.cell? ⟨B16, 0, none⟩ = some (.int .i64 (33 : Nat)) := cell_at HBE.out 0
        have p1 : wE.cell? ⟨B16, 1, none⟩ = some (.int .u32 tt) := cell_at HBE.out 1
        have p2 : wE.cell? ⟨B16, 2, none⟩ = some (.int .u8 0) := cell_at HBE.out 2
        have p3 : wE.cell? ⟨B16, 3, none⟩ = some (.int .u8 0) := cell_at HBE.out 3
        have p4 : wE.cell? ⟨B16, 4, none⟩ = some (.int .u8 0) := cell_at HBE.out 4
        have p5 : wE.cell? ⟨B16, 5, none⟩ = some (.int .u8 0) := cell_at HBE.out 5
        have p6 : wE.cell? ⟨B16, 6, none⟩ = some (.int .u16 pr) := cell_at HBE.out 6
        have p7 : wE.cell? ⟨B16, 7, none⟩ = some (.int .u16 wt) := cell_at HBE.out 7
        have p8 : wE.cell? ⟨B16, 8, none⟩ = some (.int .u16 po) := cell_at HBE.out 8
        have p9 : wE.cell? ⟨B16, 9, none⟩ = some (vv) := cell_at HBE.out 9
        have hszE := HWE.out.size
        go_wp2_with (at_builtin; refine Wait.mk ?_)
        refine Wait.go (wpList_append_src _ rfl (.tmp 145) (.tmp 147) 40 40 rfl W.heap.size 48 j0 _ 10 48 Tryz.underlying40 hj0 jz0 jz1 jz2 rfl _ E.length (E.flatMap rr24C) rfl ?own4 _ 1 (rr24C ⟨⟨33, tt, (0, 0, 0, 0), pr, wt, po, tgtL oN⟩, vv⟩) rfl ?src4 ?m4 ?b4 ?base4 ?_)
        case own4 => exact HRE.out.row.alloc _
        case src4 => exact Src.ofSlice _ Tryz.underlying40 _ _ _ _ rfl (news_new _ _ _) (rr24C_one HTG.out)
        case m4 => unfold maxLen; omega
        case b4 => omega
        case base4 => simp; omega
        intro v6 w6 own6 gr6 _
        have ho6 : Only (fun _ => False) W w6 := (HWE.out.alloc _).own (HRE.out.row.alloc _) (Nat.le_refl _) gr6
        have hr6 : RpRow24 w6 W.heap.size v6 (E ++ [⟨⟨33, tt, (0, 0, 0, 0), pr, wt, po, tgtL oN⟩, vv⟩]) := (HRE.out.new ((Only.refl _ _).alloc _)).app (owns_kept HTG.out ((Only.refl (fun _ => False) wE).alloc _) (fun _ _ => id)) rfl own6 gr6
        have HO6 := Lib.hid ho6
        have HR6 := Lib.hid hr6
        clear ho6 hr6
        clear own6 gr6 p0 p1 p2 p3 p4 p5 p6 p7 p8 p9
        go_wp2_with fail
        go_roundg (L.length - (k + 1))
        case measure => rw [Hg2.out]; omega
        case rel => exact ⟨k + 1, _, true, by go_num, by omega, HO6.out, HR6.out, by rw [HM.out, ← HE2.out, HRS5.out, List.map_append]; rfl, rfl, HKN1.out, rfl⟩
    · -- none
      have HL0 := Lib.hid (show lookK ttl n t typ (L.take k) = lookK ttl n t typ (L.take (k + 1)) by rw [lookK_none h1 h33, lookK_none h1 h33])
      by_cases h3 : typ = 33
      · have hn0 : ¬ (n : Int) = 0 := fun e => h33 ⟨h3, by omega⟩
        subst h3
        clear h33 h1
        go_wp2_with fail
        go_roundg (L.length - (k + 1))
        case measure => rw [Hg2.out]; omega
        case rel => exact ⟨k + 1, E, true, by go_num, by omega, HWC.out, HRC.out, by rw [← HL0.out]; exact HE2.out, rfl, HKN1.out, rfl⟩
      · have h3' : ¬ (typ : Int) = 33 := by omega
        clear h33 h1
        go_wp2_with fail
        go_roundg (L.length - (k + 1))
        case measure => rw [Hg2.out]; omega
        case rel => exact ⟨k + 1, E, true, by go_num, by omega, HWC.out, HRC.out, by rw [← HL0.out]; exact HE2.out, rfl, HKN1.out, rfl⟩
end Go.Proofs.YtbdfijgejkimnaaGreatDoor
/-! Answer's reference: Lookup, a record that is kept: up to its address, walked. -/
namespace Go.Proofs.YtbdfijgejkimnaaGreatDoor
open Go.Conc Go.RowKit Go.Maps

set_option maxRecDepth 100000 in
set_option maxHeartbeats 8000000 in
theorem keep24_of (hM : Hid goalM24) : goalK24 := by
  obtain ⟨i0, hi0, iz0, iz1, iz2⟩ := info_parts infoStr25
  obtain ⟨j0, hj0, jz0, jz1, jz2⟩ := info_parts infoRR24
  intro w most ttl r L l typ hl ht hn hty f n t KN HFF HNN HTT HKN lcap q1 q2 yleft0 na nc yk11 k2 W HNC HOW HSW HTE HGO HSZ yQp2 yK3 ygk4 wr u20 u21 u22 u23 u24 u25 u26 u27 u28 u29 u30 u31 u32 u33 yJ5 yK6 ya7 yhk8 hg hlt HSF HLF
      yleft9 fa fc yright10 HN1 HS1 HO yK11 ya12 hlt' yK13 ya14 gk wq u12 u15 u16 u17 u18 u19 yu3815 yu3916 yu4017 yu4118 yu4219 yu4320 yu4421 yu4522 yu4623 yu4724 yu4825 yu4926 yu5027 yu5128 yu5229 yu5330 yu5431 yu5532 yu5633
      yu5734 yu5835 yu5936 yu6037 yu6138 yu6239 yu6340 yu6441 yu6542 yu6643 yu6744 yu6845 yu6946 yu7047 yu7148 yu7249 yu7350 u74 yu7551 yu7652 yu7753 yu7854 yu7955 yu8056 yu8157 yu8258 yu8359 yu8460 yu8561 yu8662 yu8763 yu8864
      yu8965 yu9066 yu9167 yu9268 yu9369 yu9470 yu9571 yu9672 yu9773 yu9874 yu9975 yu10076 yu10177 yu10278 yu10379 yu10480 yu10581 yu10682 yu10783 yu10884 yu10985 yu11086 yu11187 yu11288 yu11389 yu11490 yu11591 yu11692 yu11793
      yu11894 yu11995 yu12096 yu12197 yu12298 yu12399 yu124100 yu125101 yu126102 yu127103 yu128104 yu129105 yu130106 yu131107 yu132108 yu133109 yu134110 yu135111 yu136112 yu137113 yu138114 yu139115 yu140116 yu141117 yu142118
      yu143119 yu144120 yu145121 yu146122 yu147123 yu148124 yJ125 yK126 ya127 k E kn hk hEl hlk hlk' hk0 lb off HC HBW ya128 ya129 k1 n1 o1 a1 g1 d1 HTO hgs HNO HTF HTY HAD HNG W15 hb1' hks HO2 HROW2 HE2 Hg2 HAO HRA HRS HB15 HOW15
      HSW15 HKNK yK130 ya131 yK132 ya133 yK134 ya135 x0 x1 x2 x3 x4 x5 u38 u39 u40 u41 u42 u43 u44 u45 u46 u47 u48 u49 u50 u51 u52 u53 u54 u55 u56 u57 u58 u59 u60 u61 u62 u63 u64 u65 u66 u67 u68 u69 u70 u71 u72 u73 u75 u76 u77 u78
      u79 u80 u81 u82 u83 u84 u85 u86 u87 u88 u89 u90 u91 u92 u93 u94 u95 u96 u97 u98 u99 u100 u101 u102 u103 u104 u105 u106 u107 u108 u109 u110 u111 u112 u113 u114 u115 u116 u117 u118 u119 u120 u121 u122 u123 u124 u125 u126 u127
      u128 u129 u130 u131 u132 u133 u134 u135 u136 u137 u138 u139 u140 u141 u142 u143 u144 u145 u146 u147 u148 HSK HTK HKM HKP
  have hg1 : g1 = false := by
    have := HKM.out
    cases g1 with
    | false => rfl
    | true => simp at this
  subst hg1
  have HTT2 := Lib.hid (HTK.out rfl)
  have hfa := HTF.out rfl
  have hyo := HTY.out rfl
  obtain ⟨oN, rfl⟩ : ∃ oN : Nat, o1 = oN := ⟨o1.toNat, by have := HNG.out; omega⟩
  have hor := HNG.out
  obtain ⟨tt, htt⟩ : ∃ tt : Nat, ttl - a1 = tt := ⟨(ttl - a1).toNat, by omega⟩
  have hw64 : IntKind.i64.wrap (tt : Int) = tt := by rw [IntKind.wrap_i64]; omega
  have hw32 : IntKind.u32.wrap (tt : Int) = tt := by rw [IntKind.wrap_u32]; omega
  have HRS2 := HRS.out
  have HRA2 := HRA.out
  rw [htt, Int.toNat_natCast] at HRS2 HRA2
  rw [Int.toNat_natCast] at HRS2
  have HRS3 := Lib.hid HRS2
  have HRA3 := Lib.hid HRA2
  clear HRS2 HRA2
  have hW15o : Only (fun _ => False) W W15 := HO2.out.trans HOW15.out
  have hr15 : RpRow24 W15 W.heap.size u12 E := HROW2.out.new HOW15.out
  obtain ⟨W16, hW16⟩ : ∃ W16, W16 = W15.alloc (.cells #[.int .i64 typ, .int .u32 tt, .int .u8 0, .int .u8 0, .int .u8 0, .int .u8 0, .int .u16 0, .int .u16 0, .int .u16 0, .slice none 0 0] 48) := ⟨_, rfl⟩
  have hbW16 : W16.heap[W15.heap.size]? = some (.cells #[.int .i64 typ, .int .u32 tt, .int .u8 0, .int .u8 0, .int .u8 0, .int .u8 0, .int .u16 0, .int .u16 0, .int .u16 0, .slice none 0 0] 48 (0, 0)) := by rw [hW16]; exact heap_alloc_new W15 _
  have hoW16 : Only (fun _ => False) W15 W16 := by rw [hW16]; exact (Only.refl _ _).alloc _
  have hsW16 : W16.heap.size = W15.heap.size + 1 := by rw [hW16]; simp
  have q5 := hoW16.cell x5 id
  have q2 := hoW16.cell x2 id
  have hds : d1.size = 10 := hfa.2.1
  have p0 : 0 < d1.size := by rw [hds]; decide
  have p1 : 1 < d1.size := by rw [hds]; decide
  have p2 : 2 < d1.size := by rw [hds]; decide
  have p3 : 3 < d1.size := by rw [hds]; decide
  have g0 := bA_get d1 0 p0
  have g1 := bA_get d1 1 p1
  have g2 := bA_get d1 2 p2
  have g3 := bA_get d1 3 p3
  have i1 : (1 : Int) < (d1.size : Int) := by omega
  have i2 : (2 : Int) < (d1.size : Int) := by omega
  have i3 : (3 : Int) < (d1.size : Int) := by omega
  have i0' : (0 : Int) < (d1.size : Int) := by omega
  have hb15s : W15.heap.size = wq.heap.size + 1 := HSW15.out
  have HO15 := Lib.hid hW15o
  have HR15 := Lib.hid hr15
  have HB16 := Lib.hid hbW16
  have HOW16 := Lib.hid hoW16
  have HSW16 := Lib.hid hsW16
  have HYO := Lib.hid hyo
  have HGS := Lib.hid hgs
  have HFA := Lib.hid hfa
  clear hW15o hr15 hbW16 hoW16 hsW16 hyo hgs hfa
  go_upto_region 16 with (fail)
  rw [← hW16]
  clear hW16 x0 x1 x3 x4 x5 x2
  obtain ⟨b0, hb0⟩ : ∃ b, b = bA d1 0 := ⟨_, rfl⟩
  obtain ⟨b1, hb1⟩ : ∃ b, b = bA d1 1 := ⟨_, rfl⟩
  obtain ⟨b2, hb2⟩ : ∃ b, b = bA d1 2 := ⟨_, rfl⟩
  obtain ⟨b3, hb3⟩ : ∃ b, b = bA d1 3 := ⟨_, rfl⟩
  rw [← hb0] at g0
  rw [← hb1] at g1
  rw [← hb2] at g2
  rw [← hb3] at g3
  have HADR := Lib.hid (show addrOf ⟨k1, n1, oN, a1, false, d1⟩ = (b0, b1, b2, b3) by rw [HAO.out, hb0, hb1, hb2, hb3])
  clear hb0 hb1 hb2 hb3
  go_cut [17] (fun v17 wx => ∃ B17, v17 = .pointer (some ⟨B17, 0, none⟩) ∧ Only (fun _ => False) W16 wx ∧ wx.heap[B17]? = some (.cells #[.int .u8 b0, .int .u8 b1, .int .u8 b2, .int .u8 b3] 44 (0, 0)) ∧ W16.heap.size ≤ B17)
  case first =>
    (try clear HADR)
    (try clear HFA)
    (try clear HGS)
    (try clear HYO)
    (try clear HSW16)
    (try clear HOW16)
    (try clear HR15)
    (try clear HO15)
    (try clear hb15s)
    (try clear q2)
    (try clear hw32)
    (try clear hw64)
    (try clear htt)
    (try clear hor)
    (try clear HKP)
    (try clear HNG)
    (try clear HTY)
    (try clear HTF)
    (try clear HKNK)
    (try clear HSW15)
    (try clear HOW15)
    (try clear Hg2)
    (try clear HE2)
    (try clear HROW2)
    (try clear HO2)
    (try clear hks)
    (try clear hb1')
    (try clear HC)
    (try clear hk0)
    (try clear hlk')
    (try clear hlk)
    (try clear hEl)
    (try clear hk)
    (try clear hlt')
    (try clear HO)
    (try clear HLF)
    (try clear HSF)
    (try clear hlt)
    (try clear HSZ)
    (try clear HGO)
    (try clear HTE)
    (try clear HSW)
    (try clear HOW)
    (try clear q1)
    (try clear HKN)
    (try clear HTT)
    (try clear HNN)
    (try clear HFF)
    (try clear jz2)
    (try clear jz1)
    (try clear jz0)
    (try clear hj0)
    (try clear iz2)
    (try clear iz1)
    (try clear iz0)
    (try clear hi0)
    have q5a : (W16.alloc (.cells #[.int .u8 0, .int .u8 0, .int .u8 0, .int .u8 0] 44)).cell? ⟨wq.heap.size, 5, none⟩ = some (.string d1) := kcN q5
    refine wp_region_held_drew (S := fun w' => w'.cell? ⟨wq.heap.size, 5, none⟩ = some (.string d1)) (by kernel_rfl) (by first | exact q5 | exact kcD q5 | exact q5a | exact kcN q5 | exact kcD (kcN q5) | exact kcN (kcD q5)) (fun hHeld => ?_)
    refine wpAnyH_takeD (d := some 83) (i := 0) (oi := _) (v := ?v1) rfl (by kernel_rfl) (by kernel_rfl) (by kernel_rfl) (by kernel_rfl) (fun _ _ _ h => h) (Or.inl ⟨by rfl, ?hy1⟩) hHeld ?rest1
    case hy1 =>
      intro w hSw
      try dsimp only at hSw
      go_simp
      try with_reducible rfl
    refine wpAnyH_act (a' := ?na1) ?ne1 ?nr1
    case ne1 =>
      try simp [Act.put]
      try rfl
    refine wpAnyH_takeD (d := some 84) (i := 1) (oi := _) (v := ?v2) rfl (by kernel_rfl) (by kernel_rfl) (by kernel_rfl) (by kernel_rfl) (fun _ _ _ h => h) (Or.inl ⟨by rfl, ?hy2⟩) hHeld ?rest2
    case hy2 =>
      intro w hSw
      try dsimp only at hSw
      go_simp
      try with_reducible rfl
    refine wpAnyH_act (a' := ?na2) ?ne2 ?nr2
    case ne2 =>
      try simp [Act.put]
      try rfl
    refine wpAnyH_takeD (d := some 85) (i := 2) (oi := _) (v := ?v3) rfl (by kernel_rfl) (by kernel_rfl) (by kernel_rfl) (by kernel_rfl) (fun _ _ _ h => h) (Or.inl ⟨by rfl, ?hy3⟩) hHeld ?rest3
    case hy3 =>
      intro w hSw
      try dsimp only at hSw
      go_simp
      try with_reducible rfl
    refine wpAnyH_act (a' := ?na3) ?ne3 ?nr3
    case ne3 =>
      try simp [Act.put]
      try rfl
    refine wpAnyH_takeD (d := some 86) (i := 3) (oi := _) (v := ?v4) rfl (by kernel_rfl) (by kernel_rfl) (by kernel_rfl) (by kernel_rfl) (fun _ _ _ h => h) (Or.inl ⟨by rfl, ?hy4⟩) hHeld ?rest4
    case hy4 =>
      intro w hSw
      try dsimp only at hSw
      go_simp
      try with_reducible rfl
    refine wpAnyH_act (a' := ?na4) ?ne4 ?nr4
    case ne4 =>
      try simp [Act.put]
      try rfl
    refine wpAnyH_takeD (d := some 87) (i := 4) (oi := _) (v := ?v5) rfl (by kernel_rfl) (by kernel_rfl) (by kernel_rfl) (by kernel_rfl) (fun _ _ _ h => h) (Or.inl ⟨by rfl, ?hy5⟩) hHeld ?rest5
    case hy5 =>
      intro w hSw
      try dsimp only at hSw
      go_simp
      try with_reducible rfl
    refine wpAnyH_act (a' := ?na5) ?ne5 ?nr5
    case ne5 =>
      try simp [Act.put]
      try rfl
    refine wpAnyH_takeD (d := some 88) (i := 5) (oi := _) (v := ?v6) rfl (by kernel_rfl) (by kernel_rfl) (by kernel_rfl) (by kernel_rfl) (fun _ _ _ h => h) (Or.inl ⟨by rfl, ?hy6⟩) hHeld ?rest6
    case hy6 =>
      intro w hSw
      try dsimp only at hSw
      go_simp
      try with_reducible rfl
    refine wpAnyH_act (a' := ?na6) ?ne6 ?nr6
    case ne6 =>
      try simp [Act.put]
      try rfl
    refine wpAnyH_takeD (d := some 89) (i := 6) (oi := _) (v := ?v7) rfl (by kernel_rfl) (by kernel_rfl) (by kernel_rfl) (by kernel_rfl) (fun _ _ _ h => h) (Or.inl ⟨by rfl, ?hy7⟩) hHeld ?rest7
    case hy7 =>
      intro w hSw
      try dsimp only at hSw
      go_simp
      try with_reducible rfl
    refine wpAnyH_act (a' := ?na7) ?ne7 ?nr7
    case ne7 =>
      try simp [Act.put]
      try rfl
    refine wpAnyH_takeD (d := some 90) (i := 7) (oi := _) (v := ?v8) rfl (by kernel_rfl) (by kernel_rfl) (by kernel_rfl) (by kernel_rfl) (fun _ _ _ h => h) (Or.inl ⟨by rfl, ?hy8⟩) hHeld ?rest8
    case hy8 =>
      intro w hSw
      try dsimp only at hSw
      go_simp
      try with_reducible rfl
    refine wpAnyH_act (a' := ?na8) ?ne8 ?nr8
    case ne8 =>
      try simp [Act.put]
      try rfl
    refine wpAnyH_takeD (d := some 91) (i := 8) (oi := _) (v := ?v9) rfl (by kernel_rfl) (by kernel_rfl) (by kernel_rfl) (by kernel_rfl) (fun _ _ _ h => h) (Or.inl ⟨by rfl, ?hy9⟩) hHeld ?rest9
    case hy9 =>
      intro w hSw
      try dsimp only at hSw
      go_simp
      try with_reducible rfl
    refine wpAnyH_act (a' := ?na9) ?ne9 ?nr9
    case ne9 =>
      try simp [Act.put]
      try rfl
    refine wpAnyH_takeD (d := some 92) (i := 9) (oi := _) (v := ?v10) rfl (by kernel_rfl) (by kernel_rfl) (by kernel_rfl) (by kernel_rfl) (fun _ _ _ h => h) (Or.inl ⟨by rfl, ?hy10⟩) hHeld ?rest10
    case hy10 =>
      intro w hSw
      try dsimp only at hSw
      go_simp
      try with_reducible rfl
    refine wpAnyH_act (a' := ?na10) ?ne10 ?nr10
    case ne10 =>
      try simp [Act.put]
      try rfl
    refine wpAnyH_takeD (d := some 93) (i := 10) (oi := _) (v := ?v11) rfl (by kernel_rfl) (by kernel_rfl) (by kernel_rfl) (by kernel_rfl) (fun _ _ _ h => h) (Or.inl ⟨by rfl, ?hy11⟩) hHeld ?rest11
    case hy11 =>
      intro w hSw
      try dsimp only at hSw
      go_simp
      try with_reducible rfl
    refine wpAnyH_act (a' := ?na11) ?ne11 ?nr11
    case ne11 =>
      try simp [Act.put]
      try rfl
    refine wpAnyH_takeD (d := some 94) (i := 11) (oi := _) (v := ?v12) rfl (by kernel_rfl) (by kernel_rfl) (by kernel_rfl) (by kernel_rfl) (fun _ _ _ h => h) (Or.inl ⟨by rfl, ?hy12⟩) hHeld ?rest12
    case hy12 =>
      intro w hSw
      try dsimp only at hSw
      go_simp
      try with_reducible rfl
    refine wpAnyH_act (a' := ?na12) ?ne12 ?nr12
    case ne12 =>
      try simp [Act.put]
      try rfl
    refine wpAnyH_takeD (d := some 95) (i := 12) (oi := _) (v := ?v13) rfl (by kernel_rfl) (by kernel_rfl) (by kernel_rfl) (by kernel_rfl) (fun _ _ _ h => h) (Or.inl ⟨by rfl, ?hy13⟩) hHeld ?rest13
    case hy13 =>
      intro w hSw
      try dsimp only at hSw
      go_simp
      try with_reducible rfl
    refine wpAnyH_act (a' := ?na13) ?ne13 ?nr13
    case ne13 =>
      try simp [Act.put]
      try rfl
    refine wpAnyH_ready (rs := [13]) (by kernel_rfl) (by simp) ?_
    refine AllReadyH.cons (o := _) rfl (fun K hK => ?_) AllReadyH.nil
    go_simp
    refine hK.out _ _ (by first | exact q5 | exact kcD q5 | exact q5a | exact kcN q5 | exact kcD (kcN q5) | exact kcN (kcD q5)) (fun hNew => ?_)
    clear hK K hHeld
    have hHeld := hNew
    clear hNew
    refine wpAnyH_act (a' := ?na14) ?ne14 ?nr14
    case ne14 =>
      try simp [Act.put]
      try rfl
    refine wpAnyH_ready (rs := [14]) (by kernel_rfl) (by simp) ?_
    refine AllReadyH.cons (o := _) rfl (fun K hK => ?_) AllReadyH.nil
    go_simp
    refine hK.out _ _ (by first | exact q5 | exact kcD q5 | exact q5a | exact kcN q5 | exact kcD (kcN q5) | exact kcN (kcD q5)) (fun hNew => ?_)
    clear hK K hHeld
    have hHeld := hNew
    clear hNew
    refine wpAnyH_act (a' := ?na15) ?ne15 ?nr15
    case ne15 =>
      try simp [Act.put]
      try rfl
    refine wpAnyH_done (by kernel_rfl) ?_ _
    go_wp2_with fail
    go_meet
    exact ⟨_, rfl, ((Only.refl _ _).alloc _).drew, heap_alloc_new _ _, Nat.le_refl _⟩
  case rest =>
    rename_i yq20 yu171 yu742 yu383 yu394 yu405 yu416 yu427 yu438 yu449 yu4510 yu4611 yu4712 yu4813 yu4914 yu5015 yu5116 yu5217 yu5318 yu5419 yu5520 yu5621 yu5722 yu5823 yu5924 yu6025 yu6126 yu6227 yu6328 yu6429 yu6530 yu6631 yu6732 yu6833 yu6934 yu7035 yu7136 yu7237 yu7338 yu7539 yu7640 yu7741 yu7842 yu7943 yu8044 yu8145 yu8246 yu8347 yu8448 yu8549 yu8650 yu8751 yu8852 yu8953 yu9054 yu9155 yu9256 yu9357 yu9458 yu9559 yu9660 yu9761 yu9862 yu9963 yu10064 yu10165 yu10266 yu10367 yu10468 yu10569 yu10670 yu10771 yu10872 yu10973 yu11074 yu11175 yu11276 yu11377 yu11478 yu11579 yu11680 yu11781 yu11882 yu11983 yu12084 yu12185 yu12286 yu12387 yu12488 yu12589 yu12690 yu12791 yu12892 yu12993 yu13094 yu13195 yu13296 yu13397 yu13498 yu13599 yu136100 yu137101 yu138102 yu139103 yu140104 yu141105 yu142106 yu143107 yu144108 yu145109 yu146110 yu147111 yu148112 yh113 yK114 ya115
    revert w most ttl r L l typ hl ht hn hty f n t KN HFF HNN HTT HKN lcap q1 yq20 yleft0 na nc yk11 k2 W HNC HOW HSW HTE HGO HSZ yQp2 yK3 ygk4 wr u20 u21 u22 u23 u24 u25 u26 u27 u28 u29 u30 u31 u32 u33 yJ5 yK6 ya7 yhk8 hg hlt HSF
        HLF yleft9 fa fc yright10 HN1 HS1 HO yK11 ya12 hlt' yK13 ya14 gk wq u12 u15 u16 yu171 u18 u19 yu3815 yu3916 yu4017 yu4118 yu4219 yu4320 yu4421 yu4522 yu4623 yu4724 yu4825 yu4926 yu5027 yu5128 yu5229 yu5330 yu5431 yu5532
        yu5633 yu5734 yu5835 yu5936 yu6037 yu6138 yu6239 yu6340 yu6441 yu6542 yu6643 yu6744 yu6845 yu6946 yu7047 yu7148 yu7249 yu7350 yu742 yu7551 yu7652 yu7753 yu7854 yu7955 yu8056 yu8157 yu8258 yu8359 yu8460 yu8561 yu8662 yu8763
        yu8864 yu8965 yu9066 yu9167 yu9268 yu9369 yu9470 yu9571 yu9672 yu9773 yu9874 yu9975 yu10076 yu10177 yu10278 yu10379 yu10480 yu10581 yu10682 yu10783 yu10884 yu10985 yu11086 yu11187 yu11288 yu11389 yu11490 yu11591 yu11692
        yu11793 yu11894 yu11995 yu12096 yu12197 yu12298 yu12399 yu124100 yu125101 yu126102 yu127103 yu128104 yu129105 yu130106 yu131107 yu132108 yu133109 yu134110 yu135111 yu136112 yu137113 yu138114 yu139115 yu140116 yu141117
        yu142118 yu143119 yu144120 yu145121 yu146122 yu147123 yu148124 yJ125 yK126 ya127 k E kn hk hEl hlk hlk' hk0 lb off HC HBW ya128 ya129 k1 n1 a1 d1 W15 hb1' hks HO2 HROW2 HE2 Hg2 HOW15 HSW15 HKNK yK130 ya131 yu383 yu394 yu405
        yu416 yu427 yu438 yu449 yu4510 yu4611 yu4712 yu4813 yu4914 yu5015 yu5116 yu5217 yu5318 yu5419 yu5520 yu5621 yu5722 yu5823 yu5924 yu6025 yu6126 yu6227 yu6328 yu6429 yu6530 yu6631 yu6732 yu6833 yu6934 yu7035 yu7136 yu7237
        yu7338 yu7539 yu7640 yu7741 yu7842 yu7943 yu8044 yu8145 yu8246 yu8347 yu8448 yu8549 yu8650 yu8751 yu8852 yu8953 yu9054 yu9155 yu9256 yu9357 yu9458 yu9559 yu9660 yu9761 yu9862 yu9963 yu10064 yu10165 yu10266 yu10367 yu10468
        yu10569 yu10670 yu10771 yu10872 yu10973 yu11074 yu11175 yu11276 yu11377 yu11478 yu11579 yu11680 yu11781 yu11882 yu11983 yu12084 yu12185 yu12286 yu12387 yu12488 yu12589 yu12690 yu12791 yu12892 yu12993 yu13094 yu13195 yu13296
        yu13397 yu13498 yu13599 yu136100 yu137101 yu138102 yu139103 yu140104 yu141105 yu142106 yu143107 yu144108 yu145109 yu146110 yu147111 yu148112 HSK HTF HTY oN HNG HTO HNO HAD HAO HRA HRS HB15 HTK HKM HKP HTT2 hor tt htt hw64
        hw32 HRS3 HRA3 W16 q5 q2 hds p0 p1 p2 p3 i1 i2 i3 i0' hb15s HO15 HR15 HB16 HOW16 HSW16 HYO HGS HFA yh113 yK114 ya115 b0 g0 b1 g1 b2 g2 b3 g3 HADR wc u17 u38 u39 u40 u41 u42 u43 u44 u45 u46 u47 u48 u49 u50 u51 u52 u53 u54 u55
        u56 u57 u58 u59 u60 u61 u62 u63 u64 u65 u66 u67 u68 u69 u70 u71 u72 u73 u74 u75 u76 u77 u78 u79 u80 u81 u82 u83 u84 u85 u86 u87 u88 u89 u90 u91 u92 u93 u94 u95 u96 u97 u98 u99 u100 u101 u102 u103 u104 u105 u106 u107 u108 u109
        u110 u111 u112 u113 u114 u115 u116 u117 u118 u119 u120 u121 u122 u123 u124 u125 u126 u127 u128 u129 u130 u131 u132 u133 u134 u135 u136 u137 u138 u139 u140 u141 u142 u143 u144 u145 u146 u147 u148 hcut
    exact hM.out
end Go.Proofs.YtbdfijgejkimnaaGreatDoor
/-! Answer's reference: Lookup, joined. -/
namespace Go.Proofs.YtbdfijgejkimnaaGreatDoor
open Go.Conc Go.RowKit Go.Maps
theorem rlookup_any : RLookupSaid := rlookup_of (Lib.hid (keep24_of (Lib.hid kept24)))
end Go.Proofs.YtbdfijgejkimnaaGreatDoor
/-! bellhoplaw25.speaks. -/
namespace Go.Proofs.YtbdfijgejkimnaaGreatDoor
open Go.Conc Go.RowKit Go.Maps

theorem strsNew (w : World) (l : List ByteArray) (hn : l.length ≤ 1000) : Sl (w.alloc (.cells (l.map .string).toArray 9)) 1 (.slice (some ⟨w.heap.size, 0, none⟩) l.length l.length) l.length (l.map .string) :=
  Sl.fresh w _ _ l.length 1 (by simp) (by unfold maxLen; omega)
theorem rowCells {w : World} {base : Nat} {v : Value} {x : RR} {E : List RRv} (h : RpRow w base v E) (hm : E.map (·.r) = [x]) : ∃ b off c tv, v = .slice (some ⟨b, off, none⟩) 1 c ∧ (∀ i u, (rrC ⟨x, tv⟩)[i]? = some u → w.cell? ⟨b, off + i, none⟩ = some u) ∧ Sl w 1 tv x.tgt.length (x.tgt.map .string) := by
  obtain ⟨e, rfl⟩ : ∃ e, E = [e] := by
    match E, hm with
    | [e], _ => exact ⟨e, rfl⟩
  simp only [List.map_cons, List.map_nil, List.cons.injEq, and_true] at hm
  obtain ⟨sa, cap, rfl, q1, q2, q3⟩ := Sl.cells rrC_length (Sl.of_owns h.row)
  obtain ⟨b, off, rfl, hc⟩ := q3.at 0 (by simp)
  obtain ⟨r, tv⟩ := e
  dsimp only at hm
  subst hm
  have ht := Sl.of_owns (h.tgt ⟨r, tv⟩ (by simp))
  exact ⟨b, off, cap, tv, rfl, fun i u hu => by simpa using hc i u hu, ht⟩
theorem sp25_dbl : lookM 100 [sp25X] ([dbS, bellS].map foldS) 1 = [] := lookM_nil sp25_db
theorem sp25_dbk : decide (heldM [sp25X] ([dbS, bellS].map foldS) ≠ []) = false := by rw [sp25_db]; simp
theorem itoa7 : itoaB 7 = ⟨#[55]⟩ := by unfold itoaB; rw [dec_small (by decide)]; rfl
set_option maxRecDepth 100000 in
set_option maxHeartbeats 4000000 in
theorem speaks25_any (w : World) (m : Int) (hE : EnvW w m) : Calls Tryz.prog 8 #[] w fun e w' => e = .returned (.bool true) ∧ Only (fun _ => False) w w' := by
  obtain ⟨W, hW⟩ : ∃ W, W = w.alloc (.cells #[.int .u8 6, .int .u8 0, .int .u8 5, .int .u16 80, .bool false, .int .u8 0] 80) := ⟨_, rfl⟩
  have hbW : W.heap[w.heap.size]? = some (.cells #[.int .u8 6, .int .u8 0, .int .u8 5, .int .u16 80, .bool false, .int .u8 0] 80 (0, 0)) := by rw [hW]; exact heap_alloc_new w _
  have hoW : Only (fun _ => False) w W := by rw [hW]; exact (Only.refl _ _).alloc _
  have hsW : W.heap.size = w.heap.size + 1 := by rw [hW]; simp
  have hsl : Sl W 6 (.slice (some ⟨w.heap.size, 0, none⟩) 1 1) [sp25].length ([sp25].flatMap recBC) := by rw [hW]; exact Sl.fresh w _ _ 1 6 rfl (by unfold maxLen; decide)
  have hEW := hE.new hoW
  have hmade := made25_any W m hEW.max _ [sp25] hsl (fun a ha => by rw [List.mem_singleton.1 ha]; exact sp25_row)
  unfold MadeB at hmade
  rw [sp25_made] at hmade
  have HMADE := Lib.hid hmade
  have HOW := Lib.hid hoW
  have HE := Lib.hid hEW
  clear hmade hoW hEW
  clear hsl hbW hsW hE
  go_enter Tryz.func8, Tryz.ntmps8
  go_wp2_with fail
  rw [← hW]
  clear hW
  refine HMADE.out.mono ?_
  rintro e w1 ⟨s1, b1, r1, q1, v1, rfl, ho1, hs1, hb1, hst1, hr1, hr2, hr3, hr4, hsl1⟩
  obtain ⟨va, vcap, rfl, _⟩ := Sl.cells recC_length hsl1
  unfold rstV
  have HO1 := Lib.hid (HOW.out.trans ho1)
  have HE1 := Lib.hid (HE.out.new ho1)
  have HST := Lib.hid hst1
  clear ho1 hs1 hb1 hst1 hsl1 hr1 hr2 hr3 hr4 HMADE
  obtain ⟨V1, hV1⟩ : ∃ V1, V1 = w1.alloc (.cells #[.int .i64 48, .int .i64 100, .slice va 1 vcap, .int .i64 q1] 27) := ⟨_, rfl⟩
  have hbV1 : V1.heap[w1.heap.size]? = some (.cells #[.int .i64 48, .int .i64 100, .slice va 1 vcap, .int .i64 q1] 27 (0, 0)) := by rw [hV1]; exact heap_alloc_new w1 _
  have hoV1 : Only (fun _ => False) w1 V1 := by rw [hV1]; exact (Only.refl _ _).alloc _
  have hsV1 : V1.heap.size = w1.heap.size + 1 := by rw [hV1]; simp
  have HO2 := Lib.hid (HO1.out.trans hoV1)
  have HE2 := Lib.hid (HE1.out.new hoV1)
  have HSE := Lib.hid (sees_store (HST.out.new hoV1) HE2.out.max (fun x hx => by rw [List.mem_singleton.1 hx]; exact (rec25_bd sp25).1))
  clear hoV1 hbV1 hsV1 HST HE1 HO1
  go_upto_region 2 with (fail)
  rw [← hV1]
  clear hV1
  obtain ⟨V2, hV2⟩ : ∃ V2, V2 = V1.alloc (.cells #[.string ⟨#[87, 69, 66]⟩, .string ⟨#[98, 101, 108, 108]⟩] 9) := ⟨_, rfl⟩
  have hbV2 : V2.heap[V1.heap.size]? = some (.cells #[.string ⟨#[87, 69, 66]⟩, .string ⟨#[98, 101, 108, 108]⟩] 9 (0, 0)) := by rw [hV2]; exact heap_alloc_new V1 _
  have hoV2 : Only (fun _ => False) V1 V2 := by rw [hV2]; exact (Only.refl _ _).alloc _
  have hsV2 : V2.heap.size = V1.heap.size + 1 := by rw [hV2]; simp
  have hsl3 := strsNew V1 [webU, bellS] (by decide)
  have hlk3 := lookup_any V2 m 100 (.pointer (some ⟨s1, 0, none⟩)) (.slice (some ⟨V1.heap.size, 0, none⟩) 2 2) [sp25X] [webU, bellS] 33 (HE2.out.new hoV2) (HSE.out.new hoV2) ⟨_, rfl⟩ (by rw [hV2]; exact hsl3) (by decide) (by intro s hs; simp only [List.mem_cons, List.not_mem_nil, or_false] at hs; rcases hs with rfl | rfl | rfl <;> decide)
  rw [sp25_srv, sp25_srvk, show ((33 : Nat) : Int) = 33 from rfl] at hlk3
  have HLK3 := Lib.hid hlk3
  have HOB3 := Lib.hid (HO2.out.trans hoV2)
  clear hlk3 hsl3 hbV2 hsV2
  go_wp2_with fail
  rw [← hV2]
  refine HLK3.out.mono ?_
  rintro e w3 ⟨v3, E3, rfl, ho3, hrow3, hmap3⟩
  have HO3 := Lib.hid (HOB3.out.trans ho3)
  have HE3 := Lib.hid ((HE2.out.new hoV2).new ho3)
  have HS3 := Lib.hid ((HSE.out.new hoV2).new ho3)
  have HOA3 := Lib.hid (hoV2.trans ho3)
  clear ho3 hoV2 hV2 HLK3
  obtain ⟨b1', o1, c1, tv1, rfl, hc1, ht1⟩ := rowCells hrow3 hmap3
  obtain ⟨htl, ta, tc, rfl, _, _, hta⟩ := id ht1
  obtain ⟨tb, tof, rfl, hts⟩ := hta.resolve_left (by show ¬ (3 : Nat) = 0; decide)
  have hp8 := hc1 8 _ rfl
  have hp9 := hc1 9 _ rfl
  have hts0 := hts 0 (.string ⟨#[55]⟩) (by rw [← itoa7]; rfl)
  rw [Nat.add_zero] at hts0
  have HP8 := Lib.hid hp8
  have HP9 := Lib.hid hp9
  have HTS := Lib.hid hts0
  clear hp8 hp9 hts0
  clear hrow3 hmap3 hc1 ht1 hts hta htl
  go_upto_region 3 with (fail)
  obtain ⟨V4, hV4⟩ : ∃ V4, V4 = w3.alloc (.cells #[.string ⟨#[55]⟩, .string ⟨#[110, 111, 100, 101]⟩, .string ⟨#[98, 101, 108, 108]⟩] 9) := ⟨_, rfl⟩
  have hbV4 : V4.heap[w3.heap.size]? = some (.cells #[.string ⟨#[55]⟩, .string ⟨#[110, 111, 100, 101]⟩, .string ⟨#[98, 101, 108, 108]⟩] 9 (0, 0)) := by rw [hV4]; exact heap_alloc_new w3 _
  have hoV4 : Only (fun _ => False) w3 V4 := by rw [hV4]; exact (Only.refl _ _).alloc _
  have hsV4 : V4.heap.size = w3.heap.size + 1 := by rw [hV4]; simp
  have hsl5 := strsNew w3 [sevS, nodeS, bellS] (by decide)
  have hlk5 := lookup_any V4 m 100 (.pointer (some ⟨s1, 0, none⟩)) (.slice (some ⟨w3.heap.size, 0, none⟩) 3 3) [sp25X] [sevS, nodeS, bellS] 1 (HE3.out.new hoV4) (HS3.out.new hoV4) ⟨_, rfl⟩ (by rw [hV4]; exact hsl5) (by decide) (by intro s hs; simp only [List.mem_cons, List.not_mem_nil, or_false] at hs; rcases hs with rfl | rfl | rfl <;> decide)
  rw [sp25_a, sp25_ak, show ((1 : Nat) : Int) = 1 from rfl] at hlk5
  have HLK5 := Lib.hid hlk5
  have HOB5 := Lib.hid (HO3.out.trans hoV4)
  clear hlk5 hsl5 hbV4 hsV4
  go_wp2_with fail
  rw [← hV4]
  refine HLK5.out.mono ?_
  rintro e w5 ⟨v5, E5, rfl, ho5, hrow5, hmap5⟩
  have HO5 := Lib.hid (HOB5.out.trans ho5)
  have HE5 := Lib.hid ((HE3.out.new hoV4).new ho5)
  have HS5 := Lib.hid ((HS3.out.new hoV4).new ho5)
  have HOA5 := Lib.hid (hoV4.trans ho5)
  clear ho5 hoV4 hV4 HLK5
  obtain ⟨b2', o2, c2, tv2, rfl, hc2, ht2⟩ := rowCells hrow5 hmap5
  have hd2 := hc2 2 _ rfl
  have hd3 := hc2 3 _ rfl
  have hd4 := hc2 4 _ rfl
  have hd5 := hc2 5 _ rfl
  have HD2 := Lib.hid hd2
  have HD3 := Lib.hid hd3
  have HD4 := Lib.hid hd4
  have HD5 := Lib.hid hd5
  clear hd2 hd3 hd4 hd5
  clear hrow5 hmap5 hc2 ht2
  go_upto_region 4 with (fail)
  obtain ⟨V6, hV6⟩ : ∃ V6, V6 = w5.alloc (.cells #[.string ⟨#[100, 98]⟩, .string ⟨#[98, 101, 108, 108]⟩] 9) := ⟨_, rfl⟩
  have hbV6 : V6.heap[w5.heap.size]? = some (.cells #[.string ⟨#[100, 98]⟩, .string ⟨#[98, 101, 108, 108]⟩] 9 (0, 0)) := by rw [hV6]; exact heap_alloc_new w5 _
  have hoV6 : Only (fun _ => False) w5 V6 := by rw [hV6]; exact (Only.refl _ _).alloc _
  have hsV6 : V6.heap.size = w5.heap.size + 1 := by rw [hV6]; simp
  have hsl7 := strsNew w5 [dbS, bellS] (by decide)
  have hlk7 := lookup_any V6 m 100 (.pointer (some ⟨s1, 0, none⟩)) (.slice (some ⟨w5.heap.size, 0, none⟩) 2 2) [sp25X] [dbS, bellS] 1 (HE5.out.new hoV6) (HS5.out.new hoV6) ⟨_, rfl⟩ (by rw [hV6]; exact hsl7) (by decide) (by intro s hs; simp only [List.mem_cons, List.not_mem_nil, or_false] at hs; rcases hs with rfl | rfl | rfl <;> decide)
  rw [sp25_dbl, sp25_dbk, show ((1 : Nat) : Int) = 1 from rfl] at hlk7
  have HLK7 := Lib.hid hlk7
  have HOB7 := Lib.hid (HO5.out.trans hoV6)
  clear hlk7 hsl7 hbV6 hsV6
  go_wp2_with fail
  rw [← hV6]
  refine HLK7.out.mono ?_
  rintro e w7 ⟨v7, E7, rfl, ho7, hrow7, hmap7⟩
  have HO7 := Lib.hid (HOB7.out.trans ho7)
  have HE7 := Lib.hid ((HE5.out.new hoV6).new ho7)
  have HS7 := Lib.hid ((HS5.out.new hoV6).new ho7)
  have HOA7 := Lib.hid (hoV6.trans ho7)
  clear ho7 hoV6 hV6 HLK7
  clear hrow7 hmap7
  go_upto_region 5 with (fail)
  obtain ⟨V8, hV8⟩ : ∃ V8, V8 = w7.alloc (.cells #[.string ⟨#[100, 98]⟩, .string ⟨#[98, 101, 108, 108]⟩] 9) := ⟨_, rfl⟩
  have hbV8 : V8.heap[w7.heap.size]? = some (.cells #[.string ⟨#[100, 98]⟩, .string ⟨#[98, 101, 108, 108]⟩] 9 (0, 0)) := by rw [hV8]; exact heap_alloc_new w7 _
  have hoV8 : Only (fun _ => False) w7 V8 := by rw [hV8]; exact (Only.refl _ _).alloc _
  have hsV8 : V8.heap.size = w7.heap.size + 1 := by rw [hV8]; simp
  have hask := ask_ok V8 (.slice (some ⟨w7.heap.size, 0, none⟩) 2 2) 1 1 [dbS, bellS] (by rw [hV8]; exact strsNew w7 [dbS, bellS] (by decide)) sp25_may (by decide) (by decide)
  rw [show ((1 : Nat) : Int) = 1 from rfl] at hask
  have hrs0 := fun W hE hS => respond_any W m 100 (.pointer (some ⟨s1, 0, none⟩)) [sp25X] ⟨(askMsg 1 [dbS, bellS] 1).toArray⟩ hE hS ⟨_, rfl⟩ (by show 12 ≤ (askMsg 1 [dbS, bellS] 1).length; rw [askMsg_len]; omega) (by show (askMsg 1 [dbS, bellS] 1).length ≤ 100000; rw [askMsg_len]; have := (may_size sp25_may).1; omega) (by rw [headD_ask (by decide)]; rfl)
  rw [sp25_resp] at hrs0
  have hpar := fun W => repParse_any W (askQ 1 [dbS, bellS] 1) (askQ_ok (by decide) (by decide) sp25_may) (fun h => by cases h) 3 (by decide) [] (fun x hx => by cases hx) (by decide) (.inl rfl)
  rw [List.take_nil, show decide (fitN (askQ 1 [dbS, bellS] 1) [] < ([] : List RR).length) = false from decide_eq_false (Nat.not_lt_zero _)] at hpar
  unfold ParseP at hpar
  rw [show ((3 : Nat) : Int) = 3 from rfl] at hpar
  generalize (⟨(askMsg 1 [dbS, bellS] 1).toArray⟩ : ByteArray) = MS at *
  generalize (⟨(repB (askQ 1 [dbS, bellS] 1) 3 []).toArray⟩ : ByteArray) = RS at *
  have HASK := Lib.hid hask
  have HRS0 := Lib.hid hrs0
  have HPAR := Lib.hid hpar
  clear hask hrs0 hpar
  clear hbV8 hsV8
  go_wp2_with fail
  rw [← hV8]
  clear hV8
  refine HASK.out.mono ?_
  rintro e w9 ⟨rfl, ho9⟩
  have HO9 := Lib.hid (HO7.out.trans (hoV8.trans ho9))
  have HOA9 := Lib.hid (hoV8.trans ho9)
  have HRS1 := Lib.hid (HRS0.out w9 (HE7.out.new HOA9.out) (HS7.out.new HOA9.out))
  clear hoV8 ho9 HASK
  go_wp2_with fail
  refine HRS1.out.mono ?_
  rintro e w10 ⟨rfl, ho10⟩
  have HO10 := Lib.hid (HO9.out.trans ho10)
  have HOA10 := Lib.hid (HOA9.out.trans ho10)
  clear ho10
  go_wp2_with fail
  refine (HPAR.out w10).mono ?_
  rintro e w11 ⟨v11, nv, E11, rfl, ho11, hrow11, hmap11, own11⟩
  obtain ⟨_, na, nc, rfl, _⟩ := id (Sl.of_owns own11)
  have HO11 := Lib.hid (HO10.out.trans ho11)
  have HOA11 := Lib.hid (HOA10.out.trans ho11)
  have HZ : Only (fun _ => False) w3 w11 := (HOA5.out.trans HOA7.out).trans HOA11.out
  have HZ5 : Only (fun _ => False) w5 w11 := HOA7.out.trans HOA11.out
  clear hrow11 hmap11 own11 ho11
  have hqi := infoQq (hdQ (askQ 1 [dbS, bellS] 1) (askQ 1 [dbS, bellS] 1).asked.toNat) (askQ 1 [dbS, bellS] 1).asked (.slice na (askQ 1 [dbS, bellS] 1).name.length nc) (askQ 1 [dbS, bellS] 1).typ (askQ 1 [dbS, bellS] 1).cls
  have hqo := qC_one (hdQ (askQ 1 [dbS, bellS] 1) (askQ 1 [dbS, bellS] 1).asked.toNat) (askQ 1 [dbS, bellS] 1).asked (.slice na (askQ 1 [dbS, bellS] 1).name.length nc) (askQ 1 [dbS, bellS] 1).typ (askQ 1 [dbS, bellS] 1).cls rfl
  generalize (qC (hdQ (askQ 1 [dbS, bellS] 1) (askQ 1 [dbS, bellS] 1).asked.toNat) (askQ 1 [dbS, bellS] 1).asked (.slice na (askQ 1 [dbS, bellS] 1).name.length nc) (askQ 1 [dbS, bellS] 1).typ (askQ 1 [dbS, bellS] 1).cls).toArray = QA at *
  have HQI := Lib.hid hqi
  have HQO := Lib.hid hqo
  clear hqi hqo
  have y8 := HZ.cell HP8.out id
  have y9 := HZ.cell HP9.out id
  have yt := HZ.cell HTS.out id
  have d2 := HZ5.cell HD2.out id
  have d3 := HZ5.cell HD3.out id
  have d4 := HZ5.cell HD4.out id
  have d5 := HZ5.cell HD5.out id
  rw [show ((80 : Nat) : Int) = 80 from rfl] at y8
  rw [show ((10 : Nat) : Int) = 10 from rfl] at d2
  rw [show ((0 : Nat) : Int) = 0 from rfl] at d3 d4
  rw [show ((5 : Nat) : Int) = 5 from rfl] at d5
  have hqz : QA.size = 17 := by have h := HQI.out; rw [infoQ] at h; exact (Option.some.inj h).symm
  have HQZ := Lib.hid hqz
  clear HZ HZ5 hqz
  go_upto_region 8 with ((with_reducible refine wpList_store_row (o := ⟨none, .store 55 (.tmp 13) (.tmp 56), _, _, _, none⟩) rfl _ _ _ rfl (w11.heap.size) QA ?_ ?_ 55 _ (heap_alloc_new w11 _) HQI.out ?_ HQO.out ?_); (· rfl); (· rfl); (· rw [HQZ.out]; rfl))
  have ho13 : Only (fun _ => False) w11 ((w11.alloc (.cells #[.int .u16 0, .bool false, .int .u8 0, .bool false, .bool false, .bool false, .bool false, .int .u8 0, .int .u8 0, .int .u16 0, .int .u16 0, .int .u16 0, .int .u16 0, .bool false, .slice none 0 0, .int .u16 0, .int .u16 0] 55)).setRow w11.heap.size QA) := ((Only.refl _ _).alloc _).setRow (.inl (Nat.le_refl _)) _
  generalize (w11.alloc (.cells #[.int .u16 0, .bool false, .int .u8 0, .bool false, .bool false, .bool false, .bool false, .int .u8 0, .int .u8 0, .int .u16 0, .int .u16 0, .int .u16 0, .int .u16 0, .bool false, .slice none 0 0, .int .u16 0, .int .u16 0] 55)).setRow w11.heap.size QA = w13 at *
  have y8' := ho13.cell y8 id
  have y9' := ho13.cell y9 id
  have yt' := ho13.cell yt id
  have d2' := ho13.cell d2 id
  have d3' := ho13.cell d3 id
  have d4' := ho13.cell d4 id
  have d5' := ho13.cell d5 id
  have heq : ∀ w : World, (binOp BinOp.eql 44 (.agg #[.int .u8 10, .int .u8 0, .int .u8 0, .int .u8 5]) (.agg #[.int .u8 10, .int .u8 0, .int .u8 0, .int .u8 5])).run Tryz.prog w = .ok (.bool true) w := fun w => eqArr w 10 0 0 5 10 0 0 5
  have HO13 := Lib.hid (HO11.out.trans ho13)
  clear ho13 y8 y9 yt d2 d3 d4 d5
  go_wp2_with fail
  go_ret
  exact ⟨rfl, HO13.out⟩
end Go.Proofs.YtbdfijgejkimnaaGreatDoor
/-! From a walk that returns true and touches nothing that was there to the row's post; the arguments' readings as 'Sl'. -/
namespace Go.Proofs.YtbdfijgejkimnaaGreatDoor
open Go.Conc Go.RowKit Go.ChangeShapes Go.WideShapes Go.ChangeAt Go.WideMaps Go.WideElems

theorem trodAll_stays {H : Type} {enc : TypeId × Value → H} {P : Program} (hl : laidOutB P = true) {W W' : World} (hb : Below W.heap.size W W') :
    ∀ (ts : List TypeId) (vs : List Value) (ds : List (DataW H)) (ps : List MemPlace), (∀ t ∈ ts, P.readableRec t = true ∧ t < P.types.size) →
      DataW.TrodAll enc P W 0 (fun _ => true) true ts vs ds ps → (∀ x ∈ ps, x.block < W.heap.size) → DataW.TrodAll enc P W' 0 (fun b => decide (b < W.heap.size)) true ts vs ds ps
  | [], [], [], _, _, h, _ => h
  | t :: ts, v :: vs, d :: ds, _, ht, h, hlt => by
    obtain ⟨p, q, h1, h2, rfl⟩ := h
    obtain ⟨r1, r2⟩ := ht t (by simp)
    exact ⟨p, q, Below.trod hl r1 r2 h1 hb (fun x hx => hlt x (by simp [hx])), trodAll_stays hl hb ts vs ds q (fun t' h' => ht t' (by simp [h'])) h2 (fun x hx => hlt x (by simp [hx])), rfl⟩

/-- THE POST OF A LAW: it has returned true, and below the heap's old size nothing has changed. -/
theorem law_post {H : Type} {enc : TypeId × Value → H} {P : Program} {f : Func} {s : ChangeSpec} {apart fresh handsOn : Bool} {W W' : World} {args : Array Value} {ds gs : List (DataW H)} {before : List MemPlace} {tb : TypeId}
    (hW : DataW.Whole enc P f.params.toList s.vars apart W args.toList ds gs before) (hb : Below W.heap.size W W') (hl : laidOutB P = true) (hr : ∀ t ∈ f.params.toList, P.readableRec t = true ∧ t < P.types.size)
    (hrt : f.resultTypes = #[tb]) (htb : P.underlying tb = some .bool) (hv : s.vars = []) (e1 : (s.fn H (ds ++ gs)).results = [.lit (.bool true)]) (e2 : (s.fn H (ds ++ gs)).args = ds) (e3 : (s.fn H (ds ++ gs)).vars = []) :
    s.post enc P f apart fresh handsOn false W args (.bool true) W' := by
  have hW' := hW
  obtain ⟨p, q, hA, hV, rfl, _, _⟩ := hW
  rw [hv] at hV
  obtain ⟨rfl, rfl⟩ := trodVars_none hV
  simp only [List.append_nil] at hW' e1 e2 e3
  have hlt : ∀ x ∈ p, x.block < W.heap.size := fun x hx => by simpa using hW'.lt x hx
  refine ⟨ds, [], p, [], p, [], hW', ?_, ?_, ?_, hb.frame _, fun h => by cases h⟩
  · rw [List.append_nil, e1, hrt]
    exact trodAll_mk1 (shut_bool htb _)
  · rw [List.append_nil, e2]
    exact trodAll_stays hl hb _ _ _ _ hr hA hlt
  · rw [List.append_nil, e3, hv]
    rfl

theorem spot_of {w : World} {a : Addr} {u : Value} (h : w.cell? a = some u) : a.spot = none := World.cell?_spot h

section
variable {H : Type} {enc : TypeId × Value → H} {P : Program} {w : World} {base : Nat} {spare : Nat → Bool} {held : Bool} {t e : TypeId} {v : Value} {d : DataW H} {ps : List MemPlace}

theorem sl_of_row {size : Nat} {a : Addr} {len cap : Nat} {xs : List Value} (hsz : 0 < size) (hx : xs.length = len * size) (hl : len ≤ cap) (hm : cap ≤ maxLen) (hc : ∀ j u, xs[j]? = some u → w.cell? (a.add j) = some u) : Sl w size (.slice (some a) len cap) len xs := by
  refine ⟨hx, _, cap, rfl, hl, hm, ?_⟩
  by_cases h0 : len = 0
  · exact .inl h0
  · have hpos : 0 < xs.length := by rw [hx]; exact Nat.mul_pos (by omega) hsz
    have h1 := hc 0 xs[0] (by simp)
    obtain ⟨b, off, spot⟩ := a
    have hs : spot = none := by simpa [Addr.add] using World.cell?_spot h1
    subst hs
    exact .inr ⟨b, off, rfl, fun j u hu => by rw [← Addr.add_lit]; exact hc j u hu⟩

/-- A slice of integers that came in. -/
theorem sl_ints {k : IntKind} (ht : P.underlying t = some (.slice e)) (he : P.underlying e = some (.int k)) (hc : P.cellsOf e = 1) (hok : Value.okWide P w .any base t v) (h : DataW.Trod enc P w 0 (fun _ => true) held t v d ps) :
    ∃ zs : List Int, Sl w 1 v zs.length (zs.map (.int k)) ∧ ∀ z ∈ zs, (Lit.int k z).wf = true := by
  obtain ⟨a0, n0, c0, rfl⟩ := okWide_slice ht hok
  obtain ⟨fuel, hf⟩ := h
  rcases open_ints ht he hc hf with ⟨hcs, -⟩ | ⟨a, len', cap', zs, hcs, _, hl, hm, hz, -, hcell, hwz⟩
  · simp [Value.cells] at hcs
    obtain ⟨rfl, rfl, rfl⟩ := hcs
    exact ⟨[], Sl.nil _ _, by simp⟩
  · simp [Value.cells] at hcs
    obtain ⟨rfl, rfl, rfl⟩ := hcs
    simp only [if_true] at hz
    have hlen : (zs.take n0).length = n0 := by rw [List.length_take]; omega
    refine ⟨zs.take n0, ?_, fun z h => hwz z (List.mem_of_mem_take h)⟩
    refine (sl_of_row (by decide) (by simp; omega) hl hm ?_ : Sl w 1 _ n0 _).cast hlen.symm
    intro j u hu
    simp only [List.getElem?_map, Option.map_eq_some_iff] at hu
    obtain ⟨z, hz1, rfl⟩ := hu
    have hj : j < n0 := by have := (List.getElem?_eq_some_iff.1 hz1).1; omega
    rw [hcell j (by omega)]
    rw [List.getElem?_take] at hz1
    rw [if_pos hj] at hz1
    simp [List.getD, hz1]

/-- A slice of strings that came in. -/
theorem sl_strs (ht : P.underlying t = some (.slice e)) (he : P.underlying e = some .string) (hc : P.cellsOf e = 1) (hok : Value.okWide P w .any base t v) (h : DataW.Trod enc P w 0 (fun _ => true) held t v d ps) :
    ∃ ss : List ByteArray, Sl w 1 v ss.length (ss.map .string) ∧ ∀ s ∈ ss, s.size ≤ maxLen := by
  obtain ⟨a0, n0, c0, rfl⟩ := okWide_slice ht hok
  obtain ⟨fuel, hf⟩ := h
  rcases open_strings ht he hc hf with ⟨hcs, -⟩ | ⟨a, len', cap', zs, hcs, _, hl, hm, hz, -, hcell, hwz⟩
  · simp [Value.cells] at hcs
    obtain ⟨rfl, rfl, rfl⟩ := hcs
    exact ⟨[], Sl.nil _ _, by simp⟩
  · simp [Value.cells] at hcs
    obtain ⟨rfl, rfl, rfl⟩ := hcs
    simp only [if_true] at hz
    have hlen : (zs.take n0).length = n0 := by rw [List.length_take]; omega
    refine ⟨zs.take n0, ?_, fun z h => hwz z (List.mem_of_mem_take h)⟩
    refine (sl_of_row (by decide) (by simp; omega) hl hm ?_ : Sl w 1 _ n0 _).cast hlen.symm
    intro j u hu
    simp only [List.getElem?_map, Option.map_eq_some_iff] at hu
    obtain ⟨z, hz1, rfl⟩ := hu
    have hj : j < n0 := by have := (List.getElem?_eq_some_iff.1 hz1).1; omega
    rw [hcell j (by omega)]
    rw [List.getElem?_take] at hz1
    rw [if_pos hj] at hz1
    simp [List.getD, hz1]
theorem sl_strs_cell {fuel : Nat} {x : DataW H × List MemPlace} (ht : P.underlying t = some (.slice e)) (he : P.underlying e = some .string) (hc : P.cellsOf e = 1) (hf : DataW.trod enc P w 0 (fun _ => true) held fuel t [v] = some x) :
    ∃ ss : List ByteArray, Sl w 1 v ss.length (ss.map .string) ∧ ∀ s ∈ ss, s.size ≤ maxLen := by
  rcases open_strings ht he hc hf with ⟨hcs, -⟩ | ⟨a, n0, cap', zs, hcs, _, hl, hm, hz, -, hcell, hwz⟩
  · simp at hcs
    subst hcs
    exact ⟨[], Sl.nil _ _, by simp⟩
  · simp at hcs
    subst hcs
    simp only [if_true] at hz
    have hlen : (zs.take n0).length = n0 := by rw [List.length_take]; omega
    refine ⟨zs.take n0, ?_, fun z h => hwz z (List.mem_of_mem_take h)⟩
    refine (sl_of_row (by decide) (by simp; omega) hl hm ?_ : Sl w 1 _ n0 _).cast hlen.symm
    intro j u hu
    simp only [List.getElem?_map, Option.map_eq_some_iff] at hu
    obtain ⟨z, hz1, rfl⟩ := hu
    have hj : j < n0 := by have := (List.getElem?_eq_some_iff.1 hz1).1; omega
    rw [hcell j (by omega)]
    rw [List.getElem?_take] at hz1
    rw [if_pos hj] at hz1
    simp [List.getD, hz1]
/-- A slice of slices of strings that came in (they may share memory). -/
theorem sl_rows {s : TypeId} (ht : P.underlying t = some (.slice e)) (he : P.underlying e = some (.slice s)) (hs : P.underlying s = some .string) (hc : P.cellsOf e = 1) (hc2 : P.cellsOf s = 1) (hok : Value.okWide P w .any base t v) (h : DataW.Trod enc P w 0 (fun _ => true) held t v d ps) :
    ∃ xs : List Value, Sl w 1 v xs.length xs ∧ ∀ x ∈ xs, ∃ l : List ByteArray, Sl w 1 x l.length (l.map .string) ∧ ∀ s ∈ l, s.size ≤ maxLen := by
  obtain ⟨a0, n0, c0, rfl⟩ := okWide_slice ht hok
  obtain ⟨fuel, hf⟩ := h
  rcases Deep.open_slice1 ht hc hf with ⟨hcs, -⟩ | ⟨a, len', cap', m, n, V, D, Pl, hcs, _, hl, hm, hmm, -, hel⟩
  · simp [Value.cells] at hcs
    obtain ⟨rfl, rfl, rfl⟩ := hcs
    exact ⟨[], Sl.nil _ _, by simp⟩
  · simp [Value.cells] at hcs
    obtain ⟨rfl, rfl, rfl⟩ := hcs
    simp only [if_true] at hmm
    refine ⟨(List.range n0).map V, ?_, fun x hx => ?_⟩
    · refine (sl_of_row (by decide) (by simp) hl hm ?_ : Sl w 1 _ n0 _).cast (by simp)
      intro j u hu
      simp only [List.getElem?_map, Option.map_eq_some_iff] at hu
      obtain ⟨i, hi1, rfl⟩ := hu
      obtain ⟨hi2, hi3⟩ := List.getElem?_eq_some_iff.1 hi1
      simp at hi2 hi3
      subst hi3
      exact (hel j (by omega)).1
    · obtain ⟨i, hi, rfl⟩ := List.mem_map.1 hx
      have hi : i < n0 := by simpa using hi
      exact sl_strs_cell he hs hc2 (hel i (by omega)).2
/-- A slice of bools that came in. -/
theorem sl_bools (ht : P.underlying t = some (.slice e)) (he : P.underlying e = some .bool) (hc : P.cellsOf e = 1) (hok : Value.okWide P w .any base t v) (h : DataW.Trod enc P w 0 (fun _ => true) held t v d ps) :
    ∃ zs : List Bool, Sl w 1 v zs.length (zs.map .bool) := by
  obtain ⟨a0, n0, c0, rfl⟩ := okWide_slice ht hok
  obtain ⟨fuel, hf⟩ := h
  rcases Deep.open_slice1 ht hc hf with ⟨hcs, -⟩ | ⟨a, len', cap', m, n, V, D, Pl, hcs, _, hl, hm, hmm, -, hel⟩
  · simp [Value.cells] at hcs
    obtain ⟨rfl, rfl, rfl⟩ := hcs
    exact ⟨[], Sl.nil _ _⟩
  · simp [Value.cells] at hcs
    obtain ⟨rfl, rfl, rfl⟩ := hcs
    simp only [if_true] at hmm
    have each : ∀ i, i < n0 → ∃ b : Bool, w.cell? (a.add i) = some (.bool b) := by
      intro i hi
      obtain ⟨h1, h2⟩ := hel i (by omega)
      obtain ⟨b, h3, -⟩ := DataW.trod_bool he h2
      simp at h3
      exact ⟨b, by rw [h1, h3]⟩
    obtain ⟨f, hf2⟩ := Deep.choose_lt each
    refine ⟨(List.range n0).map f, ?_⟩
    refine (sl_of_row (by decide) (by simp) hl hm ?_ : Sl w 1 _ n0 _).cast (by simp)
    intro j u hu
    simp only [List.map_map, List.getElem?_map, Option.map_eq_some_iff] at hu
    obtain ⟨i, hi1, rfl⟩ := hu
    obtain ⟨hi2, hi3⟩ := List.getElem?_eq_some_iff.1 hi1
    simp at hi2 hi3
    subst hi3
    simpa using hf2 j hi2
end
end Go.Proofs.YtbdfijgejkimnaaGreatDoor
/-! The step from a walk to a row that lists tables, with the world's shape at hand. -/
namespace Go.Proofs.YtbdfijgejkimnaaGreatDoor
open Go.Conc Go.RowKit Go.ChangeShapes Go.WideShapes Go.ChangeAt

theorem returns_laid {a : Assume} {C : Checked} {os : Os} {f : FuncId} {fn : Func} {s : ChangeSpec} {conds : List PathCond} {apart fresh handsOn again : Bool} {H : Type} {enc : TypeId × Value → H} {X : World → Array Value → Prop}
    (hX : ∀ (w w' : World) (args : Array Value), w.heap = w'.heap → X w args → X w' args) (own : ownKnob C.prog.godebug = none) (started : os.Started) (noInit : C.prog.inits.idxOf? f = none) (hfn : C.prog.funcs[f]? = some fn)
    (witness : ∃ (w : World) (tape : Tape) (i : Input), w.os = os ∧ (w.forCall tape i).Shaped C.prog ∧ i.vars = [] ∧ Input.okWide C.prog (w.forCall tape i) .any w.heap.size f i ∧
      ((s.pre enc C.prog fn conds apart (w.forCall tape i).memory i.args ∧ X (w.forCall tape i).memory i.args) ∧ sizedMet enc C.prog fn (OpenSpec.ofChange s) apart (w.forCall tape i).memory i.args) ∧ a.holds C.prog (lone (Frame.enter C.prog f i.args .normal) [] (w.forCall tape i)))
    (walk : ∀ (W : World) (base : Nat) (args : Array Value) (ds gs : List (DataW H)) (before : List MemPlace),
      (∀ (j : Nat) t v, fn.params[j]? = some t → args[j]? = some v → Value.okWide C.prog W .any base t v) → DataW.Whole enc C.prog fn.params.toList s.vars apart W args.toList ds gs before →
      X W args → W.ShapedOpen C.prog → Calls C.prog f args W fun e W' => ∃ v, e = .returned v ∧ s.post enc C.prog fn apart fresh handsOn again W args v W') :
    ReturnsInHanded a C os f .any (fun w args => (s.pre enc C.prog fn conds apart w args ∧ X w args) ∧ sizedMet enc C.prog fn (OpenSpec.ofChange s) apart w args) (s.post enc C.prog fn apart fresh handsOn again) := by
  refine returnsInHanded_of_calls own started noInit witness fun w tape i _ hsh _ hok hpre _ => ?_
  obtain ⟨_, _, _, fn', h1, _, _, _, _, hval⟩ := hok
  obtain rfl : fn' = fn := Option.some.inj (h1.symm.trans hfn)
  obtain ⟨⟨⟨ds, gs, before, hw, _⟩, hx⟩, _⟩ := hpre
  refine (walk (w.forCall tape i) w.heap.size i.args ds gs before hval (DataW.Whole.of_heap (w' := w.forCall tape i) (by rfl) hw) (hX _ _ _ (by rfl) hx) hsh).mono fun e W' ⟨v, he, hp⟩ => ?_
  subst he
  exact ChangeSpec.post_blind hp
theorem ownD : ownKnob Tryz.prog.godebug = none := by kernel_rfl
theorem laidOutD : laidOutB Tryz.prog = true := by kernel_rfl
theorem maxLen_cell (W : World) (h : W.ShapedOpen Tryz.prog) : ∃ m, W.cell? ⟨0, 0, none⟩ = some (.int .i64 m) := Tryz.laysM219.s1_3 W h
end Go.Proofs.YtbdfijgejkimnaaGreatDoor
