/- What region 23 of bellhoplaw26.ServicePlays does. -/
import Derived.Test.YtianboachknfmaaDoorSH
/-! What region 23 of bellhoplaw26.ServicePlays does. -/
namespace Go.Proofs.YtianboachknfmaaDoor
open Go.Conc Go.RowKit Go.Maps

set_option maxRecDepth 100000 in
set_option maxHeartbeats 8000000 in
theorem plays26_part : goal23 := by
  intro w m self n0 n1 n2 l w0 w1 w2 cap c1 c2 W zQp0 u1 q1 q2 q3 q4 q5 q3' q3'' q4' q5' u3 V hmx hm0 zh0 zK0 za0 M b x zJ0 zKp0 za1 gk wr u6 u12 u13 u14 u15 u16 u17 u18 u19 u20 u21 u22 u23 u24 u25 u26 u27 u28 u29 zu860 zu870 zu880 zu890 zu900
    zu910 zu920 zu930 zu940 zu950 zu960 zu970 zu980 zu990 zu1000 zu1010 zu1020 zu1030 u104 zu1050 zu1060 zu1070 zu1080 zu1090 zu1100 zu1110 zu1120 zu1130 zu1140 zu1150 zu1160 zu1170 zu1180 zu1190 zu1200 zu1210 zu1220 zu1230 zu1240 zu1250 zu1260
    zu1270 zu1280 zu1290 zu1300 zu1310 zu1320 zu1330 zu1340 zu1350 zu1360 zu1370 zu1380 zu1390 zu1400 u141 zu1420 zu1430 zu1440 zu1450 zu1460 zu1470 zu1480 zu1490 zu1500 zu1510 zu1520 zu1530 zu1540 zu1550 zu1560 zu1570 zu1580 zu1590 zu1600 zu1610
    zu1620 zu1630 zu1640 zu1650 zu1660 zu1670 u168 zu1690 zu1700 zu1710 zu1720 zu1730 zu1740 zu1750 zu1760 zu1770 zu1780 zu1790 zu1800 zu1810 zu1820 zu1830 zu1840 zu1850 zu1860 zu1870 zu1880 zu1890 zu1900 zu1910 zu1920 zu1930 zu1940 zu1950 zu1960
    zu1970 zu1980 zu1990 zu2000 zu2010 zu2020 zu2030 zu2040 zu2050 zu2060 zu2070 zu2080 zu2090 zu2100 zu2110 zu2120 zu2130 zu2140 zu2150 zu2160 zu2170 zu2180 zu2190 zu2200 zu2210 zu2220 zJ1 zK1 za2 i now k zleft0 va vcap zright0 bb off za3 za4
    what nm a0 a1 a2 a3 p U zK2 za5 zK3 za6 A u86 u87 u88 u89 u90 u91 u92 u93 u94 u95 u96 u97 u98 u99 u100 u101 u102 u103 u105 u106 u107 u108 u109 u110 u111 u112 u113 u114 u115 u116 u117 u118 u119 u120 u121 u122 u123 u124 u125 u126 u127 u128
    u129 u130 u131 u132 u133 u134 u135 u136 u137 u138 u139 u140 u142 u143 u144 u145 u146 u147 u148 u149 u150 u151 u152 u153 u154 u155 u156 u157 u158 u159 u160 u161 u162 u163 u164 u165 u166 u167 u169 u170 u171 u172 u173 u174 u175 u176 u177 u178
    u179 u180 u181 u182 u183 u184 u185 u186 u187 u188 u189 u190 u191 u192 u193 u194 u195 u196 u197 u198 u199 u200 u201 u202 u203 u204 u205 u206 u207 u208 u209 u210 u211 u212 u213 u214 u215 u216 u217 u218 u219 u220 u221 u222 zJ2 zKp1 za7 za8 nn
    HNM hn64 K2 E k2 v2 o2 t2 g2 D2 HRW u4 u5 U6 HSL zK4 za9 C hU6s HCC zJ3 zKp2 za10 za11
  refine' join_by4 (F := fun KB RB a9 c9 wj => wj.heap[KB]? = some (.cells #[.int .i64 0, .int .u64 0, .int .u64 0, .int .i64 0, .int .i64 0, .slice none 0 0] 72 (0, 0)) ∧ wj.heap[RB]? = some (.cells #[.string ⟨#[]⟩, .int .u64 0, .int .i64 0, .int .i64 0, .bool false, .string ⟨#[]⟩] 35 (0, 0)) ∧ ¬ KB = RB ∧ U6.heap.size ≤ KB ∧ U6.heap.size ≤ RB ∧ VSl wj (.slice a9 K2.own.length c9) K2.own ∧ Only (fun _ => False) U6 wj) ?main ?hj
  case main =>
    intro hJ0
    have HJ := Lib.hid hJ0
    clear hJ0
    refine wp_region_G_drew (fun w' => Only (fun _ => False) U6 w' ∧ w'.cell? ⟨M, 0, none⟩ = some (.int .i64 k.self) ∧ w'.cell? ⟨M, 1, none⟩ = some (.int .u64 k.life) ∧ w'.cell? ⟨M, 2, none⟩ = some (.int .u64 k.count) ∧ w'.cell? ⟨M, 3, none⟩ = some (.int .i64 k.every) ∧ w'.cell? ⟨M, 4, none⟩ = some (.int .i64 now) ∧ w'.cell? ⟨M, 5, none⟩ = some (.slice va k.own.length vcap) ∧ w'.cell? ⟨A, 0, none⟩ = some (.int .i64 what) ∧ w'.cell? ⟨A, 1, none⟩ = some (.string nm) ∧ w'.cell? ⟨A, 2, none⟩ = some (.int .u8 a0) ∧ w'.cell? ⟨A, 3, none⟩ = some (.int .u8 a1) ∧ w'.cell? ⟨A, 4, none⟩ = some (.int .u8 a2) ∧ w'.cell? ⟨A, 5, none⟩ = some (.int .u8 a3) ∧ w'.cell? ⟨A, 6, none⟩ = some (.int .u16 p)) (fun w' => True) 10 (by kernel_rfl) (heldO HCC.out (by (repeat (first | (with_reducible assumption) | (with_reducible exact Only.refl _ _) | (with_reducible refine Only.drew ?_) | (with_reducible refine Only.alloc ?_ _) | (with_reducible refine onlySet ?_ (by first | (with_reducible assumption) | omega) _) | (with_reducible refine Only.trans ?_ (by with_reducible assumption)))))) (fun hHeld => ?_)
    refine wpAnyG_takeD (d := some 151) (i := 0) (oi := _) (v := ?v1) rfl (by kernel_rfl) (by kernel_rfl) (by kernel_rfl) (by kernel_rfl) (by kernel_rfl) rfl (by rfl) (fun _ _ _ h => h) (Or.inl ⟨by rfl, ?hy1⟩) hHeld ?rest1
    case hy1 =>
      intro w hSw
      try dsimp only at hSw
      go_simp
      try with_reducible rfl
    refine wpAnyG_act (a' := ?na1) ?ne1 ?nr1
    case ne1 =>
      try simp only [Act.put, List.setIfInBounds_toArray, List.set_cons_zero, List.set_cons_succ]
      try rfl
    refine wpAnyG_takeD (d := some 152) (i := 1) (oi := _) (v := ?v2) rfl (by kernel_rfl) (by kernel_rfl) (by kernel_rfl) (by kernel_rfl) (by kernel_rfl) rfl (by rfl) (fun _ _ _ h => h) (Or.inl ⟨by rfl, ?hy2⟩) hHeld ?rest2
    case hy2 =>
      intro w hSw
      try dsimp only at hSw
      go_simp
      try with_reducible rfl
    refine wpAnyG_act (a' := ?na2) ?ne2 ?nr2
    case ne2 =>
      try simp only [Act.put, List.setIfInBounds_toArray, List.set_cons_zero, List.set_cons_succ]
      try rfl
    refine wpAnyG_ready (rs := [2, 8, 9]) (by kernel_rfl) (by simp) ?_
    refine AllReadyG.cons (o := _) rfl (fun K hK => ?_) ?_
    · go_simp
      go_at_call 30
      refine (HNM.out _).mono ?_
      rintro e w8 ⟨rfl, ho8⟩
      have o8 : Only (fun _ => False) U6 w8 := by
        refine Only.trans (b := _) ?_ ho8
        (repeat (first | (with_reducible assumption) | (with_reducible exact Only.refl _ _) | (with_reducible refine Only.drew ?_) | (with_reducible refine Only.alloc ?_ _) | (with_reducible refine onlySet ?_ (by first | (with_reducible assumption) | omega) _) | (with_reducible refine Only.trans ?_ (by with_reducible assumption))))
      have hz8 : U6.heap.size ≤ w8.heap.size := o8.size
      go_wp2_with fail
      refine hK.out _ _ (Gn.start (by kernel_rfl) (heldO HCC.out (by (repeat (first | (with_reducible assumption) | (with_reducible exact Only.refl _ _) | (with_reducible refine Only.drew ?_) | (with_reducible refine Only.alloc ?_ _) | (with_reducible refine onlySet ?_ (by first | (with_reducible assumption) | omega) _) | (with_reducible refine Only.trans ?_ (by with_reducible assumption))))))) (fun hNew => ?_)
      clear hK K hHeld
      have hHeld := Gn.outS (by kernel_rfl) hNew
      clear hNew
      refine wpAnyG_act (a' := ?na3) ?ne3 ?nr3
      case ne3 =>
        try simp only [Act.put, List.setIfInBounds_toArray, List.set_cons_zero, List.set_cons_succ]
        try rfl
      refine wpAnyG_ready (rs := [3, 8, 9]) (by kernel_rfl) (by simp) ?_
      refine AllReadyG.cons (o := _) rfl (fun K hK => ?_) ?_
      · go_simp
        go_at_call 31
        refine (HRW.out _ (HSL.out.new (by (repeat (first | (with_reducible assumption) | (with_reducible exact Only.refl _ _) | (with_reducible refine Only.drew ?_) | (with_reducible refine Only.alloc ?_ _) | (with_reducible refine onlySet ?_ (by first | (with_reducible assumption) | omega) _) | (with_reducible refine Only.trans ?_ (by with_reducible assumption))))))).mono ?_
        rintro e w9 ⟨v9, rfl, ho9, hv9⟩
        obtain ⟨_, a9, c9, rfl, _⟩ := id hv9
        have o9 : Only (fun _ => False) U6 w9 := by
          refine Only.trans (b := _) ?_ ho9
          (repeat (first | (with_reducible assumption) | (with_reducible exact Only.refl _ _) | (with_reducible refine Only.drew ?_) | (with_reducible refine Only.alloc ?_ _) | (with_reducible refine onlySet ?_ (by first | (with_reducible assumption) | omega) _) | (with_reducible refine Only.trans ?_ (by with_reducible assumption))))
        have p9 : Only (fun _ => False) w8 w9 := by
          refine Only.trans (b := _) ?_ ho9
          (repeat (first | (with_reducible assumption) | (with_reducible exact Only.refl _ _) | (with_reducible refine Only.drew ?_) | (with_reducible refine Only.alloc ?_ _) | (with_reducible refine onlySet ?_ (by first | (with_reducible assumption) | omega) _) | (with_reducible refine Only.trans ?_ (by with_reducible assumption))))
        have hz9 : w8.heap.size ≤ w9.heap.size := p9.size
        go_wp2_with fail
        refine hK.out _ _ (Gn.start (by kernel_rfl) (heldO HCC.out (by (repeat (first | (with_reducible assumption) | (with_reducible exact Only.refl _ _) | (with_reducible refine Only.drew ?_) | (with_reducible refine Only.alloc ?_ _) | (with_reducible refine onlySet ?_ (by first | (with_reducible assumption) | omega) _) | (with_reducible refine Only.trans ?_ (by with_reducible assumption))))))) (fun hNew => ?_)
        clear hK K hHeld
        have hHeld := Gn.outS (by kernel_rfl) hNew
        clear hNew
        refine wpAnyG_act (a' := ?na4) ?ne4 ?nr4
        case ne4 =>
          try simp only [Act.put, List.setIfInBounds_toArray, List.set_cons_zero, List.set_cons_succ]
          try rfl
        refine wpAnyG_takeWD (d := some 150) (i := 4) (oi := _) (v := ?v3) rfl (by kernel_rfl) (by kernel_rfl) (by kernel_rfl) (by kernel_rfl) (by kernel_rfl) (fun _ _ _ h => h) (Or.inl ⟨by rfl, ?hy3⟩) (Gn.start (by kernel_rfl) hHeld) ?rest3
        case hy3 =>
          intro w _
          go_simp
          try with_reducible rfl
        refine wpAnyG_act (a' := ?na5) ?ne5 ?nr5
        case ne5 =>
          try simp only [Act.put, List.setIfInBounds_toArray, List.set_cons_zero, List.set_cons_succ]
          try rfl
        refine wpAnyG_takeWD (d := some 155) (i := 5) (oi := _) (v := ?v4) rfl (by kernel_rfl) (by kernel_rfl) (by kernel_rfl) (by kernel_rfl) (by kernel_rfl) (fun _ _ _ h => h) (Or.inl ⟨by rfl, ?hy4⟩) (Gn.start (by kernel_rfl) hHeld) ?rest4
        case hy4 =>
          intro w _
          go_simp
          try with_reducible rfl
        refine wpAnyG_act (a' := ?na6) ?ne6 ?nr6
        case ne6 =>
          try simp only [Act.put, List.setIfInBounds_toArray, List.set_cons_zero, List.set_cons_succ]
          try rfl
        refine wpAnyG_takeWD (d := some 156) (i := 6) (oi := _) (v := ?v5) rfl (by kernel_rfl) (by kernel_rfl) (by kernel_rfl) (by kernel_rfl) (by kernel_rfl) (fun _ _ _ h => h) (Or.inl ⟨by rfl, ?hy5⟩) (Gn.start (by kernel_rfl) hHeld) ?rest5
        case hy5 =>
          intro w _
          go_simp
          try with_reducible rfl
        refine wpAnyG_act (a' := ?na7) ?ne7 ?nr7
        case ne7 =>
          try simp only [Act.put, List.setIfInBounds_toArray, List.set_cons_zero, List.set_cons_succ]
          try rfl
        refine wpAnyG_takeWD (d := some 157) (i := 7) (oi := _) (v := ?v6) rfl (by kernel_rfl) (by kernel_rfl) (by kernel_rfl) (by kernel_rfl) (by kernel_rfl) (fun _ _ _ h => h) (Or.inl ⟨by rfl, ?hy6⟩) (Gn.start (by kernel_rfl) hHeld) ?rest6
        case hy6 =>
          intro w _
          go_simp
          try with_reducible rfl
        refine wpAnyG_act (a' := ?na8) ?ne8 ?nr8
        case ne8 =>
          try simp only [Act.put, List.setIfInBounds_toArray, List.set_cons_zero, List.set_cons_succ]
          try rfl
        refine wpAnyG_ready (rs := [8, 9]) (by kernel_rfl) (by simp) ?_
        refine AllReadyG.cons (o := _) rfl (fun K hK => ?_) ?_
        · go_simp
          refine hK.out _ _ (Gn.start (by kernel_rfl) (heldO HCC.out (by (repeat (first | (with_reducible assumption) | (with_reducible exact Only.refl _ _) | (with_reducible refine Only.drew ?_) | (with_reducible refine Only.alloc ?_ _) | (with_reducible refine onlySet ?_ (by first | (with_reducible assumption) | omega) _) | (with_reducible refine Only.trans ?_ (by with_reducible assumption))))))) (fun hNew => ?_)
          clear hK K hHeld
          have hHeld := Gn.outS (by kernel_rfl) hNew
          clear hNew
          refine wpAnyG_act (a' := ?na9) ?ne9 ?nr9
          case ne9 =>
            try simp only [Act.put, List.setIfInBounds_toArray, List.set_cons_zero, List.set_cons_succ]
            try rfl
          refine wpAnyG_ready (rs := [9]) (by kernel_rfl) (by simp) ?_
          refine AllReadyG.cons (o := _) rfl (fun K hK => ?_) AllReadyG.nil
          go_simp
          refine hK.out _ _ (Gn.start (by kernel_rfl) (heldO HCC.out (by (repeat (first | (with_reducible assumption) | (with_reducible exact Only.refl _ _) | (with_reducible refine Only.drew ?_) | (with_reducible refine Only.alloc ?_ _) | (with_reducible refine onlySet ?_ (by first | (with_reducible assumption) | omega) _) | (with_reducible refine Only.trans ?_ (by with_reducible assumption))))))) (fun hNew => ?_)
          clear hK K hHeld
          have hHeld := Gn.outS (by kernel_rfl) hNew
          clear hNew
          refine wpAnyG_act (a' := ?na10) ?ne10 ?nr10
          case ne10 =>
            try simp only [Act.put, List.setIfInBounds_toArray, List.set_cons_zero, List.set_cons_succ]
            try rfl
          refine wpAnyG_at (fuel' := 3) (listed' := #[true, true, true, true, true, true, true, true, true, true, false, false, false]) (by kernel_rfl) (by kernel_rfl) ?_
          refine wpAnyG_joinW (fun wj => wj.heap[w9.heap.size]? = some (.cells #[.int .i64 0, .int .u64 0, .int .u64 0, .int .i64 0, .int .i64 0, .slice none 0 0] 72 (0, 0)) ∧ wj.heap[w9.heap.size + 1]? = some (.cells #[.string ⟨#[]⟩, .int .u64 0, .int .i64 0, .int .i64 0, .bool false, .string ⟨#[]⟩] 35 (0, 0)) ∧ ¬ w9.heap.size = w9.heap.size + 1 ∧ U6.heap.size ≤ w9.heap.size ∧ U6.heap.size ≤ w9.heap.size + 1 ∧ VSl wj (.slice a9 K2.own.length c9) K2.own ∧ Only (fun _ => False) U6 wj) ?_ (fun wj hwj => ?_)
          · refine ⟨?_, ?_, by omega, by omega, by omega, hv9.new ?_, ?_⟩
            · (apply Eq.trans; (case h₁ => repeat (first | (with_reducible assumption) | (with_reducible exact heap_alloc_new _ _) | (with_reducible apply blk_new; (repeat (first | (with_reducible rfl) | (with_reducible apply sz_set) | (with_reducible apply sz_alloc) | (with_reducible apply sz_drew))); done) | (with_reducible apply blk_same) | (with_reducible apply blk_ne; case hn => (first | assumption | omega)) | (with_reducible apply blk_old) | (with_reducible apply blk_drew))); (case h₂ => rfl))
            · (apply Eq.trans; (case h₁ => repeat (first | (with_reducible assumption) | (with_reducible exact heap_alloc_new _ _) | (with_reducible apply blk_new; (repeat (first | (with_reducible rfl) | (with_reducible apply sz_set) | (with_reducible apply sz_alloc) | (with_reducible apply sz_drew))); done) | (with_reducible apply blk_same) | (with_reducible apply blk_ne; case hn => (first | assumption | omega)) | (with_reducible apply blk_old) | (with_reducible apply blk_drew))); (case h₂ => rfl))
            · (repeat (first | (with_reducible assumption) | (with_reducible exact Only.refl _ _) | (with_reducible refine Only.drew ?_) | (with_reducible refine Only.alloc ?_ _) | (with_reducible refine onlySet ?_ (by first | (with_reducible assumption) | omega) _) | (with_reducible refine Only.trans ?_ (by with_reducible assumption))))
            · (repeat (first | (with_reducible assumption) | (with_reducible exact Only.refl _ _) | (with_reducible refine Only.drew ?_) | (with_reducible refine Only.alloc ?_ _) | (with_reducible refine onlySet ?_ (by first | (with_reducible assumption) | omega) _) | (with_reducible refine Only.trans ?_ (by with_reducible assumption))))
          generalize w9.heap.size + 1 = RB at hwj ⊢
          generalize w9.heap.size = KB at hwj ⊢
          exact HJ.out KB RB a9 c9 wj hwj
        refine AllReadyG.cons (o := _) rfl (fun K hK => ?_) AllReadyG.nil
        go_simp
        refine hK.out _ _ (Gn.start (by kernel_rfl) (heldO HCC.out (by (repeat (first | (with_reducible assumption) | (with_reducible exact Only.refl _ _) | (with_reducible refine Only.drew ?_) | (with_reducible refine Only.alloc ?_ _) | (with_reducible refine onlySet ?_ (by first | (with_reducible assumption) | omega) _) | (with_reducible refine Only.trans ?_ (by with_reducible assumption))))))) (fun hNew => ?_)
        clear hK K hHeld
        have hHeld := Gn.outS (by kernel_rfl) hNew
        clear hNew
        refine wpAnyG_act (a' := ?na11) ?ne11 ?nr11
        case ne11 =>
          try simp only [Act.put, List.setIfInBounds_toArray, List.set_cons_zero, List.set_cons_succ]
          try rfl
        refine wpAnyG_ready (rs := [8]) (by kernel_rfl) (by simp) ?_
        refine AllReadyG.cons (o := _) rfl (fun K hK => ?_) AllReadyG.nil
        go_simp
        refine hK.out _ _ (Gn.start (by kernel_rfl) (heldO HCC.out (by (repeat (first | (with_reducible assumption) | (with_reducible exact Only.refl _ _) | (with_reducible refine Only.drew ?_) | (with_reducible refine Only.alloc ?_ _) | (with_reducible refine onlySet ?_ (by first | (with_reducible assumption) | omega) _) | (with_reducible refine Only.trans ?_ (by with_reducible assumption))))))) (fun hNew => ?_)
        clear hK K hHeld
        have hHeld := Gn.outS (by kernel_rfl) hNew
        clear hNew
        refine wpAnyG_act (a' := ?na12) ?ne12 ?nr12
        case ne12 =>
          try simp only [Act.put, List.setIfInBounds_toArray, List.set_cons_zero, List.set_cons_succ]
          try rfl
        refine wpAnyG_at (fuel' := 3) (listed' := #[true, true, true, true, true, true, true, true, true, true, false, false, false]) (by kernel_rfl) (by kernel_rfl) ?_
        refine wpAnyG_joinW (fun wj => wj.heap[w9.heap.size + 1]? = some (.cells #[.int .i64 0, .int .u64 0, .int .u64 0, .int .i64 0, .int .i64 0, .slice none 0 0] 72 (0, 0)) ∧ wj.heap[w9.heap.size]? = some (.cells #[.string ⟨#[]⟩, .int .u64 0, .int .i64 0, .int .i64 0, .bool false, .string ⟨#[]⟩] 35 (0, 0)) ∧ ¬ w9.heap.size + 1 = w9.heap.size ∧ U6.heap.size ≤ w9.heap.size + 1 ∧ U6.heap.size ≤ w9.heap.size ∧ VSl wj (.slice a9 K2.own.length c9) K2.own ∧ Only (fun _ => False) U6 wj) ?_ (fun wj hwj => ?_)
        · refine ⟨?_, ?_, by omega, by omega, by omega, hv9.new ?_, ?_⟩
          · (apply Eq.trans; (case h₁ => repeat (first | (with_reducible assumption) | (with_reducible exact heap_alloc_new _ _) | (with_reducible apply blk_new; (repeat (first | (with_reducible rfl) | (with_reducible apply sz_set) | (with_reducible apply sz_alloc) | (with_reducible apply sz_drew))); done) | (with_reducible apply blk_same) | (with_reducible apply blk_ne; case hn => (first | assumption | omega)) | (with_reducible apply blk_old) | (with_reducible apply blk_drew))); (case h₂ => rfl))
          · (apply Eq.trans; (case h₁ => repeat (first | (with_reducible assumption) | (with_reducible exact heap_alloc_new _ _) | (with_reducible apply blk_new; (repeat (first | (with_reducible rfl) | (with_reducible apply sz_set) | (with_reducible apply sz_alloc) | (with_reducible apply sz_drew))); done) | (with_reducible apply blk_same) | (with_reducible apply blk_ne; case hn => (first | assumption | omega)) | (with_reducible apply blk_old) | (with_reducible apply blk_drew))); (case h₂ => rfl))
          · (repeat (first | (with_reducible assumption) | (with_reducible exact Only.refl _ _) | (with_reducible refine Only.drew ?_) | (with_reducible refine Only.alloc ?_ _) | (with_reducible refine onlySet ?_ (by first | (with_reducible assumption) | omega) _) | (with_reducible refine Only.trans ?_ (by with_reducible assumption))))
          · (repeat (first | (with_reducible assumption) | (with_reducible exact Only.refl _ _) | (with_reducible refine Only.drew ?_) | (with_reducible refine Only.alloc ?_ _) | (with_reducible refine onlySet ?_ (by first | (with_reducible assumption) | omega) _) | (with_reducible refine Only.trans ?_ (by with_reducible assumption))))
        exact HJ.out (w9.heap.size + 1) (w9.heap.size) (a9) (c9) wj hwj
      refine AllReadyG.cons (o := _) rfl (fun K hK => ?_) ?_
      · go_simp
        refine hK.out _ _ (Gn.start (by kernel_rfl) (heldO HCC.out (by (repeat (first | (with_reducible assumption) | (with_reducible exact Only.refl _ _) | (with_reducible refine Only.drew ?_) | (with_reducible refine Only.alloc ?_ _) | (with_reducible refine onlySet ?_ (by first | (with_reducible assumption) | omega) _) | (with_reducible refine Only.trans ?_ (by with_reducible assumption))))))) (fun hNew => ?_)
        clear hK K hHeld
        have hHeld := Gn.outS (by kernel_rfl) hNew
        clear hNew
        refine wpAnyG_act (a' := ?na13) ?ne13 ?nr13
        case ne13 =>
          try simp only [Act.put, List.setIfInBounds_toArray, List.set_cons_zero, List.set_cons_succ]
          try rfl
        refine wpAnyG_ready (rs := [3, 9]) (by kernel_rfl) (by simp) ?_
        refine AllReadyG.cons (o := _) rfl (fun K hK => ?_) ?_
        · go_simp
          go_at_call 31
          refine (HRW.out _ (HSL.out.new (by (repeat (first | (with_reducible assumption) | (with_reducible exact Only.refl _ _) | (with_reducible refine Only.drew ?_) | (with_reducible refine Only.alloc ?_ _) | (with_reducible refine onlySet ?_ (by first | (with_reducible assumption) | omega) _) | (with_reducible refine Only.trans ?_ (by with_reducible assumption))))))).mono ?_
          rintro e w9 ⟨v9, rfl, ho9, hv9⟩
          obtain ⟨_, a9, c9, rfl, _⟩ := id hv9
          have o9 : Only (fun _ => False) U6 w9 := by
            refine Only.trans (b := _) ?_ ho9
            (repeat (first | (with_reducible assumption) | (with_reducible exact Only.refl _ _) | (with_reducible refine Only.drew ?_) | (with_reducible refine Only.alloc ?_ _) | (with_reducible refine onlySet ?_ (by first | (with_reducible assumption) | omega) _) | (with_reducible refine Only.trans ?_ (by with_reducible assumption))))
          have p9 : Only (fun _ => False) w8 w9 := by
            refine Only.trans (b := _) ?_ ho9
            (repeat (first | (with_reducible assumption) | (with_reducible exact Only.refl _ _) | (with_reducible refine Only.drew ?_) | (with_reducible refine Only.alloc ?_ _) | (with_reducible refine onlySet ?_ (by first | (with_reducible assumption) | omega) _) | (with_reducible refine Only.trans ?_ (by with_reducible assumption))))
          have hz9 : w8.heap.size ≤ w9.heap.size := p9.size
          have hB8w9 : w9.heap[w8.heap.size]? = some (.cells #[.int .i64 0, .int .u64 0, .int .u64 0, .int .i64 0, .int .i64 0, .slice none 0 0] 72 (0, 0)) := by (refine Only.old ho9 ?_ id); (apply Eq.trans; (case h₁ => repeat (first | (with_reducible assumption) | (with_reducible exact heap_alloc_new _ _) | (with_reducible apply blk_new; (repeat (first | (with_reducible rfl) | (with_reducible apply sz_set) | (with_reducible apply sz_alloc) | (with_reducible apply sz_drew))); done) | (with_reducible apply blk_same) | (with_reducible apply blk_ne; case hn => (first | assumption | omega)) | (with_reducible apply blk_old) | (with_reducible apply blk_drew))); (case h₂ => rfl))
          have hL8w9 := lt_of_block hB8w9
          go_wp2_with fail
          refine hK.out _ _ (Gn.start (by kernel_rfl) (heldO HCC.out (by (repeat (first | (with_reducible assumption) | (with_reducible exact Only.refl _ _) | (with_reducible refine Only.drew ?_) | (with_reducible refine Only.alloc ?_ _) | (with_reducible refine onlySet ?_ (by first | (with_reducible assumption) | omega) _) | (with_reducible refine Only.trans ?_ (by with_reducible assumption))))))) (fun hNew => ?_)
          clear hK K hHeld
          have hHeld := Gn.outS (by kernel_rfl) hNew
          clear hNew
          refine wpAnyG_act (a' := ?na14) ?ne14 ?nr14
          case ne14 =>
            try simp only [Act.put, List.setIfInBounds_toArray, List.set_cons_zero, List.set_cons_succ]
            try rfl
          refine wpAnyG_takeWD (d := some 150) (i := 4) (oi := _) (v := ?v7) rfl (by kernel_rfl) (by kernel_rfl) (by kernel_rfl) (by kernel_rfl) (by kernel_rfl) (fun _ _ _ h => h) (Or.inl ⟨by rfl, ?hy7⟩) (Gn.start (by kernel_rfl) hHeld) ?rest7
          case hy7 =>
            intro w _
            go_simp
            try with_reducible rfl
          refine wpAnyG_act (a' := ?na15) ?ne15 ?nr15
          case ne15 =>
            try simp only [Act.put, List.setIfInBounds_toArray, List.set_cons_zero, List.set_cons_succ]
            try rfl
          refine wpAnyG_takeWD (d := some 155) (i := 5) (oi := _) (v := ?v8) rfl (by kernel_rfl) (by kernel_rfl) (by kernel_rfl) (by kernel_rfl) (by kernel_rfl) (fun _ _ _ h => h) (Or.inl ⟨by rfl, ?hy8⟩) (Gn.start (by kernel_rfl) hHeld) ?rest8
          case hy8 =>
            intro w _
            go_simp
            try with_reducible rfl
          refine wpAnyG_act (a' := ?na16) ?ne16 ?nr16
          case ne16 =>
            try simp only [Act.put, List.setIfInBounds_toArray, List.set_cons_zero, List.set_cons_succ]
            try rfl
          refine wpAnyG_takeWD (d := some 156) (i := 6) (oi := _) (v := ?v9) rfl (by kernel_rfl) (by kernel_rfl) (by kernel_rfl) (by kernel_rfl) (by kernel_rfl) (fun _ _ _ h => h) (Or.inl ⟨by rfl, ?hy9⟩) (Gn.start (by kernel_rfl) hHeld) ?rest9
          case hy9 =>
            intro w _
            go_simp
            try with_reducible rfl
          refine wpAnyG_act (a' := ?na17) ?ne17 ?nr17
          case ne17 =>
            try simp only [Act.put, List.setIfInBounds_toArray, List.set_cons_zero, List.set_cons_succ]
            try rfl
          refine wpAnyG_takeWD (d := some 157) (i := 7) (oi := _) (v := ?v10) rfl (by kernel_rfl) (by kernel_rfl) (by kernel_rfl) (by kernel_rfl) (by kernel_rfl) (fun _ _ _ h => h) (Or.inl ⟨by rfl, ?hy10⟩) (Gn.start (by kernel_rfl) hHeld) ?rest10
          case hy10 =>
            intro w _
            go_simp
            try with_reducible rfl
          refine wpAnyG_act (a' := ?na18) ?ne18 ?nr18
          case ne18 =>
            try simp only [Act.put, List.setIfInBounds_toArray, List.set_cons_zero, List.set_cons_succ]
            try rfl
          refine wpAnyG_ready (rs := [9]) (by kernel_rfl) (by simp) ?_
          refine AllReadyG.cons (o := _) rfl (fun K hK => ?_) AllReadyG.nil
          go_simp
          refine hK.out _ _ (Gn.start (by kernel_rfl) (heldO HCC.out (by (repeat (first | (with_reducible assumption) | (with_reducible exact Only.refl _ _) | (with_reducible refine Only.drew ?_) | (with_reducible refine Only.alloc ?_ _) | (with_reducible refine onlySet ?_ (by first | (with_reducible assumption) | omega) _) | (with_reducible refine Only.trans ?_ (by with_reducible assumption))))))) (fun hNew => ?_)
          clear hK K hHeld
          have hHeld := Gn.outS (by kernel_rfl) hNew
          clear hNew
          refine wpAnyG_act (a' := ?na19) ?ne19 ?nr19
          case ne19 =>
            try simp only [Act.put, List.setIfInBounds_toArray, List.set_cons_zero, List.set_cons_succ]
            try rfl
          refine wpAnyG_at (fuel' := 3) (listed' := #[true, true, true, true, true, true, true, true, true, true, false, false, false]) (by kernel_rfl) (by kernel_rfl) ?_
          refine wpAnyG_joinW (fun wj => wj.heap[w8.heap.size]? = some (.cells #[.int .i64 0, .int .u64 0, .int .u64 0, .int .i64 0, .int .i64 0, .slice none 0 0] 72 (0, 0)) ∧ wj.heap[w9.heap.size]? = some (.cells #[.string ⟨#[]⟩, .int .u64 0, .int .i64 0, .int .i64 0, .bool false, .string ⟨#[]⟩] 35 (0, 0)) ∧ ¬ w8.heap.size = w9.heap.size ∧ U6.heap.size ≤ w8.heap.size ∧ U6.heap.size ≤ w9.heap.size ∧ VSl wj (.slice a9 K2.own.length c9) K2.own ∧ Only (fun _ => False) U6 wj) ?_ (fun wj hwj => ?_)
          · refine ⟨?_, ?_, by omega, by omega, by omega, hv9.new ?_, ?_⟩
            · (apply Eq.trans; (case h₁ => repeat (first | (with_reducible assumption) | (with_reducible exact heap_alloc_new _ _) | (with_reducible apply blk_new; (repeat (first | (with_reducible rfl) | (with_reducible apply sz_set) | (with_reducible apply sz_alloc) | (with_reducible apply sz_drew))); done) | (with_reducible apply blk_same) | (with_reducible apply blk_ne; case hn => (first | assumption | omega)) | (with_reducible apply blk_old) | (with_reducible apply blk_drew))); (case h₂ => rfl))
            · (apply Eq.trans; (case h₁ => repeat (first | (with_reducible assumption) | (with_reducible exact heap_alloc_new _ _) | (with_reducible apply blk_new; (repeat (first | (with_reducible rfl) | (with_reducible apply sz_set) | (with_reducible apply sz_alloc) | (with_reducible apply sz_drew))); done) | (with_reducible apply blk_same) | (with_reducible apply blk_ne; case hn => (first | assumption | omega)) | (with_reducible apply blk_old) | (with_reducible apply blk_drew))); (case h₂ => rfl))
            · (repeat (first | (with_reducible assumption) | (with_reducible exact Only.refl _ _) | (with_reducible refine Only.drew ?_) | (with_reducible refine Only.alloc ?_ _) | (with_reducible refine onlySet ?_ (by first | (with_reducible assumption) | omega) _) | (with_reducible refine Only.trans ?_ (by with_reducible assumption))))
            · (repeat (first | (with_reducible assumption) | (with_reducible exact Only.refl _ _) | (with_reducible refine Only.drew ?_) | (with_reducible refine Only.alloc ?_ _) | (with_reducible refine onlySet ?_ (by first | (with_reducible assumption) | omega) _) | (with_reducible refine Only.trans ?_ (by with_reducible assumption))))
          exact HJ.out (w8.heap.size) (w9.heap.size) (a9) (c9) wj hwj
        refine AllReadyG.cons (o := _) rfl (fun K hK => ?_) AllReadyG.nil
        go_simp
        refine hK.out _ _ (Gn.start (by kernel_rfl) (heldO HCC.out (by (repeat (first | (with_reducible assumption) | (with_reducible exact Only.refl _ _) | (with_reducible refine Only.drew ?_) | (with_reducible refine Only.alloc ?_ _) | (with_reducible refine onlySet ?_ (by first | (with_reducible assumption) | omega) _) | (with_reducible refine Only.trans ?_ (by with_reducible assumption))))))) (fun hNew => ?_)
        clear hK K hHeld
        have hHeld := Gn.outS (by kernel_rfl) hNew
        clear hNew
        refine wpAnyG_act (a' := ?na20) ?ne20 ?nr20
        case ne20 =>
          try simp only [Act.put, List.setIfInBounds_toArray, List.set_cons_zero, List.set_cons_succ]
          try rfl
        refine wpAnyG_ready (rs := [3]) (by kernel_rfl) (by simp) ?_
        refine AllReadyG.cons (o := _) rfl (fun K hK => ?_) AllReadyG.nil
        go_simp
        go_at_call 31
        refine (HRW.out _ (HSL.out.new (by (repeat (first | (with_reducible assumption) | (with_reducible exact Only.refl _ _) | (with_reducible refine Only.drew ?_) | (with_reducible refine Only.alloc ?_ _) | (with_reducible refine onlySet ?_ (by first | (with_reducible assumption) | omega) _) | (with_reducible refine Only.trans ?_ (by with_reducible assumption))))))).mono ?_
        rintro e w9 ⟨v9, rfl, ho9, hv9⟩
        obtain ⟨_, a9, c9, rfl, _⟩ := id hv9
        have o9 : Only (fun _ => False) U6 w9 := by
          refine Only.trans (b := _) ?_ ho9
          (repeat (first | (with_reducible assumption) | (with_reducible exact Only.refl _ _) | (with_reducible refine Only.drew ?_) | (with_reducible refine Only.alloc ?_ _) | (with_reducible refine onlySet ?_ (by first | (with_reducible assumption) | omega) _) | (with_reducible refine Only.trans ?_ (by with_reducible assumption))))
        have p9 : Only (fun _ => False) w8 w9 := by
          refine Only.trans (b := _) ?_ ho9
          (repeat (first | (with_reducible assumption) | (with_reducible exact Only.refl _ _) | (with_reducible refine Only.drew ?_) | (with_reducible refine Only.alloc ?_ _) | (with_reducible refine onlySet ?_ (by first | (with_reducible assumption) | omega) _) | (with_reducible refine Only.trans ?_ (by with_reducible assumption))))
        have hz9 : w8.heap.size ≤ w9.heap.size := p9.size
        have hB8w9 : w9.heap[w8.heap.size]? = some (.cells #[.int .i64 0, .int .u64 0, .int .u64 0, .int .i64 0, .int .i64 0, .slice none 0 0] 72 (0, 0)) := by (refine Only.old ho9 ?_ id); (apply Eq.trans; (case h₁ => repeat (first | (with_reducible assumption) | (with_reducible exact heap_alloc_new _ _) | (with_reducible apply blk_new; (repeat (first | (with_reducible rfl) | (with_reducible apply sz_set) | (with_reducible apply sz_alloc) | (with_reducible apply sz_drew))); done) | (with_reducible apply blk_same) | (with_reducible apply blk_ne; case hn => (first | assumption | omega)) | (with_reducible apply blk_old) | (with_reducible apply blk_drew))); (case h₂ => rfl))
        have hL8w9 := lt_of_block hB8w9
        have hB9w9 : w9.heap[w8.heap.size + 1]? = some (.cells #[.string ⟨#[]⟩, .int .u64 0, .int .i64 0, .int .i64 0, .bool false, .string ⟨#[]⟩] 35 (0, 0)) := by (refine Only.old ho9 ?_ id); (apply Eq.trans; (case h₁ => repeat (first | (with_reducible assumption) | (with_reducible exact heap_alloc_new _ _) | (with_reducible apply blk_new; (repeat (first | (with_reducible rfl) | (with_reducible apply sz_set) | (with_reducible apply sz_alloc) | (with_reducible apply sz_drew))); done) | (with_reducible apply blk_same) | (with_reducible apply blk_ne; case hn => (first | assumption | omega)) | (with_reducible apply blk_old) | (with_reducible apply blk_drew))); (case h₂ => rfl))
        have hL9w9 := lt_of_block hB9w9
        go_wp2_with fail
        refine hK.out _ _ (Gn.start (by kernel_rfl) (heldO HCC.out (by (repeat (first | (with_reducible assumption) | (with_reducible exact Only.refl _ _) | (with_reducible refine Only.drew ?_) | (with_reducible refine Only.alloc ?_ _) | (with_reducible refine onlySet ?_ (by first | (with_reducible assumption) | omega) _) | (with_reducible refine Only.trans ?_ (by with_reducible assumption))))))) (fun hNew => ?_)
        clear hK K hHeld
        have hHeld := Gn.outS (by kernel_rfl) hNew
        clear hNew
        refine wpAnyG_act (a' := ?na21) ?ne21 ?nr21
        case ne21 =>
          try simp only [Act.put, List.setIfInBounds_toArray, List.set_cons_zero, List.set_cons_succ]
          try rfl
        refine wpAnyG_takeWD (d := some 150) (i := 4) (oi := _) (v := ?v11) rfl (by kernel_rfl) (by kernel_rfl) (by kernel_rfl) (by kernel_rfl) (by kernel_rfl) (fun _ _ _ h => h) (Or.inl ⟨by rfl, ?hy11⟩) (Gn.start (by kernel_rfl) hHeld) ?rest11
        case hy11 =>
          intro w _
          go_simp
          try with_reducible rfl
        refine wpAnyG_act (a' := ?na22) ?ne22 ?nr22
        case ne22 =>
          try simp only [Act.put, List.setIfInBounds_toArray, List.set_cons_zero, List.set_cons_succ]
          try rfl
        refine wpAnyG_takeWD (d := some 155) (i := 5) (oi := _) (v := ?v12) rfl (by kernel_rfl) (by kernel_rfl) (by kernel_rfl) (by kernel_rfl) (by kernel_rfl) (fun _ _ _ h => h) (Or.inl ⟨by rfl, ?hy12⟩) (Gn.start (by kernel_rfl) hHeld) ?rest12
        case hy12 =>
          intro w _
          go_simp
          try with_reducible rfl
        refine wpAnyG_act (a' := ?na23) ?ne23 ?nr23
        case ne23 =>
          try simp only [Act.put, List.setIfInBounds_toArray, List.set_cons_zero, List.set_cons_succ]
          try rfl
        refine wpAnyG_takeWD (d := some 156) (i := 6) (oi := _) (v := ?v13) rfl (by kernel_rfl) (by kernel_rfl) (by kernel_rfl) (by kernel_rfl) (by kernel_rfl) (fun _ _ _ h => h) (Or.inl ⟨by rfl, ?hy13⟩) (Gn.start (by kernel_rfl) hHeld) ?rest13
        case hy13 =>
          intro w _
          go_simp
          try with_reducible rfl
        refine wpAnyG_act (a' := ?na24) ?ne24 ?nr24
        case ne24 =>
          try simp only [Act.put, List.setIfInBounds_toArray, List.set_cons_zero, List.set_cons_succ]
          try rfl
        refine wpAnyG_takeWD (d := some 157) (i := 7) (oi := _) (v := ?v14) rfl (by kernel_rfl) (by kernel_rfl) (by kernel_rfl) (by kernel_rfl) (by kernel_rfl) (fun _ _ _ h => h) (Or.inl ⟨by rfl, ?hy14⟩) (Gn.start (by kernel_rfl) hHeld) ?rest14
        case hy14 =>
          intro w _
          go_simp
          try with_reducible rfl
        refine wpAnyG_act (a' := ?na25) ?ne25 ?nr25
        case ne25 =>
          try simp only [Act.put, List.setIfInBounds_toArray, List.set_cons_zero, List.set_cons_succ]
          try rfl
        refine wpAnyG_at (fuel' := 3) (listed' := #[true, true, true, true, true, true, true, true, true, true, false, false, false]) (by kernel_rfl) (by kernel_rfl) ?_
        refine wpAnyG_joinW (fun wj => wj.heap[w8.heap.size]? = some (.cells #[.int .i64 0, .int .u64 0, .int .u64 0, .int .i64 0, .int .i64 0, .slice none 0 0] 72 (0, 0)) ∧ wj.heap[w8.heap.size + 1]? = some (.cells #[.string ⟨#[]⟩, .int .u64 0, .int .i64 0, .int .i64 0, .bool false, .string ⟨#[]⟩] 35 (0, 0)) ∧ ¬ w8.heap.size = w8.heap.size + 1 ∧ U6.heap.size ≤ w8.heap.size ∧ U6.heap.size ≤ w8.heap.size + 1 ∧ VSl wj (.slice a9 K2.own.length c9) K2.own ∧ Only (fun _ => False) U6 wj) ?_ (fun wj hwj => ?_)
        · refine ⟨?_, ?_, by omega, by omega, by omega, hv9.new ?_, ?_⟩
          · (apply Eq.trans; (case h₁ => repeat (first | (with_reducible assumption) | (with_reducible exact heap_alloc_new _ _) | (with_reducible apply blk_new; (repeat (first | (with_reducible rfl) | (with_reducible apply sz_set) | (with_reducible apply sz_alloc) | (with_reducible apply sz_drew))); done) | (with_reducible apply blk_same) | (with_reducible apply blk_ne; case hn => (first | assumption | omega)) | (with_reducible apply blk_old) | (with_reducible apply blk_drew))); (case h₂ => rfl))
          · (apply Eq.trans; (case h₁ => repeat (first | (with_reducible assumption) | (with_reducible exact heap_alloc_new _ _) | (with_reducible apply blk_new; (repeat (first | (with_reducible rfl) | (with_reducible apply sz_set) | (with_reducible apply sz_alloc) | (with_reducible apply sz_drew))); done) | (with_reducible apply blk_same) | (with_reducible apply blk_ne; case hn => (first | assumption | omega)) | (with_reducible apply blk_old) | (with_reducible apply blk_drew))); (case h₂ => rfl))
          · (repeat (first | (with_reducible assumption) | (with_reducible exact Only.refl _ _) | (with_reducible refine Only.drew ?_) | (with_reducible refine Only.alloc ?_ _) | (with_reducible refine onlySet ?_ (by first | (with_reducible assumption) | omega) _) | (with_reducible refine Only.trans ?_ (by with_reducible assumption))))
          · (repeat (first | (with_reducible assumption) | (with_reducible exact Only.refl _ _) | (with_reducible refine Only.drew ?_) | (with_reducible refine Only.alloc ?_ _) | (with_reducible refine onlySet ?_ (by first | (with_reducible assumption) | omega) _) | (with_reducible refine Only.trans ?_ (by with_reducible assumption))))
        exact HJ.out (w8.heap.size) (w8.heap.size + 1) (a9) (c9) wj hwj
      refine AllReadyG.cons (o := _) rfl (fun K hK => ?_) AllReadyG.nil
      go_simp
      refine hK.out _ _ (Gn.start (by kernel_rfl) (heldO HCC.out (by (repeat (first | (with_reducible assumption) | (with_reducible exact Only.refl _ _) | (with_reducible refine Only.drew ?_) | (with_reducible refine Only.alloc ?_ _) | (with_reducible refine onlySet ?_ (by first | (with_reducible assumption) | omega) _) | (with_reducible refine Only.trans ?_ (by with_reducible assumption))))))) (fun hNew => ?_)
      clear hK K hHeld
      have hHeld := Gn.outS (by kernel_rfl) hNew
      clear hNew
      refine wpAnyG_act (a' := ?na26) ?ne26 ?nr26
      case ne26 =>
        try simp only [Act.put, List.setIfInBounds_toArray, List.set_cons_zero, List.set_cons_succ]
        try rfl
      refine wpAnyG_ready (rs := [3, 8]) (by kernel_rfl) (by simp) ?_
      refine AllReadyG.cons (o := _) rfl (fun K hK => ?_) ?_
      · go_simp
        go_at_call 31
        refine (HRW.out _ (HSL.out.new (by (repeat (first | (with_reducible assumption) | (with_reducible exact Only.refl _ _) | (with_reducible refine Only.drew ?_) | (with_reducible refine Only.alloc ?_ _) | (with_reducible refine onlySet ?_ (by first | (with_reducible assumption) | omega) _) | (with_reducible refine Only.trans ?_ (by with_reducible assumption))))))).mono ?_
        rintro e w9 ⟨v9, rfl, ho9, hv9⟩
        obtain ⟨_, a9, c9, rfl, _⟩ := id hv9
        have o9 : Only (fun _ => False) U6 w9 := by
          refine Only.trans (b := _) ?_ ho9
          (repeat (first | (with_reducible assumption) | (with_reducible exact Only.refl _ _) | (with_reducible refine Only.drew ?_) | (with_reducible refine Only.alloc ?_ _) | (with_reducible refine onlySet ?_ (by first | (with_reducible assumption) | omega) _) | (with_reducible refine Only.trans ?_ (by with_reducible assumption))))
        have p9 : Only (fun _ => False) w8 w9 := by
          refine Only.trans (b := _) ?_ ho9
          (repeat (first | (with_reducible assumption) | (with_reducible exact Only.refl _ _) | (with_reducible refine Only.drew ?_) | (with_reducible refine Only.alloc ?_ _) | (with_reducible refine onlySet ?_ (by first | (with_reducible assumption) | omega) _) | (with_reducible refine Only.trans ?_ (by with_reducible assumption))))
        have hz9 : w8.heap.size ≤ w9.heap.size := p9.size
        have hB9w9 : w9.heap[w8.heap.size]? = some (.cells #[.string ⟨#[]⟩, .int .u64 0, .int .i64 0, .int .i64 0, .bool false, .string ⟨#[]⟩] 35 (0, 0)) := by (refine Only.old ho9 ?_ id); (apply Eq.trans; (case h₁ => repeat (first | (with_reducible assumption) | (with_reducible exact heap_alloc_new _ _) | (with_reducible apply blk_new; (repeat (first | (with_reducible rfl) | (with_reducible apply sz_set) | (with_reducible apply sz_alloc) | (with_reducible apply sz_drew))); done) | (with_reducible apply blk_same) | (with_reducible apply blk_ne; case hn => (first | assumption | omega)) | (with_reducible apply blk_old) | (with_reducible apply blk_drew))); (case h₂ => rfl))
        have hL9w9 := lt_of_block hB9w9
        go_wp2_with fail
        refine hK.out _ _ (Gn.start (by kernel_rfl) (heldO HCC.out (by (repeat (first | (with_reducible assumption) | (with_reducible exact Only.refl _ _) | (with_reducible refine Only.drew ?_) | (with_reducible refine Only.alloc ?_ _) | (with_reducible refine onlySet ?_ (by first | (with_reducible assumption) | omega) _) | (with_reducible refine Only.trans ?_ (by with_reducible assumption))))))) (fun hNew => ?_)
        clear hK K hHeld
        have hHeld := Gn.outS (by kernel_rfl) hNew
        clear hNew
        refine wpAnyG_act (a' := ?na27) ?ne27 ?nr27
        case ne27 =>
          try simp only [Act.put, List.setIfInBounds_toArray, List.set_cons_zero, List.set_cons_succ]
          try rfl
        refine wpAnyG_takeWD (d := some 150) (i := 4) (oi := _) (v := ?v15) rfl (by kernel_rfl) (by kernel_rfl) (by kernel_rfl) (by kernel_rfl) (by kernel_rfl) (fun _ _ _ h => h) (Or.inl ⟨by rfl, ?hy15⟩) (Gn.start (by kernel_rfl) hHeld) ?rest15
        case hy15 =>
          intro w _
          go_simp
          try with_reducible rfl
        refine wpAnyG_act (a' := ?na28) ?ne28 ?nr28
        case ne28 =>
          try simp only [Act.put, List.setIfInBounds_toArray, List.set_cons_zero, List.set_cons_succ]
          try rfl
        refine wpAnyG_takeWD (d := some 155) (i := 5) (oi := _) (v := ?v16) rfl (by kernel_rfl) (by kernel_rfl) (by kernel_rfl) (by kernel_rfl) (by kernel_rfl) (fun _ _ _ h => h) (Or.inl ⟨by rfl, ?hy16⟩) (Gn.start (by kernel_rfl) hHeld) ?rest16
        case hy16 =>
          intro w _
          go_simp
          try with_reducible rfl
        refine wpAnyG_act (a' := ?na29) ?ne29 ?nr29
        case ne29 =>
          try simp only [Act.put, List.setIfInBounds_toArray, List.set_cons_zero, List.set_cons_succ]
          try rfl
        refine wpAnyG_takeWD (d := some 156) (i := 6) (oi := _) (v := ?v17) rfl (by kernel_rfl) (by kernel_rfl) (by kernel_rfl) (by kernel_rfl) (by kernel_rfl) (fun _ _ _ h => h) (Or.inl ⟨by rfl, ?hy17⟩) (Gn.start (by kernel_rfl) hHeld) ?rest17
        case hy17 =>
          intro w _
          go_simp
          try with_reducible rfl
        refine wpAnyG_act (a' := ?na30) ?ne30 ?nr30
        case ne30 =>
          try simp only [Act.put, List.setIfInBounds_toArray, List.set_cons_zero, List.set_cons_succ]
          try rfl
        refine wpAnyG_takeWD (d := some 157) (i := 7) (oi := _) (v := ?v18) rfl (by kernel_rfl) (by kernel_rfl) (by kernel_rfl) (by kernel_rfl) (by kernel_rfl) (fun _ _ _ h => h) (Or.inl ⟨by rfl, ?hy18⟩) (Gn.start (by kernel_rfl) hHeld) ?rest18
        case hy18 =>
          intro w _
          go_simp
          try with_reducible rfl
        refine wpAnyG_act (a' := ?na31) ?ne31 ?nr31
        case ne31 =>
          try simp only [Act.put, List.setIfInBounds_toArray, List.set_cons_zero, List.set_cons_succ]
          try rfl
        refine wpAnyG_ready (rs := [8]) (by kernel_rfl) (by simp) ?_
        refine AllReadyG.cons (o := _) rfl (fun K hK => ?_) AllReadyG.nil
        go_simp
        refine hK.out _ _ (Gn.start (by kernel_rfl) (heldO HCC.out (by (repeat (first | (with_reducible assumption) | (with_reducible exact Only.refl _ _) | (with_reducible refine Only.drew ?_) | (with_reducible refine Only.alloc ?_ _) | (with_reducible refine onlySet ?_ (by first | (with_reducible assumption) | omega) _) | (with_reducible refine Only.trans ?_ (by with_reducible assumption))))))) (fun hNew => ?_)
        clear hK K hHeld
        have hHeld := Gn.outS (by kernel_rfl) hNew
        clear hNew
        refine wpAnyG_act (a' := ?na32) ?ne32 ?nr32
        case ne32 =>
          try simp only [Act.put, List.setIfInBounds_toArray, List.set_cons_zero, List.set_cons_succ]
          try rfl
        refine wpAnyG_at (fuel' := 3) (listed' := #[true, true, true, true, true, true, true, true, true, true, false, false, false]) (by kernel_rfl) (by kernel_rfl) ?_
        refine wpAnyG_joinW (fun wj => wj.heap[w9.heap.size]? = some (.cells #[.int .i64 0, .int .u64 0, .int .u64 0, .int .i64 0, .int .i64 0, .slice none 0 0] 72 (0, 0)) ∧ wj.heap[w8.heap.size]? = some (.cells #[.string ⟨#[]⟩, .int .u64 0, .int .i64 0, .int .i64 0, .bool false, .string ⟨#[]⟩] 35 (0, 0)) ∧ ¬ w9.heap.size = w8.heap.size ∧ U6.heap.size ≤ w9.heap.size ∧ U6.heap.size ≤ w8.heap.size ∧ VSl wj (.slice a9 K2.own.length c9) K2.own ∧ Only (fun _ => False) U6 wj) ?_ (fun wj hwj => ?_)
        · refine ⟨?_, ?_, by omega, by omega, by omega, hv9.new ?_, ?_⟩
          · (apply Eq.trans; (case h₁ => repeat (first | (with_reducible assumption) | (with_reducible exact heap_alloc_new _ _) | (with_reducible apply blk_new; (repeat (first | (with_reducible rfl) | (with_reducible apply sz_set) | (with_reducible apply sz_alloc) | (with_reducible apply sz_drew))); done) | (with_reducible apply blk_same) | (with_reducible apply blk_ne; case hn => (first | assumption | omega)) | (with_reducible apply blk_old) | (with_reducible apply blk_drew))); (case h₂ => rfl))
          · (apply Eq.trans; (case h₁ => repeat (first | (with_reducible assumption) | (with_reducible exact heap_alloc_new _ _) | (with_reducible apply blk_new; (repeat (first | (with_reducible rfl) | (with_reducible apply sz_set) | (with_reducible apply sz_alloc) | (with_reducible apply sz_drew))); done) | (with_reducible apply blk_same) | (with_reducible apply blk_ne; case hn => (first | assumption | omega)) | (with_reducible apply blk_old) | (with_reducible apply blk_drew))); (case h₂ => rfl))
          · (repeat (first | (with_reducible assumption) | (with_reducible exact Only.refl _ _) | (with_reducible refine Only.drew ?_) | (with_reducible refine Only.alloc ?_ _) | (with_reducible refine onlySet ?_ (by first | (with_reducible assumption) | omega) _) | (with_reducible refine Only.trans ?_ (by with_reducible assumption))))
          · (repeat (first | (with_reducible assumption) | (with_reducible exact Only.refl _ _) | (with_reducible refine Only.drew ?_) | (with_reducible refine Only.alloc ?_ _) | (with_reducible refine onlySet ?_ (by first | (with_reducible assumption) | omega) _) | (with_reducible refine Only.trans ?_ (by with_reducible assumption))))
        exact HJ.out (w9.heap.size) (w8.heap.size) (a9) (c9) wj hwj
      refine AllReadyG.cons (o := _) rfl (fun K hK => ?_) AllReadyG.nil
      go_simp
      refine hK.out _ _ (Gn.start (by kernel_rfl) (heldO HCC.out (by (repeat (first | (with_reducible assumption) | (with_reducible exact Only.refl _ _) | (with_reducible refine Only.drew ?_) | (with_reducible refine Only.alloc ?_ _) | (with_reducible refine onlySet ?_ (by first | (with_reducible assumption) | omega) _) | (with_reducible refine Only.trans ?_ (by with_reducible assumption))))))) (fun hNew => ?_)
      clear hK K hHeld
      have hHeld := Gn.outS (by kernel_rfl) hNew
      clear hNew
      refine wpAnyG_act (a' := ?na33) ?ne33 ?nr33
      case ne33 =>
        try simp only [Act.put, List.setIfInBounds_toArray, List.set_cons_zero, List.set_cons_succ]
        try rfl
      refine wpAnyG_ready (rs := [3]) (by kernel_rfl) (by simp) ?_
      refine AllReadyG.cons (o := _) rfl (fun K hK => ?_) AllReadyG.nil
      go_simp
      go_at_call 31
      refine (HRW.out _ (HSL.out.new (by (repeat (first | (with_reducible assumption) | (with_reducible exact Only.refl _ _) | (with_reducible refine Only.drew ?_) | (with_reducible refine Only.alloc ?_ _) | (with_reducible refine onlySet ?_ (by first | (with_reducible assumption) | omega) _) | (with_reducible refine Only.trans ?_ (by with_reducible assumption))))))).mono ?_
      rintro e w9 ⟨v9, rfl, ho9, hv9⟩
      obtain ⟨_, a9, c9, rfl, _⟩ := id hv9
      have o9 : Only (fun _ => False) U6 w9 := by
        refine Only.trans (b := _) ?_ ho9
        (repeat (first | (with_reducible assumption) | (with_reducible exact Only.refl _ _) | (with_reducible refine Only.drew ?_) | (with_reducible refine Only.alloc ?_ _) | (with_reducible refine onlySet ?_ (by first | (with_reducible assumption) | omega) _) | (with_reducible refine Only.trans ?_ (by with_reducible assumption))))
      have p9 : Only (fun _ => False) w8 w9 := by
        refine Only.trans (b := _) ?_ ho9
        (repeat (first | (with_reducible assumption) | (with_reducible exact Only.refl _ _) | (with_reducible refine Only.drew ?_) | (with_reducible refine Only.alloc ?_ _) | (with_reducible refine onlySet ?_ (by first | (with_reducible assumption) | omega) _) | (with_reducible refine Only.trans ?_ (by with_reducible assumption))))
      have hz9 : w8.heap.size ≤ w9.heap.size := p9.size
      have hB9w9 : w9.heap[w8.heap.size]? = some (.cells #[.string ⟨#[]⟩, .int .u64 0, .int .i64 0, .int .i64 0, .bool false, .string ⟨#[]⟩] 35 (0, 0)) := by (refine Only.old ho9 ?_ id); (apply Eq.trans; (case h₁ => repeat (first | (with_reducible assumption) | (with_reducible exact heap_alloc_new _ _) | (with_reducible apply blk_new; (repeat (first | (with_reducible rfl) | (with_reducible apply sz_set) | (with_reducible apply sz_alloc) | (with_reducible apply sz_drew))); done) | (with_reducible apply blk_same) | (with_reducible apply blk_ne; case hn => (first | assumption | omega)) | (with_reducible apply blk_old) | (with_reducible apply blk_drew))); (case h₂ => rfl))
      have hL9w9 := lt_of_block hB9w9
      have hB8w9 : w9.heap[w8.heap.size + 1]? = some (.cells #[.int .i64 0, .int .u64 0, .int .u64 0, .int .i64 0, .int .i64 0, .slice none 0 0] 72 (0, 0)) := by (refine Only.old ho9 ?_ id); (apply Eq.trans; (case h₁ => repeat (first | (with_reducible assumption) | (with_reducible exact heap_alloc_new _ _) | (with_reducible apply blk_new; (repeat (first | (with_reducible rfl) | (with_reducible apply sz_set) | (with_reducible apply sz_alloc) | (with_reducible apply sz_drew))); done) | (with_reducible apply blk_same) | (with_reducible apply blk_ne; case hn => (first | assumption | omega)) | (with_reducible apply blk_old) | (with_reducible apply blk_drew))); (case h₂ => rfl))
      have hL8w9 := lt_of_block hB8w9
      go_wp2_with fail
      refine hK.out _ _ (Gn.start (by kernel_rfl) (heldO HCC.out (by (repeat (first | (with_reducible assumption) | (with_reducible exact Only.refl _ _) | (with_reducible refine Only.drew ?_) | (with_reducible refine Only.alloc ?_ _) | (with_reducible refine onlySet ?_ (by first | (with_reducible assumption) | omega) _) | (with_reducible refine Only.trans ?_ (by with_reducible assumption))))))) (fun hNew => ?_)
      clear hK K hHeld
      have hHeld := Gn.outS (by kernel_rfl) hNew
      clear hNew
      refine wpAnyG_act (a' := ?na34) ?ne34 ?nr34
      case ne34 =>
        try simp only [Act.put, List.setIfInBounds_toArray, List.set_cons_zero, List.set_cons_succ]
        try rfl
      refine wpAnyG_takeWD (d := some 150) (i := 4) (oi := _) (v := ?v19) rfl (by kernel_rfl) (by kernel_rfl) (by kernel_rfl) (by kernel_rfl) (by kernel_rfl) (fun _ _ _ h => h) (Or.inl ⟨by rfl, ?hy19⟩) (Gn.start (by kernel_rfl) hHeld) ?rest19
      case hy19 =>
        intro w _
        go_simp
        try with_reducible rfl
      refine wpAnyG_act (a' := ?na35) ?ne35 ?nr35
      case ne35 =>
        try simp only [Act.put, List.setIfInBounds_toArray, List.set_cons_zero, List.set_cons_succ]
        try rfl
      refine wpAnyG_takeWD (d := some 155) (i := 5) (oi := _) (v := ?v20) rfl (by kernel_rfl) (by kernel_rfl) (by kernel_rfl) (by kernel_rfl) (by kernel_rfl) (fun _ _ _ h => h) (Or.inl ⟨by rfl, ?hy20⟩) (Gn.start (by kernel_rfl) hHeld) ?rest20
      case hy20 =>
        intro w _
        go_simp
        try with_reducible rfl
      refine wpAnyG_act (a' := ?na36) ?ne36 ?nr36
      case ne36 =>
        try simp only [Act.put, List.setIfInBounds_toArray, List.set_cons_zero, List.set_cons_succ]
        try rfl
      refine wpAnyG_takeWD (d := some 156) (i := 6) (oi := _) (v := ?v21) rfl (by kernel_rfl) (by kernel_rfl) (by kernel_rfl) (by kernel_rfl) (by kernel_rfl) (fun _ _ _ h => h) (Or.inl ⟨by rfl, ?hy21⟩) (Gn.start (by kernel_rfl) hHeld) ?rest21
      case hy21 =>
        intro w _
        go_simp
        try with_reducible rfl
      refine wpAnyG_act (a' := ?na37) ?ne37 ?nr37
      case ne37 =>
        try simp only [Act.put, List.setIfInBounds_toArray, List.set_cons_zero, List.set_cons_succ]
        try rfl
      refine wpAnyG_takeWD (d := some 157) (i := 7) (oi := _) (v := ?v22) rfl (by kernel_rfl) (by kernel_rfl) (by kernel_rfl) (by kernel_rfl) (by kernel_rfl) (fun _ _ _ h => h) (Or.inl ⟨by rfl, ?hy22⟩) (Gn.start (by kernel_rfl) hHeld) ?rest22
      case hy22 =>
        intro w _
        go_simp
        try with_reducible rfl
      refine wpAnyG_act (a' := ?na38) ?ne38 ?nr38
      case ne38 =>
        try simp only [Act.put, List.setIfInBounds_toArray, List.set_cons_zero, List.set_cons_succ]
        try rfl
      refine wpAnyG_at (fuel' := 3) (listed' := #[true, true, true, true, true, true, true, true, true, true, false, false, false]) (by kernel_rfl) (by kernel_rfl) ?_
      refine wpAnyG_joinW (fun wj => wj.heap[w8.heap.size + 1]? = some (.cells #[.int .i64 0, .int .u64 0, .int .u64 0, .int .i64 0, .int .i64 0, .slice none 0 0] 72 (0, 0)) ∧ wj.heap[w8.heap.size]? = some (.cells #[.string ⟨#[]⟩, .int .u64 0, .int .i64 0, .int .i64 0, .bool false, .string ⟨#[]⟩] 35 (0, 0)) ∧ ¬ w8.heap.size + 1 = w8.heap.size ∧ U6.heap.size ≤ w8.heap.size + 1 ∧ U6.heap.size ≤ w8.heap.size ∧ VSl wj (.slice a9 K2.own.length c9) K2.own ∧ Only (fun _ => False) U6 wj) ?_ (fun wj hwj => ?_)
      · refine ⟨?_, ?_, by omega, by omega, by omega, hv9.new ?_, ?_⟩
        · (apply Eq.trans; (case h₁ => repeat (first | (with_reducible assumption) | (with_reducible exact heap_alloc_new _ _) | (with_reducible apply blk_new; (repeat (first | (with_reducible rfl) | (with_reducible apply sz_set) | (with_reducible apply sz_alloc) | (with_reducible apply sz_drew))); done) | (with_reducible apply blk_same) | (with_reducible apply blk_ne; case hn => (first | assumption | omega)) | (with_reducible apply blk_old) | (with_reducible apply blk_drew))); (case h₂ => rfl))
        · (apply Eq.trans; (case h₁ => repeat (first | (with_reducible assumption) | (with_reducible exact heap_alloc_new _ _) | (with_reducible apply blk_new; (repeat (first | (with_reducible rfl) | (with_reducible apply sz_set) | (with_reducible apply sz_alloc) | (with_reducible apply sz_drew))); done) | (with_reducible apply blk_same) | (with_reducible apply blk_ne; case hn => (first | assumption | omega)) | (with_reducible apply blk_old) | (with_reducible apply blk_drew))); (case h₂ => rfl))
        · (repeat (first | (with_reducible assumption) | (with_reducible exact Only.refl _ _) | (with_reducible refine Only.drew ?_) | (with_reducible refine Only.alloc ?_ _) | (with_reducible refine onlySet ?_ (by first | (with_reducible assumption) | omega) _) | (with_reducible refine Only.trans ?_ (by with_reducible assumption))))
        · (repeat (first | (with_reducible assumption) | (with_reducible exact Only.refl _ _) | (with_reducible refine Only.drew ?_) | (with_reducible refine Only.alloc ?_ _) | (with_reducible refine onlySet ?_ (by first | (with_reducible assumption) | omega) _) | (with_reducible refine Only.trans ?_ (by with_reducible assumption))))
      exact HJ.out (w8.heap.size + 1) (w8.heap.size) (a9) (c9) wj hwj
    refine AllReadyG.cons (o := _) rfl (fun K hK => ?_) ?_
    · go_simp
      refine hK.out _ _ (Gn.start (by kernel_rfl) (heldO HCC.out (by (repeat (first | (with_reducible assumption) | (with_reducible exact Only.refl _ _) | (with_reducible refine Only.drew ?_) | (with_reducible refine Only.alloc ?_ _) | (with_reducible refine onlySet ?_ (by first | (with_reducible assumption) | omega) _) | (with_reducible refine Only.trans ?_ (by with_reducible assumption))))))) (fun hNew => ?_)
      clear hK K hHeld
      have hHeld := Gn.outS (by kernel_rfl) hNew
      clear hNew
      refine wpAnyG_act (a' := ?na39) ?ne39 ?nr39
      case ne39 =>
        try simp only [Act.put, List.setIfInBounds_toArray, List.set_cons_zero, List.set_cons_succ]
        try rfl
      refine wpAnyG_ready (rs := [2, 9]) (by kernel_rfl) (by simp) ?_
      refine AllReadyG.cons (o := _) rfl (fun K hK => ?_) ?_
      · go_simp
        go_at_call 30
        refine (HNM.out _).mono ?_
        rintro e w8 ⟨rfl, ho8⟩
        have o8 : Only (fun _ => False) U6 w8 := by
          refine Only.trans (b := _) ?_ ho8
          (repeat (first | (with_reducible assumption) | (with_reducible exact Only.refl _ _) | (with_reducible refine Only.drew ?_) | (with_reducible refine Only.alloc ?_ _) | (with_reducible refine onlySet ?_ (by first | (with_reducible assumption) | omega) _) | (with_reducible refine Only.trans ?_ (by with_reducible assumption))))
        have hz8 : U6.heap.size ≤ w8.heap.size := o8.size
        have hB8w8 : w8.heap[U6.heap.size]? = some (.cells #[.int .i64 0, .int .u64 0, .int .u64 0, .int .i64 0, .int .i64 0, .slice none 0 0] 72 (0, 0)) := by (refine Only.old ho8 ?_ id); (apply Eq.trans; (case h₁ => repeat (first | (with_reducible assumption) | (with_reducible exact heap_alloc_new _ _) | (with_reducible apply blk_new; (repeat (first | (with_reducible rfl) | (with_reducible apply sz_set) | (with_reducible apply sz_alloc) | (with_reducible apply sz_drew))); done) | (with_reducible apply blk_same) | (with_reducible apply blk_ne; case hn => (first | assumption | omega)) | (with_reducible apply blk_old) | (with_reducible apply blk_drew))); (case h₂ => rfl))
        have hL8w8 := lt_of_block hB8w8
        go_wp2_with fail
        refine hK.out _ _ (Gn.start (by kernel_rfl) (heldO HCC.out (by (repeat (first | (with_reducible assumption) | (with_reducible exact Only.refl _ _) | (with_reducible refine Only.drew ?_) | (with_reducible refine Only.alloc ?_ _) | (with_reducible refine onlySet ?_ (by first | (with_reducible assumption) | omega) _) | (with_reducible refine Only.trans ?_ (by with_reducible assumption))))))) (fun hNew => ?_)
        clear hK K hHeld
        have hHeld := Gn.outS (by kernel_rfl) hNew
        clear hNew
        refine wpAnyG_act (a' := ?na40) ?ne40 ?nr40
        case ne40 =>
          try simp only [Act.put, List.setIfInBounds_toArray, List.set_cons_zero, List.set_cons_succ]
          try rfl
        refine wpAnyG_ready (rs := [3, 9]) (by kernel_rfl) (by simp) ?_
        refine AllReadyG.cons (o := _) rfl (fun K hK => ?_) ?_
        · go_simp
          go_at_call 31
          refine (HRW.out _ (HSL.out.new (by (repeat (first | (with_reducible assumption) | (with_reducible exact Only.refl _ _) | (with_reducible refine Only.drew ?_) | (with_reducible refine Only.alloc ?_ _) | (with_reducible refine onlySet ?_ (by first | (with_reducible assumption) | omega) _) | (with_reducible refine Only.trans ?_ (by with_reducible assumption))))))).mono ?_
          rintro e w9 ⟨v9, rfl, ho9, hv9⟩
          obtain ⟨_, a9, c9, rfl, _⟩ := id hv9
          have o9 : Only (fun _ => False) U6 w9 := by
            refine Only.trans (b := _) ?_ ho9
            (repeat (first | (with_reducible assumption) | (with_reducible exact Only.refl _ _) | (with_reducible refine Only.drew ?_) | (with_reducible refine Only.alloc ?_ _) | (with_reducible refine onlySet ?_ (by first | (with_reducible assumption) | omega) _) | (with_reducible refine Only.trans ?_ (by with_reducible assumption))))
          have p9 : Only (fun _ => False) w8 w9 := by
            refine Only.trans (b := _) ?_ ho9
            (repeat (first | (with_reducible assumption) | (with_reducible exact Only.refl _ _) | (with_reducible refine Only.drew ?_) | (with_reducible refine Only.alloc ?_ _) | (with_reducible refine onlySet ?_ (by first | (with_reducible assumption) | omega) _) | (with_reducible refine Only.trans ?_ (by with_reducible assumption))))
          have hz9 : w8.heap.size ≤ w9.heap.size := p9.size
          have hB8w9 : w9.heap[U6.heap.size]? = some (.cells #[.int .i64 0, .int .u64 0, .int .u64 0, .int .i64 0, .int .i64 0, .slice none 0 0] 72 (0, 0)) := by (refine Only.old ho9 ?_ id); (apply Eq.trans; (case h₁ => repeat (first | (with_reducible assumption) | (with_reducible exact heap_alloc_new _ _) | (with_reducible apply blk_new; (repeat (first | (with_reducible rfl) | (with_reducible apply sz_set) | (with_reducible apply sz_alloc) | (with_reducible apply sz_drew))); done) | (with_reducible apply blk_same) | (with_reducible apply blk_ne; case hn => (first | assumption | omega)) | (with_reducible apply blk_old) | (with_reducible apply blk_drew))); (case h₂ => rfl))
          have hL8w9 := lt_of_block hB8w9
          go_wp2_with fail
          refine hK.out _ _ (Gn.start (by kernel_rfl) (heldO HCC.out (by (repeat (first | (with_reducible assumption) | (with_reducible exact Only.refl _ _) | (with_reducible refine Only.drew ?_) | (with_reducible refine Only.alloc ?_ _) | (with_reducible refine onlySet ?_ (by first | (with_reducible assumption) | omega) _) | (with_reducible refine Only.trans ?_ (by with_reducible assumption))))))) (fun hNew => ?_)
          clear hK K hHeld
          have hHeld := Gn.outS (by kernel_rfl) hNew
          clear hNew
          refine wpAnyG_act (a' := ?na41) ?ne41 ?nr41
          case ne41 =>
            try simp only [Act.put, List.setIfInBounds_toArray, List.set_cons_zero, List.set_cons_succ]
            try rfl
          refine wpAnyG_takeWD (d := some 150) (i := 4) (oi := _) (v := ?v23) rfl (by kernel_rfl) (by kernel_rfl) (by kernel_rfl) (by kernel_rfl) (by kernel_rfl) (fun _ _ _ h => h) (Or.inl ⟨by rfl, ?hy23⟩) (Gn.start (by kernel_rfl) hHeld) ?rest23
          case hy23 =>
            intro w _
            go_simp
            try with_reducible rfl
          refine wpAnyG_act (a' := ?na42) ?ne42 ?nr42
          case ne42 =>
            try simp only [Act.put, List.setIfInBounds_toArray, List.set_cons_zero, List.set_cons_succ]
            try rfl
          refine wpAnyG_takeWD (d := some 155) (i := 5) (oi := _) (v := ?v24) rfl (by kernel_rfl) (by kernel_rfl) (by kernel_rfl) (by kernel_rfl) (by kernel_rfl) (fun _ _ _ h => h) (Or.inl ⟨by rfl, ?hy24⟩) (Gn.start (by kernel_rfl) hHeld) ?rest24
          case hy24 =>
            intro w _
            go_simp
            try with_reducible rfl
          refine wpAnyG_act (a' := ?na43) ?ne43 ?nr43
          case ne43 =>
            try simp only [Act.put, List.setIfInBounds_toArray, List.set_cons_zero, List.set_cons_succ]
            try rfl
          refine wpAnyG_takeWD (d := some 156) (i := 6) (oi := _) (v := ?v25) rfl (by kernel_rfl) (by kernel_rfl) (by kernel_rfl) (by kernel_rfl) (by kernel_rfl) (fun _ _ _ h => h) (Or.inl ⟨by rfl, ?hy25⟩) (Gn.start (by kernel_rfl) hHeld) ?rest25
          case hy25 =>
            intro w _
            go_simp
            try with_reducible rfl
          refine wpAnyG_act (a' := ?na44) ?ne44 ?nr44
          case ne44 =>
            try simp only [Act.put, List.setIfInBounds_toArray, List.set_cons_zero, List.set_cons_succ]
            try rfl
          refine wpAnyG_takeWD (d := some 157) (i := 7) (oi := _) (v := ?v26) rfl (by kernel_rfl) (by kernel_rfl) (by kernel_rfl) (by kernel_rfl) (by kernel_rfl) (fun _ _ _ h => h) (Or.inl ⟨by rfl, ?hy26⟩) (Gn.start (by kernel_rfl) hHeld) ?rest26
          case hy26 =>
            intro w _
            go_simp
            try with_reducible rfl
          refine wpAnyG_act (a' := ?na45) ?ne45 ?nr45
          case ne45 =>
            try simp only [Act.put, List.setIfInBounds_toArray, List.set_cons_zero, List.set_cons_succ]
            try rfl
          refine wpAnyG_ready (rs := [9]) (by kernel_rfl) (by simp) ?_
          refine AllReadyG.cons (o := _) rfl (fun K hK => ?_) AllReadyG.nil
          go_simp
          refine hK.out _ _ (Gn.start (by kernel_rfl) (heldO HCC.out (by (repeat (first | (with_reducible assumption) | (with_reducible exact Only.refl _ _) | (with_reducible refine Only.drew ?_) | (with_reducible refine Only.alloc ?_ _) | (with_reducible refine onlySet ?_ (by first | (with_reducible assumption) | omega) _) | (with_reducible refine Only.trans ?_ (by with_reducible assumption))))))) (fun hNew => ?_)
          clear hK K hHeld
          have hHeld := Gn.outS (by kernel_rfl) hNew
          clear hNew
          refine wpAnyG_act (a' := ?na46) ?ne46 ?nr46
          case ne46 =>
            try simp only [Act.put, List.setIfInBounds_toArray, List.set_cons_zero, List.set_cons_succ]
            try rfl
          refine wpAnyG_at (fuel' := 3) (listed' := #[true, true, true, true, true, true, true, true, true, true, false, false, false]) (by kernel_rfl) (by kernel_rfl) ?_
          refine wpAnyG_joinW (fun wj => wj.heap[U6.heap.size]? = some (.cells #[.int .i64 0, .int .u64 0, .int .u64 0, .int .i64 0, .int .i64 0, .slice none 0 0] 72 (0, 0)) ∧ wj.heap[w9.heap.size]? = some (.cells #[.string ⟨#[]⟩, .int .u64 0, .int .i64 0, .int .i64 0, .bool false, .string ⟨#[]⟩] 35 (0, 0)) ∧ ¬ U6.heap.size = w9.heap.size ∧ U6.heap.size ≤ U6.heap.size ∧ U6.heap.size ≤ w9.heap.size ∧ VSl wj (.slice a9 K2.own.length c9) K2.own ∧ Only (fun _ => False) U6 wj) ?_ (fun wj hwj => ?_)
          · refine ⟨?_, ?_, by omega, by omega, by omega, hv9.new ?_, ?_⟩
            · (apply Eq.trans; (case h₁ => repeat (first | (with_reducible assumption) | (with_reducible exact heap_alloc_new _ _) | (with_reducible apply blk_new; (repeat (first | (with_reducible rfl) | (with_reducible apply sz_set) | (with_reducible apply sz_alloc) | (with_reducible apply sz_drew))); done) | (with_reducible apply blk_same) | (with_reducible apply blk_ne; case hn => (first | assumption | omega)) | (with_reducible apply blk_old) | (with_reducible apply blk_drew))); (case h₂ => rfl))
            · (apply Eq.trans; (case h₁ => repeat (first | (with_reducible assumption) | (with_reducible exact heap_alloc_new _ _) | (with_reducible apply blk_new; (repeat (first | (with_reducible rfl) | (with_reducible apply sz_set) | (with_reducible apply sz_alloc) | (with_reducible apply sz_drew))); done) | (with_reducible apply blk_same) | (with_reducible apply blk_ne; case hn => (first | assumption | omega)) | (with_reducible apply blk_old) | (with_reducible apply blk_drew))); (case h₂ => rfl))
            · (repeat (first | (with_reducible assumption) | (with_reducible exact Only.refl _ _) | (with_reducible refine Only.drew ?_) | (with_reducible refine Only.alloc ?_ _) | (with_reducible refine onlySet ?_ (by first | (with_reducible assumption) | omega) _) | (with_reducible refine Only.trans ?_ (by with_reducible assumption))))
            · (repeat (first | (with_reducible assumption) | (with_reducible exact Only.refl _ _) | (with_reducible refine Only.drew ?_) | (with_reducible refine Only.alloc ?_ _) | (with_reducible refine onlySet ?_ (by first | (with_reducible assumption) | omega) _) | (with_reducible refine Only.trans ?_ (by with_reducible assumption))))
          exact HJ.out (U6.heap.size) (w9.heap.size) (a9) (c9) wj hwj
        refine AllReadyG.cons (o := _) rfl (fun K hK => ?_) AllReadyG.nil
        go_simp
        refine hK.out _ _ (Gn.start (by kernel_rfl) (heldO HCC.out (by (repeat (first | (with_reducible assumption) | (with_reducible exact Only.refl _ _) | (with_reducible refine Only.drew ?_) | (with_reducible refine Only.alloc ?_ _) | (with_reducible refine onlySet ?_ (by first | (with_reducible assumption) | omega) _) | (with_reducible refine Only.trans ?_ (by with_reducible assumption))))))) (fun hNew => ?_)
        clear hK K hHeld
        have hHeld := Gn.outS (by kernel_rfl) hNew
        clear hNew
        refine wpAnyG_act (a' := ?na47) ?ne47 ?nr47
        case ne47 =>
          try simp only [Act.put, List.setIfInBounds_toArray, List.set_cons_zero, List.set_cons_succ]
          try rfl
        refine wpAnyG_ready (rs := [3]) (by kernel_rfl) (by simp) ?_
        refine AllReadyG.cons (o := _) rfl (fun K hK => ?_) AllReadyG.nil
        go_simp
        go_at_call 31
        refine (HRW.out _ (HSL.out.new (by (repeat (first | (with_reducible assumption) | (with_reducible exact Only.refl _ _) | (with_reducible refine Only.drew ?_) | (with_reducible refine Only.alloc ?_ _) | (with_reducible refine onlySet ?_ (by first | (with_reducible assumption) | omega) _) | (with_reducible refine Only.trans ?_ (by with_reducible assumption))))))).mono ?_
        rintro e w9 ⟨v9, rfl, ho9, hv9⟩
        obtain ⟨_, a9, c9, rfl, _⟩ := id hv9
        have o9 : Only (fun _ => False) U6 w9 := by
          refine Only.trans (b := _) ?_ ho9
          (repeat (first | (with_reducible assumption) | (with_reducible exact Only.refl _ _) | (with_reducible refine Only.drew ?_) | (with_reducible refine Only.alloc ?_ _) | (with_reducible refine onlySet ?_ (by first | (with_reducible assumption) | omega) _) | (with_reducible refine Only.trans ?_ (by with_reducible assumption))))
        have p9 : Only (fun _ => False) w8 w9 := by
          refine Only.trans (b := _) ?_ ho9
          (repeat (first | (with_reducible assumption) | (with_reducible exact Only.refl _ _) | (with_reducible refine Only.drew ?_) | (with_reducible refine Only.alloc ?_ _) | (with_reducible refine onlySet ?_ (by first | (with_reducible assumption) | omega) _) | (with_reducible refine Only.trans ?_ (by with_reducible assumption))))
        have hz9 : w8.heap.size ≤ w9.heap.size := p9.size
        have hB8w9 : w9.heap[U6.heap.size]? = some (.cells #[.int .i64 0, .int .u64 0, .int .u64 0, .int .i64 0, .int .i64 0, .slice none 0 0] 72 (0, 0)) := by (refine Only.old ho9 ?_ id); (apply Eq.trans; (case h₁ => repeat (first | (with_reducible assumption) | (with_reducible exact heap_alloc_new _ _) | (with_reducible apply blk_new; (repeat (first | (with_reducible rfl) | (with_reducible apply sz_set) | (with_reducible apply sz_alloc) | (with_reducible apply sz_drew))); done) | (with_reducible apply blk_same) | (with_reducible apply blk_ne; case hn => (first | assumption | omega)) | (with_reducible apply blk_old) | (with_reducible apply blk_drew))); (case h₂ => rfl))
        have hL8w9 := lt_of_block hB8w9
        have hB9w9 : w9.heap[w8.heap.size]? = some (.cells #[.string ⟨#[]⟩, .int .u64 0, .int .i64 0, .int .i64 0, .bool false, .string ⟨#[]⟩] 35 (0, 0)) := by (refine Only.old ho9 ?_ id); (apply Eq.trans; (case h₁ => repeat (first | (with_reducible assumption) | (with_reducible exact heap_alloc_new _ _) | (with_reducible apply blk_new; (repeat (first | (with_reducible rfl) | (with_reducible apply sz_set) | (with_reducible apply sz_alloc) | (with_reducible apply sz_drew))); done) | (with_reducible apply blk_same) | (with_reducible apply blk_ne; case hn => (first | assumption | omega)) | (with_reducible apply blk_old) | (with_reducible apply blk_drew))); (case h₂ => rfl))
        have hL9w9 := lt_of_block hB9w9
        go_wp2_with fail
        refine hK.out _ _ (Gn.start (by kernel_rfl) (heldO HCC.out (by (repeat (first | (with_reducible assumption) | (with_reducible exact Only.refl _ _) | (with_reducible refine Only.drew ?_) | (with_reducible refine Only.alloc ?_ _) | (with_reducible refine onlySet ?_ (by first | (with_reducible assumption) | omega) _) | (with_reducible refine Only.trans ?_ (by with_reducible assumption))))))) (fun hNew => ?_)
        clear hK K hHeld
        have hHeld := Gn.outS (by kernel_rfl) hNew
        clear hNew
        refine wpAnyG_act (a' := ?na48) ?ne48 ?nr48
        case ne48 =>
          try simp only [Act.put, List.setIfInBounds_toArray, List.set_cons_zero, List.set_cons_succ]
          try rfl
        refine wpAnyG_takeWD (d := some 150) (i := 4) (oi := _) (v := ?v27) rfl (by kernel_rfl) (by kernel_rfl) (by kernel_rfl) (by kernel_rfl) (by kernel_rfl) (fun _ _ _ h => h) (Or.inl ⟨by rfl, ?hy27⟩) (Gn.start (by kernel_rfl) hHeld) ?rest27
        case hy27 =>
          intro w _
          go_simp
          try with_reducible rfl
        refine wpAnyG_act (a' := ?na49) ?ne49 ?nr49
        case ne49 =>
          try simp only [Act.put, List.setIfInBounds_toArray, List.set_cons_zero, List.set_cons_succ]
          try rfl
        refine wpAnyG_takeWD (d := some 155) (i := 5) (oi := _) (v := ?v28) rfl (by kernel_rfl) (by kernel_rfl) (by kernel_rfl) (by kernel_rfl) (by kernel_rfl) (fun _ _ _ h => h) (Or.inl ⟨by rfl, ?hy28⟩) (Gn.start (by kernel_rfl) hHeld) ?rest28
        case hy28 =>
          intro w _
          go_simp
          try with_reducible rfl
        refine wpAnyG_act (a' := ?na50) ?ne50 ?nr50
        case ne50 =>
          try simp only [Act.put, List.setIfInBounds_toArray, List.set_cons_zero, List.set_cons_succ]
          try rfl
        refine wpAnyG_takeWD (d := some 156) (i := 6) (oi := _) (v := ?v29) rfl (by kernel_rfl) (by kernel_rfl) (by kernel_rfl) (by kernel_rfl) (by kernel_rfl) (fun _ _ _ h => h) (Or.inl ⟨by rfl, ?hy29⟩) (Gn.start (by kernel_rfl) hHeld) ?rest29
        case hy29 =>
          intro w _
          go_simp
          try with_reducible rfl
        refine wpAnyG_act (a' := ?na51) ?ne51 ?nr51
        case ne51 =>
          try simp only [Act.put, List.setIfInBounds_toArray, List.set_cons_zero, List.set_cons_succ]
          try rfl
        refine wpAnyG_takeWD (d := some 157) (i := 7) (oi := _) (v := ?v30) rfl (by kernel_rfl) (by kernel_rfl) (by kernel_rfl) (by kernel_rfl) (by kernel_rfl) (fun _ _ _ h => h) (Or.inl ⟨by rfl, ?hy30⟩) (Gn.start (by kernel_rfl) hHeld) ?rest30
        case hy30 =>
          intro w _
          go_simp
          try with_reducible rfl
        refine wpAnyG_act (a' := ?na52) ?ne52 ?nr52
        case ne52 =>
          try simp only [Act.put, List.setIfInBounds_toArray, List.set_cons_zero, List.set_cons_succ]
          try rfl
        refine wpAnyG_at (fuel' := 3) (listed' := #[true, true, true, true, true, true, true, true, true, true, false, false, false]) (by kernel_rfl) (by kernel_rfl) ?_
        refine wpAnyG_joinW (fun wj => wj.heap[U6.heap.size]? = some (.cells #[.int .i64 0, .int .u64 0, .int .u64 0, .int .i64 0, .int .i64 0, .slice none 0 0] 72 (0, 0)) ∧ wj.heap[w8.heap.size]? = some (.cells #[.string ⟨#[]⟩, .int .u64 0, .int .i64 0, .int .i64 0, .bool false, .string ⟨#[]⟩] 35 (0, 0)) ∧ ¬ U6.heap.size = w8.heap.size ∧ U6.heap.size ≤ U6.heap.size ∧ U6.heap.size ≤ w8.heap.size ∧ VSl wj (.slice a9 K2.own.length c9) K2.own ∧ Only (fun _ => False) U6 wj) ?_ (fun wj hwj => ?_)
        · refine ⟨?_, ?_, by omega, by omega, by omega, hv9.new ?_, ?_⟩
          · (apply Eq.trans; (case h₁ => repeat (first | (with_reducible assumption) | (with_reducible exact heap_alloc_new _ _) | (with_reducible apply blk_new; (repeat (first | (with_reducible rfl) | (with_reducible apply sz_set) | (with_reducible apply sz_alloc) | (with_reducible apply sz_drew))); done) | (with_reducible apply blk_same) | (with_reducible apply blk_ne; case hn => (first | assumption | omega)) | (with_reducible apply blk_old) | (with_reducible apply blk_drew))); (case h₂ => rfl))
          · (apply Eq.trans; (case h₁ => repeat (first | (with_reducible assumption) | (with_reducible exact heap_alloc_new _ _) | (with_reducible apply blk_new; (repeat (first | (with_reducible rfl) | (with_reducible apply sz_set) | (with_reducible apply sz_alloc) | (with_reducible apply sz_drew))); done) | (with_reducible apply blk_same) | (with_reducible apply blk_ne; case hn => (first | assumption | omega)) | (with_reducible apply blk_old) | (with_reducible apply blk_drew))); (case h₂ => rfl))
          · (repeat (first | (with_reducible assumption) | (with_reducible exact Only.refl _ _) | (with_reducible refine Only.drew ?_) | (with_reducible refine Only.alloc ?_ _) | (with_reducible refine onlySet ?_ (by first | (with_reducible assumption) | omega) _) | (with_reducible refine Only.trans ?_ (by with_reducible assumption))))
          · (repeat (first | (with_reducible assumption) | (with_reducible exact Only.refl _ _) | (with_reducible refine Only.drew ?_) | (with_reducible refine Only.alloc ?_ _) | (with_reducible refine onlySet ?_ (by first | (with_reducible assumption) | omega) _) | (with_reducible refine Only.trans ?_ (by with_reducible assumption))))
        exact HJ.out (U6.heap.size) (w8.heap.size) (a9) (c9) wj hwj
      refine AllReadyG.cons (o := _) rfl (fun K hK => ?_) AllReadyG.nil
      go_simp
      refine hK.out _ _ (Gn.start (by kernel_rfl) (heldO HCC.out (by (repeat (first | (with_reducible assumption) | (with_reducible exact Only.refl _ _) | (with_reducible refine Only.drew ?_) | (with_reducible refine Only.alloc ?_ _) | (with_reducible refine onlySet ?_ (by first | (with_reducible assumption) | omega) _) | (with_reducible refine Only.trans ?_ (by with_reducible assumption))))))) (fun hNew => ?_)
      clear hK K hHeld
      have hHeld := Gn.outS (by kernel_rfl) hNew
      clear hNew
      refine wpAnyG_act (a' := ?na53) ?ne53 ?nr53
      case ne53 =>
        try simp only [Act.put, List.setIfInBounds_toArray, List.set_cons_zero, List.set_cons_succ]
        try rfl
      refine wpAnyG_ready (rs := [2]) (by kernel_rfl) (by simp) ?_
      refine AllReadyG.cons (o := _) rfl (fun K hK => ?_) AllReadyG.nil
      go_simp
      go_at_call 30
      refine (HNM.out _).mono ?_
      rintro e w8 ⟨rfl, ho8⟩
      have o8 : Only (fun _ => False) U6 w8 := by
        refine Only.trans (b := _) ?_ ho8
        (repeat (first | (with_reducible assumption) | (with_reducible exact Only.refl _ _) | (with_reducible refine Only.drew ?_) | (with_reducible refine Only.alloc ?_ _) | (with_reducible refine onlySet ?_ (by first | (with_reducible assumption) | omega) _) | (with_reducible refine Only.trans ?_ (by with_reducible assumption))))
      have hz8 : U6.heap.size ≤ w8.heap.size := o8.size
      have hB8w8 : w8.heap[U6.heap.size]? = some (.cells #[.int .i64 0, .int .u64 0, .int .u64 0, .int .i64 0, .int .i64 0, .slice none 0 0] 72 (0, 0)) := by (refine Only.old ho8 ?_ id); (apply Eq.trans; (case h₁ => repeat (first | (with_reducible assumption) | (with_reducible exact heap_alloc_new _ _) | (with_reducible apply blk_new; (repeat (first | (with_reducible rfl) | (with_reducible apply sz_set) | (with_reducible apply sz_alloc) | (with_reducible apply sz_drew))); done) | (with_reducible apply blk_same) | (with_reducible apply blk_ne; case hn => (first | assumption | omega)) | (with_reducible apply blk_old) | (with_reducible apply blk_drew))); (case h₂ => rfl))
      have hL8w8 := lt_of_block hB8w8
      have hB9w8 : w8.heap[U6.heap.size + 1]? = some (.cells #[.string ⟨#[]⟩, .int .u64 0, .int .i64 0, .int .i64 0, .bool false, .string ⟨#[]⟩] 35 (0, 0)) := by (refine Only.old ho8 ?_ id); (apply Eq.trans; (case h₁ => repeat (first | (with_reducible assumption) | (with_reducible exact heap_alloc_new _ _) | (with_reducible apply blk_new; (repeat (first | (with_reducible rfl) | (with_reducible apply sz_set) | (with_reducible apply sz_alloc) | (with_reducible apply sz_drew))); done) | (with_reducible apply blk_same) | (with_reducible apply blk_ne; case hn => (first | assumption | omega)) | (with_reducible apply blk_old) | (with_reducible apply blk_drew))); (case h₂ => rfl))
      have hL9w8 := lt_of_block hB9w8
      go_wp2_with fail
      refine hK.out _ _ (Gn.start (by kernel_rfl) (heldO HCC.out (by (repeat (first | (with_reducible assumption) | (with_reducible exact Only.refl _ _) | (with_reducible refine Only.drew ?_) | (with_reducible refine Only.alloc ?_ _) | (with_reducible refine onlySet ?_ (by first | (with_reducible assumption) | omega) _) | (with_reducible refine Only.trans ?_ (by with_reducible assumption))))))) (fun hNew => ?_)
      clear hK K hHeld
      have hHeld := Gn.outS (by kernel_rfl) hNew
      clear hNew
      refine wpAnyG_act (a' := ?na54) ?ne54 ?nr54
      case ne54 =>
        try simp only [Act.put, List.setIfInBounds_toArray, List.set_cons_zero, List.set_cons_succ]
        try rfl
      refine wpAnyG_ready (rs := [3]) (by kernel_rfl) (by simp) ?_
      refine AllReadyG.cons (o := _) rfl (fun K hK => ?_) AllReadyG.nil
      go_simp
      go_at_call 31
      refine (HRW.out _ (HSL.out.new (by (repeat (first | (with_reducible assumption) | (with_reducible exact Only.refl _ _) | (with_reducible refine Only.drew ?_) | (with_reducible refine Only.alloc ?_ _) | (with_reducible refine onlySet ?_ (by first | (with_reducible assumption) | omega) _) | (with_reducible refine Only.trans ?_ (by with_reducible assumption))))))).mono ?_
      rintro e w9 ⟨v9, rfl, ho9, hv9⟩
      obtain ⟨_, a9, c9, rfl, _⟩ := id hv9
      have o9 : Only (fun _ => False) U6 w9 := by
        refine Only.trans (b := _) ?_ ho9
        (repeat (first | (with_reducible assumption) | (with_reducible exact Only.refl _ _) | (with_reducible refine Only.drew ?_) | (with_reducible refine Only.alloc ?_ _) | (with_reducible refine onlySet ?_ (by first | (with_reducible assumption) | omega) _) | (with_reducible refine Only.trans ?_ (by with_reducible assumption))))
      have p9 : Only (fun _ => False) w8 w9 := by
        refine Only.trans (b := _) ?_ ho9
        (repeat (first | (with_reducible assumption) | (with_reducible exact Only.refl _ _) | (with_reducible refine Only.drew ?_) | (with_reducible refine Only.alloc ?_ _) | (with_reducible refine onlySet ?_ (by first | (with_reducible assumption) | omega) _) | (with_reducible refine Only.trans ?_ (by with_reducible assumption))))
      have hz9 : w8.heap.size ≤ w9.heap.size := p9.size
      have hB8w9 : w9.heap[U6.heap.size]? = some (.cells #[.int .i64 0, .int .u64 0, .int .u64 0, .int .i64 0, .int .i64 0, .slice none 0 0] 72 (0, 0)) := by (refine Only.old ho9 ?_ id); (apply Eq.trans; (case h₁ => repeat (first | (with_reducible assumption) | (with_reducible exact heap_alloc_new _ _) | (with_reducible apply blk_new; (repeat (first | (with_reducible rfl) | (with_reducible apply sz_set) | (with_reducible apply sz_alloc) | (with_reducible apply sz_drew))); done) | (with_reducible apply blk_same) | (with_reducible apply blk_ne; case hn => (first | assumption | omega)) | (with_reducible apply blk_old) | (with_reducible apply blk_drew))); (case h₂ => rfl))
      have hL8w9 := lt_of_block hB8w9
      have hB9w9 : w9.heap[U6.heap.size + 1]? = some (.cells #[.string ⟨#[]⟩, .int .u64 0, .int .i64 0, .int .i64 0, .bool false, .string ⟨#[]⟩] 35 (0, 0)) := by (refine Only.old ho9 ?_ id); (apply Eq.trans; (case h₁ => repeat (first | (with_reducible assumption) | (with_reducible exact heap_alloc_new _ _) | (with_reducible apply blk_new; (repeat (first | (with_reducible rfl) | (with_reducible apply sz_set) | (with_reducible apply sz_alloc) | (with_reducible apply sz_drew))); done) | (with_reducible apply blk_same) | (with_reducible apply blk_ne; case hn => (first | assumption | omega)) | (with_reducible apply blk_old) | (with_reducible apply blk_drew))); (case h₂ => rfl))
      have hL9w9 := lt_of_block hB9w9
      go_wp2_with fail
      refine hK.out _ _ (Gn.start (by kernel_rfl) (heldO HCC.out (by (repeat (first | (with_reducible assumption) | (with_reducible exact Only.refl _ _) | (with_reducible refine Only.drew ?_) | (with_reducible refine Only.alloc ?_ _) | (with_reducible refine onlySet ?_ (by first | (with_reducible assumption) | omega) _) | (with_reducible refine Only.trans ?_ (by with_reducible assumption))))))) (fun hNew => ?_)
      clear hK K hHeld
      have hHeld := Gn.outS (by kernel_rfl) hNew
      clear hNew
      refine wpAnyG_act (a' := ?na55) ?ne55 ?nr55
      case ne55 =>
        try simp only [Act.put, List.setIfInBounds_toArray, List.set_cons_zero, List.set_cons_succ]
        try rfl
      refine wpAnyG_takeWD (d := some 150) (i := 4) (oi := _) (v := ?v31) rfl (by kernel_rfl) (by kernel_rfl) (by kernel_rfl) (by kernel_rfl) (by kernel_rfl) (fun _ _ _ h => h) (Or.inl ⟨by rfl, ?hy31⟩) (Gn.start (by kernel_rfl) hHeld) ?rest31
      case hy31 =>
        intro w _
        go_simp
        try with_reducible rfl
      refine wpAnyG_act (a' := ?na56) ?ne56 ?nr56
      case ne56 =>
        try simp only [Act.put, List.setIfInBounds_toArray, List.set_cons_zero, List.set_cons_succ]
        try rfl
      refine wpAnyG_takeWD (d := some 155) (i := 5) (oi := _) (v := ?v32) rfl (by kernel_rfl) (by kernel_rfl) (by kernel_rfl) (by kernel_rfl) (by kernel_rfl) (fun _ _ _ h => h) (Or.inl ⟨by rfl, ?hy32⟩) (Gn.start (by kernel_rfl) hHeld) ?rest32
      case hy32 =>
        intro w _
        go_simp
        try with_reducible rfl
      refine wpAnyG_act (a' := ?na57) ?ne57 ?nr57
      case ne57 =>
        try simp only [Act.put, List.setIfInBounds_toArray, List.set_cons_zero, List.set_cons_succ]
        try rfl
      refine wpAnyG_takeWD (d := some 156) (i := 6) (oi := _) (v := ?v33) rfl (by kernel_rfl) (by kernel_rfl) (by kernel_rfl) (by kernel_rfl) (by kernel_rfl) (fun _ _ _ h => h) (Or.inl ⟨by rfl, ?hy33⟩) (Gn.start (by kernel_rfl) hHeld) ?rest33
      case hy33 =>
        intro w _
        go_simp
        try with_reducible rfl
      refine wpAnyG_act (a' := ?na58) ?ne58 ?nr58
      case ne58 =>
        try simp only [Act.put, List.setIfInBounds_toArray, List.set_cons_zero, List.set_cons_succ]
        try rfl
      refine wpAnyG_takeWD (d := some 157) (i := 7) (oi := _) (v := ?v34) rfl (by kernel_rfl) (by kernel_rfl) (by kernel_rfl) (by kernel_rfl) (by kernel_rfl) (fun _ _ _ h => h) (Or.inl ⟨by rfl, ?hy34⟩) (Gn.start (by kernel_rfl) hHeld) ?rest34
      case hy34 =>
        intro w _
        go_simp
        try with_reducible rfl
      refine wpAnyG_act (a' := ?na59) ?ne59 ?nr59
      case ne59 =>
        try simp only [Act.put, List.setIfInBounds_toArray, List.set_cons_zero, List.set_cons_succ]
        try rfl
      refine wpAnyG_at (fuel' := 3) (listed' := #[true, true, true, true, true, true, true, true, true, true, false, false, false]) (by kernel_rfl) (by kernel_rfl) ?_
      refine wpAnyG_joinW (fun wj => wj.heap[U6.heap.size]? = some (.cells #[.int .i64 0, .int .u64 0, .int .u64 0, .int .i64 0, .int .i64 0, .slice none 0 0] 72 (0, 0)) ∧ wj.heap[U6.heap.size + 1]? = some (.cells #[.string ⟨#[]⟩, .int .u64 0, .int .i64 0, .int .i64 0, .bool false, .string ⟨#[]⟩] 35 (0, 0)) ∧ ¬ U6.heap.size = U6.heap.size + 1 ∧ U6.heap.size ≤ U6.heap.size ∧ U6.heap.size ≤ U6.heap.size + 1 ∧ VSl wj (.slice a9 K2.own.length c9) K2.own ∧ Only (fun _ => False) U6 wj) ?_ (fun wj hwj => ?_)
      · refine ⟨?_, ?_, by omega, by omega, by omega, hv9.new ?_, ?_⟩
        · (apply Eq.trans; (case h₁ => repeat (first | (with_reducible assumption) | (with_reducible exact heap_alloc_new _ _) | (with_reducible apply blk_new; (repeat (first | (with_reducible rfl) | (with_reducible apply sz_set) | (with_reducible apply sz_alloc) | (with_reducible apply sz_drew))); done) | (with_reducible apply blk_same) | (with_reducible apply blk_ne; case hn => (first | assumption | omega)) | (with_reducible apply blk_old) | (with_reducible apply blk_drew))); (case h₂ => rfl))
        · (apply Eq.trans; (case h₁ => repeat (first | (with_reducible assumption) | (with_reducible exact heap_alloc_new _ _) | (with_reducible apply blk_new; (repeat (first | (with_reducible rfl) | (with_reducible apply sz_set) | (with_reducible apply sz_alloc) | (with_reducible apply sz_drew))); done) | (with_reducible apply blk_same) | (with_reducible apply blk_ne; case hn => (first | assumption | omega)) | (with_reducible apply blk_old) | (with_reducible apply blk_drew))); (case h₂ => rfl))
        · (repeat (first | (with_reducible assumption) | (with_reducible exact Only.refl _ _) | (with_reducible refine Only.drew ?_) | (with_reducible refine Only.alloc ?_ _) | (with_reducible refine onlySet ?_ (by first | (with_reducible assumption) | omega) _) | (with_reducible refine Only.trans ?_ (by with_reducible assumption))))
        · (repeat (first | (with_reducible assumption) | (with_reducible exact Only.refl _ _) | (with_reducible refine Only.drew ?_) | (with_reducible refine Only.alloc ?_ _) | (with_reducible refine onlySet ?_ (by first | (with_reducible assumption) | omega) _) | (with_reducible refine Only.trans ?_ (by with_reducible assumption))))
      exact HJ.out (U6.heap.size) (U6.heap.size + 1) (a9) (c9) wj hwj
    refine AllReadyG.cons (o := _) rfl (fun K hK => ?_) AllReadyG.nil
    go_simp
    refine hK.out _ _ (Gn.start (by kernel_rfl) (heldO HCC.out (by (repeat (first | (with_reducible assumption) | (with_reducible exact Only.refl _ _) | (with_reducible refine Only.drew ?_) | (with_reducible refine Only.alloc ?_ _) | (with_reducible refine onlySet ?_ (by first | (with_reducible assumption) | omega) _) | (with_reducible refine Only.trans ?_ (by with_reducible assumption))))))) (fun hNew => ?_)
    clear hK K hHeld
    have hHeld := Gn.outS (by kernel_rfl) hNew
    clear hNew
    refine wpAnyG_act (a' := ?na60) ?ne60 ?nr60
    case ne60 =>
      try simp only [Act.put, List.setIfInBounds_toArray, List.set_cons_zero, List.set_cons_succ]
      try rfl
    refine wpAnyG_ready (rs := [2, 8]) (by kernel_rfl) (by simp) ?_
    refine AllReadyG.cons (o := _) rfl (fun K hK => ?_) ?_
    · go_simp
      go_at_call 30
      refine (HNM.out _).mono ?_
      rintro e w8 ⟨rfl, ho8⟩
      have o8 : Only (fun _ => False) U6 w8 := by
        refine Only.trans (b := _) ?_ ho8
        (repeat (first | (with_reducible assumption) | (with_reducible exact Only.refl _ _) | (with_reducible refine Only.drew ?_) | (with_reducible refine Only.alloc ?_ _) | (with_reducible refine onlySet ?_ (by first | (with_reducible assumption) | omega) _) | (with_reducible refine Only.trans ?_ (by with_reducible assumption))))
      have hz8 : U6.heap.size ≤ w8.heap.size := o8.size
      have hB9w8 : w8.heap[U6.heap.size]? = some (.cells #[.string ⟨#[]⟩, .int .u64 0, .int .i64 0, .int .i64 0, .bool false, .string ⟨#[]⟩] 35 (0, 0)) := by (refine Only.old ho8 ?_ id); (apply Eq.trans; (case h₁ => repeat (first | (with_reducible assumption) | (with_reducible exact heap_alloc_new _ _) | (with_reducible apply blk_new; (repeat (first | (with_reducible rfl) | (with_reducible apply sz_set) | (with_reducible apply sz_alloc) | (with_reducible apply sz_drew))); done) | (with_reducible apply blk_same) | (with_reducible apply blk_ne; case hn => (first | assumption | omega)) | (with_reducible apply blk_old) | (with_reducible apply blk_drew))); (case h₂ => rfl))
      have hL9w8 := lt_of_block hB9w8
      go_wp2_with fail
      refine hK.out _ _ (Gn.start (by kernel_rfl) (heldO HCC.out (by (repeat (first | (with_reducible assumption) | (with_reducible exact Only.refl _ _) | (with_reducible refine Only.drew ?_) | (with_reducible refine Only.alloc ?_ _) | (with_reducible refine onlySet ?_ (by first | (with_reducible assumption) | omega) _) | (with_reducible refine Only.trans ?_ (by with_reducible assumption))))))) (fun hNew => ?_)
      clear hK K hHeld
      have hHeld := Gn.outS (by kernel_rfl) hNew
      clear hNew
      refine wpAnyG_act (a' := ?na61) ?ne61 ?nr61
      case ne61 =>
        try simp only [Act.put, List.setIfInBounds_toArray, List.set_cons_zero, List.set_cons_succ]
        try rfl
      refine wpAnyG_ready (rs := [3, 8]) (by kernel_rfl) (by simp) ?_
      refine AllReadyG.cons (o := _) rfl (fun K hK => ?_) ?_
      · go_simp
        go_at_call 31
        refine (HRW.out _ (HSL.out.new (by (repeat (first | (with_reducible assumption) | (with_reducible exact Only.refl _ _) | (with_reducible refine Only.drew ?_) | (with_reducible refine Only.alloc ?_ _) | (with_reducible refine onlySet ?_ (by first | (with_reducible assumption) | omega) _) | (with_reducible refine Only.trans ?_ (by with_reducible assumption))))))).mono ?_
        rintro e w9 ⟨v9, rfl, ho9, hv9⟩
        obtain ⟨_, a9, c9, rfl, _⟩ := id hv9
        have o9 : Only (fun _ => False) U6 w9 := by
          refine Only.trans (b := _) ?_ ho9
          (repeat (first | (with_reducible assumption) | (with_reducible exact Only.refl _ _) | (with_reducible refine Only.drew ?_) | (with_reducible refine Only.alloc ?_ _) | (with_reducible refine onlySet ?_ (by first | (with_reducible assumption) | omega) _) | (with_reducible refine Only.trans ?_ (by with_reducible assumption))))
        have p9 : Only (fun _ => False) w8 w9 := by
          refine Only.trans (b := _) ?_ ho9
          (repeat (first | (with_reducible assumption) | (with_reducible exact Only.refl _ _) | (with_reducible refine Only.drew ?_) | (with_reducible refine Only.alloc ?_ _) | (with_reducible refine onlySet ?_ (by first | (with_reducible assumption) | omega) _) | (with_reducible refine Only.trans ?_ (by with_reducible assumption))))
        have hz9 : w8.heap.size ≤ w9.heap.size := p9.size
        have hB9w9 : w9.heap[U6.heap.size]? = some (.cells #[.string ⟨#[]⟩, .int .u64 0, .int .i64 0, .int .i64 0, .bool false, .string ⟨#[]⟩] 35 (0, 0)) := by (refine Only.old ho9 ?_ id); (apply Eq.trans; (case h₁ => repeat (first | (with_reducible assumption) | (with_reducible exact heap_alloc_new _ _) | (with_reducible apply blk_new; (repeat (first | (with_reducible rfl) | (with_reducible apply sz_set) | (with_reducible apply sz_alloc) | (with_reducible apply sz_drew))); done) | (with_reducible apply blk_same) | (with_reducible apply blk_ne; case hn => (first | assumption | omega)) | (with_reducible apply blk_old) | (with_reducible apply blk_drew))); (case h₂ => rfl))
        have hL9w9 := lt_of_block hB9w9
        go_wp2_with fail
        refine hK.out _ _ (Gn.start (by kernel_rfl) (heldO HCC.out (by (repeat (first | (with_reducible assumption) | (with_reducible exact Only.refl _ _) | (with_reducible refine Only.drew ?_) | (with_reducible refine Only.alloc ?_ _) | (with_reducible refine onlySet ?_ (by first | (with_reducible assumption) | omega) _) | (with_reducible refine Only.trans ?_ (by with_reducible assumption))))))) (fun hNew => ?_)
        clear hK K hHeld
        have hHeld := Gn.outS (by kernel_rfl) hNew
        clear hNew
        refine wpAnyG_act (a' := ?na62) ?ne62 ?nr62
        case ne62 =>
          try simp only [Act.put, List.setIfInBounds_toArray, List.set_cons_zero, List.set_cons_succ]
          try rfl
        refine wpAnyG_takeWD (d := some 150) (i := 4) (oi := _) (v := ?v35) rfl (by kernel_rfl) (by kernel_rfl) (by kernel_rfl) (by kernel_rfl) (by kernel_rfl) (fun _ _ _ h => h) (Or.inl ⟨by rfl, ?hy35⟩) (Gn.start (by kernel_rfl) hHeld) ?rest35
        case hy35 =>
          intro w _
          go_simp
          try with_reducible rfl
        refine wpAnyG_act (a' := ?na63) ?ne63 ?nr63
        case ne63 =>
          try simp only [Act.put, List.setIfInBounds_toArray, List.set_cons_zero, List.set_cons_succ]
          try rfl
        refine wpAnyG_takeWD (d := some 155) (i := 5) (oi := _) (v := ?v36) rfl (by kernel_rfl) (by kernel_rfl) (by kernel_rfl) (by kernel_rfl) (by kernel_rfl) (fun _ _ _ h => h) (Or.inl ⟨by rfl, ?hy36⟩) (Gn.start (by kernel_rfl) hHeld) ?rest36
        case hy36 =>
          intro w _
          go_simp
          try with_reducible rfl
        refine wpAnyG_act (a' := ?na64) ?ne64 ?nr64
        case ne64 =>
          try simp only [Act.put, List.setIfInBounds_toArray, List.set_cons_zero, List.set_cons_succ]
          try rfl
        refine wpAnyG_takeWD (d := some 156) (i := 6) (oi := _) (v := ?v37) rfl (by kernel_rfl) (by kernel_rfl) (by kernel_rfl) (by kernel_rfl) (by kernel_rfl) (fun _ _ _ h => h) (Or.inl ⟨by rfl, ?hy37⟩) (Gn.start (by kernel_rfl) hHeld) ?rest37
        case hy37 =>
          intro w _
          go_simp
          try with_reducible rfl
        refine wpAnyG_act (a' := ?na65) ?ne65 ?nr65
        case ne65 =>
          try simp only [Act.put, List.setIfInBounds_toArray, List.set_cons_zero, List.set_cons_succ]
          try rfl
        refine wpAnyG_takeWD (d := some 157) (i := 7) (oi := _) (v := ?v38) rfl (by kernel_rfl) (by kernel_rfl) (by kernel_rfl) (by kernel_rfl) (by kernel_rfl) (fun _ _ _ h => h) (Or.inl ⟨by rfl, ?hy38⟩) (Gn.start (by kernel_rfl) hHeld) ?rest38
        case hy38 =>
          intro w _
          go_simp
          try with_reducible rfl
        refine wpAnyG_act (a' := ?na66) ?ne66 ?nr66
        case ne66 =>
          try simp only [Act.put, List.setIfInBounds_toArray, List.set_cons_zero, List.set_cons_succ]
          try rfl
        refine wpAnyG_ready (rs := [8]) (by kernel_rfl) (by simp) ?_
        refine AllReadyG.cons (o := _) rfl (fun K hK => ?_) AllReadyG.nil
        go_simp
        refine hK.out _ _ (Gn.start (by kernel_rfl) (heldO HCC.out (by (repeat (first | (with_reducible assumption) | (with_reducible exact Only.refl _ _) | (with_reducible refine Only.drew ?_) | (with_reducible refine Only.alloc ?_ _) | (with_reducible refine onlySet ?_ (by first | (with_reducible assumption) | omega) _) | (with_reducible refine Only.trans ?_ (by with_reducible assumption))))))) (fun hNew => ?_)
        clear hK K hHeld
        have hHeld := Gn.outS (by kernel_rfl) hNew
        clear hNew
        refine wpAnyG_act (a' := ?na67) ?ne67 ?nr67
        case ne67 =>
          try simp only [Act.put, List.setIfInBounds_toArray, List.set_cons_zero, List.set_cons_succ]
          try rfl
        refine wpAnyG_at (fuel' := 3) (listed' := #[true, true, true, true, true, true, true, true, true, true, false, false, false]) (by kernel_rfl) (by kernel_rfl) ?_
        refine wpAnyG_joinW (fun wj => wj.heap[w9.heap.size]? = some (.cells #[.int .i64 0, .int .u64 0, .int .u64 0, .int .i64 0, .int .i64 0, .slice none 0 0] 72 (0, 0)) ∧ wj.heap[U6.heap.size]? = some (.cells #[.string ⟨#[]⟩, .int .u64 0, .int .i64 0, .int .i64 0, .bool false, .string ⟨#[]⟩] 35 (0, 0)) ∧ ¬ w9.heap.size = U6.heap.size ∧ U6.heap.size ≤ w9.heap.size ∧ U6.heap.size ≤ U6.heap.size ∧ VSl wj (.slice a9 K2.own.length c9) K2.own ∧ Only (fun _ => False) U6 wj) ?_ (fun wj hwj => ?_)
        · refine ⟨?_, ?_, by omega, by omega, by omega, hv9.new ?_, ?_⟩
          · (apply Eq.trans; (case h₁ => repeat (first | (with_reducible assumption) | (with_reducible exact heap_alloc_new _ _) | (with_reducible apply blk_new; (repeat (first | (with_reducible rfl) | (with_reducible apply sz_set) | (with_reducible apply sz_alloc) | (with_reducible apply sz_drew))); done) | (with_reducible apply blk_same) | (with_reducible apply blk_ne; case hn => (first | assumption | omega)) | (with_reducible apply blk_old) | (with_reducible apply blk_drew))); (case h₂ => rfl))
          · (apply Eq.trans; (case h₁ => repeat (first | (with_reducible assumption) | (with_reducible exact heap_alloc_new _ _) | (with_reducible apply blk_new; (repeat (first | (with_reducible rfl) | (with_reducible apply sz_set) | (with_reducible apply sz_alloc) | (with_reducible apply sz_drew))); done) | (with_reducible apply blk_same) | (with_reducible apply blk_ne; case hn => (first | assumption | omega)) | (with_reducible apply blk_old) | (with_reducible apply blk_drew))); (case h₂ => rfl))
          · (repeat (first | (with_reducible assumption) | (with_reducible exact Only.refl _ _) | (with_reducible refine Only.drew ?_) | (with_reducible refine Only.alloc ?_ _) | (with_reducible refine onlySet ?_ (by first | (with_reducible assumption) | omega) _) | (with_reducible refine Only.trans ?_ (by with_reducible assumption))))
          · (repeat (first | (with_reducible assumption) | (with_reducible exact Only.refl _ _) | (with_reducible refine Only.drew ?_) | (with_reducible refine Only.alloc ?_ _) | (with_reducible refine onlySet ?_ (by first | (with_reducible assumption) | omega) _) | (with_reducible refine Only.trans ?_ (by with_reducible assumption))))
        exact HJ.out (w9.heap.size) (U6.heap.size) (a9) (c9) wj hwj
      refine AllReadyG.cons (o := _) rfl (fun K hK => ?_) AllReadyG.nil
      go_simp
      refine hK.out _ _ (Gn.start (by kernel_rfl) (heldO HCC.out (by (repeat (first | (with_reducible assumption) | (with_reducible exact Only.refl _ _) | (with_reducible refine Only.drew ?_) | (with_reducible refine Only.alloc ?_ _) | (with_reducible refine onlySet ?_ (by first | (with_reducible assumption) | omega) _) | (with_reducible refine Only.trans ?_ (by with_reducible assumption))))))) (fun hNew => ?_)
      clear hK K hHeld
      have hHeld := Gn.outS (by kernel_rfl) hNew
      clear hNew
      refine wpAnyG_act (a' := ?na68) ?ne68 ?nr68
      case ne68 =>
        try simp only [Act.put, List.setIfInBounds_toArray, List.set_cons_zero, List.set_cons_succ]
        try rfl
      refine wpAnyG_ready (rs := [3]) (by kernel_rfl) (by simp) ?_
      refine AllReadyG.cons (o := _) rfl (fun K hK => ?_) AllReadyG.nil
      go_simp
      go_at_call 31
      refine (HRW.out _ (HSL.out.new (by (repeat (first | (with_reducible assumption) | (with_reducible exact Only.refl _ _) | (with_reducible refine Only.drew ?_) | (with_reducible refine Only.alloc ?_ _) | (with_reducible refine onlySet ?_ (by first | (with_reducible assumption) | omega) _) | (with_reducible refine Only.trans ?_ (by with_reducible assumption))))))).mono ?_
      rintro e w9 ⟨v9, rfl, ho9, hv9⟩
      obtain ⟨_, a9, c9, rfl, _⟩ := id hv9
      have o9 : Only (fun _ => False) U6 w9 := by
        refine Only.trans (b := _) ?_ ho9
        (repeat (first | (with_reducible assumption) | (with_reducible exact Only.refl _ _) | (with_reducible refine Only.drew ?_) | (with_reducible refine Only.alloc ?_ _) | (with_reducible refine onlySet ?_ (by first | (with_reducible assumption) | omega) _) | (with_reducible refine Only.trans ?_ (by with_reducible assumption))))
      have p9 : Only (fun _ => False) w8 w9 := by
        refine Only.trans (b := _) ?_ ho9
        (repeat (first | (with_reducible assumption) | (with_reducible exact Only.refl _ _) | (with_reducible refine Only.drew ?_) | (with_reducible refine Only.alloc ?_ _) | (with_reducible refine onlySet ?_ (by first | (with_reducible assumption) | omega) _) | (with_reducible refine Only.trans ?_ (by with_reducible assumption))))
      have hz9 : w8.heap.size ≤ w9.heap.size := p9.size
      have hB9w9 : w9.heap[U6.heap.size]? = some (.cells #[.string ⟨#[]⟩, .int .u64 0, .int .i64 0, .int .i64 0, .bool false, .string ⟨#[]⟩] 35 (0, 0)) := by (refine Only.old ho9 ?_ id); (apply Eq.trans; (case h₁ => repeat (first | (with_reducible assumption) | (with_reducible exact heap_alloc_new _ _) | (with_reducible apply blk_new; (repeat (first | (with_reducible rfl) | (with_reducible apply sz_set) | (with_reducible apply sz_alloc) | (with_reducible apply sz_drew))); done) | (with_reducible apply blk_same) | (with_reducible apply blk_ne; case hn => (first | assumption | omega)) | (with_reducible apply blk_old) | (with_reducible apply blk_drew))); (case h₂ => rfl))
      have hL9w9 := lt_of_block hB9w9
      have hB8w9 : w9.heap[w8.heap.size]? = some (.cells #[.int .i64 0, .int .u64 0, .int .u64 0, .int .i64 0, .int .i64 0, .slice none 0 0] 72 (0, 0)) := by (refine Only.old ho9 ?_ id); (apply Eq.trans; (case h₁ => repeat (first | (with_reducible assumption) | (with_reducible exact heap_alloc_new _ _) | (with_reducible apply blk_new; (repeat (first | (with_reducible rfl) | (with_reducible apply sz_set) | (with_reducible apply sz_alloc) | (with_reducible apply sz_drew))); done) | (with_reducible apply blk_same) | (with_reducible apply blk_ne; case hn => (first | assumption | omega)) | (with_reducible apply blk_old) | (with_reducible apply blk_drew))); (case h₂ => rfl))
      have hL8w9 := lt_of_block hB8w9
      go_wp2_with fail
      refine hK.out _ _ (Gn.start (by kernel_rfl) (heldO HCC.out (by (repeat (first | (with_reducible assumption) | (with_reducible exact Only.refl _ _) | (with_reducible refine Only.drew ?_) | (with_reducible refine Only.alloc ?_ _) | (with_reducible refine onlySet ?_ (by first | (with_reducible assumption) | omega) _) | (with_reducible refine Only.trans ?_ (by with_reducible assumption))))))) (fun hNew => ?_)
      clear hK K hHeld
      have hHeld := Gn.outS (by kernel_rfl) hNew
      clear hNew
      refine wpAnyG_act (a' := ?na69) ?ne69 ?nr69
      case ne69 =>
        try simp only [Act.put, List.setIfInBounds_toArray, List.set_cons_zero, List.set_cons_succ]
        try rfl
      refine wpAnyG_takeWD (d := some 150) (i := 4) (oi := _) (v := ?v39) rfl (by kernel_rfl) (by kernel_rfl) (by kernel_rfl) (by kernel_rfl) (by kernel_rfl) (fun _ _ _ h => h) (Or.inl ⟨by rfl, ?hy39⟩) (Gn.start (by kernel_rfl) hHeld) ?rest39
      case hy39 =>
        intro w _
        go_simp
        try with_reducible rfl
      refine wpAnyG_act (a' := ?na70) ?ne70 ?nr70
      case ne70 =>
        try simp only [Act.put, List.setIfInBounds_toArray, List.set_cons_zero, List.set_cons_succ]
        try rfl
      refine wpAnyG_takeWD (d := some 155) (i := 5) (oi := _) (v := ?v40) rfl (by kernel_rfl) (by kernel_rfl) (by kernel_rfl) (by kernel_rfl) (by kernel_rfl) (fun _ _ _ h => h) (Or.inl ⟨by rfl, ?hy40⟩) (Gn.start (by kernel_rfl) hHeld) ?rest40
      case hy40 =>
        intro w _
        go_simp
        try with_reducible rfl
      refine wpAnyG_act (a' := ?na71) ?ne71 ?nr71
      case ne71 =>
        try simp only [Act.put, List.setIfInBounds_toArray, List.set_cons_zero, List.set_cons_succ]
        try rfl
      refine wpAnyG_takeWD (d := some 156) (i := 6) (oi := _) (v := ?v41) rfl (by kernel_rfl) (by kernel_rfl) (by kernel_rfl) (by kernel_rfl) (by kernel_rfl) (fun _ _ _ h => h) (Or.inl ⟨by rfl, ?hy41⟩) (Gn.start (by kernel_rfl) hHeld) ?rest41
      case hy41 =>
        intro w _
        go_simp
        try with_reducible rfl
      refine wpAnyG_act (a' := ?na72) ?ne72 ?nr72
      case ne72 =>
        try simp only [Act.put, List.setIfInBounds_toArray, List.set_cons_zero, List.set_cons_succ]
        try rfl
      refine wpAnyG_takeWD (d := some 157) (i := 7) (oi := _) (v := ?v42) rfl (by kernel_rfl) (by kernel_rfl) (by kernel_rfl) (by kernel_rfl) (by kernel_rfl) (fun _ _ _ h => h) (Or.inl ⟨by rfl, ?hy42⟩) (Gn.start (by kernel_rfl) hHeld) ?rest42
      case hy42 =>
        intro w _
        go_simp
        try with_reducible rfl
      refine wpAnyG_act (a' := ?na73) ?ne73 ?nr73
      case ne73 =>
        try simp only [Act.put, List.setIfInBounds_toArray, List.set_cons_zero, List.set_cons_succ]
        try rfl
      refine wpAnyG_at (fuel' := 3) (listed' := #[true, true, true, true, true, true, true, true, true, true, false, false, false]) (by kernel_rfl) (by kernel_rfl) ?_
      refine wpAnyG_joinW (fun wj => wj.heap[w8.heap.size]? = some (.cells #[.int .i64 0, .int .u64 0, .int .u64 0, .int .i64 0, .int .i64 0, .slice none 0 0] 72 (0, 0)) ∧ wj.heap[U6.heap.size]? = some (.cells #[.string ⟨#[]⟩, .int .u64 0, .int .i64 0, .int .i64 0, .bool false, .string ⟨#[]⟩] 35 (0, 0)) ∧ ¬ w8.heap.size = U6.heap.size ∧ U6.heap.size ≤ w8.heap.size ∧ U6.heap.size ≤ U6.heap.size ∧ VSl wj (.slice a9 K2.own.length c9) K2.own ∧ Only (fun _ => False) U6 wj) ?_ (fun wj hwj => ?_)
      · refine ⟨?_, ?_, by omega, by omega, by omega, hv9.new ?_, ?_⟩
        · (apply Eq.trans; (case h₁ => repeat (first | (with_reducible assumption) | (with_reducible exact heap_alloc_new _ _) | (with_reducible apply blk_new; (repeat (first | (with_reducible rfl) | (with_reducible apply sz_set) | (with_reducible apply sz_alloc) | (with_reducible apply sz_drew))); done) | (with_reducible apply blk_same) | (with_reducible apply blk_ne; case hn => (first | assumption | omega)) | (with_reducible apply blk_old) | (with_reducible apply blk_drew))); (case h₂ => rfl))
        · (apply Eq.trans; (case h₁ => repeat (first | (with_reducible assumption) | (with_reducible exact heap_alloc_new _ _) | (with_reducible apply blk_new; (repeat (first | (with_reducible rfl) | (with_reducible apply sz_set) | (with_reducible apply sz_alloc) | (with_reducible apply sz_drew))); done) | (with_reducible apply blk_same) | (with_reducible apply blk_ne; case hn => (first | assumption | omega)) | (with_reducible apply blk_old) | (with_reducible apply blk_drew))); (case h₂ => rfl))
        · (repeat (first | (with_reducible assumption) | (with_reducible exact Only.refl _ _) | (with_reducible refine Only.drew ?_) | (with_reducible refine Only.alloc ?_ _) | (with_reducible refine onlySet ?_ (by first | (with_reducible assumption) | omega) _) | (with_reducible refine Only.trans ?_ (by with_reducible assumption))))
        · (repeat (first | (with_reducible assumption) | (with_reducible exact Only.refl _ _) | (with_reducible refine Only.drew ?_) | (with_reducible refine Only.alloc ?_ _) | (with_reducible refine onlySet ?_ (by first | (with_reducible assumption) | omega) _) | (with_reducible refine Only.trans ?_ (by with_reducible assumption))))
      exact HJ.out (w8.heap.size) (U6.heap.size) (a9) (c9) wj hwj
    refine AllReadyG.cons (o := _) rfl (fun K hK => ?_) AllReadyG.nil
    go_simp
    refine hK.out _ _ (Gn.start (by kernel_rfl) (heldO HCC.out (by (repeat (first | (with_reducible assumption) | (with_reducible exact Only.refl _ _) | (with_reducible refine Only.drew ?_) | (with_reducible refine Only.alloc ?_ _) | (with_reducible refine onlySet ?_ (by first | (with_reducible assumption) | omega) _) | (with_reducible refine Only.trans ?_ (by with_reducible assumption))))))) (fun hNew => ?_)
    clear hK K hHeld
    have hHeld := Gn.outS (by kernel_rfl) hNew
    clear hNew
    refine wpAnyG_act (a' := ?na74) ?ne74 ?nr74
    case ne74 =>
      try simp only [Act.put, List.setIfInBounds_toArray, List.set_cons_zero, List.set_cons_succ]
      try rfl
    refine wpAnyG_ready (rs := [2]) (by kernel_rfl) (by simp) ?_
    refine AllReadyG.cons (o := _) rfl (fun K hK => ?_) AllReadyG.nil
    go_simp
    go_at_call 30
    refine (HNM.out _).mono ?_
    rintro e w8 ⟨rfl, ho8⟩
    have o8 : Only (fun _ => False) U6 w8 := by
      refine Only.trans (b := _) ?_ ho8
      (repeat (first | (with_reducible assumption) | (with_reducible exact Only.refl _ _) | (with_reducible refine Only.drew ?_) | (with_reducible refine Only.alloc ?_ _) | (with_reducible refine onlySet ?_ (by first | (with_reducible assumption) | omega) _) | (with_reducible refine Only.trans ?_ (by with_reducible assumption))))
    have hz8 : U6.heap.size ≤ w8.heap.size := o8.size
    have hB9w8 : w8.heap[U6.heap.size]? = some (.cells #[.string ⟨#[]⟩, .int .u64 0, .int .i64 0, .int .i64 0, .bool false, .string ⟨#[]⟩] 35 (0, 0)) := by (refine Only.old ho8 ?_ id); (apply Eq.trans; (case h₁ => repeat (first | (with_reducible assumption) | (with_reducible exact heap_alloc_new _ _) | (with_reducible apply blk_new; (repeat (first | (with_reducible rfl) | (with_reducible apply sz_set) | (with_reducible apply sz_alloc) | (with_reducible apply sz_drew))); done) | (with_reducible apply blk_same) | (with_reducible apply blk_ne; case hn => (first | assumption | omega)) | (with_reducible apply blk_old) | (with_reducible apply blk_drew))); (case h₂ => rfl))
    have hL9w8 := lt_of_block hB9w8
    have hB8w8 : w8.heap[U6.heap.size + 1]? = some (.cells #[.int .i64 0, .int .u64 0, .int .u64 0, .int .i64 0, .int .i64 0, .slice none 0 0] 72 (0, 0)) := by (refine Only.old ho8 ?_ id); (apply Eq.trans; (case h₁ => repeat (first | (with_reducible assumption) | (with_reducible exact heap_alloc_new _ _) | (with_reducible apply blk_new; (repeat (first | (with_reducible rfl) | (with_reducible apply sz_set) | (with_reducible apply sz_alloc) | (with_reducible apply sz_drew))); done) | (with_reducible apply blk_same) | (with_reducible apply blk_ne; case hn => (first | assumption | omega)) | (with_reducible apply blk_old) | (with_reducible apply blk_drew))); (case h₂ => rfl))
    have hL8w8 := lt_of_block hB8w8
    go_wp2_with fail
    refine hK.out _ _ (Gn.start (by kernel_rfl) (heldO HCC.out (by (repeat (first | (with_reducible assumption) | (with_reducible exact Only.refl _ _) | (with_reducible refine Only.drew ?_) | (with_reducible refine Only.alloc ?_ _) | (with_reducible refine onlySet ?_ (by first | (with_reducible assumption) | omega) _) | (with_reducible refine Only.trans ?_ (by with_reducible assumption))))))) (fun hNew => ?_)
    clear hK K hHeld
    have hHeld := Gn.outS (by kernel_rfl) hNew
    clear hNew
    refine wpAnyG_act (a' := ?na75) ?ne75 ?nr75
    case ne75 =>
      try simp only [Act.put, List.setIfInBounds_toArray, List.set_cons_zero, List.set_cons_succ]
      try rfl
    refine wpAnyG_ready (rs := [3]) (by kernel_rfl) (by simp) ?_
    refine AllReadyG.cons (o := _) rfl (fun K hK => ?_) AllReadyG.nil
    go_simp
    go_at_call 31
    refine (HRW.out _ (HSL.out.new (by (repeat (first | (with_reducible assumption) | (with_reducible exact Only.refl _ _) | (with_reducible refine Only.drew ?_) | (with_reducible refine Only.alloc ?_ _) | (with_reducible refine onlySet ?_ (by first | (with_reducible assumption) | omega) _) | (with_reducible refine Only.trans ?_ (by with_reducible assumption))))))).mono ?_
    rintro e w9 ⟨v9, rfl, ho9, hv9⟩
    obtain ⟨_, a9, c9, rfl, _⟩ := id hv9
    have o9 : Only (fun _ => False) U6 w9 := by
      refine Only.trans (b := _) ?_ ho9
      (repeat (first | (with_reducible assumption) | (with_reducible exact Only.refl _ _) | (with_reducible refine Only.drew ?_) | (with_reducible refine Only.alloc ?_ _) | (with_reducible refine onlySet ?_ (by first | (with_reducible assumption) | omega) _) | (with_reducible refine Only.trans ?_ (by with_reducible assumption))))
    have p9 : Only (fun _ => False) w8 w9 := by
      refine Only.trans (b := _) ?_ ho9
      (repeat (first | (with_reducible assumption) | (with_reducible exact Only.refl _ _) | (with_reducible refine Only.drew ?_) | (with_reducible refine Only.alloc ?_ _) | (with_reducible refine onlySet ?_ (by first | (with_reducible assumption) | omega) _) | (with_reducible refine Only.trans ?_ (by with_reducible assumption))))
    have hz9 : w8.heap.size ≤ w9.heap.size := p9.size
    have hB9w9 : w9.heap[U6.heap.size]? = some (.cells #[.string ⟨#[]⟩, .int .u64 0, .int .i64 0, .int .i64 0, .bool false, .string ⟨#[]⟩] 35 (0, 0)) := by (refine Only.old ho9 ?_ id); (apply Eq.trans; (case h₁ => repeat (first | (with_reducible assumption) | (with_reducible exact heap_alloc_new _ _) | (with_reducible apply blk_new; (repeat (first | (with_reducible rfl) | (with_reducible apply sz_set) | (with_reducible apply sz_alloc) | (with_reducible apply sz_drew))); done) | (with_reducible apply blk_same) | (with_reducible apply blk_ne; case hn => (first | assumption | omega)) | (with_reducible apply blk_old) | (with_reducible apply blk_drew))); (case h₂ => rfl))
    have hL9w9 := lt_of_block hB9w9
    have hB8w9 : w9.heap[U6.heap.size + 1]? = some (.cells #[.int .i64 0, .int .u64 0, .int .u64 0, .int .i64 0, .int .i64 0, .slice none 0 0] 72 (0, 0)) := by (refine Only.old ho9 ?_ id); (apply Eq.trans; (case h₁ => repeat (first | (with_reducible assumption) | (with_reducible exact heap_alloc_new _ _) | (with_reducible apply blk_new; (repeat (first | (with_reducible rfl) | (with_reducible apply sz_set) | (with_reducible apply sz_alloc) | (with_reducible apply sz_drew))); done) | (with_reducible apply blk_same) | (with_reducible apply blk_ne; case hn => (first | assumption | omega)) | (with_reducible apply blk_old) | (with_reducible apply blk_drew))); (case h₂ => rfl))
    have hL8w9 := lt_of_block hB8w9
    go_wp2_with fail
    refine hK.out _ _ (Gn.start (by kernel_rfl) (heldO HCC.out (by (repeat (first | (with_reducible assumption) | (with_reducible exact Only.refl _ _) | (with_reducible refine Only.drew ?_) | (with_reducible refine Only.alloc ?_ _) | (with_reducible refine onlySet ?_ (by first | (with_reducible assumption) | omega) _) | (with_reducible refine Only.trans ?_ (by with_reducible assumption))))))) (fun hNew => ?_)
    clear hK K hHeld
    have hHeld := Gn.outS (by kernel_rfl) hNew
    clear hNew
    refine wpAnyG_act (a' := ?na76) ?ne76 ?nr76
    case ne76 =>
      try simp only [Act.put, List.setIfInBounds_toArray, List.set_cons_zero, List.set_cons_succ]
      try rfl
    refine wpAnyG_takeWD (d := some 150) (i := 4) (oi := _) (v := ?v43) rfl (by kernel_rfl) (by kernel_rfl) (by kernel_rfl) (by kernel_rfl) (by kernel_rfl) (fun _ _ _ h => h) (Or.inl ⟨by rfl, ?hy43⟩) (Gn.start (by kernel_rfl) hHeld) ?rest43
    case hy43 =>
      intro w _
      go_simp
      try with_reducible rfl
    refine wpAnyG_act (a' := ?na77) ?ne77 ?nr77
    case ne77 =>
      try simp only [Act.put, List.setIfInBounds_toArray, List.set_cons_zero, List.set_cons_succ]
      try rfl
    refine wpAnyG_takeWD (d := some 155) (i := 5) (oi := _) (v := ?v44) rfl (by kernel_rfl) (by kernel_rfl) (by kernel_rfl) (by kernel_rfl) (by kernel_rfl) (fun _ _ _ h => h) (Or.inl ⟨by rfl, ?hy44⟩) (Gn.start (by kernel_rfl) hHeld) ?rest44
    case hy44 =>
      intro w _
      go_simp
      try with_reducible rfl
    refine wpAnyG_act (a' := ?na78) ?ne78 ?nr78
    case ne78 =>
      try simp only [Act.put, List.setIfInBounds_toArray, List.set_cons_zero, List.set_cons_succ]
      try rfl
    refine wpAnyG_takeWD (d := some 156) (i := 6) (oi := _) (v := ?v45) rfl (by kernel_rfl) (by kernel_rfl) (by kernel_rfl) (by kernel_rfl) (by kernel_rfl) (fun _ _ _ h => h) (Or.inl ⟨by rfl, ?hy45⟩) (Gn.start (by kernel_rfl) hHeld) ?rest45
    case hy45 =>
      intro w _
      go_simp
      try with_reducible rfl
    refine wpAnyG_act (a' := ?na79) ?ne79 ?nr79
    case ne79 =>
      try simp only [Act.put, List.setIfInBounds_toArray, List.set_cons_zero, List.set_cons_succ]
      try rfl
    refine wpAnyG_takeWD (d := some 157) (i := 7) (oi := _) (v := ?v46) rfl (by kernel_rfl) (by kernel_rfl) (by kernel_rfl) (by kernel_rfl) (by kernel_rfl) (fun _ _ _ h => h) (Or.inl ⟨by rfl, ?hy46⟩) (Gn.start (by kernel_rfl) hHeld) ?rest46
    case hy46 =>
      intro w _
      go_simp
      try with_reducible rfl
    refine wpAnyG_act (a' := ?na80) ?ne80 ?nr80
    case ne80 =>
      try simp only [Act.put, List.setIfInBounds_toArray, List.set_cons_zero, List.set_cons_succ]
      try rfl
    refine wpAnyG_at (fuel' := 3) (listed' := #[true, true, true, true, true, true, true, true, true, true, false, false, false]) (by kernel_rfl) (by kernel_rfl) ?_
    refine wpAnyG_joinW (fun wj => wj.heap[U6.heap.size + 1]? = some (.cells #[.int .i64 0, .int .u64 0, .int .u64 0, .int .i64 0, .int .i64 0, .slice none 0 0] 72 (0, 0)) ∧ wj.heap[U6.heap.size]? = some (.cells #[.string ⟨#[]⟩, .int .u64 0, .int .i64 0, .int .i64 0, .bool false, .string ⟨#[]⟩] 35 (0, 0)) ∧ ¬ U6.heap.size + 1 = U6.heap.size ∧ U6.heap.size ≤ U6.heap.size + 1 ∧ U6.heap.size ≤ U6.heap.size ∧ VSl wj (.slice a9 K2.own.length c9) K2.own ∧ Only (fun _ => False) U6 wj) ?_ (fun wj hwj => ?_)
    · refine ⟨?_, ?_, by omega, by omega, by omega, hv9.new ?_, ?_⟩
      · (apply Eq.trans; (case h₁ => repeat (first | (with_reducible assumption) | (with_reducible exact heap_alloc_new _ _) | (with_reducible apply blk_new; (repeat (first | (with_reducible rfl) | (with_reducible apply sz_set) | (with_reducible apply sz_alloc) | (with_reducible apply sz_drew))); done) | (with_reducible apply blk_same) | (with_reducible apply blk_ne; case hn => (first | assumption | omega)) | (with_reducible apply blk_old) | (with_reducible apply blk_drew))); (case h₂ => rfl))
      · (apply Eq.trans; (case h₁ => repeat (first | (with_reducible assumption) | (with_reducible exact heap_alloc_new _ _) | (with_reducible apply blk_new; (repeat (first | (with_reducible rfl) | (with_reducible apply sz_set) | (with_reducible apply sz_alloc) | (with_reducible apply sz_drew))); done) | (with_reducible apply blk_same) | (with_reducible apply blk_ne; case hn => (first | assumption | omega)) | (with_reducible apply blk_old) | (with_reducible apply blk_drew))); (case h₂ => rfl))
      · (repeat (first | (with_reducible assumption) | (with_reducible exact Only.refl _ _) | (with_reducible refine Only.drew ?_) | (with_reducible refine Only.alloc ?_ _) | (with_reducible refine onlySet ?_ (by first | (with_reducible assumption) | omega) _) | (with_reducible refine Only.trans ?_ (by with_reducible assumption))))
      · (repeat (first | (with_reducible assumption) | (with_reducible exact Only.refl _ _) | (with_reducible refine Only.drew ?_) | (with_reducible refine Only.alloc ?_ _) | (with_reducible refine onlySet ?_ (by first | (with_reducible assumption) | omega) _) | (with_reducible refine Only.trans ?_ (by with_reducible assumption))))
    exact HJ.out (U6.heap.size + 1) (U6.heap.size) (a9) (c9) wj hwj
  case hj =>
    intro KB RB a9 c9 wj hwj
    obtain ⟨hKb, hRb, hne, hKs, hRs, hvj, hoj⟩ := hwj
    have hne' : ¬ RB = KB := fun e => hne e.symm
    have fK : ∀ i, wj.frozen? ⟨KB, i, none⟩ = false := free_at hKb
    have fR : ∀ i, wj.frozen? ⟨RB, i, none⟩ = false := free_at hRb
    have hk0 : wj.cell? ⟨KB, 0, none⟩ = some (.int .i64 0) := cell_at hKb 0
    have hk1 : wj.cell? ⟨KB, 1, none⟩ = some (.int .u64 0) := cell_at hKb 1
    have hk2 : wj.cell? ⟨KB, 2, none⟩ = some (.int .u64 0) := cell_at hKb 2
    have hk3 : wj.cell? ⟨KB, 3, none⟩ = some (.int .i64 0) := cell_at hKb 3
    have hk4 : wj.cell? ⟨KB, 4, none⟩ = some (.int .i64 0) := cell_at hKb 4
    have hk5 : wj.cell? ⟨KB, 5, none⟩ = some (.slice none 0 0) := cell_at hKb 5
    have hr0 : wj.cell? ⟨RB, 0, none⟩ = some (.string ⟨#[]⟩) := cell_at hRb 0
    have hr1 : wj.cell? ⟨RB, 1, none⟩ = some (.int .u64 0) := cell_at hRb 1
    have hr2 : wj.cell? ⟨RB, 2, none⟩ = some (.int .i64 0) := cell_at hRb 2
    have hr3 : wj.cell? ⟨RB, 3, none⟩ = some (.int .i64 0) := cell_at hRb 3
    have hr4 : wj.cell? ⟨RB, 4, none⟩ = some (.bool false) := cell_at hRb 4
    have hr5 : wj.cell? ⟨RB, 5, none⟩ = some (.string ⟨#[]⟩) := cell_at hRb 5
    refine wpAnyG_ready (rs := [10]) (by kernel_rfl) (by simp) ?_
    refine AllReadyG.cons (o := _) rfl (fun K hK => ?_) AllReadyG.nil
    go_simp
    refine hK.out _ _ (Gn.tail (by kernel_rfl) (trivial)) (fun hNew => ?_)
    clear hK K hNew
    refine wpAnyG_act (a' := ?na81) ?ne81 ?nr81
    case ne81 =>
      try simp only [Act.put, List.setIfInBounds_toArray, List.set_cons_zero, List.set_cons_succ]
      try rfl
    refine wpAnyG_ready (rs := [11]) (by kernel_rfl) (by simp) ?_
    refine AllReadyG.cons (o := _) rfl (fun K hK => ?_) AllReadyG.nil
    go_simp
    refine hK.out _ _ (Gn.tail (by kernel_rfl) (trivial)) (fun hNew => ?_)
    clear hK K hNew
    refine wpAnyG_act (a' := ?na82) ?ne82 ?nr82
    case ne82 =>
      try simp only [Act.put, List.setIfInBounds_toArray, List.set_cons_zero, List.set_cons_succ]
      try rfl
    refine wpAnyG_ready (rs := [12]) (by kernel_rfl) (by simp) ?_
    refine AllReadyG.cons (o := _) rfl (fun K hK => ?_) AllReadyG.nil
    go_simp
    refine hK.out _ _ (Gn.tail (by kernel_rfl) (trivial)) (fun hNew => ?_)
    clear hK K hNew
    refine wpAnyG_act (a' := ?na83) ?ne83 ?nr83
    case ne83 =>
      try simp only [Act.put, List.setIfInBounds_toArray, List.set_cons_zero, List.set_cons_succ]
      try rfl
    refine wpAnyG_done (by kernel_rfl) ?_ _
    go_wp2_with fail
    go_meet
    have n8K : NoU8 wj KB := no8_lit hKb rfl
    have n8R : NoU8 wj RB := no8_lit hRb rfl
    refine ⟨rfl, _, _, a9, c9, by with_reducible rfl, by with_reducible rfl, ?_, ?_, ?_, ?_, hKs, hRs⟩
    · (apply Eq.trans; (case h₁ => repeat (first | (with_reducible assumption) | (with_reducible exact heap_alloc_new _ _) | (with_reducible apply blk_new; (repeat (first | (with_reducible rfl) | (with_reducible apply sz_set) | (with_reducible apply sz_alloc) | (with_reducible apply sz_drew))); done) | (with_reducible apply blk_same) | (with_reducible apply blk_ne; case hn => (first | assumption | omega)) | (with_reducible apply blk_old) | (with_reducible apply blk_drew))); (case h₂ => rfl))
    · (apply Eq.trans; (case h₁ => repeat (first | (with_reducible assumption) | (with_reducible exact heap_alloc_new _ _) | (with_reducible apply blk_new; (repeat (first | (with_reducible rfl) | (with_reducible apply sz_set) | (with_reducible apply sz_alloc) | (with_reducible apply sz_drew))); done) | (with_reducible apply blk_same) | (with_reducible apply blk_ne; case hn => (first | assumption | omega)) | (with_reducible apply blk_old) | (with_reducible apply blk_drew))); (case h₂ => rfl))
    · refine vsl_kept8 hvj ?_
      (repeat (first | (with_reducible exact Only.refl _ _) | (with_reducible refine onlySet8 ?_ (by with_reducible assumption) _)))
    · (repeat (first | (with_reducible assumption) | (with_reducible exact Only.refl _ _) | (with_reducible refine Only.drew ?_) | (with_reducible refine Only.alloc ?_ _) | (with_reducible refine onlySet ?_ (by first | (with_reducible assumption) | omega) _) | (with_reducible refine Only.trans ?_ (by with_reducible assumption))))
end Go.Proofs.YtianboachknfmaaDoor
