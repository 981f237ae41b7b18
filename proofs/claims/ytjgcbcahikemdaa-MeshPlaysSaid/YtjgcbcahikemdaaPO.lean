/- The walk of MeshPlays: what is on its way at the end. -/
import Derived.Test.YtjgcbcahikemdaaPG
import Derived.Test.YtjgcbcahikemdaaPK
import Derived.ChangeKeysEq
import Derived.Deep.CutBlock
/-! The walk of MeshPlays: what is on its way at the end. -/
namespace Go.Proofs.Ytjgcbcahikemdaa
open Go.Conc Go.RowKit Go.Maps

theorem nePr (w : World) (x y : Int) : (binOp BinOp.neq 75 (.agg #[.int .i64 x, .int .i64 y]) (.agg #[.int .i64 x, .int .i64 y])).run Try.prog w = .ok (.bool false) w := by
  have hc : Try.prog.cellsOf 3 = 1 := by kernel_rfl
  have hsz : ∀ w, (Go.sizeOf 3).run Try.prog w = .ok 1 w := fun w => by kernel_rfl
  obtain ⟨i, hi, _⟩ := info_parts infoIntS
  simp [run_equalIn_array (P := Try.prog) _ _ _ _ Try.underlying75 hi, Op.eqItems, List.range, List.range.loop, hc, part, hsz, go_sem]
set_option maxRecDepth 100000 in
set_option maxHeartbeats 16000000 in
theorem plays08_tail : goalT := by
  obtain ⟨k0, hk0, kz0, kz1, kz2⟩ := info_parts infoPair
  intro w l a cap c1 c2 HC HL zQ w1 HO1 w2 m lb pb ywc0 yu41 u6 u28 u29 u30 u31 u32 u33 u34 u35 u36 u37 u38 H3 zK za wc u2 u4 u5 u7 u8 u9 u10 u11 u12 u13 u14 u15 u16 u17 u18 u19 u39 u40 u41 u42 u43 u44 u45 u46 u47 u48 u49 u50 u51
      u52 u53 u54 u55 u56 u57 u58 u59 u60 u61 u62 u63 u64 u65 u66 u67 u68 u69 u70 u71 u72 u73 u74 u75 u76 u77 u78 u79 u80 u81 u82 u83 u84 u85 u86 u87 u88 u89 u90 u91 u92 u93 u94 u95 u96 u97 u98 u99 u100 u101 u102 u103 u104 u105
      u106 u107 u108 u109 u110 u111 u112 u113 u114 u115 u116 u117 u118 u119 u120 u121 u122 u123 u124 u125 u126 u127 u128 u129 u130 u131 u132 u133 u134 u135 u136 u137 u138 u139 u140 u141 u142 u143 u144 u145 u146 u147 u148 u149 u150
      u151 u152 u153 u154 u155 u156 u157 u158 u159 u160 u161 u162 u163 u164 u165 u166 u167 u168 u169 u170 u171 u172 u173 u174 u175 u176 u177 u178 u179 u180 u181 u182 u183 u184 u185 u186 u187 u188 u189 u190 u191 u192 u193 u194 u195
      u196 u197 u198 u199 u200 u201 u202 u203 u204 u205 u206 u207 u208 u209 u210 u211 u212 u213 u214 u215 u216 u217 u218 u219 u220 u221 u222 u223 u224 u225 u226 u227 u228 u229 u230 u231 u232 u233 u234 u235 u236 u237 u238 u239 u240
      u241 u242 u243 u244 u245 u246 u247 u248 u249 u250 u251 u252 u253 u254 u255 u256 u257 u258 u259 u260 u261 u262 u263 u264 u265 u266 u267 u268 u269 u270 u271 u272 u273 u274 u275 u276 u277 u278 u279 u280 u281 u282 u283 u284 u285
      u286 hcut
  obtain ⟨i, hi, lv, lvR, G, R, hp⟩ := hcut
  have HPP := Lib.hid hp
  obtain ⟨sa4, sc4, rfl⟩ := hp.mid.form4
  obtain ⟨sa5, sc5, rfl⟩ := hp.mid.form5
  have HGE := Lib.hid hp.inv.get
  have HO0 := Lib.hid hp.run.only
  have Hi := Lib.hid hi
  clear hi
  clear hp
  go_wp2_with fail
  go_loopg [20, 21] 9 (fun gk v20 v21 wr => ∃ j : Nat, v21 = .int .i64 ((j : Int) - 4) ∧ j ≤ 9 ∧ Only (fun _ => False) wc wr ∧ wr.ownsRow wc.heap.size 75 2 v20 (allWays G j).length ((allWays G j).flatMap wC) ∧ gk = 9 - j)
  case atStart => exact ⟨0, rfl, by omega, Only.refl _ _, World.ownsRow_nil _ _ _ _, rfl⟩
  case round =>
    obtain ⟨j, rfl, hj, ho, hrow, hg⟩ := hrel
    by_cases hlt : j < 9
    · -- rows
      have hlt' : (j : Int) - 4 < 5 := by omega
      have hwj : IntKind.i64.wrap ((j : Int) - 4 + 1) = ((j + 1 : Nat) : Int) - 4 := by rw [IntKind.wrap_i64]; omega
      have HSN := Lib.hid (allWays_snoc G j)
      have HAL := Lib.hid (show (allWays G j).length ≤ 81 from Nat.le_trans (allWays_len G j) (by omega))
      have Hg := Lib.hid hg
      have HO := Lib.hid ho
      have HROW := Lib.hid hrow
      clear hg ho hrow
      rename World => w0
      go_wp2_with fail
      go_loopg [20, 22] 9 (fun gk2 v20 v22 wr2 => ∃ k : Nat, v22 = .int .i64 ((k : Int) - 4) ∧ k ≤ 9 ∧ Only (fun _ => False) wc wr2 ∧ wr2.ownsRow wc.heap.size 75 2 v20 (allWays G j ++ rowWays G ((j : Int) - 4) k).length ((allWays G j ++ rowWays G ((j : Int) - 4) k).flatMap wC) ∧ gk2 = 9 - k)
      case atStart => exact ⟨0, rfl, by omega, HO.out, by rw [show rowWays G ((j : Int) - 4) 0 = [] from rfl, List.append_nil]; exact HROW.out, rfl⟩
      case round =>
        obtain ⟨k, rfl, hk, ho2, hrow2, hg2⟩ := hrel
        by_cases hltk : k < 9
        · -- inner
          have hltk' : (k : Int) - 4 < 5 := by omega
          have hwk : IntKind.i64.wrap ((k : Int) - 4 + 1) = ((k + 1 : Nat) : Int) - 4 := by rw [IntKind.wrap_i64]; omega
          have HRS := Lib.hid (rowWays_snoc G ((j : Int) - 4) k)
          have HRL := Lib.hid (show (allWays G j ++ rowWays G ((j : Int) - 4) k).length ≤ 90 by rw [List.length_append]; have := HAL.out; have := rowWays_len G ((j : Int) - 4) k; omega)
          have HGT := Lib.hid (fun x y => (HPP.out.new ho2).mid.get x y)
          have HJK := Lib.hid (show (∀ x, (j : Int) - 4 = x → ∀ y, (k : Int) - 4 = y → True) from fun _ _ _ _ => trivial)
          obtain ⟨L, hL⟩ : ∃ L, L = allWays G j ++ rowWays G ((j : Int) - 4) k := ⟨_, rfl⟩
          have HLN := Lib.hid (show ∀ M, rowWays G ((j : Int) - 4) (k + 1) = rowWays G ((j : Int) - 4) k ++ M → allWays G j ++ rowWays G ((j : Int) - 4) (k + 1) = L ++ M from fun M e => by rw [e, hL, List.append_assoc])
          rw [← hL] at hrow2 HRL
          clear hL
          obtain ⟨ra, rc, rfl⟩ : ∃ ra rc, u20 = .slice ra L.length rc := by obtain ⟨_, ra, rc, h, _⟩ := Sl.of_owns hrow2; exact ⟨ra, rc, h⟩
          have Hg2 := Lib.hid hg2
          have HO2 := Lib.hid ho2
          have HROW2 := Lib.hid hrow2
          clear hg2 ho2 hrow2
          go_wp2_with fail
          refine (HGT.out _ _).mono ?_
          rintro e w' ⟨v', rfl, rfl, hit⟩
          rw [HGE.out] at hit
          obtain ⟨it, ic, rfl⟩ := hit.form
          clear hit
          by_cases hpos : 0 < (G ((j : Int) - 4) ((k : Int) - 4)).length
          · have HM := Lib.hid (HLN.out _ (by rw [HRS.out, if_pos hpos]))
            have hpos' : (0 : Int) < ((G ((j : Int) - 4) ((k : Int) - 4)).length : Int) := by omega
            go_wp2_with (at_builtin; refine Wait.mk ?_)
            refine Wait.go (wpList_append_src _ rfl (.tmp 301) (.tmp 305) 74 74 rfl wc.heap.size 75 k0 _ 2 16 Try.underlying74 hk0 kz0 kz1 kz2 rfl _ L.length (L.flatMap wC) rfl ?own4 _ 1 (wC ((j : Int) - 4, (k : Int) - 4)) rfl ?src4 ?m4 ?b4 ?base4 ?_)
            case own4 => exact HROW2.out.alloc _
            case src4 => exact Src.ofSlice _ Try.underlying74 _ _ _ _ rfl (news_new _ _ _) (wC_one _)
            case m4 => have := HRL.out; unfold maxLen; omega
            case b4 => have := HRL.out; omega
            case base4 => have := HO2.out.size; simp; omega
            intro v9 w9 own9 gr9 _
            have ho9 : Only (fun _ => False) wc w9 := (HO2.out.alloc _).own (HROW2.out.alloc _) (Nat.le_refl _) gr9
            have hrow9 : w9.ownsRow wc.heap.size 75 2 v9 (allWays G j ++ rowWays G ((j : Int) - 4) (k + 1)).length ((allWays G j ++ rowWays G ((j : Int) - 4) (k + 1)).flatMap wC) := by
              rw [HM.out, List.length_append, List.flatMap_append, List.flatMap_singleton]
              exact own9
            have HO9 := Lib.hid ho9
            have HROW9 := Lib.hid hrow9
            clear ho9 hrow9
            clear gr9 own9 hpos hpos'
            go_wp2_with fail
            go_roundg (9 - (k + 1))
            case measure => rw [Hg2.out]; omega
            case rel => exact ⟨k + 1, by go_num, by omega, HO9.out, HROW9.out, rfl⟩
          · have HM := Lib.hid (HLN.out _ (by rw [HRS.out, if_neg hpos]))
            have hpos' : ¬ (0 : Int) < ((G ((j : Int) - 4) ((k : Int) - 4)).length : Int) := by omega
            go_wp2_with fail
            go_roundg (9 - (k + 1))
            case measure => rw [Hg2.out]; omega
            case rel => exact ⟨k + 1, by go_num, by omega, HO2.out, by rw [HM.out, List.append_nil]; exact HROW2.out, rfl⟩
        · -- next
          have hltk' : ¬ (k : Int) - 4 < 5 := by omega
          obtain rfl : k = 9 := by omega
          rw [← HSN.out] at hrow2
          have HO2 := Lib.hid ho2
          have HROW2 := Lib.hid hrow2
          clear ho2 hrow2
          go_wp2_with fail
          go_roundg (9 - (j + 1))
          case measure => rw [Hg.out]; omega
          case rel => exact ⟨j + 1, by go_num, by omega, HO2.out, HROW2.out, rfl⟩
    · -- end
      have hlt' : ¬ (j : Int) - 4 < 5 := by omega
      obtain rfl : j = 9 := by omega
      have hpw := HPP.out.new ho
      have HW := Lib.hid (mrun_ways2 hpw.run (by have := Hi.out; omega))
      have HSUP := Lib.hid hpw.inv.sup
      obtain ⟨ra, rc, rfl⟩ : ∃ ra rc, u20 = .slice ra (allWays G 9).length rc := by obtain ⟨_, ra, rc, h, _⟩ := Sl.of_owns hrow; exact ⟨ra, rc, h⟩
      have HROW := Lib.hid (Sl.of_owns hrow)
      have HPW := Lib.hid hpw
      clear hpw
      clear hrow ho
      go_wp2_with fail
      refine HW.out.mono ?_
      rintro e w5 ⟨v, T, rfl, ho5, hsl, hpT, hmT⟩
      obtain rfl : T = allWays G 9 := lt_ext lex_irrefl lex_asymm hpT (allWays_rises G 9) (fun p => by
        rw [hmT, mem_allWays]
        constructor
        · intro hne
          have := HSUP.out p.1 p.2 hne
          exact ⟨mem_from9.2 this.1, mem_from9.2 this.2, List.length_pos_iff.2 hne⟩
        · intro h e
          have h3 := h.2.2
          rw [e] at h3
          exact absurd h3 (by decide))
      obtain ⟨ga, gc, rfl, g1, g2, g3⟩ := Sl.cells wC_length hsl
      obtain ⟨_, _, he, q1, q2, q3⟩ := Sl.cells wC_length (HROW.out.new ho5)
      cases he
      have HP5 := Lib.hid (HPW.out.new ho5)
      have HTL := Lib.hid (show (allWays G 9).length ≤ 81 from allWays_len G 9)
      have HTB := Lib.hid (fun p (hp : p ∈ allWays G 9) => And.intro (mem_from9.1 (mem_allWays.1 hp).1) (mem_from9.1 (mem_allWays.1 hp).2.1))
      have HOA := Lib.hid (Only.trans HO1.out (HP5.out.run.only))
      generalize allWays G 9 = T at *
      have HG3 := Lib.hid g3
      have HQ3 := Lib.hid q3
      clear g3 q3
      clear ho5 hsl hpT hmT g1 g2 q1 q2
      go_wp2_with fail
      go_loopg [24] T.length (fun gk3 v24 wr3 => ∃ k : Nat, v24 = .int .i64 k ∧ k ≤ T.length ∧ Only (fun _ => False) w5 wr3 ∧ gk3 = T.length - k)
      case atStart => exact ⟨0, rfl, Nat.zero_le _, Only.refl _ _, rfl⟩
      case round =>
        obtain ⟨k, rfl, hk, ho3, hg3⟩ := hrel
        have hkb : (k : Int) ≤ 81 := by have := HTL.out; omega
        by_cases hltk : k < T.length
        · have hltk' : (k : Int) < (T.length : Int) := by omega
          have hk0' : (0 : Int) ≤ (k : Int) := by omega
          obtain ⟨gb, go, rfl, gc'⟩ := HG3.out.at k hltk
          obtain ⟨qb, qo, rfl, qc'⟩ := HQ3.out.at k hltk
          have HB := Lib.hid (HTB.out _ (List.getElem_mem hltk))
          generalize T[k] = p at *
          obtain ⟨x, y⟩ := p
          have x0 := ho3.cell (gc' 0 _ rfl) id
          have x1 := ho3.cell (gc' 1 _ rfl) id
          have z0 := ho3.cell (qc' 0 _ rfl) id
          have z1 := ho3.cell (qc' 1 _ rfl) id
          simp only [Nat.add_zero] at x0 z0
          simp only at x0 x1 z0 z1
          have h6 := HP5.out.new ho3
          have HCS := Lib.hid (fun (w' : World) (h : Only (fun _ => False) wr w') => And.intro (h.cell x0 id) (And.intro (h.cell x1 id) (And.intro (h.cell z0 id) (h.cell z1 id))))
          have HML := Lib.hid (fun (w' : World) (h : Only (fun _ => False) wr w') => (h6.new h).mid.mlen x y (wf64 (by have := HB.out; omega) (by have := HB.out; omega)) (wf64 (by have := HB.out; omega) (by have := HB.out; omega)))
          have HGT := Lib.hid (fun (w' : World) (h : Only (fun _ => False) wr w') => (h6.new h).mid.get x y)
          have HNE := Lib.hid (fun w => nePr w x y)
          have Hg3 := Lib.hid hg3
          have HO3 := Lib.hid ho3
          clear hg3 ho3
          clear gc' qc' h6
          go_upto_region 74 with (fail)
          have hne := HNE.out
          go_region_held3 (fun w' => Only (fun _ => False) wr w' ∧ w'.cell? ⟨gb, go + k * 2, none⟩ = some (.int .i64 x) ∧ w'.cell? ⟨gb, go + k * 2 + 1, none⟩ = some (.int .i64 y) ∧ w'.cell? ⟨qb, qo + k * 2, none⟩ = some (.int .i64 x) ∧ w'.cell? ⟨qb, qo + k * 2 + 1, none⟩ = some (.int .i64 y))
            (((refine heldO HCS.out ?_); (repeat (first | (with_reducible assumption) | (with_reducible exact Only.refl _ _) | (with_reducible refine Only.drew ?_) | (with_reducible refine Only.alloc ?_ _) | (with_reducible refine onlySet ?_ (by first | (with_reducible assumption) | omega) _) | (with_reducible refine Only.trans ?_ (by with_reducible assumption))))))
            (first
              | (go_at_call 37; (with_reducible refine (HML.out _ (by (repeat (first | (with_reducible assumption) | (with_reducible exact Only.refl _ _) | (with_reducible refine Only.drew ?_) | (with_reducible refine Only.alloc ?_ _) | (with_reducible refine onlySet ?_ (by first | (with_reducible assumption) | omega) _) | (with_reducible refine Only.trans ?_ (by with_reducible assumption)))))).mono ?_); rintro e w8 ⟨rfl, rfl⟩)
              | (go_at_call 27; (with_reducible refine (HGT.out _ (by (repeat (first | (with_reducible assumption) | (with_reducible exact Only.refl _ _) | (with_reducible refine Only.drew ?_) | (with_reducible refine Only.alloc ?_ _) | (with_reducible refine onlySet ?_ (by first | (with_reducible assumption) | omega) _) | (with_reducible refine Only.trans ?_ (by with_reducible assumption)))))).mono ?_); rintro e w9 ⟨v', rfl, rfl, hit⟩; rw [HGE.out] at hit; obtain ⟨it, ic, rfl⟩ := hit.form; clear hit))
          all_goals
            go_wp2_with fail
            go_roundg (T.length - (k + 1))
            case measure => rw [Hg3.out]; omega
            case rel => exact ⟨k + 1, by go_num, by omega, HO3.out.trans (by (repeat (first | (with_reducible assumption) | (with_reducible exact Only.refl _ _) | (with_reducible refine Only.drew ?_) | (with_reducible refine Only.alloc ?_ _) | (with_reducible refine onlySet ?_ (by first | (with_reducible assumption) | omega) _) | (with_reducible refine Only.trans ?_ (by with_reducible assumption))))), rfl⟩
        · have hltk' : ¬ (k : Int) < (T.length : Int) := by omega
          have hF : Only (fun _ => False) w wr := HOA.out.trans ho3
          have HF := Lib.hid hF
          clear hF
          go_wp2_with fail
          go_ret
          exact ⟨rfl, HF.out⟩
end Go.Proofs.Ytjgcbcahikemdaa
