/- The walk of MeshPlays: Down. -/
import Derived.Test.YtjgcbcahikemdaaPI
import Derived.Test.YtjgcbcahikemdaaPD
import Derived.Laws.StructEq
import Derived.Deep.CutBlock
/-! The walk of MeshPlays: Up. -/
namespace Go.Proofs.Ytjgcbcahikemdaa
open Go.Conc Go.RowKit Go.Maps

set_option maxRecDepth 100000 in
set_option maxHeartbeats 16000000 in
theorem arm5 : goalA 5 := by
  obtain ⟨i0, hi0z, iz0, iz1, iz2⟩ := info_parts infoIntS
  obtain ⟨j0, hj0, jz0, jz1, jz2⟩ := info_parts infoRItem
  intro w l cap c1 c2 HL zQ w1 HO1 w2 m lb pb wc zu4 u6 u28 u29 u30 u31 u32 u33 u34 u35 u36 u37 u38 H3 zK za zJ0 zKp za2 gk wr u2 u4 u5 u8 u9 u10 u11 u12 u13 u14 u15 u16 u17 u18 u19 u94 u144 u190 u206 u225 zJ zK1 za0 i hi hi120 hlt
      hlt120 hlt' hlt120' hi0 lv lvR G R bb off HC za3 za1 what na nb tx Hg yK0 ya1 ynq2 wa a b hA1 hA2 nq wb HPB HAW HBW HA4 HB4 u39 u40 u41 u42 u43 u44 u45 u46 u47 u48 u49 u50 u51 u52 u53 u54 u55 u56 u57 u58 u59 u60 u61 u62 u63
      u64 u65 u66 u67 u68 u69 u70 u71 u72 u73 u74 u75 u76 u77 u78 u79 u80 u81 u82 u83 u84 u85 u86 u87 u88 u89 u90 u91 u92 u93 u95 u96 u97 u98 u99 u100 u101 u102 u103 u104 u105 u106 u107 u108 u109 u110 u111 u112 u113 u114 u115 u116
      u117 u118 u119 u120 u121 u122 u123 u124 u125 u126 u127 u128 u129 u130 u131 u132 u133 u134 u135 u136 u137 u138 u139 u140 u141 u142 u143 u145 u146 u147 u148 u149 u150 u151 u152 u153 u154 u155 u156 u157 u158 u159 u160 u161 u162
      u163 u164 u165 u166 u167 u168 u169 u170 u171 u172 u173 u174 u175 u176 u177 u178 u179 u180 u181 u182 u183 u184 u185 u186 u187 u188 u189 u191 u192 u193 u194 u195 u196 u197 u198 u199 u200 u201 u202 u203 u204 u205 u207 u208 u209
      u210 u211 u212 u213 u214 u215 u216 u217 u218 u219 u220 u221 u222 u223 u224 u226 u227 u228 u229 u230 u231 u232 u233 u234 u235 u236 u237 u238 u239 u240 u241 u242 u243 u244 u245 u246 u247 u248 u249 u250 u251 u252 u253 u254 u255
      u256 u257 u258 u259 u260 u261 u262 u263 u264 u265 u266 u267 u268 u269 u270 u271 u272 u273 u274 u275 u276 u277 u278 u279 u280 u281 u282 u283 u284 u285 u286 t HT HTH yK3 ya4 yJ5 yKp6 ya7 ya8
  have HINV := Lib.hid HPB.out.inv
  have HLV := Lib.hid HPB.out.inv.len
  have h0 := HPB.out.mid
  obtain ⟨sa4, sc4, rfl⟩ := h0.form4
  obtain ⟨sa5, sc5, rfl⟩ := h0.form5
  have hRl := h0.len
  have H0 := Lib.hid h0
  have HRL := Lib.hid hRl
  clear h0 hRl
  have HU := Lib.hid (H0.out.up a (by have := HA4.out; omega) (by have := HLV.out; omega))
  go_wp2_with fail
  refine HU.out.mono ?_
  rintro e w3 ⟨rfl, h3⟩
  by_cases ha1 : 1 ≤ a
  · rw [if_pos ha1] at h3
    have HPU := Lib.hid (HINV.out.up ha1 HA4.out.2)
    have HAS := Lib.hid (h3.has a)
    by_cases hm : a ∈ lvR
    · rw [if_pos hm] at HPU
      have hF : PSt w1 w3 m lb pb (i + 1) (.slice sa4 lvR.length sc4) (.slice sa5 R.length sc5) := ⟨_, _, _, _, h3.hold HPU.out (by omega) (by omega)⟩
      rw [decide_eq_true hm] at HAS
      have HF := Lib.hid hF
      clear hF
      clear h3 hm HPU
      go_wp2_with fail
      refine HAS.out.mono ?_
      rintro e w' ⟨rfl, rfl⟩
      go_wp2_with fail
      go_meet
      exact HF.out
    · rw [if_neg hm] at HPU
      rw [decide_eq_false hm] at HAS
      have HLR := Lib.hid h3.live
      have HML := Lib.hid (show lvR.length ≤ 100 from Nat.le_trans (nodup_leW lvR lv HINV.out.ndR (fun x hx => (HINV.out.mem x).2 hx)) (Nat.le_trans HLV.out (by omega)))
      have H3B := Lib.hid h3
      clear h3
      clear hm
      go_wp2_with fail
      refine HAS.out.mono ?_
      rintro e w' ⟨rfl, rfl⟩
      go_wp2_with (at_builtin; refine Wait.mk ?_)
      refine Wait.go (wpList_append_src _ rfl (.tmp 219) (.tmp 220) 46 46 rfl w3.heap.size 3 i0 _ 1 8 Try.underlying46 hi0z iz0 iz1 iz2 rfl _ 0 [] rfl (owns_empty w3 3 1) _ lvR.length (rowI lvR) rfl ?src ?m ?b ?base ?_)
      case src => exact (HLR.out.new ((Only.refl _ _).alloc _)).src Try.underlying46 (by intro u hu; obtain ⟨x, _, rfl⟩ := List.mem_map.1 hu; rfl)
      case m => have := HML.out; unfold maxLen; omega
      case b => have := HML.out; omega
      case base => simp
      intro v1 w4 own1 gr1 _
      simp only [Nat.zero_add, List.nil_append] at own1
      go_wp2_with (at_builtin; refine Wait.mk ?_)
      refine Wait.go (wpList_append_src _ rfl (.tmp 221) (.tmp 223) 46 46 rfl w3.heap.size 3 i0 _ 1 8 Try.underlying46 hi0z iz0 iz1 iz2 rfl v1 lvR.length (rowI lvR) rfl (own1.alloc _) _ 1 [.int .i64 a] rfl ?src2 ?m2 ?b2 ?base2 ?_)
      case src2 => exact Src.ofSlice _ Try.underlying46 _ _ _ _ rfl (news_new _ _ _) (by simp [Value.oneCell'])
      case m2 => have := HML.out; unfold maxLen; omega
      case b2 => have := HML.out; omega
      case base2 => have := gr1.size; simp at this ⊢; omega
      intro v2 w5 own2 gr2 _
      have ho : Only (fun _ => False) w3 w5 := ((((Only.refl (fun _ => False) w3).alloc _).own (owns_empty w3 3 1) (Nat.le_refl _) gr1).alloc _).own (own1.alloc _) (Nat.le_refl _) gr2
      have hF : PSt w1 w5 m lb pb (i + 1) v2 (.slice sa5 R.length sc5) := by
        have h5 := H3B.out.new ho
        refine ⟨_, lvR ++ [a], _, _, HPU.out, h5.run.le (by omega), ?_, h5.ways, Nat.le_trans h5.len (by omega)⟩
        rw [List.length_append, rowI_append]
        exact Sl.of_owns own2
      have HF := Lib.hid hF
      clear hF
      clear own1 own2 gr1 gr2 ho
      go_wp2_with fail
      go_meet
      exact HF.out
  · rw [if_neg ha1] at h3
    have hF : PSt w1 w3 m lb pb (i + 1) (.slice sa4 lvR.length sc4) (.slice sa5 R.length sc5) := ⟨_, _, _, _, h3.hold HINV.out (by omega) (by omega)⟩
    have HF := Lib.hid hF
    clear hF
    clear h3
    go_wp2_with fail
    go_meet
    exact HF.out
end Go.Proofs.Ytjgcbcahikemdaa
/-! The walk of MeshPlays: Down. -/
namespace Go.Proofs.Ytjgcbcahikemdaa
open Go.Conc Go.RowKit Go.Maps

theorem getW_set (R : List WayR) (a b : Int) (l : List (Bool × ByteArray)) (v : Value) : getW (setW R a b l v) = setG (getW R) a b l := funext fun x => funext fun y => get_setW R a b l v x y
set_option maxRecDepth 100000 in
set_option maxHeartbeats 16000000 in
theorem arm6 : goalA 6 := by
  obtain ⟨i0, hi0z, iz0, iz1, iz2⟩ := info_parts infoIntS
  obtain ⟨j0, hj0, jz0, jz1, jz2⟩ := info_parts infoRItem
  intro w l cap c1 c2 HL zQ w1 HO1 w2 m lb pb wc zu4 u6 u28 u29 u30 u31 u32 u33 u34 u35 u36 u37 u38 H3 zK za zJ0 zKp za2 gk wr u2 u4 u5 u8 u9 u10 u11 u12 u13 u14 u15 u16 u17 u18 u19 u94 u144 u190 u206 u225 zJ zK1 za0 i hi hi120 hlt
      hlt120 hlt' hlt120' hi0 lv lvR G R bb off HC za3 za1 what na nb tx Hg yK0 ya1 ynq2 wa a b hA1 hA2 nq wb HPB HAW HBW HA4 HB4 u39 u40 u41 u42 u43 u44 u45 u46 u47 u48 u49 u50 u51 u52 u53 u54 u55 u56 u57 u58 u59 u60 u61 u62 u63
      u64 u65 u66 u67 u68 u69 u70 u71 u72 u73 u74 u75 u76 u77 u78 u79 u80 u81 u82 u83 u84 u85 u86 u87 u88 u89 u90 u91 u92 u93 u95 u96 u97 u98 u99 u100 u101 u102 u103 u104 u105 u106 u107 u108 u109 u110 u111 u112 u113 u114 u115 u116
      u117 u118 u119 u120 u121 u122 u123 u124 u125 u126 u127 u128 u129 u130 u131 u132 u133 u134 u135 u136 u137 u138 u139 u140 u141 u142 u143 u145 u146 u147 u148 u149 u150 u151 u152 u153 u154 u155 u156 u157 u158 u159 u160 u161 u162
      u163 u164 u165 u166 u167 u168 u169 u170 u171 u172 u173 u174 u175 u176 u177 u178 u179 u180 u181 u182 u183 u184 u185 u186 u187 u188 u189 u191 u192 u193 u194 u195 u196 u197 u198 u199 u200 u201 u202 u203 u204 u205 u207 u208 u209
      u210 u211 u212 u213 u214 u215 u216 u217 u218 u219 u220 u221 u222 u223 u224 u226 u227 u228 u229 u230 u231 u232 u233 u234 u235 u236 u237 u238 u239 u240 u241 u242 u243 u244 u245 u246 u247 u248 u249 u250 u251 u252 u253 u254 u255
      u256 u257 u258 u259 u260 u261 u262 u263 u264 u265 u266 u267 u268 u269 u270 u271 u272 u273 u274 u275 u276 u277 u278 u279 u280 u281 u282 u283 u284 u285 u286 t HT HTH yK3 ya4 yJ5 yKp6 ya7 ya8
  have HINV := Lib.hid HPB.out.inv
  have HLV := Lib.hid HPB.out.inv.len
  have h0 := HPB.out.mid
  obtain ⟨sa4, sc4, rfl⟩ := h0.form4
  obtain ⟨sa5, sc5, rfl⟩ := h0.form5
  have hRl := h0.len
  have H0 := Lib.hid h0
  have HRL := Lib.hid hRl
  clear h0 hRl
  have HU := Lib.hid (H0.out.down a HAW.out (by have := HLV.out; omega) (by omega))
  go_wp2_with fail
  refine HU.out.mono ?_
  rintro e w3 ⟨rfl, h3⟩
  have HAS := Lib.hid (h3.has a)
  by_cases hm : a ∈ lvR
  · have hml := (HINV.out.mem a).2 hm
    rw [if_pos hml, if_pos hml] at h3
    rw [decide_eq_true hm] at HAS
    have HLR := Lib.hid (show lvR.length ≤ 100 from Nat.le_trans (nodup_leW lvR lv HINV.out.ndR (fun x hx => (HINV.out.mem x).2 hx)) (Nat.le_trans HLV.out (by omega)))
    obtain ⟨_, h1, h2, hcl⟩ := h3.live.intsAt
    have HSN := Lib.hid (out_snoc lvR a)
    have H3B := Lib.hid h3
    have HCL := Lib.hid hcl
    clear h3 hcl
    clear hm hml h1 h2
    go_wp2_with fail
    refine HAS.out.mono ?_
    rintro e w' ⟨rfl, rfl⟩
    go_wp2_with fail
    go_loopg [15, 16] lvR.length (fun gk v15 v16 wr => ∃ k : Nat, v16 = .int .i64 k ∧ k ≤ lvR.length ∧ Only (fun _ => False) w3 wr ∧ wr.ownsRow w3.heap.size 3 1 v15 ((lvR.take k).filter (fun x => !decide (x = a))).length (rowI ((lvR.take k).filter (fun x => !decide (x = a)))) ∧ gk = lvR.length - k)
    case atStart => exact ⟨0, rfl, Nat.zero_le _, Only.refl _ _, World.ownsRow_nil _ _ _ _, rfl⟩
    case round =>
      obtain ⟨k, rfl, hk, ho, hrow, hg⟩ := hrel
      have HOL := Lib.hid (show ((lvR.take k).filter (fun x => !decide (x = a))).length ≤ 100 from Nat.le_trans (List.length_filter_le _ _) (by rw [List.length_take]; have := HLR.out; omega))
      by_cases hlt : k < lvR.length
      · -- round
        have hlt' : (k : Int) < (lvR.length : Int) := by omega
        have hkb : (k : Int) < 100 := by have := HLR.out; omega
        obtain ⟨lb', off', rfl, hc⟩ := HCL.out.at k hlt
        have hc' := ho.cell hc id
        have HS := Lib.hid (HSN.out k hlt)
        generalize lvR[k] = y at *
        generalize (lvR.take k).filter (fun x => !decide (x = a)) = F at *
        have Hg := Lib.hid hg
        have HO := Lib.hid ho
        have HROW := Lib.hid hrow
        clear hg ho hrow
        clear hc
        by_cases hy : y = a
        · subst hy
          have HF2 := HS.out
          rw [if_pos rfl, List.append_nil] at HF2
          have HS2 := Lib.hid HF2
          clear HF2
          go_wp2_with fail
          go_roundg (lvR.length - (k + 1))
          case measure => rw [Hg.out]; omega
          case rel => exact ⟨k + 1, by go_num, by omega, HO.out, by rw [HS2.out]; exact HROW.out, rfl⟩
        · have HF2 := HS.out
          rw [if_neg hy] at HF2
          have HS2 := Lib.hid HF2
          clear HF2
          obtain ⟨ra, rc, rfl⟩ : ∃ ra rc, u15 = .slice ra F.length rc := by obtain ⟨_, ra, rc, h, _⟩ := Sl.of_owns HROW.out; exact ⟨ra, rc, h⟩
          go_wp2_with (at_builtin; refine Wait.mk ?_)
          refine Wait.go (wpList_append_src _ rfl (.tmp 245) (.tmp 250) 46 46 rfl w3.heap.size 3 i0 _ 1 8 Try.underlying46 hi0z iz0 iz1 iz2 rfl _ F.length (rowI F) rfl ?own4 _ 1 [.int .i64 y] rfl ?src4 ?m4 ?b4 ?base4 ?_)
          case own4 => exact HROW.out.alloc _
          case src4 => exact Src.ofSlice _ Try.underlying46 _ _ _ _ rfl (news_new _ _ _) (by simp [Value.oneCell'])
          case m4 => have := HOL.out; unfold maxLen; omega
          case b4 => have := HOL.out; omega
          case base4 => have := HO.out.size; simp; omega
          intro v9 w9 own9 gr9 _
          have ho9 : Only (fun _ => False) w3 w9 := (HO.out.alloc _).own (HROW.out.alloc _) (Nat.le_refl _) gr9
          have hrow9 : w9.ownsRow w3.heap.size 3 1 v9 (F ++ [y]).length (rowI (F ++ [y])) := by
            rw [List.length_append, rowI_append]
            exact own9
          have HO9 := Lib.hid ho9
          have HROW9 := Lib.hid hrow9
          clear ho9 hrow9
          clear gr9 own9
          go_wp2_with fail
          go_roundg (lvR.length - (k + 1))
          case measure => rw [Hg.out]; omega
          case rel => exact ⟨k + 1, by go_num, by omega, HO9.out, by rw [HS2.out]; exact HROW9.out, rfl⟩
      · -- sets
        have hlt' : ¬ (k : Int) < (lvR.length : Int) := by omega
        rw [List.take_of_length_le (by omega)] at hrow HOL
        obtain ⟨K, hK⟩ : ∃ K, K = lvR.filter (fun x => !decide (x = a)) := ⟨_, rfl⟩
        rw [← hK] at hrow HOL
        have HKM := Lib.hid (show ∀ x, x ∈ K ↔ x ∈ lv ∧ x ≠ a from fun x => by rw [hK, List.mem_filter, ← HINV.out.mem x]; simp)
        have HKD := Lib.hid (fun (R' : List WayR) (hg : getW R' = downG lv G a) => show PlayI (outL lv a) K (downG lv G a) R' by rw [hK]; exact HINV.out.down HA4.out (fun x y => by rw [hg]))
        obtain ⟨ra, rc, rfl⟩ : ∃ ra rc, u15 = .slice ra K.length rc := by obtain ⟨_, ra, rc, h, _⟩ := Sl.of_owns hrow; exact ⟨ra, rc, h⟩
        have h4 : PMid w1 wr m lb pb (.slice ra K.length rc) (.slice sa5 R.length sc5) (outL lv a) K (downG lv G a) R (30 * i + 30 + 2 * lv.length) (30 * i) := by
          have h5 := H3B.out.new ho
          exact ⟨h5.run, Sl.of_owns hrow, h5.ways, h5.len⟩
        have H4 := Lib.hid h4
        clear h4
        clear hK hrow ho
        go_wp2_with fail
        go_loopg [5, 17] 9 (fun gk v5 v17 wr2 => ∃ (j : Nat) (R' : List WayR), v17 = .int .i64 ((j : Int) - 4) ∧ j ≤ 9 ∧ PMid w1 wr2 m lb pb (.slice ra K.length rc) v5 (outL lv a) K (downG lv G a) R' (30 * i + 30 + 2 * lv.length) (30 * i + 2 * j) ∧ getW R' = downF G a K (fromL j) ∧ gk = 9 - j)
        case atStart => exact ⟨0, R, rfl, by omega, H4.out, by rw [show fromL 0 = [] from rfl, downF_nil]; exact funext fun x => funext fun y => HINV.out.get x y, rfl⟩
        case round =>
          obtain ⟨j, R', rfl, hj, h6, hG, hg2⟩ := hrel
          obtain ⟨sb, sd, rfl⟩ := h6.form5
          by_cases hlt9 : j < 9
          · have hlt9' : (j : Int) - 4 < 5 := by omega
            have hwj : IntKind.i64.wrap ((j : Int) - 4 + 1) = ((j + 1 : Nat) : Int) - 4 := by rw [IntKind.wrap_i64]; omega
            have HGY := Lib.hid (fun (u v : Value) (hk : (j : Int) - 4 ∈ K) => show getW (setW (setW R' ((j : Int) - 4) a [] u) a ((j : Int) - 4) [(true, ⟨#[]⟩)] v) = downF G a K (fromL (j + 1)) by
              rw [getW_set, getW_set, hG, fromL_snoc]
              exact downF_yes _ hk (fun e => ((HKM.out a).1 e).2 rfl))
            have HGN := Lib.hid (fun (u : Value) (hk : (j : Int) - 4 ∉ K) => show getW (setW R' ((j : Int) - 4) a [] u) = downF G a K (fromL (j + 1)) by
              rw [getW_set, hG, fromL_snoc]
              exact downF_no _ hk)
            have HST := Lib.hid (h6.set (by omega) ((j : Int) - 4) a (.slice none 0 0) [] (Sl.nil _ _))
            have Hg2 := Lib.hid hg2
            clear hg2
            clear h6 hG
            generalize hQ : (j : Int) - 4 = q at *
            have HQ := Lib.hid hQ
            clear hQ
            go_wp2_with fail
            refine HST.out.mono ?_
            rintro e w5 ⟨_, xa, xc, rfl, h7⟩
            have HAS7 := Lib.hid (h7.has q)
            by_cases hqk : q ∈ K
            · rw [decide_eq_true hqk] at HAS7
              have HRB := Lib.hid h7.rbrk
              have HGZ := Lib.hid (fun u v => HGY.out u v hqk)
              clear h7 hqk
              go_wp2_with fail
              refine HAS7.out.mono ?_
              rintro e w' ⟨rfl, rfl⟩
              go_wp2_with fail
              refine HRB.out.mono ?_
              rintro e w8 ⟨v, rfl, h8, hv⟩
              obtain ⟨va, vc, rfl⟩ := hv.form
              have HST2 := Lib.hid (h8.set (by omega) a q _ _ hv)
              clear h8 hv
              go_wp2_with fail
              refine HST2.out.mono ?_
              rintro e w9 ⟨_, ya, yc, rfl, h9⟩
              have H9 := Lib.hid h9
              clear h9
              go_wp2_with fail
              go_roundg (9 - (j + 1))
              case measure => rw [Hg2.out]; omega
              case rel => exact ⟨j + 1, _, by go_num, by omega, H9.out, HGZ.out _ _, rfl⟩
            · rw [decide_eq_false hqk] at HAS7
              have HGZ := Lib.hid (fun u => HGN.out u hqk)
              have H9 := Lib.hid h7
              clear h7
              clear hqk
              go_wp2_with fail
              refine HAS7.out.mono ?_
              rintro e w' ⟨rfl, rfl⟩
              go_wp2_with fail
              go_roundg (9 - (j + 1))
              case measure => rw [Hg2.out]; omega
              case rel => exact ⟨j + 1, _, by go_num, by omega, ⟨H9.out.run, H9.out.live, H9.out.ways, Nat.le_trans H9.out.len (by omega)⟩, HGZ.out _, rfl⟩
          · have hlt9' : ¬ (j : Int) - 4 < 5 := by omega
            obtain rfl : j = 9 := by omega
            have hF : PSt w1 wr m lb pb (i + 1) (.slice ra K.length rc) (.slice sb R'.length sd) := ⟨_, _, _, _, h6.hold (HKD.out R' (by rw [hG]; exact HINV.out.down_end HKM.out)) (by have := HLV.out; omega) (by omega)⟩
            have HF := Lib.hid hF
            clear hF
            clear h6 hG
            go_wp2_with fail
            go_meet
            exact HF.out
  · have hml : a ∉ lv := fun e => hm ((HINV.out.mem a).1 e)
    rw [if_neg hml, if_neg hml] at h3
    rw [decide_eq_false hm] at HAS
    have hF : PSt w1 w3 m lb pb (i + 1) (.slice sa4 lvR.length sc4) (.slice sa5 R.length sc5) := ⟨_, _, _, _, h3.hold HINV.out (by have := HLV.out; omega) (by omega)⟩
    have HF := Lib.hid hF
    clear hF
    clear h3 hm hml
    go_wp2_with fail
    refine HAS.out.mono ?_
    rintro e w' ⟨rfl, rfl⟩
    go_wp2_with fail
    go_meet
    exact HF.out
end Go.Proofs.Ytjgcbcahikemdaa
