/- The walk of MeshPlays: Send. -/
import Derived.Test.YtjgcbcahikemdaaPI
import Derived.Test.YtjgcbcahikemdaaPD
import Derived.Laws.StructEq
import Derived.Deep.CutBlock
/-! The walk of MeshPlays: Send. -/
namespace Go.Proofs.Ytjgcbcahikemdaa
open Go.Conc Go.RowKit Go.Maps

set_option maxRecDepth 100000 in
set_option maxHeartbeats 16000000 in
theorem armS (q : Int) (hq3 : q ≠ 3) (hq4 : q ≠ 4) (hq5 : q ≠ 5) (hq6 : q ≠ 6) : goalA q := by
  obtain ⟨i0, hi0z, iz0, iz1, iz2⟩ := info_parts infoIntS
  obtain ⟨j0, hj0, jz0, jz1, jz2⟩ := info_parts infoRItem
  intro w l cap c1 c2 HL zQ w1 HO1 w2 m lb pb wc zu4 u6 u28 u29 u30 u31 u32 u33 u34 u35 u36 u37 u38 H3 zK za zJ0 zKp za2 gk wr u2 u4 u5 u8 u9 u10 u11 u12 u13 u14 u15 u16 u17 u18 u19 u94 u144 u190 u206 u225 zJ zK1 za0 i hi hi120 hlt
      hlt120 hlt' hlt120' hi0 lv lvR G R bb off HC za3 za1 what na nb tx Hg yK0 ya1 ynq2 wa a b hA1 hA2 nq wb HPB HAW HBW HA4 HB4 u39 u40 u41 u42 u43 u44 u45 u46 u47 u48 u49 u50 u51 u52 u53 u54 u55 u56 u57 u58 u59 u60 u61 u62 u63
      u64 u65 u66 u67 u68 u69 u70 u71 u72 u73 u74 u75 u76 u77 u78 u79 u80 u81 u82 u83 u84 u85 u86 u87 u88 u89 u90 u91 u92 u93 u95 u96 u97 u98 u99 u100 u101 u102 u103 u104 u105 u106 u107 u108 u109 u110 u111 u112 u113 u114 u115 u116
      u117 u118 u119 u120 u121 u122 u123 u124 u125 u126 u127 u128 u129 u130 u131 u132 u133 u134 u135 u136 u137 u138 u139 u140 u141 u142 u143 u145 u146 u147 u148 u149 u150 u151 u152 u153 u154 u155 u156 u157 u158 u159 u160 u161 u162
      u163 u164 u165 u166 u167 u168 u169 u170 u171 u172 u173 u174 u175 u176 u177 u178 u179 u180 u181 u182 u183 u184 u185 u186 u187 u188 u189 u191 u192 u193 u194 u195 u196 u197 u198 u199 u200 u201 u202 u203 u204 u205 u207 u208 u209
      u210 u211 u212 u213 u214 u215 u216 u217 u218 u219 u220 u221 u222 u223 u224 u226 u227 u228 u229 u230 u231 u232 u233 u234 u235 u236 u237 u238 u239 u240 u241 u242 u243 u244 u245 u246 u247 u248 u249 u250 u251 u252 u253 u254 u255
      u256 u257 u258 u259 u260 u261 u262 u263 u264 u265 u266 u267 u268 u269 u270 u271 u272 u273 u274 u275 u276 u277 u278 u279 u280 u281 u282 u283 u284 u285 u286 t HT HTH yK3 ya4 yJ5 yKp6 ya7 ya8
  have HINV := Lib.hid HPB.out.inv
  have HLV := Lib.hid HPB.out.inv.len
  have h0 := HPB.out.mid
  obtain ⟨sa4, sc4, rfl⟩ := h0.form4
  obtain ⟨sa5, sc5, rfl⟩ := h0.form5
  have hRl := h0.len
  have H0 := Lib.hid h0
  have HRL := Lib.hid hRl
  clear h0 hRl
  have HU := Lib.hid (H0.out.send a b (tx.extract 0 (min (tx.size : Int) 5).toNat) HAW.out HBW.out (by omega))
  have HD := HTH.out _ HT.out
  have HMA := Lib.hid (HINV.out.mem a)
  have HMB := Lib.hid (HINV.out.mem b)
  have HGE := Lib.hid (HINV.out.get a b)
  have HG64 := Lib.hid (H0.out.run.le64 a b)
  have HU1 := Lib.hid (fun (l : List (Bool × ByteArray)) (v : Value) => HINV.out.upd HA4.out HB4.out l v)
  have HU2 := Lib.hid (fun (l : List (Bool × ByteArray)) (v : Value) => HINV.out.upd HB4.out HA4.out l v)
  have HU3 := Lib.hid (fun (v v' : Value) => (HINV.out.upd HA4.out HB4.out [(true, ⟨#[]⟩)] v).upd HB4.out HA4.out [(true, ⟨#[]⟩)] v')
  go_wp2_with fail
  refine HU.out.mono ?_
  rintro e w3 ⟨rfl, h3⟩
  have HASA := Lib.hid (h3.has a)
  have HASB := Lib.hid (h3.has b)
  by_cases ha : a ∈ lvR
  · rw [decide_eq_true ha] at HASA
    have hal := HMA.out.2 ha
    by_cases hab : a = b
    · -- same
      subst hab
      have hnt : ¬ (a ∈ lvR ∧ a ∈ lvR ∧ a ≠ a) := fun e => e.2.2 rfl
      obtain rfl : t = false := by rw [HT.out]; exact decide_eq_false hnt
      rw [psend_no (fun e => e.2 rfl)] at h3
      have hF : PSt w1 w3 m lb pb (i + 1) (.slice sa4 lvR.length sc4) (.slice sa5 R.length sc5) := ⟨_, _, _, _, h3.hold HINV.out (by omega) (by omega)⟩
      have HF := Lib.hid hF
      clear hF
      clear h3 hnt HD ha hal
      go_wp2_with fail
      refine HASA.out.mono ?_
      rintro e w' ⟨rfl, rfl⟩
      go_wp2_with fail
      go_meet
      exact HF.out
    · by_cases hb : b ∈ lvR
      · have hbl := HMB.out.2 hb
        rw [decide_eq_true hb] at HASB
        obtain rfl : t = true := by rw [HT.out]; exact decide_eq_true ⟨ha, hb, hab⟩
        have HGT := Lib.hid (h3.get a b)
        by_cases h64 : (G a b).length < 64
        · -- room
          rw [psend_ok hal hab hbl h64] at h3
          have H3B := Lib.hid h3
          clear h3
          have HL64 := Lib.hid h64
          clear HD ha hal hb hbl h64
          go_wp2_with fail
          refine HASA.out.mono ?_
          rintro e w' ⟨rfl, rfl⟩
          go_wp2_with fail
          refine HASB.out.mono ?_
          rintro e w' ⟨rfl, rfl⟩
          go_wp2_with fail
          refine HGT.out.mono ?_
          rintro e w' ⟨v', rfl, rfl, hit⟩
          rw [HGE.out] at hit
          obtain ⟨it, ic, rfl⟩ := hit.form
          have HRS := Lib.hid (rsend_room w3 _ (G a b) (tx.extract 0 (min (tx.size : Int) 5).toNat) hit HL64.out)
          clear hit
          go_wp2_with fail
          refine HRS.out.mono ?_
          rintro e w4 ⟨v', rfl, ho4, hs4⟩
          have hs5 : ItemSl w4 v' (G a b ++ [(false, tx.extract 0 (min (tx.size : Int) 5).toNat)]) := by
            unfold ItemSl
            rw [List.length_append]
            exact hs4
          obtain ⟨jt, jc, he⟩ := hs5.form
          obtain ⟨nl, hnl⟩ : ∃ nl, nl = (G a b ++ [(false, tx.extract 0 (min (tx.size : Int) 5).toNat)]).length := ⟨_, rfl⟩
          rw [← hnl] at he
          subst he
          clear hnl
          have h4 := H3B.out.new ho4
          have HST := Lib.hid (h4.set (by omega) a b _ _ hs5)
          clear hs4 hs5 ho4 h4
          go_wp2_with fail
          refine HST.out.mono ?_
          rintro e w5 ⟨_, ra, rc, rfl, h5⟩
          have hF : PSt w1 w5 m lb pb (i + 1) (.slice sa4 lvR.length sc4) (.slice ra _ rc) := ⟨_, _, _, _, h5.hold (HU1.out _ _) (by omega) (by omega)⟩
          have HF := Lib.hid hF
          clear hF
          clear h5
          go_wp2_with fail
          go_meet
          exact HF.out
        · -- full
          rw [psend_full hal hab hbl h64] at h3
          have H3B := Lib.hid h3
          clear h3
          have HL64 := Lib.hid h64
          clear HD ha hal hb hbl h64
          go_wp2_with fail
          refine HASA.out.mono ?_
          rintro e w' ⟨rfl, rfl⟩
          go_wp2_with fail
          refine HASB.out.mono ?_
          rintro e w' ⟨rfl, rfl⟩
          go_wp2_with fail
          refine HGT.out.mono ?_
          rintro e w' ⟨v', rfl, rfl, hit⟩
          rw [HGE.out] at hit
          obtain ⟨it, ic, rfl⟩ := hit.form
          have HRS := Lib.hid (rsend_full w3 _ (G a b) (tx.extract 0 (min (tx.size : Int) 5).toNat) hit (by have := HL64.out; omega))
          have HRB := Lib.hid H3B.out.rbrk
          clear hit
          go_wp2_with fail
          refine HRS.out.mono ?_
          rintro e w' ⟨rfl, rfl⟩
          go_wp2_with fail
          refine HRB.out.mono ?_
          rintro e w4 ⟨v, rfl, h4, hv⟩
          obtain ⟨va, vc, rfl⟩ := hv.form
          have HST := Lib.hid (h4.set (by omega) a b _ _ hv)
          clear h4 hv
          go_wp2_with fail
          refine HST.out.mono ?_
          rintro e w5 ⟨_, ra, rc, rfl, h5⟩
          have HRB2 := Lib.hid h5.rbrk
          clear h5
          go_wp2_with fail
          refine HRB2.out.mono ?_
          rintro e w6 ⟨v, rfl, h6, hv⟩
          obtain ⟨vb, vd, rfl⟩ := hv.form
          have HST2 := Lib.hid (h6.set (by omega) b a _ _ hv)
          clear h6 hv
          go_wp2_with fail
          refine HST2.out.mono ?_
          rintro e w7 ⟨_, rb, rd, rfl, h7⟩
          have hF : PSt w1 w7 m lb pb (i + 1) (.slice sa4 lvR.length sc4) (.slice rb _ rd) := ⟨_, _, _, _, h7.hold (HU3.out _ _) (by omega) (by omega)⟩
          have HF := Lib.hid hF
          clear hF
          clear h7
          go_wp2_with fail
          go_meet
          exact HF.out
      · -- off
        have hbl : b ∉ lv := fun e => hb (HMB.out.1 e)
        rw [decide_eq_false hb] at HASB
        obtain rfl : t = false := by rw [HT.out]; exact decide_eq_false (fun e => hb e.2.1)
        rw [psend_off hal hab hbl] at h3
        have HRB := Lib.hid h3.rbrk
        clear HD ha hal hb hbl h3
        go_wp2_with fail
        refine HASA.out.mono ?_
        rintro e w' ⟨rfl, rfl⟩
        go_wp2_with fail
        refine HASB.out.mono ?_
        rintro e w' ⟨rfl, rfl⟩
        go_wp2_with fail
        refine HRB.out.mono ?_
        rintro e w4 ⟨v, rfl, h4, hv⟩
        obtain ⟨va, vc, rfl⟩ := hv.form
        have HST := Lib.hid (h4.set (by omega) b a _ _ hv)
        clear h4 hv
        go_wp2_with fail
        refine HST.out.mono ?_
        rintro e w5 ⟨_, ra, rc, rfl, h5⟩
        have hF : PSt w1 w5 m lb pb (i + 1) (.slice sa4 lvR.length sc4) (.slice ra _ rc) := ⟨_, _, _, _, h5.hold (HU2.out _ _) (by omega) (by omega)⟩
        have HF := Lib.hid hF
        clear hF
        clear h5
        go_wp2_with fail
        go_meet
        exact HF.out
  · -- none
    rw [decide_eq_false ha] at HASA
    have hal : a ∉ lv := fun e => ha (HMA.out.1 e)
    obtain rfl : t = false := by rw [HT.out]; exact decide_eq_false (fun e => ha e.1)
    rw [psend_no (fun e => hal e.1)] at h3
    have hF : PSt w1 w3 m lb pb (i + 1) (.slice sa4 lvR.length sc4) (.slice sa5 R.length sc5) := ⟨_, _, _, _, h3.hold HINV.out (by omega) (by omega)⟩
    have HF := Lib.hid hF
    clear hF
    clear h3 HD ha hal
    go_wp2_with fail
    refine HASA.out.mono ?_
    rintro e w' ⟨rfl, rfl⟩
    go_wp2_with fail
    go_meet
    exact HF.out
end Go.Proofs.Ytjgcbcahikemdaa
