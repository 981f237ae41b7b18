/- The walk of MeshPlays: Break. -/
import Derived.Test.YtjgcbcahikemdaaPI
import Derived.Test.YtjgcbcahikemdaaPD
import Derived.Laws.StructEq
import Derived.Deep.CutBlock
/-! The walk of MeshPlays: Take. -/
namespace Go.Proofs.Ytjgcbcahikemdaa
open Go.Conc Go.RowKit Go.Maps

theorem psNew {w1 w w' : World} {m lb pb i : Nat} {v4 v5 : Value} (h : PSt w1 w m lb pb i v4 v5) (ho : Only (fun _ => False) w w') : PSt w1 w' m lb pb i v4 v5 := by
  obtain ⟨lv, lvR, G, R, h⟩ := h
  exact ⟨lv, lvR, G, R, h.new ho⟩
theorem nePI (w : World) (x : Bool) (y : ByteArray) : (binOp BinOp.neq 58 (.agg #[.bool x, .string y]) (.agg #[.bool x, .string y])).run Try.prog w = .ok (.bool false) w := by
  simp [go_sem]
theorem neRI (w : World) (x : Bool) (y : ByteArray) : (binOp BinOp.neq 63 (.agg #[.bool x, .string y]) (.agg #[.bool x, .string y])).run Try.prog w = .ok (.bool false) w := by
  simp [go_sem]
set_option maxRecDepth 100000 in
set_option maxHeartbeats 16000000 in
theorem arm3 : goalA 3 := by
  obtain ⟨i0, hi0z, iz0, iz1, iz2⟩ := info_parts infoIntS
  obtain ⟨j0, hj0, jz0, jz1, jz2⟩ := info_parts infoRItem
  intro w l cap c1 c2 HL zQ w1 HO1 w2 m lb pb wc zu4 u6 u28 u29 u30 u31 u32 u33 u34 u35 u36 u37 u38 H3 zK za zJ0 zKp za2 gk wr u2 u4 u5 u8 u9 u10 u11 u12 u13 u14 u15 u16 u17 u18 u19 u94 u144 u190 u206 u225 zJ zK1 za0 i hi hi120 hlt
      hlt120 hlt' hlt120' hi0 lv lvR G R bb off HC za3 za1 what na nb tx Hg yK0 ya1 ynq2 wa a b hA1 hA2 nq wb HPB HAW HBW HA4 HB4 u39 u40 u41 u42 u43 u44 u45 u46 u47 u48 u49 u50 u51 u52 u53 u54 u55 u56 u57 u58 u59 u60 u61 u62 u63
      u64 u65 u66 u67 u68 u69 u70 u71 u72 u73 u74 u75 u76 u77 u78 u79 u80 u81 u82 u83 u84 u85 u86 u87 u88 u89 u90 u91 u92 u93 u95 u96 u97 u98 u99 u100 u101 u102 u103 u104 u105 u106 u107 u108 u109 u110 u111 u112 u113 u114 u115 u116
      u117 u118 u119 u120 u121 u122 u123 u124 u125 u126 u127 u128 u129 u130 u131 u132 u133 u134 u135 u136 u137 u138 u139 u140 u141 u142 u143 u145 u146 u147 u148 u149 u150 u151 u152 u153 u154 u155 u156 u157 u158 u159 u160 u161 u162
      u163 u164 u165 u166 u167 u168 u169 u170 u171 u172 u173 u174 u175 u176 u177 u178 u179 u180 u181 u182 u183 u184 u185 u186 u187 u188 u189 u191 u192 u193 u194 u195 u196 u197 u198 u199 u200 u201 u202 u203 u204 u205 u207 u208 u209
      u210 u211 u212 u213 u214 u215 u216 u217 u218 u219 u220 u221 u222 u223 u224 u226 u227 u228 u229 u230 u231 u232 u233 u234 u235 u236 u237 u238 u239 u240 u241 u242 u243 u244 u245 u246 u247 u248 u249 u250 u251 u252 u253 u254 u255
      u256 u257 u258 u259 u260 u261 u262 u263 u264 u265 u266 u267 u268 u269 u270 u271 u272 u273 u274 u275 u276 u277 u278 u279 u280 u281 u282 u283 u284 u285 u286 t HT HTH yK3 ya4 yJ5 yKp6 ya7 ya8
  have HINV := Lib.hid HPB.out.inv
  have HLV := Lib.hid HPB.out.inv.len
  have h0 := HPB.out.mid
  obtain ⟨sa4, sc4, rfl⟩ := h0.form4
  obtain ⟨sa5, sc5, rfl⟩ := h0.form5
  have hRl := h0.len
  have H0 := Lib.hid h0
  have HRL := Lib.hid hRl
  clear h0 hRl
  have HT := Lib.hid (H0.out.take a b HAW.out HBW.out)
  go_wp2_with fail
  refine HT.out.mono ?_
  rintro e w3 ⟨x, y, ok, rest, rfl, hT, h3⟩
  obtain ⟨W3, hW3⟩ : ∃ W3, W3 = w3.alloc (.cells #[.bool x, .string y] 58) := ⟨_, rfl⟩
  have hbW3 : W3.heap[w3.heap.size]? = some (.cells #[.bool x, .string y] 58 (0, 0)) := by rw [hW3]; exact heap_alloc_new w3 _
  have hoW3 : Only (fun _ => False) w3 W3 := by rw [hW3]; exact (Only.refl _ _).alloc _
  have hsW3 : W3.heap.size = w3.heap.size + 1 := by rw [hW3]; simp
  have h4 := h3.new hoW3
  have c0 := cell_at hbW3 0
  have c1' := cell_at hbW3 1
  have HGT := Lib.hid (h4.get a b)
  have HGE := Lib.hid (HINV.out.get a b)
  have HG64 := Lib.hid (H0.out.run.le64 a b)
  have H4 := Lib.hid h4
  have HTK := Lib.hid hT
  clear h4 hT
  clear h3 hoW3 hsW3 hbW3
  go_upto_region 28 with (fail)
  rw [← hW3]
  clear hW3
  go_wp2_with fail
  refine HGT.out.mono ?_
  rintro e w' ⟨v', rfl, rfl, hit⟩
  rw [HGE.out] at hit
  rcases HTK.out with ⟨rfl, hGe⟩ | ⟨rfl, hGe, rfl, rfl, rfl⟩
  · -- some
    rw [hGe] at hit
    obtain ⟨it, ic, rfl⟩ := hit.form
    have HIT := Lib.hid hit
    obtain ⟨_, _, he, hl1, hl2, hcl⟩ := Sl.cells (enc := fun e : Bool × ByteArray => [Value.bool e.1, Value.string e.2]) (fun _ => rfl) HIT.out
    cases he
    have hr64 : rest.length ≤ 64 := by have := HG64.out; rw [hGe, List.length_cons] at this; omega
    simp only [List.length_cons] at hl1
    obtain ⟨zb, zo, rfl, hc⟩ := hcl.at 0 (by simp)
    have e0 := hc 0 _ rfl
    have e1 := hc 1 _ rfl
    simp only [List.getElem_cons_zero, Nat.zero_mul, Nat.add_zero] at e0 e1
    by_cases hic : ic = 1
    · subst hic
      obtain rfl : rest = [] := List.length_eq_zero_iff.1 (by omega)
      have HSL := Lib.hid (show Sl W3 2 (.slice (some ⟨zb, zo, none⟩) 0 0) 0 (flat []) from Sl.sliced (lo := 1) HIT.out (by simp))
      have n1 := fun w => nePI w x y
      have n2 := fun w => neRI w x y
      clear hit hGe hc hcl
      unfold maxLen at hl2
      simp only [List.length_cons] at *
      go_upto_region 29 with (fail)
      go_quiet (fail)
      obtain ⟨W4, hW4⟩ : ∃ W, W = W3.drewN nq := ⟨_, rfl⟩
      have ho4 : Only (fun _ => False) W3 W4 := by rw [hW4]; exact (Only.refl _ _).drewN _
      rw [← hW4]
      clear hW4 e0 e1 n1 n2 c0 c1'
      have HS4 := Lib.hid (Sl.new HSL.out ho4)
      have h5 := H4.out.new ho4
      have H5 := Lib.hid h5
      clear h5
      clear ho4
      go_wp2_with (at_builtin; refine Wait.mk ?_)
      refine Wait.go (wpList_append_src _ rfl (.tmp 185) (.tmp 187) 61 61 rfl W4.heap.size 63 j0 _ 2 24 Try.underlying61 hj0 jz0 jz1 jz2 rfl _ 0 [] rfl (owns_empty W4 63 2) (.slice (some ⟨zb, zo, none⟩) 0 0) 0 (flat []) rfl ?src ?m ?b ?base ?_)
      case src => exact (Sl.new HS4.out ((Only.refl _ _).alloc _)).src Try.underlying61 (flat_one [])
      case m => unfold maxLen; omega
      case b => omega
      case base => simp
      intro v1 w5 own1 gr1 _
      simp only [Nat.zero_add, List.nil_append] at own1
      have ho5 : Only (fun _ => False) W4 w5 := ((Only.refl (fun _ => False) W4).alloc _).own (owns_empty W4 63 2) (Nat.le_refl _) gr1
      have hv1 : ItemSl w5 v1 [] := Sl.of_owns own1
      obtain ⟨oa, oc, rfl⟩ := hv1.form
      have h6 := H5.out.new ho5
      have HST := Lib.hid (h6.set (by omega) a b _ [] hv1)
      have HIU := Lib.hid (fun v => HINV.out.upd HA4.out HB4.out [] v)
      clear own1 gr1 ho5 hv1 h6
      go_wp2_with fail
      refine HST.out.mono ?_
      rintro e w6 ⟨_, ra, rc, rfl, h7⟩
      have hF : PSt w1 w6 m lb pb (i + 1) (.slice sa4 lvR.length sc4) (.slice ra _ rc) := ⟨_, _, _, _, h7.hold (HIU.out _) (by omega) (by omega)⟩
      have HF := Lib.hid hF
      clear hF
      clear h7
      go_wp2_with fail
      go_meet
      exact HF.out
    · have HSL := Lib.hid (show Sl W3 2 (.slice (some ⟨zb, zo + 2, none⟩) rest.length (ic - 1)) rest.length (flat rest) from Sl.drop (lo := 1) HIT.out (by simp))
      have n1 := fun w => nePI w x y
      have n2 := fun w => neRI w x y
      clear hit hGe hc hcl
      unfold maxLen at hl2
      simp only [List.length_cons] at *
      go_upto_region 29 with (fail)
      go_quiet (fail)
      obtain ⟨W4, hW4⟩ : ∃ W, W = W3.drewN nq := ⟨_, rfl⟩
      have ho4 : Only (fun _ => False) W3 W4 := by rw [hW4]; exact (Only.refl _ _).drewN _
      rw [← hW4]
      clear hW4 e0 e1 n1 n2 c0 c1'
      have HS4 := Lib.hid (Sl.new HSL.out ho4)
      have h5 := H4.out.new ho4
      have H5 := Lib.hid h5
      clear h5
      clear ho4
      go_wp2_with (at_builtin; refine Wait.mk ?_)
      refine Wait.go (wpList_append_src _ rfl (.tmp 185) (.tmp 187) 61 61 rfl W4.heap.size 63 j0 _ 2 24 Try.underlying61 hj0 jz0 jz1 jz2 rfl _ 0 [] rfl (owns_empty W4 63 2) (.slice (some ⟨zb, zo + 2, none⟩) rest.length (ic - 1)) rest.length (flat rest) rfl ?src2 ?m2 ?b2 ?base2 ?_)
      case src2 => exact (Sl.new HS4.out ((Only.refl _ _).alloc _)).src Try.underlying61 (flat_one rest)
      case m2 => unfold maxLen; omega
      case b2 => omega
      case base2 => simp
      intro v1 w5 own1 gr1 _
      simp only [Nat.zero_add, List.nil_append] at own1
      have ho5 : Only (fun _ => False) W4 w5 := ((Only.refl (fun _ => False) W4).alloc _).own (owns_empty W4 63 2) (Nat.le_refl _) gr1
      have hv1 : ItemSl w5 v1 rest := Sl.of_owns own1
      obtain ⟨oa, oc, rfl⟩ := hv1.form
      have h6 := H5.out.new ho5
      have HST := Lib.hid (h6.set (by omega) a b _ rest hv1)
      have HIU := Lib.hid (fun v => HINV.out.upd HA4.out HB4.out rest v)
      clear own1 gr1 ho5 hv1 h6
      go_wp2_with fail
      refine HST.out.mono ?_
      rintro e w6 ⟨_, ra, rc, rfl, h7⟩
      have hF : PSt w1 w6 m lb pb (i + 1) (.slice sa4 lvR.length sc4) (.slice ra _ rc) := ⟨_, _, _, _, h7.hold (HIU.out _) (by omega) (by omega)⟩
      have HF := Lib.hid hF
      clear hF
      clear h7
      go_wp2_with fail
      go_meet
      exact HF.out
  · -- none
    rw [hGe] at hit
    obtain ⟨it, ic, rfl⟩ := hit.form
    have HPG := Lib.hid (setG_same hGe)
    have hF : PSt w1 W3 m lb pb (i + 1) (.slice sa4 lvR.length sc4) (.slice sa5 R.length sc5) := by
      have h5 := H4.out
      rw [HPG.out] at h5
      exact ⟨_, _, _, _, h5.hold HINV.out (by omega) (by omega)⟩
    have HF := Lib.hid hF
    clear hF
    clear hit hGe
    go_upto_region 29 with (fail)
    go_quiet (fail)
    go_wp2_with fail
    go_meet
    exact psNew HF.out ((Only.refl _ _).drewN _)
end Go.Proofs.Ytjgcbcahikemdaa
/-! The walk of MeshPlays: Break. -/
namespace Go.Proofs.Ytjgcbcahikemdaa
open Go.Conc Go.RowKit Go.Maps

set_option maxRecDepth 100000 in
set_option maxHeartbeats 16000000 in
theorem arm4 : goalA 4 := by
  obtain ⟨i0, hi0z, iz0, iz1, iz2⟩ := info_parts infoIntS
  obtain ⟨j0, hj0, jz0, jz1, jz2⟩ := info_parts infoRItem
  intro w l cap c1 c2 HL zQ w1 HO1 w2 m lb pb wc zu4 u6 u28 u29 u30 u31 u32 u33 u34 u35 u36 u37 u38 H3 zK za zJ0 zKp za2 gk wr u2 u4 u5 u8 u9 u10 u11 u12 u13 u14 u15 u16 u17 u18 u19 u94 u144 u190 u206 u225 zJ zK1 za0 i hi hi120 hlt
      hlt120 hlt' hlt120' hi0 lv lvR G R bb off HC za3 za1 what na nb tx Hg yK0 ya1 ynq2 wa a b hA1 hA2 nq wb HPB HAW HBW HA4 HB4 u39 u40 u41 u42 u43 u44 u45 u46 u47 u48 u49 u50 u51 u52 u53 u54 u55 u56 u57 u58 u59 u60 u61 u62 u63
      u64 u65 u66 u67 u68 u69 u70 u71 u72 u73 u74 u75 u76 u77 u78 u79 u80 u81 u82 u83 u84 u85 u86 u87 u88 u89 u90 u91 u92 u93 u95 u96 u97 u98 u99 u100 u101 u102 u103 u104 u105 u106 u107 u108 u109 u110 u111 u112 u113 u114 u115 u116
      u117 u118 u119 u120 u121 u122 u123 u124 u125 u126 u127 u128 u129 u130 u131 u132 u133 u134 u135 u136 u137 u138 u139 u140 u141 u142 u143 u145 u146 u147 u148 u149 u150 u151 u152 u153 u154 u155 u156 u157 u158 u159 u160 u161 u162
      u163 u164 u165 u166 u167 u168 u169 u170 u171 u172 u173 u174 u175 u176 u177 u178 u179 u180 u181 u182 u183 u184 u185 u186 u187 u188 u189 u191 u192 u193 u194 u195 u196 u197 u198 u199 u200 u201 u202 u203 u204 u205 u207 u208 u209
      u210 u211 u212 u213 u214 u215 u216 u217 u218 u219 u220 u221 u222 u223 u224 u226 u227 u228 u229 u230 u231 u232 u233 u234 u235 u236 u237 u238 u239 u240 u241 u242 u243 u244 u245 u246 u247 u248 u249 u250 u251 u252 u253 u254 u255
      u256 u257 u258 u259 u260 u261 u262 u263 u264 u265 u266 u267 u268 u269 u270 u271 u272 u273 u274 u275 u276 u277 u278 u279 u280 u281 u282 u283 u284 u285 u286 t HT HTH yK3 ya4 yJ5 yKp6 ya7 ya8
  have HINV := Lib.hid HPB.out.inv
  have HLV := Lib.hid HPB.out.inv.len
  have h0 := HPB.out.mid
  obtain ⟨sa4, sc4, rfl⟩ := h0.form4
  obtain ⟨sa5, sc5, rfl⟩ := h0.form5
  have hRl := h0.len
  have H0 := Lib.hid h0
  have HRL := Lib.hid hRl
  clear h0 hRl
  have HU := Lib.hid (H0.out.brk a b HAW.out HBW.out (by omega))
  have HD := HTH.out _ HT.out
  go_wp2_with fail
  refine HU.out.mono ?_
  rintro e w3 ⟨rfl, h3⟩
  by_cases hd : a ∈ lvR ∧ b ∈ lvR ∧ a ≠ b
  · have hl : a ∈ lv ∧ b ∈ lv ∧ a ≠ b := by
      rw [HT.out, decide_eq_true hd] at HD
      exact of_decide_eq_true HD.symm
    rw [pbreak_yes hl.1 hl.2.2 hl.2.1] at h3
    have HIF := Lib.hid (fun (v v' : Value) => (HINV.out.upd HA4.out HB4.out [(true, ⟨#[]⟩)] v).upd HB4.out HA4.out [(true, ⟨#[]⟩)] v')
    obtain rfl : t = true := by rw [HT.out]; exact decide_eq_true hd
    have HRB := Lib.hid h3.rbrk
    clear h3 HD hd hl
    go_wp2_with fail
    refine HRB.out.mono ?_
    rintro e w4 ⟨v, rfl, h4, hv⟩
    obtain ⟨va, vc, rfl⟩ := hv.form
    have HST := Lib.hid (h4.set (by omega) a b _ _ hv)
    clear h4 hv
    go_wp2_with fail
    refine HST.out.mono ?_
    rintro e w5 ⟨_, ra, rc, rfl, h5⟩
    have HRB2 := Lib.hid h5.rbrk
    clear h5
    go_wp2_with fail
    refine HRB2.out.mono ?_
    rintro e w6 ⟨v, rfl, h6, hv⟩
    obtain ⟨vb, vd, rfl⟩ := hv.form
    have HST2 := Lib.hid (h6.set (by omega) b a _ _ hv)
    clear h6 hv
    go_wp2_with fail
    refine HST2.out.mono ?_
    rintro e w7 ⟨_, rb, rd, rfl, h7⟩
    have hF : PSt w1 w7 m lb pb (i + 1) (.slice sa4 lvR.length sc4) (.slice rb _ rd) := ⟨_, _, _, _, h7.hold (HIF.out _ _) (by omega) (by omega)⟩
    have HF := Lib.hid hF
    clear hF
    clear h7
    go_wp2_with fail
    go_meet
    exact HF.out
  · have hl : ¬ (a ∈ lv ∧ b ∈ lv ∧ a ≠ b) := by
      rw [HT.out, decide_eq_false hd] at HD
      exact of_decide_eq_false HD.symm
    rw [pbreak_no hl] at h3
    have hF : PSt w1 w3 m lb pb (i + 1) (.slice sa4 lvR.length sc4) (.slice sa5 R.length sc5) := ⟨_, _, _, _, h3.hold HINV.out (by omega) (by omega)⟩
    have HF := Lib.hid hF
    clear hF
    obtain rfl : t = false := by rw [HT.out]; exact decide_eq_false hd
    clear h3 HD hd hl
    go_wp2_with fail
    go_meet
    exact HF.out
end Go.Proofs.Ytjgcbcahikemdaa
