/- The walk of MeshPlays. -/
import Derived.Test.YtjgcbcahikemdaaPE
import Derived.Test.YtjgcbcahikemdaaPC
import Derived.Deep.CutBlock
/-! The walk of MeshPlays. -/
namespace Go.Proofs.Ytjgcbcahikemdaa
open Go.Conc Go.RowKit Go.Maps

theorem tmod5c (x : Int) : -4 ≤ x.tmod 5 ∧ x.tmod 5 ≤ 4 := by
  rw [Int.tmod_eq_emod]
  split <;> omega
set_option maxRecDepth 100000 in
set_option maxHeartbeats 16000000 in
def goalB : Prop := by
  refine (?f : (T : Prop) → (Hid (Nat → ∀ P : Prop, P) → Hid T → goalR) → Prop) ?T ?p
  case f => exact fun T _ => T
  case p =>
  intro HNEVER hB
  obtain ⟨i0, hi0, iz0, iz1, iz2⟩ := info_parts infoIntS
  obtain ⟨j0, hj0, jz0, jz1, jz2⟩ := info_parts infoRItem
  obtain ⟨k0, hk0, kz0, kz1, kz2⟩ := info_parts infoPair
  intro w l a cap c1 c2 HC HL zQ w1 HO1 w2 m lb pb wc u4 u6 u28 u29 u30 u31 u32 u33 u34 u35 u36 u37 u38 H3 zK za
  go_cut [4, 5, 7] (fun v4 v5 _ wx => ∃ i, i ≤ 120 ∧ PSt w1 wx m lb pb i v4 v5)
  case first =>
    go_wp2_with fail
    go_loopg [4, 5, 7] 120 (fun gk v4 v5 v7 wr => ∃ i : Nat, v7 = .int .i64 i ∧ i ≤ l.length ∧ i ≤ 120 ∧ PSt w1 wr m lb pb i v4 v5 ∧ gk = 120 - i)
    case atStart => exact ⟨0, rfl, Nat.zero_le _, Nat.zero_le _, H3.out, rfl⟩
    case round =>
      obtain ⟨i, rfl, hi, hi120, hst, hg⟩ := hrel
      by_cases hlt : i < l.length ∧ i < 120
      · obtain ⟨hlt, hlt120⟩ := hlt
        rename_i zu4 zJ0 zKp za3 za2 zJ zK1 za1 za0
        revert w l a cap c1 c2 HC HL zQ w1 HO1 w2 m lb pb wc zu4 u6 u28 u29 u30 u31 u32 u33 u34 u35 u36 u37 u38 H3 zK za zJ0 zKp za3 za2 gk wr u2 u4 
          u5 u8 u9 u10 u11 u12 u13 u14 u15 u16 u17 u18 u19 u39 u40 u41 u42 u43 u44 u45 u46 u47 u48 u49 u50 u51 u52 u53 u54 u55 u56 u57 u58 u59 u60 u61 u62 u63 u64 u65 
          u66 u67 u68 u69 u70 u71 u72 u73 u74 u75 u76 u77 u78 u79 u80 u81 u82 u83 u84 u85 u86 u87 u88 u89 u90 u91 u92 u93 u94 u95 u96 u97 u98 u99 u100 u101 u102 u103 u104 u105 
          u106 u107 u108 u109 u110 u111 u112 u113 u114 u115 u116 u117 u118 u119 u120 u121 u122 u123 u124 u125 u126 u127 u128 u129 u130 u131 u132 u133 u134 u135 u136 u137 u138 u139 u140 u141 u142 u143 u144 u145 
          u146 u147 u148 u149 u150 u151 u152 u153 u154 u155 u156 u157 u158 u159 u160 u161 u162 u163 u164 u165 u166 u167 u168 u169 u170 u171 u172 u173 u174 u175 u176 u177 u178 u179 u180 u181 u182 u183 u184 u185 
          u186 u187 u188 u189 u190 u191 u192 u193 u194 u195 u196 u197 u198 u199 u200 u201 u202 u203 u204 u205 u206 u207 u208 u209 u210 u211 u212 u213 u214 u215 u216 u217 u218 u219 u220 u221 u222 u223 u224 u225 
          u226 u227 u228 u229 u230 u231 u232 u233 u234 u235 u236 u237 u238 u239 u240 u241 u242 u243 u244 u245 u246 u247 u248 u249 u250 u251 u252 u253 u254 u255 u256 u257 u258 u259 u260 u261 u262 u263 u264 u265 
          u266 u267 u268 u269 u270 u271 u272 u273 u274 u275 u276 u277 u278 u279 u280 u281 u282 u283 u284 u285 u286 zJ zK1 za1 za0 i hi hi120 hst hg hlt hlt120
        exact hB.out
      · exact HNEVER.out 0 _
  case rest =>
  exact HNEVER.out 0 _
end Go.Proofs.Ytjgcbcahikemdaa
