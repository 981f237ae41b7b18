/- The walk of MeshPlays. -/
import Derived.Test.YtjgcbcahikemdaaPI
import Derived.Test.YtjgcbcahikemdaaPC
import Derived.Deep.CutBlock
/-! The walk of MeshPlays. -/
namespace Go.Proofs.Ytjgcbcahikemdaa
open Go.Conc Go.RowKit Go.Maps

theorem tmod5g (x : Int) : -4 ≤ x.tmod 5 ∧ x.tmod 5 ≤ 4 := by
  rw [Int.tmod_eq_emod]
  split <;> omega
set_option maxRecDepth 100000 in
set_option maxHeartbeats 16000000 in
theorem plays08_round (hA : ∀ q, Hid (goalA q)) (hC : Hid goalC) : goalB := by
  obtain ⟨i0, hi0, iz0, iz1, iz2⟩ := info_parts infoIntS
  obtain ⟨j0, hj0, jz0, jz1, jz2⟩ := info_parts infoRItem
  obtain ⟨k0, hk0, kz0, kz1, kz2⟩ := info_parts infoPair
  intro w l a cap c1 c2 HC HL zQ w1 HO1 w2 m lb pb wc zu4 u6 u28 u29 u30 u31 u32 u33 u34 u35 u36 u37 u38 H3 zK za zJ0 zKp za3 za2 gk wr u2 u4 
    u5 u8 u9 u10 u11 u12 u13 u14 u15 u16 u17 u18 u19 u39 u40 u41 u42 u43 u44 u45 u46 u47 u48 u49 u50 u51 u52 u53 u54 u55 u56 u57 u58 u59 u60 u61 u62 u63 u64 u65 
    u66 u67 u68 u69 u70 u71 u72 u73 u74 u75 u76 u77 u78 u79 u80 u81 u82 u83 u84 u85 u86 u87 u88 u89 u90 u91 u92 u93 u94 u95 u96 u97 u98 u99 u100 u101 u102 u103 u104 u105 
    u106 u107 u108 u109 u110 u111 u112 u113 u114 u115 u116 u117 u118 u119 u120 u121 u122 u123 u124 u125 u126 u127 u128 u129 u130 u131 u132 u133 u134 u135 u136 u137 u138 u139 u140 u141 u142 u143 u144 u145 
    u146 u147 u148 u149 u150 u151 u152 u153 u154 u155 u156 u157 u158 u159 u160 u161 u162 u163 u164 u165 u166 u167 u168 u169 u170 u171 u172 u173 u174 u175 u176 u177 u178 u179 u180 u181 u182 u183 u184 u185 
    u186 u187 u188 u189 u190 u191 u192 u193 u194 u195 u196 u197 u198 u199 u200 u201 u202 u203 u204 u205 u206 u207 u208 u209 u210 u211 u212 u213 u214 u215 u216 u217 u218 u219 u220 u221 u222 u223 u224 u225 
    u226 u227 u228 u229 u230 u231 u232 u233 u234 u235 u236 u237 u238 u239 u240 u241 u242 u243 u244 u245 u246 u247 u248 u249 u250 u251 u252 u253 u254 u255 u256 u257 u258 u259 u260 u261 u262 u263 u264 u265 
    u266 u267 u268 u269 u270 u271 u272 u273 u274 u275 u276 u277 u278 u279 u280 u281 u282 u283 u284 u285 u286 zJ zK1 za1 za0 i hi hi120 hst hg hlt hlt120
  have hlt' : (i : Int) < (l.length : Int) := by omega
  have hlt120' : (i : Int) < 120 := by omega
  have hi0 : (0 : Int) ≤ (i : Int) := by omega
  obtain ⟨lv, lvR, G, R, hp⟩ := hst
  obtain ⟨bb, off, rfl, hcc⟩ := HC.out.at i hlt
  have hcr : ∀ j u, (actDC l[i])[j]? = some u → w1.cell? ⟨bb, off + i * 4 + j, none⟩ = some u := fun j u hu => HO1.out.cell (hcc j u hu) id
  have hP := HL.out l[i] (List.getElem_mem hlt)
  generalize l[i] = y at *
  obtain ⟨what, na, nb, tx⟩ := y
  unfold rowP_sl_actsD at hP
  simp only at hP
  have z0 := hcr 0 _ rfl
  have z1 := hcr 1 _ rfl
  have z2 := hcr 2 _ rfl
  have z3 := hcr 3 _ rfl
  simp only [Nat.add_zero] at z0
  simp only at z0 z1 z2 z3
  have HZ := Lib.hid (And.intro z0 (And.intro z1 (And.intro z2 z3)))
  have y1 := hp.run.only.cell z1 id
  have y2 := hp.run.only.cell z2 id
  have Hg := Lib.hid hg
  have HP := Lib.hid hp
  clear hg hp
  clear z0 z1 z2 z3 hcr hcc hP
  go_upto_region 14 with (fail)
  go_quiet (fail)
  obtain ⟨wa, hwa⟩ : ∃ wa, wa = wr.drewN nq := ⟨_, rfl⟩
  have hoa : Only (fun _ => False) wr wa := by rw [hwa]; exact (Only.refl _ _).drewN _
  rw [← hwa]
  clear hwa y1 y2
  have ha := tmod5g na
  have hb := tmod5g nb
  generalize na.tmod 5 = a at *
  generalize nb.tmod 5 = b at *
  have hpa := HP.out.new hoa
  have y3 := hpa.run.only.cell HZ.out.2.2.2 id
  have HPA := Lib.hid hpa
  clear hpa
  clear hoa HP
  go_upto_region 15 with (fail)
  have hA1 : (0 : Int) ≤ min (tx.size : Int) 5 := by omega
  have hA2 : min (tx.size : Int) 5 ≤ (tx.size : Int) := by omega
  go_quiet (fail)
  obtain ⟨wb, hwb⟩ : ∃ wb, wb = wa.drewN nq := ⟨_, rfl⟩
  have hob : Only (fun _ => False) wa wb := by rw [hwb]; exact (Only.refl _ _).drewN _
  rw [← hwb]
  clear hwb y3
  have hpb := HPA.out.new hob
  have HPB := Lib.hid hpb
  clear hpb
  clear hob HPA
  have haw := wf64 (n := a) (by omega) (by omega)
  have hbw := wf64 (n := b) (by omega) (by omega)
  have HAW := Lib.hid haw
  have HBW := Lib.hid hbw
  have HA4 := Lib.hid ha
  have HB4 := Lib.hid hb
  clear haw hbw ha hb
  go_upto_region 16 with (fail)
  go_cut [11] (fun v11 wx => v11 = .bool (decide (a ∈ lvR ∧ b ∈ lvR ∧ a ≠ b)) ∧ wb = wx)
  case first =>
    have HH := Lib.hid (fun x => r03has_any wb u4 lvR HPB.out.live x)
    obtain ⟨sa, sc, rfl⟩ : ∃ sa sc, u4 = .slice sa lvR.length sc := by obtain ⟨_, sa, sc, h, _⟩ := HPB.out.live; exact ⟨sa, sc, h⟩
    by_cases hav : a ∈ lvR
    · have HA := Lib.hid (HH.out a)
      rw [decide_eq_true hav] at HA
      by_cases hbv : b ∈ lvR
      · have HB := Lib.hid (HH.out b)
        rw [decide_eq_true hbv] at HB
        have HV := Lib.hid (show decide (a ∈ lvR ∧ b ∈ lvR ∧ a ≠ b) = (a != b) by by_cases e : a = b <;> simp [hav, hbv, e])
        clear hav hbv HH
        go_wp2_with fail
        refine HA.out.mono ?_
        rintro e w' ⟨rfl, rfl⟩
        go_wp2_with fail
        refine HB.out.mono ?_
        rintro e w' ⟨rfl, rfl⟩
        go_wp2_with fail
        go_meet
        exact ⟨by rw [HV.out], rfl⟩
      · have HB := Lib.hid (HH.out b)
        rw [decide_eq_false hbv] at HB
        have HV := Lib.hid (show decide (a ∈ lvR ∧ b ∈ lvR ∧ a ≠ b) = false from decide_eq_false (fun e => hbv e.2.1))
        clear hav hbv HH
        go_wp2_with fail
        refine HA.out.mono ?_
        rintro e w' ⟨rfl, rfl⟩
        go_wp2_with fail
        refine HB.out.mono ?_
        rintro e w' ⟨rfl, rfl⟩
        go_wp2_with fail
        go_meet
        exact ⟨by rw [HV.out], rfl⟩
    · have HA := Lib.hid (HH.out a)
      rw [decide_eq_false hav] at HA
      have HV := Lib.hid (show decide (a ∈ lvR ∧ b ∈ lvR ∧ a ≠ b) = false from decide_eq_false (fun e => hav e.1))
      clear hav HH
      go_wp2_with fail
      refine HA.out.mono ?_
      rintro e w' ⟨rfl, rfl⟩
      go_wp2_with fail
      go_meet
      exact ⟨by rw [HV.out], rfl⟩
  case rest =>
  obtain ⟨h11, rfl⟩ := hcut
  obtain ⟨t, ht⟩ : ∃ t, t = decide (a ∈ lvR ∧ b ∈ lvR ∧ a ≠ b) := ⟨_, rfl⟩
  rw [← ht] at h11
  subst h11
  have HT := Lib.hid ht
  clear ht
  have y0 := HPB.out.run.only.cell HZ.out.1 id
  have HTH := Lib.hid (show ∀ t, t = decide (a ∈ lvR ∧ b ∈ lvR ∧ a ≠ b) → t = decide (a ∈ lv ∧ b ∈ lv ∧ a ≠ b) from fun t e => by rw [e]; congr 1; rw [HPB.out.inv.mem, HPB.out.inv.mem])
  go_upto_block 4 with fail
  generalize (wrap64 (what.tmod 7 + 7)).tmod 7 = q
  clear y0 HZ
  go_cut [4, 5] (fun v4 v5 wx => PSt w1 wx m lb pb (i + 1) v4 v5)
  case first =>
    rename_i yK0 ya1 ynq2 yK3 ya4 yJ5 yKp6 ya7 ya8
    revert w l cap c1 c2 HL zQ w1 HO1 w2 m lb pb wc zu4 u6 u28 u29 u30 u31 u32 u33 u34 u35 u36 u37 u38 H3 zK za zJ0 zKp za2 gk wr u2 u4 u5 u8 u9 u10 u11 u12 u13 u14 u15 u16 u17 u18 u19 u94 u144 u190 u206 u225 zJ zK1 za0 i hi hi120
        hlt hlt120 hlt' hlt120' hi0 lv lvR G R bb off HC za3 za1 what na nb tx Hg yK0 ya1 ynq2 wa a b hA1 hA2 nq wb HPB HAW HBW HA4 HB4 u39 u40 u41 u42 u43 u44 u45 u46 u47 u48 u49 u50 u51 u52 u53 u54 u55 u56 u57 u58 u59 u60 u61 u62
        u63 u64 u65 u66 u67 u68 u69 u70 u71 u72 u73 u74 u75 u76 u77 u78 u79 u80 u81 u82 u83 u84 u85 u86 u87 u88 u89 u90 u91 u92 u93 u95 u96 u97 u98 u99 u100 u101 u102 u103 u104 u105 u106 u107 u108 u109 u110 u111 u112 u113 u114 u115
        u116 u117 u118 u119 u120 u121 u122 u123 u124 u125 u126 u127 u128 u129 u130 u131 u132 u133 u134 u135 u136 u137 u138 u139 u140 u141 u142 u143 u145 u146 u147 u148 u149 u150 u151 u152 u153 u154 u155 u156 u157 u158 u159 u160 u161
        u162 u163 u164 u165 u166 u167 u168 u169 u170 u171 u172 u173 u174 u175 u176 u177 u178 u179 u180 u181 u182 u183 u184 u185 u186 u187 u188 u189 u191 u192 u193 u194 u195 u196 u197 u198 u199 u200 u201 u202 u203 u204 u205 u207 u208
        u209 u210 u211 u212 u213 u214 u215 u216 u217 u218 u219 u220 u221 u222 u223 u224 u226 u227 u228 u229 u230 u231 u232 u233 u234 u235 u236 u237 u238 u239 u240 u241 u242 u243 u244 u245 u246 u247 u248 u249 u250 u251 u252 u253 u254
        u255 u256 u257 u258 u259 u260 u261 u262 u263 u264 u265 u266 u267 u268 u269 u270 u271 u272 u273 u274 u275 u276 u277 u278 u279 u280 u281 u282 u283 u284 u285 u286 t HT HTH yK3 ya4 yJ5 yKp6 ya7 ya8
    exact (hA q).out
  case rest =>
    rename_i ywc0 yu21 yu42 yu53 yu124 yu135 yu146 yu157 yu168 yu179 yu1810 yu1911 yu3912 yu4013 yu4114 yu4215 yu4316 yu4417 yu4518 yu4619 yu4720 yu4821 yu4922 yu5023 yu5124 yu5225 yu5326 yu5427 yu5528 yu5629 yu5730 yu5831 yu5932 yu6033 yu6134 yu6235 yu6336 yu6437 yu6538 yu6639 yu6740 yu6841 yu6942 yu7043 yu7144 yu7245 yu7346 yu7447 yu7548 yu7649 yu7750 yu7851 yu7952 yu8053 yu8154 yu8255 yu8356 yu8457 yu8558 yu8659 yu8760 yu8861 yu8962 yu9063 yu9164 yu9265 yu9366 yu9567 yu9668 yu9769 yu9870 yu9971 yu10072 yu10173 yu10274 yu10375 yu10476 yu10577 yu10678 yu10779 yu10880 yu10981 yu11082 yu11183 yu11284 yu11385 yu11486 yu11587 yu11688 yu11789 yu11890 yu11991 yu12092 yu12193 yu12294 yu12395 yu12496 yu12597 yu12698 yu12799 yu128100 yu129101 yu130102 yu131103 yu132104 yu133105 yu134106 yu135107 yu136108 yu137109 yu138110 yu139111 yu140112 yu141113 yu142114 yu143115 yu144116 yu145117 yu146118 yu147119 yu148120 yu149121 yu150122 yu151123 yu152124 yu153125 yu154126 yu155127 yu156128 yu157129 yu158130 yu159131 yu160132 yu161133 yu162134 yu163135 yu164136 yu165137 yu166138 yu167139 yu168140 yu169141 yu170142 yu171143 yu172144 yu173145 yu174146 yu175147 yu176148 yu177149 yu178150 yu179151 yu180152 yu181153 yu182154 yu183155 yu184156 yu185157 yu186158 yu187159 yu188160 yu189161 yu190162 yu191163 yu192164 yu193165 yu194166 yu195167 yu196168 yu197169 yu198170 yu199171 yu200172 yu201173 yu202174 yu203175 yu204176 yu205177 yu206178 yu207179 yu208180 yu209181 yu210182 yu211183 yu212184 yu213185 yu214186 yu215187 yu216188 yu217189 yu218190 yu219191 yu220192 yu221193 yu222194 yu223195 yu224196 yu225197 yu226198 yu227199 yu228200 yu229201 yu230202 yu231203 yu232204 yu233205 yu234206 yu235207 yu236208 yu237209 yu238210 yu239211 yu240212 yu241213 yu242214 yu243215 yu244216 yu245217 yu246218 yu247219 yu248220 yu249221 yu250222 yu251223 yu252224 yu253225 yu254226 yu255227 yu256228 yu257229 yu258230 yu259231 yu260232 yu261233 yu262234 yu263235 yu264236 yu265237 yu266238 yu267239 yu268240 yu269241 yu270242 yu271243 yu272244 yu273245 yu274246 yu275247 yu276248 yu277249 yu278250 yu279251 yu280252 yu281253 yu282254 yu283255 yu284256 yu285257 yu286258 yK259 ya260 ynq261 yu39262 yu40263 yu41264 yu42265 yu43266 yu44267 yu45268 yu46269 yu47270 yu48271 yu49272 yu50273 yu51274 yu52275 yu53276 yu54277 yu55278 yu56279 yu57280 yu58281 yu59282 yu60283 yu61284 yu62285 yu63286 yu64287 yu65288 yu66289 yu67290 yu68291 yu69292 yu70293 yu71294 yu72295 yu73296 yu74297 yu75298 yu76299 yu77300 yu78301 yu79302 yu80303 yu81304 yu82305 yu83306 yu84307 yu85308 yu86309 yu87310 yu88311 yu89312 yu90313 yu91314 yu92315 yu93316 yu95317 yu96318 yu97319 yu98320 yu99321 yu100322 yu101323 yu102324 yu103325 yu104326 yu105327 yu106328 yu107329 yu108330 yu109331 yu110332 yu111333 yu112334 yu113335 yu114336 yu115337 yu116338 yu117339 yu118340 yu119341 yu120342 yu121343 yu122344 yu123345 yu124346 yu125347 yu126348 yu127349 yu128350 yu129351 yu130352 yu131353 yu132354 yu133355 yu134356 yu135357 yu136358 yu137359 yu138360 yu139361 yu140362 yu141363 yu142364 yu143365 yu145366 yu146367 yu147368 yu148369 yu149370 yu150371 yu151372 yu152373 yu153374 yu154375 yu155376 yu156377 yu157378 yu158379 yu159380 yu160381 yu161382 yu162383 yu163384 yu164385 yu165386 yu166387 yu167388 yu168389 yu169390 yu170391 yu171392 yu172393 yu173394 yu174395 yu175396 yu176397 yu177398 yu178399 yu179400 yu180401 yu181402 yu182403 yu183404 yu184405 yu185406 yu186407 yu187408 yu188409 yu189410 yu191411 yu192412 yu193413 yu194414 yu195415 yu196416 yu197417 yu198418 yu199419 yu200420 yu201421 yu202422 yu203423 yu204424 yu205425 yu207426 yu208427 yu209428 yu210429 yu211430 yu212431 yu213432 yu214433 yu215434 yu216435 yu217436 yu218437 yu219438 yu220439 yu221440 yu222441 yu223442 yu224443 yu226444 yu227445 yu228446 yu229447 yu230448 yu231449 yu232450 yu233451 yu234452 yu235453 yu236454 yu237455 yu238456 yu239457 yu240458 yu241459 yu242460 yu243461 yu244462 yu245463 yu246464 yu247465 yu248466 yu249467 yu250468 yu251469 yu252470 yu253471 yu254472 yu255473 yu256474 yu257475 yu258476 yu259477 yu260478 yu261479 yu262480 yu263481 yu264482 yu265483 yu266484 yu267485 yu268486 yu269487 yu270488 yu271489 yu272490 yu273491 yu274492 yu275493 yu276494 yu277495 yu278496 yu279497 yu280498 yu281499 yu282500 yu283501 yu284502 yu285503 yu286504 yK505 ya506
    revert w l cap c1 c2 HL zQ w1 HO1 w2 m lb pb ywc0 zu4 u6 u28 u29 u30 u31 u32 u33 u34 u35 u36 u37 u38 H3 zK za zJ0 zKp za2 gk wr yu21 yu42 yu53 u8 u9 u10 u11 yu124 yu135 yu146 yu157 yu168 yu179 yu1810 yu1911 yu3912 yu4013 yu4114
        yu4215 yu4316 yu4417 yu4518 yu4619 yu4720 yu4821 yu4922 yu5023 yu5124 yu5225 yu5326 yu5427 yu5528 yu5629 yu5730 yu5831 yu5932 yu6033 yu6134 yu6235 yu6336 yu6437 yu6538 yu6639 yu6740 yu6841 yu6942 yu7043 yu7144 yu7245 yu7346
        yu7447 yu7548 yu7649 yu7750 yu7851 yu7952 yu8053 yu8154 yu8255 yu8356 yu8457 yu8558 yu8659 yu8760 yu8861 yu8962 yu9063 yu9164 yu9265 yu9366 u94 yu9567 yu9668 yu9769 yu9870 yu9971 yu10072 yu10173 yu10274 yu10375 yu10476
        yu10577 yu10678 yu10779 yu10880 yu10981 yu11082 yu11183 yu11284 yu11385 yu11486 yu11587 yu11688 yu11789 yu11890 yu11991 yu12092 yu12193 yu12294 yu12395 yu12496 yu12597 yu12698 yu12799 yu128100 yu129101 yu130102 yu131103
        yu132104 yu133105 yu134106 yu135107 yu136108 yu137109 yu138110 yu139111 yu140112 yu141113 yu142114 yu143115 yu144116 yu145117 yu146118 yu147119 yu148120 yu149121 yu150122 yu151123 yu152124 yu153125 yu154126 yu155127 yu156128
        yu157129 yu158130 yu159131 yu160132 yu161133 yu162134 yu163135 yu164136 yu165137 yu166138 yu167139 yu168140 yu169141 yu170142 yu171143 yu172144 yu173145 yu174146 yu175147 yu176148 yu177149 yu178150 yu179151 yu180152 yu181153
        yu182154 yu183155 yu184156 yu185157 yu186158 yu187159 yu188160 yu189161 yu190162 yu191163 yu192164 yu193165 yu194166 yu195167 yu196168 yu197169 yu198170 yu199171 yu200172 yu201173 yu202174 yu203175 yu204176 yu205177 yu206178
        yu207179 yu208180 yu209181 yu210182 yu211183 yu212184 yu213185 yu214186 yu215187 yu216188 yu217189 yu218190 yu219191 yu220192 yu221193 yu222194 yu223195 yu224196 yu225197 yu226198 yu227199 yu228200 yu229201 yu230202 yu231203
        yu232204 yu233205 yu234206 yu235207 yu236208 yu237209 yu238210 yu239211 yu240212 yu241213 yu242214 yu243215 yu244216 yu245217 yu246218 yu247219 yu248220 yu249221 yu250222 yu251223 yu252224 yu253225 yu254226 yu255227 yu256228
        yu257229 yu258230 yu259231 yu260232 yu261233 yu262234 yu263235 yu264236 yu265237 yu266238 yu267239 yu268240 yu269241 yu270242 yu271243 yu272244 yu273245 yu274246 yu275247 yu276248 yu277249 yu278250 yu279251 yu280252 yu281253
        yu282254 yu283255 yu284256 yu285257 yu286258 zJ zK1 za0 i hi hi120 hlt hlt120 hlt' hlt120' hi0 lv lvR G R bb off HC za3 za1 what na nb tx Hg yK259 ya260 ynq261 wa a b hA1 hA2 nq wb HPB HAW HBW HA4 HB4 yu39262 yu40263 yu41264
        yu42265 yu43266 yu44267 yu45268 yu46269 yu47270 yu48271 yu49272 yu50273 yu51274 yu52275 yu53276 yu54277 yu55278 yu56279 yu57280 yu58281 yu59282 yu60283 yu61284 yu62285 yu63286 yu64287 yu65288 yu66289 yu67290 yu68291 yu69292
        yu70293 yu71294 yu72295 yu73296 yu74297 yu75298 yu76299 yu77300 yu78301 yu79302 yu80303 yu81304 yu82305 yu83306 yu84307 yu85308 yu86309 yu87310 yu88311 yu89312 yu90313 yu91314 yu92315 yu93316 yu95317 yu96318 yu97319 yu98320
        yu99321 yu100322 yu101323 yu102324 yu103325 yu104326 yu105327 yu106328 yu107329 yu108330 yu109331 yu110332 yu111333 yu112334 yu113335 yu114336 yu115337 yu116338 yu117339 yu118340 yu119341 yu120342 yu121343 yu122344 yu123345
        yu124346 yu125347 yu126348 yu127349 yu128350 yu129351 yu130352 yu131353 yu132354 yu133355 yu134356 yu135357 yu136358 yu137359 yu138360 yu139361 yu140362 yu141363 yu142364 yu143365 yu145366 yu146367 yu147368 yu148369 yu149370
        yu150371 yu151372 yu152373 yu153374 yu154375 yu155376 yu156377 yu157378 yu158379 yu159380 yu160381 yu161382 yu162383 yu163384 yu164385 yu165386 yu166387 yu167388 yu168389 yu169390 yu170391 yu171392 yu172393 yu173394 yu174395
        yu175396 yu176397 yu177398 yu178399 yu179400 yu180401 yu181402 yu182403 yu183404 yu184405 yu185406 yu186407 yu187408 yu188409 yu189410 yu191411 yu192412 yu193413 yu194414 yu195415 yu196416 yu197417 yu198418 yu199419 yu200420
        yu201421 yu202422 yu203423 yu204424 yu205425 yu207426 yu208427 yu209428 yu210429 yu211430 yu212431 yu213432 yu214433 yu215434 yu216435 yu217436 yu218437 yu219438 yu220439 yu221440 yu222441 yu223442 yu224443 yu226444 yu227445
        yu228446 yu229447 yu230448 yu231449 yu232450 yu233451 yu234452 yu235453 yu236454 yu237455 yu238456 yu239457 yu240458 yu241459 yu242460 yu243461 yu244462 yu245463 yu246464 yu247465 yu248466 yu249467 yu250468 yu251469 yu252470
        yu253471 yu254472 yu255473 yu256474 yu257475 yu258476 yu259477 yu260478 yu261479 yu262480 yu263481 yu264482 yu265483 yu266484 yu267485 yu268486 yu269487 yu270488 yu271489 yu272490 yu273491 yu274492 yu275493 yu276494 yu277495
        yu278496 yu279497 yu280498 yu281499 yu282500 yu283501 yu284502 yu285503 yu286504 t HT HTH yK505 ya506 q wc u2 u4 u5 u12 u13 u14 u15 u16 u17 u18 u19 u39 u40 u41 u42 u43 u44 u45 u46 u47 u48 u49 u50 u51 u52 u53 u54 u55 u56 u57
        u58 u59 u60 u61 u62 u63 u64 u65 u66 u67 u68 u69 u70 u71 u72 u73 u74 u75 u76 u77 u78 u79 u80 u81 u82 u83 u84 u85 u86 u87 u88 u89 u90 u91 u92 u93 u95 u96 u97 u98 u99 u100 u101 u102 u103 u104 u105 u106 u107 u108 u109 u110 u111
        u112 u113 u114 u115 u116 u117 u118 u119 u120 u121 u122 u123 u124 u125 u126 u127 u128 u129 u130 u131 u132 u133 u134 u135 u136 u137 u138 u139 u140 u141 u142 u143 u144 u145 u146 u147 u148 u149 u150 u151 u152 u153 u154 u155 u156
        u157 u158 u159 u160 u161 u162 u163 u164 u165 u166 u167 u168 u169 u170 u171 u172 u173 u174 u175 u176 u177 u178 u179 u180 u181 u182 u183 u184 u185 u186 u187 u188 u189 u190 u191 u192 u193 u194 u195 u196 u197 u198 u199 u200 u201
        u202 u203 u204 u205 u206 u207 u208 u209 u210 u211 u212 u213 u214 u215 u216 u217 u218 u219 u220 u221 u222 u223 u224 u225 u226 u227 u228 u229 u230 u231 u232 u233 u234 u235 u236 u237 u238 u239 u240 u241 u242 u243 u244 u245 u246
        u247 u248 u249 u250 u251 u252 u253 u254 u255 u256 u257 u258 u259 u260 u261 u262 u263 u264 u265 u266 u267 u268 u269 u270 u271 u272 u273 u274 u275 u276 u277 u278 u279 u280 u281 u282 u283 u284 u285 u286 hcut
    exact hC.out
end Go.Proofs.Ytjgcbcahikemdaa
