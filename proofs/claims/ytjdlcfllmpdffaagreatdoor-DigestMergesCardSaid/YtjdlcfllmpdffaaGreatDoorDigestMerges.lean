/- DigestMerges is true of every input: two stores of which one answers the other's Digest hold the same ids behind that, of each key the greater version, and then there is nothing more to be told. No condition; the package variables that it names are tied to the text. -/
import Derived.Test.YtjdlcfllmpdffaaGreatDoorDM
import Derived.Test.YtjdlcfllmpdffaaGreatDoorMJ
import Derived.Test.YtjdlcfllmpdffaaGreatDoorEA
import Derived.Test.YtjdlcfllmpdffaaGreatDoorMA
import Derived.ChangeMaps5
import Derived.Test.YtjdlcfllmpdffaaGreatDoorCards
import Derived.Test.YtjdlcfllmpdffaaGreatDoorTie
/-! The walk of bellhoplaw16.DigestMerges. -/
namespace Go.Proofs.YtjdlcfllmpdffaaGreatDoor
open Go.Conc Go.RowKit Go.Maps

theorem max_nat (a b : Nat) : max (a : Int) (b : Int) = ((max a b : Nat) : Int) := by omega
/-- The blocks of two stores. -/
def four (s b s2 b2 : Nat) (i : Nat) : Prop := (i = s ∨ i = b) ∨ i = s2 ∨ i = b2
set_option maxRecDepth 100000 in
set_option maxHeartbeats 16000000 in
theorem merges16_any (w : World) (m : Int) (hm : w.cell? ⟨0, 0, none⟩ = some (.int .i64 m)) (v : Value) (l : List RecA) (u : Value) (o : List RecA) (h : Sl w 5 v l.length (l.flatMap recAC)) (hl : ∀ a ∈ l, rowP_sl_recs16 a) (hu : Sl w 5 u o.length (o.flatMap recAC)) (ho : ∀ a ∈ o, rowP_sl_recs16 a) :
    Calls Tryz.prog 3 #[v, u] w fun e w' => e = .returned (.bool true) ∧ Only (fun _ => False) w w' := by
  have h0 : 0 < w.heap.size := World.block_lt_of_cell? _ _ hm
  have HV := Lib.hid h
  have HL := Lib.hid hl
  have HU := Lib.hid hu
  have HO := Lib.hid ho
  clear h hl hu ho
  go_enter Tryz.func3, Tryz.ntmps3
  go_wp2_with fail
  refine (speaks16_any w m hm).mono ?_
  rintro e w1 ⟨rfl, ho1⟩
  have hm1 := ho1.cell hm id
  have hv1 := HV.out.new ho1
  have hu1 := HU.out.new ho1
  have hmade := made16_any w1 m hm1 v l hv1 HL.out 200 (by omega) (by omega)
  unfold MadeP rstV at hmade
  have hw01 := ho1.size
  have HPA := Lib.hid (made_p l HL.out)
  have HPB := Lib.hid (made_p o HO.out)
  have HO1 := Lib.hid ho1
  have HM1 := Lib.hid hm1
  have HU1 := Lib.hid hu1
  have HMADE := Lib.hid hmade
  clear ho1 hm1 hu1 hmade
  clear hm HV HU hv1
  go_wp2_with fail
  refine HMADE.out.mono ?_
  rintro e w2 ⟨s, b, r1, q1', vm, rfl, ho2, hs2, hb2, hst2, hr10, hr11, _, _, hsl2⟩
  generalize madeL 200 l 30 = A at *
  obtain ⟨va, vcap, rfl, _⟩ := Sl.cells recC_length hsl2
  have hlt2 := hst2.lt
  obtain ⟨V1, hV1⟩ : ∃ V1, V1 = w2.alloc (.cells #[.int .i64 48, .int .i64 200, .slice va A.length vcap, .int .i64 q1'] 27) := ⟨_, rfl⟩
  have hbV1 : V1.heap[w2.heap.size]? = some (.cells #[.int .i64 48, .int .i64 200, .slice va A.length vcap, .int .i64 q1'] 27 (0, 0)) := by rw [hV1]; exact heap_alloc_new w2 _
  have hoV1 : Only (fun _ => False) w2 V1 := by rw [hV1]; exact (Only.refl _ _).alloc _
  have hsV1 : V1.heap.size = w2.heap.size + 1 := by rw [hV1]; simp
  have hst3 := hst2.new hoV1
  have hsl3 := hsl2.new hoV1
  have hoA := (HO1.out.trans ho2).trans hoV1
  have hm3 := hoV1.cell (ho2.cell HM1.out id) id
  have hu3 := (HU1.out.new ho2).new hoV1
  have hmade2 := made16_any V1 m hm3 u o hu3 HO.out 200 (by omega) (by omega)
  unfold MadeP rstV at hmade2
  have hsz3 : w.heap.size ≤ s ∧ w.heap.size ≤ b ∧ s ≠ 0 ∧ b ≠ 0 := by omega
  have HSTA := Lib.hid hst3
  have HSLA := Lib.hid hsl3
  have HOA := Lib.hid hoA
  have HM3 := Lib.hid hm3
  have HMADE2 := Lib.hid hmade2
  have HBQ1 := Lib.hid hbV1
  have HSZ := Lib.hid hsz3
  clear hst3 hsl3 hoA hm3 hmade2 hbV1 hsz3
  clear HMADE ho2 hst2 hsl2 hoV1 HU1 HM1 HO1 hs2 hb2 hw01
  go_upto_region 4 with (fail)
  rw [← hV1]
  clear hV1
  go_wp2_with fail
  refine HMADE2.out.mono ?_
  rintro e w3 ⟨s2, b2, r2, q2', vm2, rfl, ho3, hs3, hb3, hst4, hr20, hr21, _, _, hsl4⟩
  generalize madeL 200 o 30 = B at *
  obtain ⟨va2, vcap2, rfl, _⟩ := Sl.cells recC_length hsl4
  have hlt4 := hst4.lt
  have hbq1 := ho3.old HBQ1.out id
  obtain ⟨V2, hV2⟩ : ∃ V2, V2 = w3.alloc (.cells #[.int .i64 48, .int .i64 200, .slice va2 B.length vcap2, .int .i64 q2'] 27) := ⟨_, rfl⟩
  have hbV2 : V2.heap[w3.heap.size]? = some (.cells #[.int .i64 48, .int .i64 200, .slice va2 B.length vcap2, .int .i64 q2'] 27 (0, 0)) := by rw [hV2]; exact heap_alloc_new w3 _
  have hoV2 : Only (fun _ => False) w3 V2 := by rw [hV2]; exact (Only.refl _ _).alloc _
  have hsV2 : V2.heap.size = w3.heap.size + 1 := by rw [hV2]; simp
  have hst5 := hst4.new hoV2
  have hsl5 := hsl4.new hoV2
  have hstA5 := (HSTA.out.new ho3).new hoV2
  have hslA5 := (HSLA.out.new ho3).new hoV2
  have hbq15 := hoV2.old hbq1 id
  have hoB := (HOA.out.trans ho3).trans hoV2
  have hm5 := (ho3.trans hoV2).cell HM3.out id
  have hsz5 : (s < V1.heap.size ∧ b < V1.heap.size) ∧ (V1.heap.size ≤ s2 ∧ V1.heap.size ≤ b2) ∧ (s2 < V2.heap.size ∧ b2 < V2.heap.size) ∧ (w2.heap.size < V1.heap.size ∧ w3.heap.size < V2.heap.size) ∧ (s2 ≠ 0 ∧ b2 ≠ 0) ∧ (s < w2.heap.size ∧ b < w2.heap.size) ∧ (s2 < w3.heap.size ∧ b2 < w3.heap.size) ∧ s < V2.heap.size ∧ b < V2.heap.size := by omega
  generalize w2.heap.size = Q1 at *
  have HSTA5 := Lib.hid hstA5
  have HSLA5 := Lib.hid hslA5
  have HSTB5 := Lib.hid hst5
  have HSLB5 := Lib.hid hsl5
  have HBQ15 := Lib.hid hbq15
  have HBQ2 := Lib.hid hbV2
  have HOB := Lib.hid hoB
  have HM5 := Lib.hid hm5
  have HS5 := Lib.hid hsz5
  clear hstA5 hslA5 hst5 hsl5 hbq15 hbV2 hoB hm5 hsz5
  clear HMADE2 HSTA HSLA HBQ1 HOA HM3 ho3 hst4 hsl4 hoV2 hs3 hb3 hlt4 hlt2 hsV1 hsV2 hbq1
  go_upto_region 5 with (fail)
  rw [← hV2]
  clear hV2
  generalize w3.heap.size = Q2 at *
  have HASK := Lib.hid (dask_any V2 s b 48 200 r1 A HSTA5.out)
  have hmsg : askMsg A = ⟨13, 0, 0, false, [], A.map toId, []⟩ := rfl
  rw [hmsg] at HASK
  clear hmsg
  go_wp2_with fail
  refine HASK.out.mono ?_
  rintro e w4 ⟨vq, rfl, ho4, hq⟩
  have hAl := HSTA5.out.ok.len
  have HAK := Lib.hid (show ∀ p ∈ A.map toId, p.1.size ≤ maxLen from fun p hp => by
    obtain ⟨x, hx, rfl⟩ := List.mem_map.1 hp
    exact HSTA5.out.ok.keys x hx)
  have HANS := Lib.hid (answer_any w4 s2 b2 48 200 r2 B (HSTB5.out.new ho4) vq _ hq (by simp; omega) HAK.out)
  have HO4 := Lib.hid ho4
  clear ho4
  clear hq HASK
  go_wp2_with fail
  refine HANS.out.mono ?_
  rintro e w5 ⟨v9, rfl, ho5, hrow⟩
  have hend := mg_end A B
  have HGV := Lib.hid (fun i hi => mg_give 200 A B (A.map toId) i hi)
  have HMM := Lib.hid (show ∀ x ∈ answerM 200 B (A.map toId), VK x.recs ∧ x.recs.length ≤ 16 ∧ x.ids.length ≤ 48 ∧ ∀ p ∈ x.ids, p.1.size ≤ maxLen from fun x hx => by
    obtain ⟨k1, k2⟩ := ans_ids_in hx
    rw [List.length_map] at k1
    exact ⟨ans_vk (HPB.out).vk hx, ans_recs_len hx, Nat.le_trans k1 hAl, fun p hp => HAK.out p (k2 p hp)⟩)
  have hmsl : (answerM 200 B (A.map toId)).length ≤ 50 := by
    have h1 := ans_len 200 B (A.map toId)
    have h2 := HSTB5.out.ok.len
    omega
  generalize answerM 200 B (A.map toId) = ms at *
  obtain ⟨P, hP, hown, heach⟩ := hrow.out
  obtain ⟨pa, pcap, rfl, _, hpc, hcc⟩ := Sl.cells cellsM_length (Sl.of_owns hown)
  have hPl : P.length = ms.length := by rw [← hP, List.length_map]
  rw [hPl]
  unfold maxLen at hpc
  have ho45 := HO4.out.trans ho5
  have hstA6 := HSTA5.out.new ho45
  have hstB6 := HSTB5.out.new ho45
  have hslA6 := HSLA5.out.new ho45
  have hslB6 := HSLB5.out.new ho45
  have hbq16 := ho45.old HBQ15.out id
  have hbq26 := ho45.old HBQ2.out id
  have hm6 := ho45.cell HM5.out id
  have ho6 := HOB.out.trans ho45
  have hsz45 := HO4.out.size
  have HSTA := Lib.hid hstA6
  have HSTB := Lib.hid hstB6
  have HSLA := Lib.hid hslA6
  have HSLB := Lib.hid hslB6
  have HBQ1 := Lib.hid hbq16
  have HBQ2B := Lib.hid hbq26
  have HM6 := Lib.hid hm6
  have HO6 := Lib.hid ho6
  have HEND := Lib.hid hend
  have HP := Lib.hid hP
  have HE := Lib.hid heach
  have HC := Lib.hid hcc
  have HOWN := Lib.hid hown
  have HPL := Lib.hid hPl
  have HR1 := Lib.hid hr10
  have HSZ45 := Lib.hid hsz45
  clear hstA6 hstB6 hslA6 hslB6 hbq16 hbq26 hm6 ho6 hend hP heach hcc hown hPl hr10 hsz45
  clear ho5 hrow HO4 ho45 HSTA5 HSTB5 HSLA5 HSLB5 HBQ15 HBQ2 HM5 HOB HANS
  go_upto_block 0 with fail
  go_cut [10] (fun _ wx => ∃ z1 z2, Only (four s b s2 b2) w5 wx ∧ StoreAt wx s b 48 200 z1 (xchA 200 A B) ∧ StoreAt wx s2 b2 48 200 z2 (xchB 200 A B))
  case first =>
    go_wp2_with fail
    go_loopg [10] ms.length (fun g v10 wr => ∃ (i : Nat) (z1 z2 : Int), v10 = .int .i64 i ∧ i ≤ ms.length ∧ Only (four s b s2 b2) w5 wr ∧ StoreAt wr s b 48 200 z1 (mgA A ms i) ∧ StoreAt wr s2 b2 48 200 z2 (mgB A B ms i) ∧ (0 ≤ z1 ∧ z1 ≤ 30 + 16 * i) ∧ (0 ≤ z2 ∧ z2 ≤ 30 + 800 * i) ∧ g = ms.length - i)
    case atStart => exact ⟨0, r1, r2, rfl, Nat.zero_le _, Only.refl _ _, HSTA.out, HSTB.out, by have := HR1.out; omega, by omega, rfl⟩
    case round =>
      obtain ⟨i, z1, z2, rfl, hi, ho, hA, hB, hz1, hz2, hg⟩ := hrel
      have Hg := Lib.hid hg
      clear hg
      clear HO
      have HO := Lib.hid ho
      have HS := Lib.hid (show ¬ four s b s2 b2 0 ∧ (∀ k, V2.heap.size ≤ k → ¬ four s b s2 b2 k) from ⟨fun e => by
        have h1 := HS5.out
        have h2 := HSZ.out
        have h3 : (0 = s ∨ 0 = b) ∨ 0 = s2 ∨ 0 = b2 := e
        omega, fun k hk e => by
        have h1 := HS5.out
        have h3 : (k = s ∨ k = b) ∨ k = s2 ∨ k = b2 := e
        omega⟩)
      by_cases hlt : i < ms.length
      · -- round1
        have hltP : i < P.length := by have := HPL.out; omega
        have hlt' : (i : Int) < (ms.length : Int) := by omega
        obtain ⟨lb, off, rfl, hcz⟩ := HC.out.at i hltP
        have hei := HE.out _ (List.getElem_mem hltP)
        have hPi : P[i].1 = ms[i] := by
          have h1 : (P.map (·.1))[i]? = ms[i]? := by rw [HP.out]
          rw [List.getElem?_map, List.getElem?_eq_getElem hltP, List.getElem?_eq_getElem hlt] at h1
          simpa using h1
        obtain ⟨hvk, hrl, hil, hik⟩ := HMM.out ms[i] (List.getElem_mem hlt)
        have hsA := mgA_step A ms i hlt
        have hsB := mgB_step A B ms i hlt
        have hgv := HGV.out i hlt
        have hbase : V2.heap.size ≤ w4.heap.size := HSZ45.out
        have hlb : w4.heap.size ≤ lb := (HOWN.out.lt lb rfl).1
        have hcr : ∀ j u, (cellsM P[i])[j]? = some u → wr.cell? ⟨lb, off + i * 7 + j, none⟩ = some u := fun j u hu => HO.out.cell (hcz j u hu) (HS.out.2 lb (by omega))
        have hei2 := hei.only HO.out (fun k hk => HS.out.2 k (by omega))
        have hrr : RSl wr P[i].2.2.2 ms[i].recs := by rw [← hPi]; exact Sl.of_owns hei2.r
        have hblk : RecBlk wr P[i].2.2.2 := RecBlk.of_row hei2.r
        have hii : Sl wr 2 P[i].2.2.1 ms[i].ids.length (ms[i].ids.flatMap idT) := by rw [← hPi]; exact Sl.of_owns hei2.i
        have hio := hei.i
        rw [hPi] at hio
        have hmR := HO.out.cell HM6.out HS.out.1
        have y5 := hcr 5 _ rfl
        have y6 := hcr 6 _ rfl
        generalize P[i].2.2.2 = ur at *
        generalize P[i].2.2.1 = ui at *
        generalize ms[i].recs = R at *
        generalize ms[i].ids = I at *
        obtain ⟨ra, rc, rfl, _⟩ := Sl.cells recC_length hrr
        obtain ⟨ia, ic, rfl, _⟩ := Sl.cells idT_length hii
        have HTK := Lib.hid (take_any wr s b 48 200 z1 (mgA A ms i) hA m hmR ⟨by have := HSZ.out; omega, by have := HSZ.out; omega⟩ _ R hrr hblk (by omega) hvk hz1.1 (by omega))
        rw [← hsA] at HTK
        have hgd : AgeOk (mgA A ms (i + 1)) := fun x hx => by
          have h1 : StoreOk 48 200 (mgA A ms (i + 1)) := by rw [hsA]; exact takes_ok _ hA.ok
          have := h1.ages x hx
          omega
        have hgood : ∀ x ∈ sentL 200 (giveL A I), goodR x = true := sent_good (by omega) (fun x hx => HPA.out.good x ((give_mem A I []).2 x hx))
        have HMY := Lib.hid (may_pack 14 (by omega) hgood)
        have HGR := Lib.hid (show ∀ x ∈ packM 14 (sentL 200 (giveL A I)), VK x.recs ∧ x.recs.length ≤ 16 from fun x hx => ⟨VK.flat hx (((HPA.out).vk.sub (fun y hy => (give_mem A I []).2 y hy)).sent 200), pack_recs_len hx⟩)
        have hGl := give_len 200 A I hil
        have HPF := Lib.hid (pack_flat 14 (sentL 200 (giveL A I)))
        have HRL := Lib.hid hrl
        have HB := Lib.hid hB
        have HSB := Lib.hid hsB
        have HGD := Lib.hid hgd
        have HIK := Lib.hid hik
        have HGV2 := Lib.hid hgv
        have HMR := Lib.hid hmR
        have HIO := Lib.hid hio
        clear hB hsB hgd hik hgv hmR hio
        generalize hA2E : mgA A ms (i + 1) = A2 at *
        have HA2E := Lib.hid hA2E
        clear hA2E
        clear hcz hcr hei hei2 hPi hvk hrl hrr hblk hii hA hsA hgood
        go_wp2_with fail
        refine HTK.out.mono ?_
        rintro e w6 ⟨v6, rfl, ho6, _, z1', hz1a, hz1b, hst6⟩
        have ho6' : Only (four s b s2 b2) w5 w6 := HO.out.trans (ho6.weaken (fun _ _ e => .inl e))
        have y5' : w6.cell? ⟨lb, off + i * 7 + 5, none⟩ = some (.slice ia I.length ic) := ho6.cell y5 (fun e => HS.out.2 lb (by omega) (.inl e))
        have hi6 : Sl w6 2 (.slice ia I.length ic) I.length (I.flatMap idT) := Sl.of_owns (owns_only HIO.out ho6' (fun k hk => HS.out.2 k (by omega)))
        have hB6 : StoreAt w6 s2 b2 48 200 z2 (mgB A B ms i) := HB.out.kept ho6 (fun e => by have h1 := HS5.out; have e : s2 = s ∨ s2 = b := e; omega) (fun e => by have h1 := HS5.out; have e : b2 = s ∨ b2 = b := e; omega)
        have hm6' : w6.cell? ⟨0, 0, none⟩ = some (.int .i64 m) := ho6.cell HMR.out (fun e => HS.out.1 (.inl e))
        have HGI := Lib.hid (give_any w6 (.pointer (some ⟨s, 0, none⟩)) 200 14 A2 hst6.ttl hst6.gets HGD.out _ I hi6 (by omega) HIK.out)
        rw [HGV2.out] at HGI
        have HST6 := Lib.hid hst6
        have HO6B := Lib.hid ho6'
        have HB6 := Lib.hid hB6
        have HM6B := Lib.hid hm6'
        clear hst6 ho6' hB6 hm6'
        have HZ := Lib.hid (And.intro (Int.le_trans hz1.1 hz1a) hz1b)
        clear ho6 hi6 y5 y6 HTK HB HMR hz1a hz1b
        clear HO
        go_wp2_with fail
        refine HGI.out.mono ?_
        rintro e w7 ⟨v11, rfl, ho7, hrow7⟩
        obtain ⟨G, hG⟩ : ∃ G, G = packM 14 (sentL 200 (giveL A I)) := ⟨_, rfl⟩
        rw [← hG] at hrow7
        obtain ⟨PG, hPG, hownG, heachG⟩ := hrow7.out
        obtain ⟨ga, gc, rfl, _, hgc, hcg⟩ := Sl.cells cellsM_length (Sl.of_owns hownG)
        unfold maxLen at hgc
        have hGL : PG.length ≤ 50 := by
          have h1 : PG.length = G.length := by rw [← hPG, List.length_map]
          rw [h1, hG]
          exact hGl
        have hA7 := HST6.out.new ho7
        have hB7 := HB6.out.new ho7
        have hm7 := ho7.cell HM6B.out id
        have ho7' : Only (four s b s2 b2) w5 w7 := HO6B.out.trans (ho7.weaken (fun _ _ => False.elim))
        have hw67 := HO6B.out.size
        have hw5 : V2.heap.size ≤ w5.heap.size := Nat.le_trans HSZ45.out (by have h1 := HOWN.out.lt lb rfl; omega)
        have HMY2 := Lib.hid (show ∀ p ∈ PG, MayM p.1 ∧ (encL p.1).length ≤ 4096 from fun p hp => HMY.out p.1 (by rw [← hG, ← hPG]; exact List.mem_map.2 ⟨p, hp, rfl⟩))
        have HGR2 := Lib.hid (show ∀ p ∈ PG, VK p.1.recs ∧ p.1.recs.length ≤ 16 from fun p hp => HGR.out p.1 (by rw [← hG, ← hPG]; exact List.mem_map.2 ⟨p, hp, rfl⟩))
        have HFL := Lib.hid (show PG.flatMap (fun p => p.1.recs) = sentL 200 (giveL A I) by
          rw [← HPF.out, ← hG, ← hPG, List.flatMap_map])
        have HA7 := Lib.hid hA7
        have HB7 := Lib.hid hB7
        have HM7 := Lib.hid hm7
        have HO7 := Lib.hid ho7'
        have HCG := Lib.hid hcg
        have HEG := Lib.hid heachG
        have HOG := Lib.hid hownG
        have HW67 := Lib.hid hw67
        have HW5 := Lib.hid hw5
        clear hA7 hB7 hm7 ho7' hcg heachG hownG hw67 hw5
        clear hrow7 ho7 HGI HST6 HB6 HM6B HO6B hG hPG
        go_wp2_with fail
        go_loopg [12] PG.length (fun g v12 wr => ∃ (k : Nat) (z3 : Int), v12 = .int .i64 k ∧ k ≤ PG.length ∧ Only (fun i => i = s2 ∨ i = b2) w7 wr ∧ StoreAt wr s2 b2 48 200 z3 (takeS 48 200 (mgB A B ms i) ((PG.take k).flatMap (fun p => p.1.recs))) ∧ (0 ≤ z3 ∧ z3 ≤ z2 + 16 * k) ∧ g = PG.length - k)
        case atStart => exact ⟨0, z2, rfl, Nat.zero_le _, Only.refl _ _, HB7.out, by omega, rfl⟩
        case round =>
          obtain ⟨k, z3, rfl, hk, hoy, hBy, hz3, hgy⟩ := hrel
          have Hgy := Lib.hid hgy
          have HOY := Lib.hid hoy
          have HBY := Lib.hid hBy
          clear hgy hoy hBy
          have HNS := Lib.hid (show ∀ j, w6.heap.size ≤ j → ¬ (j = s2 ∨ j = b2) from fun j hj e => by
            have h1 := HS5.out
            have h2 := HW67.out
            have h3 := HW5.out
            omega)
          by_cases hltk : k < PG.length
          · -- round2
            have hltk' : (k : Int) < (PG.length : Int) := by omega
            obtain ⟨gb, goff, rfl, hcz⟩ := HCG.out.at k hltk
            have hgb : w6.heap.size ≤ gb := (HOG.out.lt gb rfl).1
            have hcr : ∀ j u, (cellsM PG[k])[j]? = some u → wr.cell? ⟨gb, goff + k * 7 + j, none⟩ = some u := fun j u hu => HOY.out.cell (hcz j u hu) (HNS.out gb hgb)
            have hek := (HEG.out _ (List.getElem_mem hltk)).only HOY.out (fun j hj => HNS.out j hj)
            obtain ⟨hmy1, hmy2⟩ := HMY2.out _ (List.getElem_mem hltk)
            obtain ⟨hvk, hrl⟩ := HGR2.out _ (List.getElem_mem hltk)
            have HEN := Lib.hid (mencode_any wr _ _ hek.is hmy1 hmy2)
            have htk : (PG.take (k + 1)).flatMap (fun p => p.1.recs) = (PG.take k).flatMap (fun p => p.1.recs) ++ PG[k].1.recs := take_flat (fun p : MsgP => p.1.recs) PG k hltk
            have HTKX := Lib.hid htk
            generalize PG[k] = pk at *
            obtain ⟨mm, un, uj, ur⟩ := pk
            unfold cellsM at HEN hcr
            simp only at HEN hcr hvk hrl HTKX
            generalize mm.kind = c0 at *
            generalize mm.node = c1 at *
            generalize mm.walk = c2 at *
            generalize mm.high = c3 at *
            have g0 := hcr 0 _ rfl
            have g1 := hcr 1 _ rfl
            have g2 := hcr 2 _ rfl
            have g3 := hcr 3 _ rfl
            have g4 := hcr 4 _ rfl
            have g5 := hcr 5 _ rfl
            have g6 := hcr 6 _ rfl
            simp only [Nat.add_zero] at g0
            have hrr := Sl.of_owns hek.r
            have hrb := RecBlk.of_row hek.r
            simp only at hrr hrb
            generalize mm.recs = R3 at *
            obtain ⟨r3a, r3c, rfl, _⟩ := Sl.cells recC_length hrr
            have hk0 : (0 : Int) ≤ (k : Int) := by omega
            have HTK := Lib.hid (fun w' (ho : Only (fun _ => False) wr w') => take_any w' s2 b2 48 200 z3 _ (HBY.out.new ho) m (ho.cell (HOY.out.cell HM7.out (fun e => HS.out.1 (.inr e))) id) ⟨by have := HS5.out; omega, by have := HS5.out; omega⟩ _ R3 (Sl.new hrr ho) (hrb.new ho) (by omega) hvk hz3.1 (by omega))
            rw [← take_app, ← HTKX.out] at HTK
            have G6 := Lib.hid g6
            clear g6
            have g6 := G6.out
            clear hcz hcr hek hmy1 hmy2 hvk hrr hrb htk
            go_wp2_with fail
            refine HEN.out.mono ?_
            rintro e wz ⟨rfl, hoz⟩
            have g6z := hoz.cell G6.out id
            have HTK2 := Lib.hid (HTK.out wz hoz)
            have HOZ := Lib.hid hoz
            clear hoz
            clear g0 g1 g2 g3 g4 g5 g6 HEN HTK
            go_wp2_with fail
            refine HTK2.out.mono ?_
            rintro e wv ⟨v19, rfl, hov, _, z4, hz4a, hz4b, hstv⟩
            have hoV := (HOY.out.trans (HOZ.out.weaken (fun _ _ => False.elim))).trans hov
            have HOV := Lib.hid hoV
            have HSTV := Lib.hid hstv
            clear hoV hstv
            have HZ4 := Lib.hid (show 0 ≤ z4 ∧ z4 ≤ z2 + 16 * ((k + 1 : Nat) : Int) from ⟨by omega, by omega⟩)
            clear hov hz4a hz4b g6z HTK2
            go_wp2_with fail
            go_roundg (PG.length - (k + 1))
            case measure => rw [Hgy.out]; omega
            case rel => exact ⟨k + 1, z4, by go_num, by omega, HOV.out, HSTV.out, HZ4.out, rfl⟩
          · have hltk' : ¬ (k : Int) < (PG.length : Int) := by omega
            have hoF : Only (four s b s2 b2) w5 wr := HO7.out.trans (HOY.out.weaken (fun _ _ e => .inr e))
            have hAF : StoreAt wr s b 48 200 z1' A2 := HA7.out.kept HOY.out (fun e => by have h1 := HS5.out; have e : s = s2 ∨ s = b2 := e; omega) (fun e => by have h1 := HS5.out; have e : b = s2 ∨ b = b2 := e; omega)
            have hBF := HBY.out
            rw [show k = PG.length by omega, List.take_length, HFL.out, ← HSB.out] at hBF
            have HOF := Lib.hid hoF
            have HAF := Lib.hid hAF
            have HBF := Lib.hid hBF
            clear hoF hAF hBF
            have HZF := Lib.hid (show 0 ≤ z3 ∧ z3 ≤ 30 + 800 * ((i + 1 : Nat) : Int) from ⟨hz3.1, by have h1 := hz3.2; have h2 := hz2.2; have h3 := hGL; omega⟩)
            have HZE := Lib.hid (show 0 ≤ z1' ∧ z1' ≤ 30 + 16 * ((i + 1 : Nat) : Int) from ⟨HZ.out.1, by have h1 := HZ.out.2; have h2 := HRL.out; have h3 := hz1.2; omega⟩)
            go_wp2_with fail
            go_roundg (ms.length - (i + 1))
            case measure => rw [Hg.out]; omega
            case rel => exact ⟨i + 1, z1', z3, by go_num, by omega, HOF.out, by rw [HA2E.out]; exact HAF.out, HBF.out, HZE.out, HZF.out, rfl⟩
      · have hF : ∃ z1 z2, Only (four s b s2 b2) w5 wr ∧ StoreAt wr s b 48 200 z1 (xchA 200 A B) ∧ StoreAt wr s2 b2 48 200 z2 (xchB 200 A B) := by
          rw [show i = ms.length by omega, HEND.out.1] at hA
          rw [show i = ms.length by omega, HEND.out.2] at hB
          exact ⟨z1, z2, HO.out, hA, hB⟩
        have HF := Lib.hid hF
        clear hF
        have hlt' : ¬ (i : Int) < (ms.length : Int) := by omega
        clear hA hB
        go_wp2_with fail
        go_meet
        exact HF.out
  case rest =>
  obtain ⟨z1, z2, hoc, hA, hB⟩ := hcut
  generalize wc = w6 at *
  have hA5 := HSTA.out.noStr
  have hB5 := HSTB.out.noStr
  have hns : ∀ g, four s b s2 b2 g → ∀ i x, w5.cell? ⟨g, i, none⟩ ≠ some (.string x) := fun g hg => hg.elim (hA5 g) (hB5 g)
  have hslA := rsl_kept HSLA.out hoc hns
  have hslB := rsl_kept HSLB.out hoc hns
  have hq1 := hoc.old HBQ1.out (fun e => by have h1 := HS5.out; have e : (Q1 = s ∨ Q1 = b) ∨ Q1 = s2 ∨ Q1 = b2 := e; omega)
  have hq2 := hoc.old HBQ2B.out (fun e => by have h1 := HS5.out; have e : (Q2 = s ∨ Q2 = b) ∨ Q2 = s2 ∨ Q2 = b2 := e; omega)
  have hoD : Only (fun _ => False) w w6 := HO6.out.tr hoc (fun i hi e => by have h1 := HS5.out; have h2 := HSZ.out; have e : (i = s ∨ i = b) ∨ i = s2 ∨ i = b2 := e; omega)
  have HSAME := Lib.hid (fun i hi => mg_same HPA.out HPB.out (i := i) hi)
  have HLEN := Lib.hid (mg_len HPA.out HPB.out)
  have HQT := Lib.hid (mg_quiet HPA.out HPB.out)
  have HVER := Lib.hid (fun y hy => mg_ver HPA.out HPB.out (y := y) hy)
  have HEVERY := Lib.hid (fun x hx => mg_all HPA.out HPB.out (x := x) hx)
  have HFA := Lib.hid (find_ver HPA.out.ok.rises)
  have HFB := Lib.hid (find_ver HPB.out.ok.rises)
  have HAL := Lib.hid HPA.out.ok.len
  have HBL := Lib.hid HPB.out.ok.len
  have HKS := Lib.hid (show ∀ x, x ∈ A ∨ x ∈ B → x.key.size ≤ maxLen from fun x hx => hx.elim (HPA.out.ok.keys x) (HPB.out.ok.keys x))
  generalize xchA 200 A B = XA at *
  generalize xchB 200 A B = XB at *
  have hXl := hA.ok.len
  have HXK := Lib.hid hB.ok.keys
  have HA1 := Lib.hid (sall_any w6 s b 48 200 z1 XA hA)
  have HSTA6 := Lib.hid hA
  have HSTB6 := Lib.hid hB
  have HSLA6 := Lib.hid hslA
  have HSLB6 := Lib.hid hslB
  have HQ1 := Lib.hid hq1
  have HQ2 := Lib.hid hq2
  have HOD := Lib.hid hoD
  clear hA hB hslA hslB hq1 hq2 hoD
  clear hoc hA5 hB5 hns HSTA HSTB HSLA HSLB HBQ1 HBQ2B HO6 HM6 HEND HP HE HC HOWN HPL HGV HMM
  go_wp2_with fail
  refine HA1.out.mono ?_
  rintro e w7 ⟨vx, rfl, ho7, hx⟩
  have HB1 := Lib.hid (sall_any w7 s2 b2 48 200 z2 XB (HSTB6.out.new ho7))
  have HO7 := Lib.hid ho7
  have HX := Lib.hid hx
  clear ho7 hx
  clear HA1
  go_wp2_with fail
  refine HB1.out.mono ?_
  rintro e w8 ⟨vy, rfl, ho8, hy⟩
  obtain ⟨xa, xcap, rfl, _, hxc, hxC⟩ := Sl.cells recC_length (Sl.of_owns (owns_only HX.out ho8 (fun _ _ => id)))
  obtain ⟨ya, ycap, rfl, _, hyc, hyC⟩ := Sl.cells recC_length (Sl.of_owns hy)
  unfold maxLen at hxc hyc
  rw [← HLEN.out]
  have ho78 := HO7.out.trans ho8
  have HDA := Lib.hid (dask_any w8 s2 b2 48 200 z2 XB (HSTB6.out.new ho78))
  have hmsg : askMsg XB = ⟨13, 0, 0, false, [], XB.map toId, []⟩ := rfl
  rw [hmsg] at HDA
  have HO78 := Lib.hid ho78
  have HXC := Lib.hid hxC
  have HYC := Lib.hid hyC
  clear ho78 hxC hyC
  clear ho8 hy HB1 HO7 HX hmsg
  go_wp2_with fail
  refine HDA.out.mono ?_
  rintro e w9 ⟨vq2, rfl, ho9, hq9⟩
  have HAN := Lib.hid (answer_any w9 s b 48 200 z1 XA ((HSTA6.out.new HO78.out).new ho9) vq2 _ hq9 (by simp; have := HLEN.out; omega) (fun p hp => by
    obtain ⟨x, hx, rfl⟩ := List.mem_map.1 hp
    exact HXK.out x hx))
  rw [show (⟨13, 0, 0, false, [], XB.map toId, []⟩ : MsgT).ids = XB.map toId from rfl, HQT.out] at HAN
  have HO9 := Lib.hid ho9
  clear ho9
  clear hq9 HDA
  go_wp2_with fail
  refine HAN.out.mono ?_
  rintro e w10 ⟨va10, rfl, ho10, hr10'⟩
  obtain ⟨P0, hP0, hown0, _⟩ := hr10'.out
  obtain rfl : P0 = [] := List.map_eq_nil_iff.1 hP0
  obtain ⟨a0, c0, rfl, _⟩ := Sl.cells cellsM_length (Sl.of_owns hown0)
  have ho810 := HO9.out.trans ho10
  have ho610 := HO78.out.trans ho810
  have hxC := HXC.out.new ho810 (fun _ _ _ => id)
  have hyC := HYC.out.new ho810 (fun _ _ _ => id)
  have hstA := HSTA6.out.new ho610
  have hslA := HSLA6.out.new ho610
  have hslB := HSLB6.out.new ho610
  have hq1 := ho610.old HQ1.out id
  have hq2 := ho610.old HQ2.out id
  have hoE := HOD.out.trans ho610
  have HXC2 := Lib.hid hxC
  have HYC2 := Lib.hid hyC
  have HSTA7 := Lib.hid hstA
  have HSLA7 := Lib.hid hslA
  have HSLB7 := Lib.hid hslB
  have HQ17 := Lib.hid hq1
  have HQ27 := Lib.hid hq2
  have HOE := Lib.hid hoE
  clear hxC hyC hstA hslA hslB hq1 hq2 hoE
  clear ho10 hr10' hown0 hP0 HAN HO9 HO78 HXC HYC ho810 ho610 HSTA6 HSTB6 HSLA6 HSLB6 HQ1 HQ2 HOD
  go_upto_block 4 with fail
  go_cut [17] (fun _ wx => Only (fun _ => False) w10 wx)
  case first =>
    go_wp2_with fail
    go_loopg [17] XA.length (fun g v17 wr => ∃ i : Nat, v17 = .int .i64 i ∧ i ≤ XA.length ∧ Only (fun _ => False) w10 wr ∧ g = XA.length - i)
    case atStart => exact ⟨0, rfl, Nat.zero_le _, Only.refl _ _, rfl⟩
    case round =>
      obtain ⟨i, rfl, hi, ho, hg⟩ := hrel
      have Hg := Lib.hid hg
      clear hg
      clear HO
      have HO := Lib.hid ho
      clear ho
      by_cases hlt : i < XA.length
      · obtain ⟨hj, e1, e2, e3, e4⟩ := HSAME.out i hlt
        obtain ⟨xb, xoff, rfl, hxc'⟩ := HXC2.out.at i hlt
        obtain ⟨yb, yoff, rfl, hyc'⟩ := HYC2.out.at i hj
        have hcx : ∀ j u, (recC XA[i])[j]? = some u → wr.cell? ⟨xb, xoff + i * 6 + j, none⟩ = some u := fun j u hu => HO.out.cell (hxc' j u hu) id
        have hcy : ∀ j u, (recC XB[i])[j]? = some u → wr.cell? ⟨yb, yoff + i * 6 + j, none⟩ = some u := fun j u hu => HO.out.cell (hyc' j u hu) id
        have hver := HVER.out XA[i] (List.getElem_mem hlt)
        generalize XA[i] = x at *
        generalize XB[i] = y at *
        obtain ⟨k1, v1, o1, a1, g1, d1⟩ := x
        obtain ⟨k2, v2, o2, a2, g2, d2⟩ := y
        simp only at e1 e2 e3 e4 hver
        subst e1 e2 e3 e4
        have x0 := hcx 0 _ rfl
        have x1 := hcx 1 _ rfl
        have x3 := hcx 4 _ rfl
        have x4 := hcx 5 _ rfl
        have x2 := hcx 2 _ rfl
        have y0 := hcy 0 _ rfl
        have y1 := hcy 1 _ rfl
        have y3 := hcy 4 _ rfl
        have y4 := hcy 5 _ rfl
        simp only [Nat.add_zero] at x0 y0
        simp only at x0 x1 x2 x3 x4 y0 y1 y3 y4
        have hlt' : (i : Int) < (XA.length : Int) := by omega
        have hi0 : (0 : Int) ≤ (i : Int) := by omega
        have hne : ∀ w, (binOp BinOp.neq 46 (.agg #[.string k1, .int .u64 v1]) (.agg #[.string k1, .int .u64 v1])).run Tryz.prog w = .ok (.bool false) w := fun w => by
          rw [neI]
          simp
        have HX0 := Lib.hid x0
        have HX1 := Lib.hid x1
        clear x0 x1
        have x0 := HX0.out
        have x1 := HX1.out
        have HVR := Lib.hid hver
        clear hxc' hyc' hcx hcy hver hj
        go_upto_region 26 with (fail)
        go_quiet (fail)
        obtain ⟨wa, hwa⟩ : ∃ wa, wa = wr.drewN nq := ⟨_, rfl⟩
        have hoa : Only (fun _ => False) wr wa := by rw [hwa]; exact (Only.refl _ _).drewN _
        rw [← hwa]
        have hoA := HO.out.trans hoa
        have x1a := hoa.cell HX1.out id
        have HX1A := Lib.hid x1a
        clear x1a
        have q10 := hoA.old HQ17.out id
        have xk := hoa.cell HX0.out id
        have HXK2 := Lib.hid xk
        have HX0w := HX0
        clear HX0w
        have q0 : wa.cell? ⟨Q1, 0, none⟩ = some (.int .i64 48) := cell_at q10 0
        have q1 : wa.cell? ⟨Q1, 1, none⟩ = some (.int .i64 200) := cell_at q10 1
        have q2 : wa.cell? ⟨Q1, 2, none⟩ = some (.slice va A.length vcap) := cell_at q10 2
        have q3 : wa.cell? ⟨Q1, 3, none⟩ = some (.int .i64 q1') := cell_at q10 3
        have HFI := Lib.hid (fun w' (ho : Only (fun _ => False) wa w') => rfind_any w' 48 200 q1' (.slice va A.length vcap) A k1 ((HSLA7.out.new hoA).new ho))
        unfold rstV at HFI
        have HCC : ∀ w', Only (fun _ => False) wa w' → w'.cell? ⟨Q1, 0, none⟩ = some (.int .i64 48) ∧ w'.cell? ⟨Q1, 1, none⟩ = some (.int .i64 200) ∧ w'.cell? ⟨Q1, 2, none⟩ = some (.slice va A.length vcap) ∧ w'.cell? ⟨Q1, 3, none⟩ = some (.int .i64 q1') ∧ w'.cell? ⟨xb, xoff + i * 6, none⟩ = some (.string k1) := fun w' h => ⟨h.cell q0 id, h.cell q1 id, h.cell q2 id, h.cell q3 id, h.cell xk id⟩
        have HC0 := Lib.hid HCC
        have HOA := Lib.hid hoA
        clear HCC hoA
        clear hwa hoa y0 y1 y3 y4 x0 x1 x2 x3 x4 hne
        go_upto_region 29 with (fail)
        go_cut [19] (fun v19 wx => v19 = .int .i64 (findI A k1) ∧ Only (fun _ => False) wa wx)
        case first =>
          go_region_held3 (fun w' => Only (fun _ => False) wa w' ∧ w'.cell? ⟨Q1, 0, none⟩ = some (.int .i64 48) ∧ w'.cell? ⟨Q1, 1, none⟩ = some (.int .i64 200) ∧ w'.cell? ⟨Q1, 2, none⟩ = some (.slice va A.length vcap) ∧ w'.cell? ⟨Q1, 3, none⟩ = some (.int .i64 q1') ∧ w'.cell? ⟨xb, xoff + i * 6, none⟩ = some (.string k1))
            ((go_split_ands; (refine heldO HC0.out ?_); (repeat (first | (with_reducible assumption) | (with_reducible exact Only.refl _ _) | (with_reducible refine Only.drew ?_) | (with_reducible refine Only.alloc ?_ _) | (with_reducible refine onlySet ?_ (by first | (with_reducible assumption) | omega) _) | (with_reducible refine Only.trans ?_ (by with_reducible assumption))))))
            (first
              | (go_at_call 13; (with_reducible refine (HFI.out _ (by (repeat (first | (with_reducible assumption) | (with_reducible exact Only.refl _ _) | (with_reducible refine Only.drew ?_) | (with_reducible refine Only.alloc ?_ _) | (with_reducible refine onlySet ?_ (by first | (with_reducible assumption) | omega) _) | (with_reducible refine Only.trans ?_ (by with_reducible assumption)))))).mono ?_); rintro e w6 ⟨rfl, ho6⟩))
          all_goals
            go_split_ands
            go_wp2_with fail
            go_meet
            exact ⟨rfl, by (repeat (first | (with_reducible assumption) | (with_reducible exact Only.refl _ _) | (with_reducible refine Only.drew ?_) | (with_reducible refine Only.alloc ?_ _) | (with_reducible refine onlySet ?_ (by first | (with_reducible assumption) | omega) _) | (with_reducible refine Only.trans ?_ (by with_reducible assumption))))⟩
        case rest =>
        obtain ⟨rfl, hob⟩ := hcut
        generalize wc = wb at *
        have HOB := Lib.hid hob
        clear hob
        clear q0 q1 q2 q3 xk HFI HC0
        go_upto_if 159 with (fail)
        go_cut [18] (fun v18 wx => v18 = .int .u64 (verOf A k1 : Nat) ∧ Only (fun _ => False) wa wx)
        case first =>
          rcases HFA.out k1 with ⟨hf, hv⟩ | ⟨j, hj, hf, hv⟩
          · have HV := Lib.hid hv
            have hf' : ¬ (0 : Int) ≤ findI A k1 := by omega
            clear hv hf
            go_wp2_with fail
            go_meet
            exact ⟨by rw [HV.out]; rfl, HOB.out⟩
          · have HV := Lib.hid hv
            have q1b := HOB.out.old ((HOA.out).old HQ17.out id) id
            have q2 : wb.cell? ⟨Q1, 2, none⟩ = some (.slice va A.length vcap) := cell_at q1b 2
            obtain ⟨_, _, he, _, _, hsC⟩ := Sl.cells recC_length HSLA7.out
            cases he
            obtain ⟨vb, voff, rfl, hvc⟩ := hsC.at j hj
            have hv1 := HOB.out.cell (HOA.out.cell (hvc 1 _ rfl) id) id
            generalize A[j].ver = vv at *
            have hj0 : (0 : Int) ≤ findI A k1 := by omega
            have hjl : findI A k1 < (A.length : Int) := by omega
            rw [show j = (findI A k1).toNat by omega] at hv1
            clear hv hf hvc hsC q1b
            go_wp2_with fail
            go_meet
            exact ⟨by rw [← HV.out], HOB.out⟩
        case rest =>
        obtain ⟨rfl, hod⟩ := hcut
        generalize wc = wd at *
        have q20 := hod.old (HOA.out.old HQ27.out id) id
        have xk := hod.cell (HXK2.out) id
        have q0 : wd.cell? ⟨Q2, 0, none⟩ = some (.int .i64 48) := cell_at q20 0
        have q1 : wd.cell? ⟨Q2, 1, none⟩ = some (.int .i64 200) := cell_at q20 1
        have q2 : wd.cell? ⟨Q2, 2, none⟩ = some (.slice va2 B.length vcap2) := cell_at q20 2
        have q3 : wd.cell? ⟨Q2, 3, none⟩ = some (.int .i64 q2') := cell_at q20 3
        have HFI := Lib.hid (fun w' (ho : Only (fun _ => False) wd w') => rfind_any w' 48 200 q2' (.slice va2 B.length vcap2) B k1 (((HSLB7.out.new HOA.out).new hod).new ho))
        unfold rstV at HFI
        have HCC : ∀ w', Only (fun _ => False) wd w' → w'.cell? ⟨Q2, 0, none⟩ = some (.int .i64 48) ∧ w'.cell? ⟨Q2, 1, none⟩ = some (.int .i64 200) ∧ w'.cell? ⟨Q2, 2, none⟩ = some (.slice va2 B.length vcap2) ∧ w'.cell? ⟨Q2, 3, none⟩ = some (.int .i64 q2') ∧ w'.cell? ⟨xb, xoff + i * 6, none⟩ = some (.string k1) := fun w' h => ⟨h.cell q0 id, h.cell q1 id, h.cell q2 id, h.cell q3 id, h.cell xk id⟩
        have HC0 := Lib.hid HCC
        have HOD2 := Lib.hid hod
        clear HCC hod
        go_upto_region 32 with (fail)
        go_cut [20] (fun v20 wx => v20 = .int .i64 (findI B k1) ∧ Only (fun _ => False) wd wx)
        case first =>
          go_region_held3 (fun w' => Only (fun _ => False) wd w' ∧ w'.cell? ⟨Q2, 0, none⟩ = some (.int .i64 48) ∧ w'.cell? ⟨Q2, 1, none⟩ = some (.int .i64 200) ∧ w'.cell? ⟨Q2, 2, none⟩ = some (.slice va2 B.length vcap2) ∧ w'.cell? ⟨Q2, 3, none⟩ = some (.int .i64 q2') ∧ w'.cell? ⟨xb, xoff + i * 6, none⟩ = some (.string k1))
            ((go_split_ands; (refine heldO HC0.out ?_); (repeat (first | (with_reducible assumption) | (with_reducible exact Only.refl _ _) | (with_reducible refine Only.drew ?_) | (with_reducible refine Only.alloc ?_ _) | (with_reducible refine onlySet ?_ (by first | (with_reducible assumption) | omega) _) | (with_reducible refine Only.trans ?_ (by with_reducible assumption))))))
            (first
              | (go_at_call 13; (with_reducible refine (HFI.out _ (by (repeat (first | (with_reducible assumption) | (with_reducible exact Only.refl _ _) | (with_reducible refine Only.drew ?_) | (with_reducible refine Only.alloc ?_ _) | (with_reducible refine onlySet ?_ (by first | (with_reducible assumption) | omega) _) | (with_reducible refine Only.trans ?_ (by with_reducible assumption)))))).mono ?_); rintro e w6 ⟨rfl, ho6⟩))
          all_goals
            go_split_ands
            go_wp2_with fail
            go_meet
            exact ⟨rfl, by (repeat (first | (with_reducible assumption) | (with_reducible exact Only.refl _ _) | (with_reducible refine Only.drew ?_) | (with_reducible refine Only.alloc ?_ _) | (with_reducible refine onlySet ?_ (by first | (with_reducible assumption) | omega) _) | (with_reducible refine Only.trans ?_ (by with_reducible assumption))))⟩
        case rest =>
        obtain ⟨rfl, hoe⟩ := hcut
        generalize wc = we at *
        have HOE2 := Lib.hid hoe
        clear hoe
        clear q0 q1 q2 q3 xk HFI HC0
        have hoad := HOA.out.trans (HOD2.out.trans HOE2.out)
        have HOAD := Lib.hid hoad
        clear hoad
        go_upto_if 175 with (fail)
        go_cut [18] (fun v18 wx => v18 = .int .u64 v1 ∧ Only (fun _ => False) we wx)
        case first =>
          rcases HFB.out k1 with ⟨hf, hv⟩ | ⟨j, hj, hf, hv⟩
          · have HV := Lib.hid hv
            have hf' : ¬ (0 : Int) ≤ findI B k1 := by omega
            clear hv hf
            go_wp2_with fail
            go_meet
            exact ⟨by rw [HVR.out, HV.out, Nat.max_zero], Only.refl _ _⟩
          · have HV := Lib.hid hv
            have q2b := HOAD.out.old HQ27.out id
            have q2 : we.cell? ⟨Q2, 2, none⟩ = some (.slice va2 B.length vcap2) := cell_at q2b 2
            obtain ⟨_, _, he, _, _, hsC⟩ := Sl.cells recC_length HSLB7.out
            cases he
            obtain ⟨vb, voff, rfl, hvc⟩ := hsC.at j hj
            have hv1 := HOAD.out.cell (hvc 1 _ rfl) id
            generalize B[j].ver = vv at *
            have hj0 : (0 : Int) ≤ findI B k1 := by omega
            have hjl : findI B k1 < (B.length : Int) := by omega
            rw [show j = (findI B k1).toNat by omega] at hv1
            clear hv hf hvc hsC q2b
            go_wp2_with fail
            all_goals
              go_meet
              refine ⟨?_, Only.refl _ _⟩
              have h1 := HVR.out
              rw [← HV.out] at h1
              first
                | rfl
                | (rw [h1]; exact congrArg _ (max_nat _ _))
                | (congr 1; omega)
        case rest =>
        obtain ⟨rfl, hof⟩ := hcut
        generalize wc = wf at *
        have hoG := HOAD.out.trans hof
        have xv := hof.cell (HOE2.out.cell (HOD2.out.cell HX1A.out id) id) id
        have HOG := Lib.hid hoG
        clear hoG
        clear hof
        go_wp2_with fail
        go_roundg (XA.length - (i + 1))
        case measure => rw [Hg.out]; omega
        case rel => exact ⟨i + 1, by go_num, by omega, HOG.out, rfl⟩
      · have hlt' : ¬ (i : Int) < (XA.length : Int) := by omega
        go_wp2_with fail
        go_meet
        exact HO.out
  case rest =>
  generalize wc = w11 at *
  have hq1 := hcut.old HQ17.out id
  have hq2 := hcut.old HQ27.out id
  have hstA := HSTA7.out.new hcut
  have hslA := HSLA7.out.new hcut
  have hslB := HSLB7.out.new hcut
  have hoF := HOE.out.trans hcut
  have HQ18 := Lib.hid hq1
  have HQ28 := Lib.hid hq2
  have HSTA8 := Lib.hid hstA
  have HSLA8 := Lib.hid hslA
  have HSLB8 := Lib.hid hslB
  have HOF := Lib.hid hoF
  clear hq1 hq2 hstA hslA hslB hoF
  clear hcut HQ17 HQ27 HSTA7 HSLA7 HSLB7 HOE HXC2 HYC2
  have hal := HAL.out
  have hbl := HBL.out
  go_upto_block 6 with fail
  go_cut [21] (fun _ wx => Only (fun _ => False) w11 wx)
  case first =>
    go_wp2_with fail
    go_loopg [21] (A.length + B.length) (fun g v21 wr => ∃ j : Nat, v21 = .int .i64 j ∧ j ≤ A.length + B.length ∧ Only (fun _ => False) w11 wr ∧ g = A.length + B.length - j)
    case atStart => exact ⟨0, rfl, Nat.zero_le _, Only.refl _ _, rfl⟩
    case round =>
      obtain ⟨j, rfl, hj, ho, hg⟩ := hrel
      have Hg := Lib.hid hg
      clear hg
      clear HO
      have HO := Lib.hid ho
      clear ho
      have q1b := HO.out.old HQ18.out id
      have q2b := HO.out.old HQ28.out id
      have q2 : wr.cell? ⟨Q1, 2, none⟩ = some (.slice va A.length vcap) := cell_at q1b 2
      have p2 : wr.cell? ⟨Q2, 2, none⟩ = some (.slice va2 B.length vcap2) := cell_at q2b 2
      have hw : IntKind.i64.wrap ((A.length : Int) + (B.length : Int)) = (A.length : Int) + (B.length : Int) := by rw [IntKind.wrap_i64]; omega
      clear q1b q2b
      by_cases hlt : j < A.length + B.length
      · have hlt' : (j : Int) < (A.length : Int) + (B.length : Int) := by omega
        have hj0 : (0 : Int) ≤ (j : Int) := by omega
        go_upto_if 207 with (fail)
        go_cut [22] (fun v22 wx => ∃ x, (x ∈ A ∨ x ∈ B) ∧ v22 = .string x.key ∧ Only (fun _ => False) wr wx)
        case first =>
          by_cases hjA : j < A.length
          · have hjA' : (j : Int) < (A.length : Int) := by omega
            obtain ⟨_, _, he, _, _, hsC⟩ := Sl.cells recC_length HSLA8.out
            cases he
            obtain ⟨vb, voff, rfl, hvc⟩ := hsC.at j hjA
            have hk := HO.out.cell (hvc 0 _ rfl) id
            have HMEM := Lib.hid (List.getElem_mem hjA)
            simp only [Nat.add_zero] at hk
            generalize A[j] = x at *
            clear hvc hsC
            go_wp2_with fail
            go_meet
            exact ⟨x, .inl HMEM.out, rfl, Only.refl _ _⟩
          · have hjA' : ¬ (j : Int) < (A.length : Int) := by omega
            have hjB : j - A.length < B.length := by omega
            have hwj : IntKind.i64.wrap ((j : Int) - (A.length : Int)) = ((j - A.length : Nat) : Int) := by rw [IntKind.wrap_i64]; omega
            obtain ⟨_, _, he, _, _, hsC⟩ := Sl.cells recC_length HSLB8.out
            cases he
            obtain ⟨vb, voff, rfl, hvc⟩ := hsC.at (j - A.length) hjB
            have hk := HO.out.cell (hvc 0 _ rfl) id
            have HMEM := Lib.hid (List.getElem_mem hjB)
            simp only [Nat.add_zero] at hk
            generalize B[j - A.length] = x at *
            have hq0 : (0 : Int) ≤ ((j - A.length : Nat) : Int) := by omega
            have hq1 : ((j - A.length : Nat) : Int) < (B.length : Int) := by omega
            generalize j - A.length = jb at *
            clear hvc hsC
            go_wp2_with fail
            go_meet
            exact ⟨x, .inr HMEM.out, rfl, Only.refl _ _⟩
        case rest =>
        obtain ⟨x, hx, rfl, hoc⟩ := hcut
        generalize wc = wg at *
        have hoG := HO.out.trans hoc
        have HGT := Lib.hid (sget_any wg s b 48 200 z1 XA (HSTA8.out.new hoG) x.key (HKS.out x hx))
        rw [HEVERY.out x hx] at HGT
        generalize findV XA x.key = fv at *
        obtain ⟨fk, fver, fo, fa, fg, fd⟩ := fv
        unfold recT at HGT
        simp only at HGT
        generalize x.key = xkey at *
        have HOG := Lib.hid hoG
        clear hoG
        clear hoc hx q2 p2
        go_wp2_with fail
        refine HGT.out.mono ?_
        rintro e wh ⟨rfl, hoh⟩
        have hoH := HOG.out.trans hoh
        have HOH := Lib.hid hoH
        clear hoH
        clear hoh HGT
        go_wp2_with fail
        go_roundg (A.length + B.length - (j + 1))
        case measure => rw [Hg.out]; omega
        case rel => exact ⟨j + 1, by go_num, by omega, by (refine Only.trans HOH.out ?_; (repeat (first | (with_reducible assumption) | (with_reducible exact Only.refl _ _) | (with_reducible refine Only.drew ?_) | (with_reducible refine Only.alloc ?_ _) | (with_reducible refine onlySet ?_ (by first | (with_reducible assumption) | omega) _) | (with_reducible refine Only.trans ?_ (by with_reducible assumption))))), rfl⟩
      · have hlt' : ¬ (j : Int) < (A.length : Int) + (B.length : Int) := by omega
        go_wp2_with fail
        go_meet
        exact HO.out
  case rest =>
  have hoZ := HOF.out.trans hcut
  have HOZ := Lib.hid hoZ
  clear hoZ
  clear hcut
  go_wp2_with fail
  go_ret
  exact ⟨rfl, HOZ.out⟩
end Go.Proofs.YtjdlcfllmpdffaaGreatDoor
/-! DigestMerges is true of every input: two stores of which one answers the other's Digest hold the same ids behind that, of each key the greater version, and then there is nothing more to be told. No condition; the package variables that it names are tied to the text. -/
namespace Go.Proofs.YtjdlcfllmpdffaaGreatDoor.mergesLaw16
open Go.Conc Go.RowKit Go.ChangeShapes Go.WideShapes Go.ChangeAt Go.ChangeMaps

theorem reads : ∀ t ∈ Tryz.f3.params.toList, Tryz.prog.readableRec t = true ∧ t < Tryz.prog.types.size := by
  intro t ht
  have h1 : ([22, 22].all fun u => Tryz.prog.readableRec u && decide (u < Tryz.prog.types.size)) = true := by kernel_rfl
  rw [Tryz.params3] at ht
  have := List.all_eq_true.1 h1 t ht
  simpa using this
set_option maxRecDepth 100000 in
theorem lifted (os : Os) (started : os.Started) (H : Type) (enc : TypeId × Value → H) :
    ReturnsInHanded {} Tryz.checked os 3 .any (fun w args => (Rows.digestMergesSpec.pre enc Tryz.prog Tryz.f3 Rows.digestMergesRow.domain false w args ∧ laidMetH Tryz.prog Rows.digestMergesRow.laid w) ∧ sizedMet enc Tryz.prog Tryz.f3 (OpenSpec.ofChange Rows.digestMergesSpec) false w args)
      (Rows.digestMergesSpec.post enc Tryz.prog Tryz.f3 false true false false) := by
  refine returns_laid (C := Tryz.checked) (X := fun w _ => laidMetH Tryz.prog Rows.digestMergesRow.laid w) (fun _ _ _ hh h => h.of_heap hh) ownD started (by kernel_rfl) Tryz.func3
    (ChangeSpec.witness_shaped (enc := enc) (C := Tryz.checked) (os := os) (X := fun w _ => laidMetH Tryz.prog Rows.digestMergesRow.laid w) false (World.laidAll Tryz.prog os Rows.digestMergesRow.laid) #[.slice none 0 0, .slice none 0 0] 8 (World.laidAll_os _ _ _)
      (World.shaped_of_ZipB (by kernel_rfl) (by kernel_rfl)) (by kernel_rfl) (by kernel_rfl) (by kernel_rfl)
      (by rw [MakeChecks.laidMetH_plain _ _ _ (by kernel_rfl)]; exact laidMet_laidAll _ (by kernel_rfl) (by kernel_rfl))) ?_
  intro W base args ds gs before hval0 hW _ hsh
  have hval : ∀ (j : Nat) t v, Tryz.f3.params[j]? = some t → args[j]? = some v → Value.okWide Tryz.prog W .any base t v := hval0
  have hW' := hW
  obtain ⟨m0, hm0⟩ := maxLen_cell W hsh
  obtain ⟨p, q, hA0, hV, rfl, _, _⟩ := hW
  have hA : DataW.TrodAll enc Tryz.prog W 0 (fun _ => true) true Tryz.f3.params.toList args.toList ds p := hA0
  rw [Tryz.params3] at hA hval
  obtain ⟨v0, vs0, d0, ds0, p0, q0, hargs, rfl, rfl, h0, r0⟩ := trodAll_cons hA
  obtain ⟨v1, vs1, d1, ds1, p1, q1, rfl, rfl, rfl, h1, r1⟩ := trodAll_cons r0
  obtain ⟨rfl, rfl, rfl⟩ := trodAll_nil r1
  obtain rfl : args = #[v0, v1] := by cases args; simp_all
  obtain ⟨x0, s0, b0⟩ := sl_recs16 (hval 0 22 v0 rfl rfl) h0
  obtain ⟨x1, s1, b1⟩ := sl_recs16 (hval 1 22 v1 rfl rfl) h1
  obtain ⟨rfl, rfl⟩ := trodVars_none hV
  refine (merges16_any W m0 hm0 v0 x0 v1 x1 s0 b0 s1 b1).mono fun e W' ⟨he, ho⟩ => ?_
  subst he
  exact ⟨_, rfl, law_post hW' (ho.below (Nat.le_refl _) (fun _ _ => id)) laidOutD reads rfl Tryz.underlying4 rfl rfl rfl rfl⟩

theorem said : Rows.DigestMergesSaid :=
  OpenClaim.holds_of_wide 3 Tryz.f3 rfl rfl rfl rfl rfl rfl rfl ⟨rfl, rfl, rfl, rfl, rfl⟩ rfl rfl rfl rfl rfl (by kernel_rfl) Tryz.func3 (by kernel_rfl)
    (of_decide_eq_true (by kernel_rfl)) (by unfold Func.isWrapper; first | (rw [if_pos (by decide +kernel)]; kernel_rfl) | (rw [if_neg (by decide +kernel)]; exact ⟨rfl, rfl⟩))
    (fun os started H enc _ => lifted os started H enc)
theorem looks (f : FuncId) (fn : Func) (hf : Tryz.pinned.checked.prog.funcNamed "bellhop/bellhoplaw16.DigestMerges" = some f) (hfn : Tryz.pinned.checked.prog.funcs[f]? = some fn) :
    true = Tryz.pinned.checked.prog.looks [] ∧ ∀ (j : Nat) t, fn.params[j]? = some t → Tryz.pinned.checked.prog.wantsStandIn t = false := by
  obtain rfl : f = 3 := Option.some.inj ((show Tryz.prog.funcNamed "bellhop/bellhoplaw16.DigestMerges" = some 3 by kernel_rfl).symm.trans hf) |>.symm
  obtain rfl : fn = Tryz.f3 := (Option.some.inj (Tryz.func3.symm.trans hfn)).symm
  refine ⟨by kernel_rfl, fun j t ht => ?_⟩
  rw [Tryz.params3] at ht
  have hm : t ∈ [22, 22] := by simpa using Array.mem_of_getElem? ht
  have hall : ([22, 22].all fun u => !Tryz.prog.wantsStandIn u) = true := by kernel_rfl
  exact (show Tryz.prog.wantsStandIn t = false by simpa using List.all_eq_true.1 hall t hm)
theorem card : Rows.DigestMergesCardSaid :=
  Claim7.holds_tied_plain_at .later [] _ _ _ _ said (fun _ h => by cases h) (by kernel_rfl) (fun _ h => by cases h) digestMerges_row_tie rfl ⟨rfl, rfl⟩ (by kernel_rfl) rfl looks (by kernel_rfl)
#print axioms card
end Go.Proofs.YtjdlcfllmpdffaaGreatDoor.mergesLaw16
