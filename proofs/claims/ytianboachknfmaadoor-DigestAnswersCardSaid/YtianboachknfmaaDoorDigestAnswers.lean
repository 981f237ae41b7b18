/- DigestAnswers is true of every input: the answer of a store of any records to any Digest is what is wanted of it and what the Digest lacks, packed; its own Digest holds its ids; what is given for ids is their records, each once. No condition; the package variables that it names are tied to the text. -/
import Derived.Test.YtianboachknfmaaDoorMJ
import Derived.Test.YtianboachknfmaaDoorMA
import Derived.ChangeMaps5
import Derived.Test.YtianboachknfmaaDoorCards
import Derived.Test.YtianboachknfmaaDoorTie
/-! The walk of bellhoplaw16.DigestAnswers. -/
namespace Go.Proofs.YtianboachknfmaaDoor
open Go.Conc Go.RowKit Go.Maps

theorem StoreOk.age2 {most ttl : Int} {L : List RecT} (h : StoreOk most ttl L) : ∀ x ∈ L, 0 ≤ x.age ∧ x.age < ttl := fun x hx => by
  obtain ⟨h1, h2⟩ := h.goods x hx
  unfold goodR goodP at h1
  simp only [Bool.and_eq_true, decide_eq_true_eq] at h1
  have h4 := h1.1.1.2
  omega
theorem idsL_key (l : List RecA) (hl : ∀ a ∈ l, rowA a) (k : Nat) : ∀ p ∈ idsL l k, p.1.size ≤ maxLen := fun p hp => by
  unfold idsL at hp
  obtain ⟨a, ha, rfl⟩ := List.mem_map.1 hp
  have := (rec16_bd a (hl a (List.mem_of_mem_take ha))).2
  unfold maxLen
  show (rec16 a).key.size ≤ _
  omega
theorem idsL_len (l : List RecA) (k : Nat) : (idsL l k).length ≤ k := by unfold idsL; simp; omega
theorem msgRow_head {w : World} {base : Nat} {v : Value} {M : MsgT} {ms : List MsgT} (h : MsgRow w base v (M :: ms)) :
    ∃ (p : MsgP) (Q : List MsgP), p.1 = M ∧ Q.map (·.1) = ms ∧ w.ownsRow base 59 7 v (p :: Q).length ((p :: Q).flatMap cellsM) ∧ MsgOwn w base p ∧ ∀ q ∈ Q, MsgOwn w base q := by
  obtain ⟨P, hP, hown, heach⟩ := h.out
  cases P with
  | nil => cases hP
  | cons p Q =>
    obtain ⟨h1, h2⟩ := List.cons.inj hP
    exact ⟨p, Q, h1, h2, hown, heach p List.mem_cons_self, fun q hq => heach q (List.mem_cons_of_mem _ hq)⟩
set_option maxRecDepth 100000 in
set_option maxHeartbeats 8000000 in
theorem answers16_any (w : World) (m : Int) (hm : w.cell? ⟨0, 0, none⟩ = some (.int .i64 m)) (v : Value) (l : List RecA) (u : Value) (o : List RecA) (n : Nat) (h : Sl w 5 v l.length (l.flatMap recAC)) (hl : ∀ a ∈ l, rowP_sl_recs16 a) (hu : Sl w 5 u o.length (o.flatMap recAC)) (ho : ∀ a ∈ o, rowP_sl_recs16 a) (hn : n < 256) :
    Calls Tryd.prog 9 #[v, u, .int .u8 n] w fun e w' => e = .returned (.bool true) ∧ Only (fun _ => False) w w' := by
  obtain ⟨j0, hj0, jz0, jz1, jz2⟩ := info_parts infoMsg
  have hT0 : 1 ≤ 1 + (n : Int) % 110 ∧ 1 + (n : Int) % 110 ≤ 110 := by omega
  have hIl := idsL_len o 40
  have hIk := idsL_key o ho 40
  have HV := Lib.hid h
  have HL := Lib.hid hl
  have HU := Lib.hid hu
  have HO := Lib.hid ho
  have HIK := Lib.hid hIk
  clear h hl hu ho hIk
  go_enter Tryd.func9, Tryd.ntmps9
  go_wp2_with fail
  refine (speaks16_any w m hm).mono ?_
  rintro e w1 ⟨rfl, ho1⟩
  have hm1 := ho1.cell hm id
  have hv1 := HV.out.new ho1
  have hu1 := HU.out.new ho1
  have HO1 := Lib.hid ho1
  have HM1 := Lib.hid hm1
  have HV1 := Lib.hid hv1
  have HU1 := Lib.hid hu1
  clear ho1 hm1 hv1 hu1
  clear hm HV HU
  go_upto_region 4 with (fail)
  generalize 1 + (n : Int) % 110 = T at *
  clear hn
  obtain ⟨hT1, hT2⟩ := hT0
  have hmade := made16_any w1 m HM1.out v l HV1.out HL.out T hT1 (by omega)
  unfold MadeP rstV at hmade
  have HMADE := Lib.hid hmade
  clear hmade
  go_wp2_with fail
  refine HMADE.out.mono ?_
  rintro e w2 ⟨s, b, r, r', vm, rfl, ho2, hs2, hb2, hst2, _, _, _, _, hsl2⟩
  have hok := hst2.ok
  generalize madeL T l 30 = L at *
  have hLl := hok.len
  have hag := hok.age2
  have hkey := hok.keys
  have hris := hok.rises
  obtain ⟨va, vcap, rfl, _⟩ := Sl.cells recC_length hsl2
  obtain ⟨V, hV⟩ : ∃ V, V = w2.alloc (.cells #[.int .i64 48, .int .i64 T, .slice va L.length vcap, .int .i64 r'] 95) := ⟨_, rfl⟩
  have hbV : V.heap[w2.heap.size]? = some (.cells #[.int .i64 48, .int .i64 T, .slice va L.length vcap, .int .i64 r'] 95 (0, 0)) := by rw [hV]; exact heap_alloc_new w2 _
  have hoV : Only (fun _ => False) w2 V := by rw [hV]; exact (Only.refl _ _).alloc _
  have hsV : V.heap.size = w2.heap.size + 1 := by rw [hV]; simp
  have hst3 := hst2.new hoV
  have hsl3 := hsl2.new hoV
  have hoA := (HO1.out.trans ho2).trans hoV
  have hu3 := (HU1.out.new ho2).new hoV
  have hids := ids16_any V u o hu3 HO.out
  have HST := Lib.hid hst3
  have HSL := Lib.hid hsl3
  have HOA := Lib.hid hoA
  have HBV := Lib.hid hbV
  have HIDS := Lib.hid hids
  have HAG := Lib.hid hag
  have HKEY := Lib.hid hkey
  have HRIS := Lib.hid hris
  clear hst3 hsl3 hoA hbV hids hag hkey hris
  clear HMADE hst2 hsl2 ho2 hoV hsV hs2 hb2 hok HU1 HM1 HV1 HL HO1
  go_upto_region 5 with (fail)
  rw [← hV]
  clear hV
  go_wp2_with fail
  refine HIDS.out.mono ?_
  rintro e w4 ⟨ia, ib, rfl, ho4, hia, hib⟩
  generalize hII : idsL o 40 = I at *
  have hst4 := HST.out.new ho4
  have hsl4 := HSL.out.new ho4
  have hb4 := ho4.old HBV.out id
  have hoB := HOA.out.trans ho4
  have hask := dask_any w4 s b 48 T r L hst4
  have HST4 := Lib.hid hst4
  have HSL4 := Lib.hid hsl4
  have HB4 := Lib.hid hb4
  have HOB := Lib.hid hoB
  have HIA := Lib.hid hia
  have HIB := Lib.hid hib
  have HASK := Lib.hid hask
  clear hst4 hsl4 hb4 hoB hia hib hask
  clear ho4 HST HSL HOA HIDS hII
  generalize w2.heap.size = B at *
  go_wp2_with fail
  refine HASK.out.mono ?_
  rintro e w5 ⟨vq, rfl, ho5, hq⟩
  obtain ⟨vn, vi, vr, rfl, m1, m2, m3⟩ := hq.out
  obtain ⟨n1, n2, rfl, _⟩ := Sl.cells intC_length m1
  obtain ⟨i1, i2, rfl, _, ic, hq3⟩ := Sl.cells idT_length m2
  obtain ⟨c1, c2, rfl, _⟩ := Sl.cells recC_length m3
  simp only [askMsg, List.length_nil, List.length_map] at hq3 ic ⊢
  clear hq m1 m2 m3
  obtain ⟨W, hW⟩ : ∃ W, W = w5.alloc (.cells #[.int .i64 13, .int .i64 0, .int .i64 0, .bool false, .slice n1 0 n2, .slice i1 L.length i2, .slice c1 0 c2] 59) := ⟨_, rfl⟩
  have hbW : W.heap[w5.heap.size]? = some (.cells #[.int .i64 13, .int .i64 0, .int .i64 0, .bool false, .slice n1 0 n2, .slice i1 L.length i2, .slice c1 0 c2] 59 (0, 0)) := by rw [hW]; exact heap_alloc_new w5 _
  have hoW : Only (fun _ => False) w5 W := by rw [hW]; exact (Only.refl _ _).alloc _
  have hsW : W.heap.size = w5.heap.size + 1 := by rw [hW]; simp
  have hoC := ho5.trans hoW
  have hst5 := HST4.out.new hoC
  have hsl5 := HSL4.out.new hoC
  have hb5 := hoC.old HB4.out id
  have hq5 := hq3.new hoW (fun _ _ _ => id)
  have hia5 := owns_only HIA.out hoC (fun _ _ => id)
  have hib5 := owns_only HIB.out hoC (fun _ _ => id)
  have hoD := HOB.out.trans hoC
  have hri := rids_any W _ L hsl5 (by omega)
  have HST5 := Lib.hid hst5
  have HSL5 := Lib.hid hsl5
  have HB5 := Lib.hid hb5
  have HQ5 := Lib.hid hq5
  have HIA5 := Lib.hid hia5
  have HIB5 := Lib.hid hib5
  have HOD := Lib.hid hoD
  have HRI := Lib.hid hri
  have HBW := Lib.hid hbW
  clear hst5 hsl5 hb5 hq5 hia5 hib5 hoD hri hbW
  clear ho5 hoW hoC hsW HST4 HSL4 HB4 HIA HIB HOB HASK hq3
  have x2 : W.cell? ⟨B, 2, none⟩ = some (.slice va L.length vcap) := cell_at HB5.out 2
  go_upto_region 7 with (fail)
  rw [← hW]
  clear hW
  generalize w5.heap.size = C at *
  go_wp2_with fail
  refine HRI.out.mono ?_
  rintro e w6 ⟨v13, rfl, ho6, hrow6⟩
  obtain ⟨ra, rcap, rfl, _, rc, hr6⟩ := Sl.cells idT_length (Sl.of_owns hrow6)
  simp only [List.length_map] at rc ⊢
  have hst6 := HST5.out.new ho6
  have hsl6 := HSL5.out.new ho6
  have hb6 := ho6.old HB5.out id
  have hbw6 := ho6.old HBW.out id
  have hq6 := HQ5.out.new ho6 (fun _ _ _ => id)
  have hia6 := owns_only HIA5.out ho6 (fun _ _ => id)
  have hib6 := owns_only HIB5.out ho6 (fun _ _ => id)
  have hoE := HOD.out.trans ho6
  unfold maxLen at ic rc
  have HST6 := Lib.hid hst6
  have HSL6 := Lib.hid hsl6
  have HB6 := Lib.hid hb6
  have HBW6 := Lib.hid hbw6
  have HQ6 := Lib.hid hq6
  have HR6 := Lib.hid hr6
  have HIA6 := Lib.hid hia6
  have HIB6 := Lib.hid hib6
  have HOE := Lib.hid hoE
  clear hst6 hsl6 hb6 hbw6 hq6 hr6 hia6 hib6 hoE
  clear ho6 x2 HST5 HSL5 HB5 HQ5 HIA5 HIB5 HOD HRI HBW hrow6
  have y0 : w6.cell? ⟨C, 0, none⟩ = some (.int .i64 13) := cell_at HBW6.out 0
  have y5 : w6.cell? ⟨C, 5, none⟩ = some (.slice i1 L.length i2) := cell_at HBW6.out 5
  have y6 : w6.cell? ⟨C, 6, none⟩ = some (.slice c1 0 c2) := cell_at HBW6.out 6
  go_upto_block 0 with fail
  go_cut [14] (fun _ wx => Only (fun _ => False) w6 wx)
  case first =>
    clear y0 y6 HST6 HSL6 HIA6 HIB6
    go_wp2_with fail
    go_loopg [14] L.length (fun g v14 wr => ∃ k : Nat, v14 = .int .i64 k ∧ k ≤ L.length ∧ Only (fun _ => False) w6 wr ∧ g = L.length - k)
    case atStart => exact ⟨0, rfl, Nat.zero_le _, Only.refl _ _, rfl⟩
    case round =>
      obtain ⟨k, rfl, hk, ho, hg⟩ := hrel
      have z5 : wr.cell? ⟨C, 5, none⟩ = some (.slice i1 L.length i2) := ho.cell y5 id
      have Hg := Lib.hid hg
      have HO := Lib.hid ho
      clear hg ho
      by_cases hlt : k < L.length
      · obtain ⟨qb, qoff, he, hqc⟩ := HQ6.out.at k (by simpa using hlt)
        subst he
        obtain ⟨rb, roff, he, hrc⟩ := HR6.out.at k (by simpa using hlt)
        subst he
        have p0 := HO.out.cell (hqc 0 _ rfl) id
        have p1 := HO.out.cell (hqc 1 _ rfl) id
        have q0 := HO.out.cell (hrc 0 _ rfl) id
        have q1 := HO.out.cell (hrc 1 _ rfl) id
        simp only [Nat.add_zero] at p0 q0
        clear hqc hrc
        generalize (L.map toId)[k]'(by simpa using hlt) = pp at *
        obtain ⟨kx, vx⟩ := pp
        simp only at p0 p1 q0 q1
        have hlt' : (k : Int) < (L.length : Int) := by omega
        have hk0 : (0 : Int) ≤ (k : Int) := by omega
        clear y5
        go_upto_region 13 with (fail)
        go_quiet (fail)
        obtain ⟨w7, hw7⟩ : ∃ w7, w7 = wr.drewN nq := ⟨_, rfl⟩
        have ho7 : Only (fun _ => False) wr w7 := by rw [hw7]; exact (Only.refl _ _).drewN _
        rw [← hw7]
        have hoX := HO.out.trans ho7
        have HOX := Lib.hid hoX
        clear hoX
        clear ho7 hw7 p0 p1 q0 q1 z5
        go_wp2_with fail
        go_roundg (L.length - (k + 1))
        case measure => rw [Hg.out]; omega
        case rel => exact ⟨k + 1, by go_num, by omega, HOX.out, rfl⟩
      · have hlt' : ¬ (k : Int) < (L.length : Int) := by omega
        go_wp2_with fail
        go_meet
        exact HO.out
  case rest =>
  generalize wc = w7 at *
  have hst7 := HST6.out.new hcut
  have hsl7 := HSL6.out.new hcut
  have hb7 := hcut.old HB6.out id
  have hia7 := owns_only HIA6.out hcut (fun _ _ => id)
  have hib7 := owns_only HIB6.out hcut (fun _ _ => id)
  have hoF := HOE.out.trans hcut
  obtain ⟨aa, acap, rfl, _, ac, _⟩ := Sl.cells idT_length (Sl.of_owns hia7)
  obtain ⟨ba, bcap, rfl, _, bc, _⟩ := Sl.cells idT_length (Sl.of_owns hib7)
  unfold maxLen at ac bc
  have hmsg : MsgIs w7 (.agg #[.int .i64 13, .int .i64 0, .int .i64 0, .bool false, .slice none 0 0, .slice aa I.length acap, .slice none 0 0]) ⟨13, 0, 0, false, [], I, []⟩ := ⟨⟨_, _, _, rfl, Sl.nil _ _, Sl.of_owns hia7, Sl.nil _ _⟩⟩
  have hans := answer_any w7 s b 48 T r L hst7 _ _ hmsg (by show I.length ≤ _; omega) HIK.out
  simp only at hans
  have HST7 := Lib.hid hst7
  have HSL7 := Lib.hid hsl7
  have HB7 := Lib.hid hb7
  have HIA7 := Lib.hid hia7
  have HIB7 := Lib.hid hib7
  have HOF := Lib.hid hoF
  have HANS := Lib.hid hans
  clear hst7 hsl7 hb7 hia7 hib7 hoF hans
  clear hmsg hcut y0 y5 y6 HST6 HSL6 HB6 HBW6 HQ6 HR6 HIA6 HIB6 HOE
  go_wp2_with fail
  refine HANS.out.mono ?_
  rintro e w8 ⟨v15, rfl, ho8, hrow8⟩
  have hst8 := HST7.out.new ho8
  have hsl8 := HSL7.out.new ho8
  have hb8 := ho8.old HB7.out id
  have hia8 := owns_only HIA7.out ho8 (fun _ _ => id)
  have hib8 := owns_only HIB7.out ho8 (fun _ _ => id)
  have hoG := HOF.out.trans ho8
  have hwn := rwanted_any w8 48 T r' _ L hsl8 (by omega) _ I (Sl.of_owns hib8) (by omega)
  rw [← wantedT HRIS.out I] at hwn
  unfold rstV at hwn
  have hrow8 := hrow8.base HOF.out.size
  have x0 : w8.cell? ⟨B, 0, none⟩ = some (.int .i64 48) := cell_at hb8 0
  have x1 : w8.cell? ⟨B, 1, none⟩ = some (.int .i64 T) := cell_at hb8 1
  have x2 : w8.cell? ⟨B, 2, none⟩ = some (.slice va L.length vcap) := cell_at hb8 2
  have x3 : w8.cell? ⟨B, 3, none⟩ = some (.int .i64 r') := cell_at hb8 3
  have HST8 := Lib.hid hst8
  have HSL8 := Lib.hid hsl8
  have HB8 := Lib.hid hb8
  have HIA8 := Lib.hid hia8
  have HIB8 := Lib.hid hib8
  have HOG := Lib.hid hoG
  have HROW8 := Lib.hid hrow8
  have HWN := Lib.hid hwn
  clear hst8 hsl8 hb8 hia8 hib8 hoG hrow8 hwn
  clear ho8 HST7 HSL7 HB7 HIA7 HIB7 HOF HANS
  go_wp2_with fail
  refine HWN.out.mono ?_
  rintro e w9 ⟨v16, rfl, ho9, hrow9⟩
  have hwl : (wantedL L I).length ≤ 40 := Nat.le_trans (List.length_filter_le _ _) hIl
  have hst9 := HST8.out.new ho9
  have hsl9 := HSL8.out.new ho9
  have hb9 := ho9.old HB8.out id
  have hia9 := owns_only HIA8.out ho9 (fun _ _ => id)
  have hib9 := owns_only HIB8.out ho9 (fun _ _ => id)
  have hrowA := HROW8.out.new ho9
  have hoH := HOG.out.trans ho9
  have hAN : answerM T L I = wantM (wantedL L I) ++ packM 14 (sentL T (newerL L I)) := rfl
  rw [hAN] at hrowA
  have hnl : (newerL L I).length ≤ 48 := Nat.le_trans (List.length_filter_le _ _) hLl
  have hpl : (packM 14 (sentL T (newerL L I))).length ≤ 48 := by
    have h1 := sentL_length T (newerL L I)
    unfold packM
    rw [List.length_map, List.length_range]
    omega
  obtain ⟨qa, qcap, rfl, _, qc, hq9⟩ := Sl.cells idT_length (Sl.of_owns hrow9)
  unfold maxLen at qc
  generalize hPK : packM 14 (sentL T (newerL L I)) = PK at *
  generalize wantedL L I = WL at *
  have HST9 := Lib.hid hst9
  have HSL9 := Lib.hid hsl9
  have HB9 := Lib.hid hb9
  have HIA9 := Lib.hid hia9
  have HIB9 := Lib.hid hib9
  have HROW9 := Lib.hid hrowA
  have HOH := Lib.hid hoH
  have HPK := Lib.hid hPK
  have HQ9 := Lib.hid hq9
  have HNL := Lib.hid hnl
  clear hst9 hsl9 hb9 hia9 hib9 hrowA hoH hPK hq9 hnl
  clear ho9 hrow9 x0 x1 x2 x3 HST8 HSL8 HB8 HIA8 HIB8 HROW8 HOG HWN hAN
  go_upto_if 98 with (fail)
  go_cut [15] (fun v15 wx => Only (fun _ => False) w9 wx ∧ MsgRow wx w.heap.size v15 PK)
  case first =>
    clear HST9 HSL9 HB9 HIA9 HIB9
    by_cases hw0 : WL.length = 0
    · have hwm : wantM WL = [] := if_pos hw0
      have hrow := HROW9.out
      rw [hwm, List.nil_append] at hrow
      have hw1 : (WL.length : Int) = 0 := by omega
      have HROWZ := Lib.hid hrow
      clear hrow
      clear hwm hw0
      go_wp2_with fail
      go_meet
      exact ⟨Only.refl _ _, HROWZ.out⟩
    · have hwm : wantM WL = [⟨14, 0, 0, false, [], WL, []⟩] := if_neg hw0
      have hrow := HROW9.out
      rw [hwm] at hrow
      obtain ⟨p, Q, hp, hQ, hown, hpo, hqo⟩ := msgRow_head (M := ⟨14, 0, 0, false, [], WL, []⟩) (ms := PK) hrow
      have hQl : Q.length ≤ 48 := by have := congrArg List.length hQ; rw [List.length_map] at this; omega
      have hsq := Sl.of_owns hown
      obtain ⟨pa, pcap, rfl, p1, p2, p3⟩ := Sl.cells cellsM_length hsq
      obtain ⟨mb, moff, rfl, hc⟩ := p3.at 0 (by simp)
      obtain ⟨mm, un, ui, ur⟩ := p
      simp only at hp
      subst hp
      have hii : ISl w9 ui WL := Sl.of_owns hpo.i
      have hrr : RSl w9 ur [] := Sl.of_owns hpo.r
      obtain ⟨wa, wcap, rfl, _, wc1, wc2⟩ := Sl.cells idT_length hii
      obtain ⟨ra', rcap', rfl, _⟩ := Sl.cells recC_length hrr
      have y0 := hc 0 _ rfl
      have y5 := hc 5 _ rfl
      have y6 := hc 6 _ rfl
      simp only [Nat.zero_mul, Nat.add_zero, List.getElem_cons_zero, List.length_nil] at y0 y5 y6
      have hw1 : (WL.length : Int) > 0 := by omega
      have hq0 : (0 : Int) ≤ (Q.length : Int) := by omega
      unfold maxLen at wc1 p2
      simp only [List.length_cons] at p1
      have HQ := Lib.hid hQ
      have HOWN := Lib.hid hown
      have HQO := Lib.hid hqo
      have HWC := Lib.hid wc2
      have HY5 := Lib.hid y5
      have HSQ := Lib.hid hsq
      clear hQ hown hqo wc2 y5 hsq
      clear hwm hw0 hrow hc hpo hii hrr p3
      have y5 := HY5.out
      go_upto_block 2 with fail
      go_cut [17] (fun _ wx => Only (fun _ => False) w9 wx)
      case first =>
        clear y0 y6
        go_wp2_with fail
        go_loopg [17] WL.length (fun g v17 wr => ∃ k : Nat, v17 = .int .i64 k ∧ k ≤ WL.length ∧ Only (fun _ => False) w9 wr ∧ g = WL.length - k)
        case atStart => exact ⟨0, rfl, Nat.zero_le _, Only.refl _ _, rfl⟩
        case round =>
          obtain ⟨k, rfl, hk, ho, hg⟩ := hrel
          have z5 := ho.cell HY5.out id
          have Hg := Lib.hid hg
          have HO := Lib.hid ho
          clear hg ho
          by_cases hlt : k < WL.length
          · obtain ⟨wb, woff, he, hwc⟩ := HWC.out.at k hlt
            subst he
            obtain ⟨qb, qoff, he, hqc⟩ := HQ9.out.at k hlt
            subst he
            have p0 := HO.out.cell (hwc 0 _ rfl) id
            have p1' := HO.out.cell (hwc 1 _ rfl) id
            have q0 := HO.out.cell (hqc 0 _ rfl) id
            have q1 := HO.out.cell (hqc 1 _ rfl) id
            simp only [Nat.add_zero] at p0 q0
            clear hwc hqc
            generalize WL[k] = pp at *
            obtain ⟨kx, vx⟩ := pp
            simp only at p0 p1' q0 q1
            have hlt' : (k : Int) < (WL.length : Int) := by omega
            have hk0 : (0 : Int) ≤ (k : Int) := by omega
            clear y5
            go_upto_region 23 with (fail)
            go_quiet (fail)
            obtain ⟨wn, hwn⟩ : ∃ wn, wn = wr.drewN nq := ⟨_, rfl⟩
            have hon : Only (fun _ => False) wr wn := by rw [hwn]; exact (Only.refl _ _).drewN _
            rw [← hwn]
            have hoX := HO.out.trans hon
            have HOX := Lib.hid hoX
            clear hoX
            clear hon hwn p0 p1' q0 q1 z5
            go_wp2_with fail
            go_roundg (WL.length - (k + 1))
            case measure => rw [Hg.out]; omega
            case rel => exact ⟨k + 1, by go_num, by omega, HOX.out, rfl⟩
          · have hlt' : ¬ (k : Int) < (WL.length : Int) := by omega
            go_wp2_with fail
            go_meet
            exact HO.out
      case rest =>
      generalize wc = wt at *
      have hsqt := HSQ.out.new hcut
      have hszt : w.heap.size ≤ wt.heap.size := Nat.le_trans HOH.out.size hcut.size
      have HSQT := Lib.hid hsqt
      have HCUT := Lib.hid hcut
      clear hsqt hcut
      clear y0 y5 y6
      have p1i : (Q.length : Int) + 1 ≤ (pcap : Int) := by omega
      have hq1 : (1 : Int) ≤ (Q.length : Int) + 1 := by omega
      by_cases hcap : pcap = 1
      · have hQn : Q = [] := List.eq_nil_of_length_eq_zero (by omega)
        subst hQn
        subst hcap
        have HPKN := Lib.hid (show PK = [] from HQ.out.symm)
        go_wp2_with (at_builtin; refine Wait.mk ?_)
        refine Wait.go (wpList_append_src _ rfl (.tmp 163) (.tmp 165) 117 117 rfl w.heap.size 59 j0 _ 7 104 Tryd.underlying117 hj0 jz0 jz1 jz2 rfl _ 0 [] rfl ?own4 _ 0 [] rfl ?src4 ?m4 ?b4 ?base4 ?_)
        case own4 => exact ownsRow_base_a (owns_empty _ _ _) hszt
        case src4 => exact Sl.src Tryd.underlying117 (Sl.zero _ 7 _ _ (by unfold maxLen; omega)) (fun u hu => by cases hu)
        case m4 => unfold maxLen; omega
        case b4 => omega
        case base4 => simp; omega
        intro v7 w7' own7 gr7 _
        have ho7 : Only (fun _ => False) w9 w7' := HCUT.out.trans (((Only.refl _ wt).alloc _).own (owns_empty wt 59 7) (Nat.le_refl _) gr7)
        have HO7 := Lib.hid ho7
        have HW7 := Lib.hid own7
        clear ho7 own7
        clear gr7
        go_wp2_with fail
        go_meet
        refine ⟨HO7.out, ?_⟩
        rw [HPKN.out]
        exact ⟨[], rfl, HW7.out, fun p hp => by cases hp⟩
      · have hdr := Sl.drop HSQT.out (show 1 ≤ (Q.length + 1) by omega)
        have HSRC := Lib.hid hdr
        clear hdr
        have hcap1 : (1 : Int) < (pcap : Int) := by omega
        go_wp2_with (at_builtin; refine Wait.mk ?_)
        refine Wait.go (wpList_append_src _ rfl (.tmp 163) (.tmp 165) 117 117 rfl w.heap.size 59 j0 _ 7 104 Tryd.underlying117 hj0 jz0 jz1 jz2 rfl _ 0 [] rfl ?own5 _ Q.length (Q.flatMap cellsM) rfl ?src5 ?m5 ?b5 ?base5 ?_)
        case own5 => exact ownsRow_base_a (owns_empty _ _ _) hszt
        case src5 => exact Sl.src Tryd.underlying117 (Sl.new HSRC.out ((Only.refl _ _).alloc _)) (fun u hu => by
            obtain ⟨q, hq, hu2⟩ := List.mem_flatMap.1 hu
            exact (HQO.out q hq).one u hu2)
        case m5 => unfold maxLen; omega
        case b5 => omega
        case base5 => simp; omega
        intro v7 w7' own7 gr7 _
        have ho7 : Only (fun _ => False) w9 w7' := HCUT.out.trans (((Only.refl _ wt).alloc _).own (owns_empty wt 59 7) (Nat.le_refl _) gr7)
        have heach : ∀ q ∈ Q, MsgOwn w7' w.heap.size q := fun q hq => (((HQO.out q hq).only HCUT.out (fun _ _ => id)).only ((Only.refl (fun _ => False) _).alloc _) (fun _ _ => id)).grown (owns_empty wt 59 7) gr7
        have own8 : w7'.ownsRow w.heap.size 59 7 v7 Q.length (Q.flatMap cellsM) := by
          have := own7
          rw [Nat.zero_add, List.nil_append] at this
          exact this
        have HO7 := Lib.hid ho7
        have HW7 := Lib.hid own8
        have HEA := Lib.hid heach
        clear ho7 own8 heach
        clear gr7 own7
        go_wp2_with fail
        go_meet
        exact ⟨HO7.out, Q, HQ.out, HW7.out, HEA.out⟩
  case rest =>
  obtain ⟨hoz, hrowz⟩ := hcut
  generalize wc = wz at *
  have hstz := HST9.out.new hoz
  have hslz := HSL9.out.new hoz
  have hbz := hoz.old HB9.out id
  have hiaz := owns_only HIA9.out hoz (fun _ _ => id)
  have hibz := owns_only HIB9.out hoz (fun _ _ => id)
  have hoI := HOH.out.trans hoz
  rw [← HPK.out] at hrowz
  obtain ⟨zP, hzP, hzown, _⟩ := hrowz.out
  obtain ⟨za, zcap, rfl, _⟩ := Sl.cells cellsM_length (Sl.of_owns hzown)
  have hageN : ∀ x ∈ newerL L I, 0 ≤ x.age ∧ x.age ≤ 65533 := fun x hx => by have := HAG.out x (List.mem_filter.1 hx).1; omega
  have hageG : ∀ x ∈ giveL L I, 0 ≤ x.age ∧ x.age ≤ 65533 := fun x hx => by have := HAG.out x ((give_mem L I []).2 x hx); omega
  have hgl : (giveL L I).length ≤ 40 := Nat.le_trans (give_mem L I []).1 hIl
  have HNEW := Lib.hid (fun w' (h : Only (fun _ => False) wz w') => rnewer_any w' 48 T r' _ L (hslz.new h) (by omega) _ I ((Sl.of_owns hibz).new h))
  have HGIVEN := Lib.hid (fun w' (h : Only (fun _ => False) wz w') => rgiven_any w' 48 T r' _ L (hslz.new h) _ I ((Sl.of_owns hibz).new h) (by omega))
  have HGIVE := Lib.hid (fun w' (h : Only (fun _ => False) wz w') => give_any w' _ T 9 L ((hstz.new h).ttl) ((hstz.new h).gets) (fun x hx => by have := HAG.out x hx; omega) _ I ((Sl.of_owns hiaz).new h) (by omega) HIK.out)
  have HPAA := Lib.hid (fun w' u (h : Only (fun _ => False) wz w') (hu : RSl w' u (newerL L I)) => packed16_any w' w.heap.size _ 14 T u (newerL L I) (hrowz.new h) hu (by have := HNL.out; omega) hageN (by omega) (by omega))
  have HPAB := Lib.hid (fun w' base v u (hm : MsgRow w' base v (packM 9 (sentL T (giveL L I)))) (hu : RSl w' u (giveL L I)) => packed16_any w' base v 9 T u (giveL L I) hm hu (by omega) hageG (by omega) (by omega))
  unfold rstV at HNEW HGIVEN
  have x0 : wz.cell? ⟨B, 0, none⟩ = some (.int .i64 48) := cell_at hbz 0
  have x1 : wz.cell? ⟨B, 1, none⟩ = some (.int .i64 T) := cell_at hbz 1
  have x2 : wz.cell? ⟨B, 2, none⟩ = some (.slice va L.length vcap) := cell_at hbz 2
  have x3 : wz.cell? ⟨B, 3, none⟩ = some (.int .i64 r') := cell_at hbz 3
  have HCC : ∀ w', Only (fun _ => False) wz w' → w'.cell? ⟨B, 0, none⟩ = some (.int .i64 48) ∧ w'.cell? ⟨B, 1, none⟩ = some (.int .i64 T) ∧ w'.cell? ⟨B, 2, none⟩ = some (.slice va L.length vcap) ∧ w'.cell? ⟨B, 3, none⟩ = some (.int .i64 r') := fun w' h => ⟨h.cell x0 id, h.cell x1 id, h.cell x2 id, h.cell x3 id⟩
  have HC0 := Lib.hid HCC
  have HOI := Lib.hid hoI
  clear HCC hoI
  clear hoz HST9 HSL9 HB9 HIA9 HIB9 HOH HROW9 HQ9 hstz hslz hiaz hibz hrowz hageN hageG hbz hzP hzown
  go_upto_region 26 with (fail)
  go_cut [6] (fun v6 wx => v6 = .bool true ∧ Only (fun _ => False) wz wx)
  case first =>
    go_region_held3 (fun w' => Only (fun _ => False) wz w' ∧ w'.cell? ⟨B, 0, none⟩ = some (.int .i64 48) ∧ w'.cell? ⟨B, 1, none⟩ = some (.int .i64 T) ∧ w'.cell? ⟨B, 2, none⟩ = some (.slice va L.length vcap) ∧ w'.cell? ⟨B, 3, none⟩ = some (.int .i64 r'))
      ((go_split_ands; (refine heldO HC0.out ?_); (repeat (first | (with_reducible assumption) | (with_reducible exact Only.refl _ _) | (with_reducible refine Only.drew ?_) | (with_reducible refine Only.alloc ?_ _) | (with_reducible refine onlySet ?_ (by first | (with_reducible assumption) | omega) _) | (with_reducible refine Only.trans ?_ (by with_reducible assumption))))))
      (first
        | (go_at_call 56; (with_reducible refine (HNEW.out _ (by (repeat (first | (with_reducible assumption) | (with_reducible exact Only.refl _ _) | (with_reducible refine Only.drew ?_) | (with_reducible refine Only.alloc ?_ _) | (with_reducible refine onlySet ?_ (by first | (with_reducible assumption) | omega) _) | (with_reducible refine Only.trans ?_ (by with_reducible assumption)))))).mono ?_); rintro e wa ⟨ua, rfl, hoa, hra⟩; have hsa := Sl.of_owns hra; have HSA := Lib.hid hsa; clear hra hsa)
        | (go_at_call 55; (with_reducible refine (HPAA.out _ _ (by (repeat (first | (with_reducible assumption) | (with_reducible exact Only.refl _ _) | (with_reducible refine Only.drew ?_) | (with_reducible refine Only.alloc ?_ _) | (with_reducible refine onlySet ?_ (by first | (with_reducible assumption) | omega) _) | (with_reducible refine Only.trans ?_ (by with_reducible assumption))))) (Sl.new HSA.out (by (repeat (first | (with_reducible assumption) | (with_reducible exact Only.refl _ _) | (with_reducible refine Only.drew ?_) | (with_reducible refine Only.alloc ?_ _) | (with_reducible refine onlySet ?_ (by first | (with_reducible assumption) | omega) _) | (with_reducible refine Only.trans ?_ (by with_reducible assumption))))))).mono ?_); rintro e wb ⟨rfl, hob⟩)
        | (go_at_call 57; (with_reducible refine (HGIVE.out _ (by (repeat (first | (with_reducible assumption) | (with_reducible exact Only.refl _ _) | (with_reducible refine Only.drew ?_) | (with_reducible refine Only.alloc ?_ _) | (with_reducible refine onlySet ?_ (by first | (with_reducible assumption) | omega) _) | (with_reducible refine Only.trans ?_ (by with_reducible assumption)))))).mono ?_); rintro e wd ⟨ud, rfl, hod, hrd⟩; have HRD := Lib.hid hrd; clear hrd)
        | (go_at_call 58; (with_reducible refine (HGIVEN.out _ (by (repeat (first | (with_reducible assumption) | (with_reducible exact Only.refl _ _) | (with_reducible refine Only.drew ?_) | (with_reducible refine Only.alloc ?_ _) | (with_reducible refine onlySet ?_ (by first | (with_reducible assumption) | omega) _) | (with_reducible refine Only.trans ?_ (by with_reducible assumption)))))).mono ?_); rintro e we ⟨ue, rfl, hoe, hre⟩; have hse := Sl.of_owns hre; have HSE := Lib.hid hse; clear hre hse)
        | (go_at_call 55; (with_reducible refine (HPAB.out _ _ _ _ (MsgRow.new HRD.out (by (repeat (first | (with_reducible assumption) | (with_reducible exact Only.refl _ _) | (with_reducible refine Only.drew ?_) | (with_reducible refine Only.alloc ?_ _) | (with_reducible refine onlySet ?_ (by first | (with_reducible assumption) | omega) _) | (with_reducible refine Only.trans ?_ (by with_reducible assumption)))))) (Sl.new HSE.out (by (repeat (first | (with_reducible assumption) | (with_reducible exact Only.refl _ _) | (with_reducible refine Only.drew ?_) | (with_reducible refine Only.alloc ?_ _) | (with_reducible refine onlySet ?_ (by first | (with_reducible assumption) | omega) _) | (with_reducible refine Only.trans ?_ (by with_reducible assumption))))))).mono ?_); rintro e wf ⟨rfl, hof⟩))
    all_goals
      go_split_ands
      go_wp2_with fail
      go_meet
      exact ⟨rfl, by (repeat (first | (with_reducible assumption) | (with_reducible exact Only.refl _ _) | (with_reducible refine Only.drew ?_) | (with_reducible refine Only.alloc ?_ _) | (with_reducible refine onlySet ?_ (by first | (with_reducible assumption) | omega) _) | (with_reducible refine Only.trans ?_ (by with_reducible assumption))))⟩
  case rest =>
  obtain ⟨rfl, hoy⟩ := hcut
  have hoJ := HOI.out.trans hoy
  have HOJ := Lib.hid hoJ
  clear hoJ
  clear hoy x0 x1 x2 x3
  go_wp2_with fail
  go_ret
  exact ⟨rfl, HOJ.out⟩
end Go.Proofs.YtianboachknfmaaDoor
/-! DigestAnswers is true of every input: the answer of a store of any records to any Digest is what is wanted of it and what the Digest lacks, packed; its own Digest holds its ids; what is given for ids is their records, each once. No condition; the package variables that it names are tied to the text. -/
namespace Go.Proofs.YtianboachknfmaaDoor.answersLaw
open Go.Conc Go.RowKit Go.ChangeShapes Go.WideShapes Go.ChangeAt Go.ChangeMaps

theorem reads : ∀ t ∈ Tryd.f9.params.toList, Tryd.prog.readableRec t = true ∧ t < Tryd.prog.types.size := by
  intro t ht
  have h1 : ([108, 108, 5].all fun u => Tryd.prog.readableRec u && decide (u < Tryd.prog.types.size)) = true := by kernel_rfl
  rw [Tryd.params9] at ht
  have := List.all_eq_true.1 h1 t ht
  simpa using this
set_option maxRecDepth 100000 in
theorem lifted (os : Os) (started : os.Started) (H : Type) (enc : TypeId × Value → H) :
    ReturnsInHanded {} Tryd.checked os 9 .any (fun w args => (Rows.digestAnswersSpec.pre enc Tryd.prog Tryd.f9 Rows.digestAnswersRow.domain false w args ∧ laidMetH Tryd.prog Rows.digestAnswersRow.laid w) ∧ sizedMet enc Tryd.prog Tryd.f9 (OpenSpec.ofChange Rows.digestAnswersSpec) false w args)
      (Rows.digestAnswersSpec.post enc Tryd.prog Tryd.f9 false true false false) := by
  refine returns_laid (C := Tryd.checked) (X := fun w _ => laidMetH Tryd.prog Rows.digestAnswersRow.laid w) (fun _ _ _ hh h => h.of_heap hh) ownD started (by kernel_rfl) Tryd.func9
    (ChangeSpec.witness_shaped (enc := enc) (C := Tryd.checked) (os := os) (X := fun w _ => laidMetH Tryd.prog Rows.digestAnswersRow.laid w) false (World.laidAll Tryd.prog os Rows.digestAnswersRow.laid) #[.slice none 0 0, .slice none 0 0, .int .u8 0] 8 (World.laidAll_os _ _ _)
      (World.shaped_of_ZipB (by kernel_rfl) (by kernel_rfl)) (by kernel_rfl) (by kernel_rfl) (by kernel_rfl)
      (by rw [MakeChecks.laidMetH_plain _ _ _ (by kernel_rfl)]; exact laidMet_laidAll _ (by kernel_rfl) (by kernel_rfl))) ?_
  intro W base args ds gs before hval0 hW _ hsh
  have hval : ∀ (j : Nat) t v, Tryd.f9.params[j]? = some t → args[j]? = some v → Value.okWide Tryd.prog W .any base t v := hval0
  have hW' := hW
  obtain ⟨m0, hm0⟩ := maxLen_cell W hsh
  obtain ⟨p, q, hA0, hV, rfl, _, _⟩ := hW
  have hA : DataW.TrodAll enc Tryd.prog W 0 (fun _ => true) true Tryd.f9.params.toList args.toList ds p := hA0
  rw [Tryd.params9] at hA hval
  obtain ⟨v0, vs0, d0, ds0, p0, q0, hargs, rfl, rfl, h0, r0⟩ := trodAll_cons hA
  obtain ⟨v1, vs1, d1, ds1, p1, q1, rfl, rfl, rfl, h1, r1⟩ := trodAll_cons r0
  obtain ⟨v2, vs2, d2, ds2, p2, q2, rfl, rfl, rfl, h2, r2⟩ := trodAll_cons r1
  obtain ⟨rfl, rfl, rfl⟩ := trodAll_nil r2
  obtain rfl : args = #[v0, v1, v2] := by cases args; simp_all
  obtain ⟨x0, s0, b0⟩ := sl_recs16 (hval 0 108 v0 rfl rfl) h0
  obtain ⟨x1, s1, b1⟩ := sl_recs16 (hval 1 108 v1 rfl rfl) h1
  obtain ⟨x2, rfl, rfl, rfl, b2⟩ := open_int Tryd.underlying5 (hval 2 5 v2 rfl rfl) h2
  obtain ⟨n2, rfl, w2⟩ := nat_u8 b2
  obtain ⟨rfl, rfl⟩ := trodVars_none hV
  refine (answers16_any W m0 hm0 v0 x0 v1 x1 n2 s0 b0 s1 b1 w2).mono fun e W' ⟨he, ho⟩ => ?_
  subst he
  exact ⟨_, rfl, law_post hW' (ho.below (Nat.le_refl _) (fun _ _ => id)) laidOutD reads rfl Tryd.underlying4 rfl rfl rfl rfl⟩

theorem said : Rows.DigestAnswersSaid :=
  OpenClaim.holds_of_wide 9 Tryd.f9 rfl rfl rfl rfl rfl rfl rfl ⟨rfl, rfl, rfl, rfl, rfl⟩ rfl rfl rfl rfl rfl (by kernel_rfl) Tryd.func9 (by kernel_rfl)
    (of_decide_eq_true (by kernel_rfl)) (by unfold Func.isWrapper; first | (rw [if_pos (by decide +kernel)]; kernel_rfl) | (rw [if_neg (by decide +kernel)]; exact ⟨rfl, rfl⟩))
    (fun os started H enc _ => lifted os started H enc)
theorem looks (f : FuncId) (fn : Func) (hf : Tryd.pinned.checked.prog.funcNamed "bellhop/bellhoplaw16.DigestAnswers" = some f) (hfn : Tryd.pinned.checked.prog.funcs[f]? = some fn) :
    true = Tryd.pinned.checked.prog.looks [] ∧ ∀ (j : Nat) t, fn.params[j]? = some t → Tryd.pinned.checked.prog.wantsStandIn t = false := by
  obtain rfl : f = 9 := Option.some.inj ((show Tryd.prog.funcNamed "bellhop/bellhoplaw16.DigestAnswers" = some 9 by kernel_rfl).symm.trans hf) |>.symm
  obtain rfl : fn = Tryd.f9 := (Option.some.inj (Tryd.func9.symm.trans hfn)).symm
  refine ⟨by kernel_rfl, fun j t ht => ?_⟩
  rw [Tryd.params9] at ht
  have hm : t ∈ [108, 108, 5] := by simpa using Array.mem_of_getElem? ht
  have hall : ([108, 108, 5].all fun u => !Tryd.prog.wantsStandIn u) = true := by kernel_rfl
  exact (show Tryd.prog.wantsStandIn t = false by simpa using List.all_eq_true.1 hall t hm)
theorem card : Rows.DigestAnswersCardSaid :=
  Claim7.holds_tied_plain_at .later [] _ _ _ _ said (fun _ h => by cases h) (by kernel_rfl) (fun _ h => by cases h) digestAnswers_row_tie rfl ⟨rfl, rfl⟩ (by kernel_rfl) rfl looks (by kernel_rfl)
#print axioms card
end Go.Proofs.YtianboachknfmaaDoor.answersLaw
