/- ServiceRises is true of every input: through any acts, in life behind life, what a keeper tells rises strictly, each record may be, and a store that is told all of them holds just the services that there are. No condition; the package variables that it names are tied to the text. -/
import Derived.Test.YtianboachknfmaaDoorSC
import Derived.Test.YtianboachknfmaaDoorMA
import Derived.ChangeMaps5
import Derived.Test.YtianboachknfmaaDoorCards
import Derived.Test.YtianboachknfmaaDoorTie
/-! The walk of bellhoplaw26.ServiceRises. -/
namespace Go.Proofs.YtianboachknfmaaDoor
open Go.Conc Go.RowKit Go.Maps

set_option maxRecDepth 100000 in
set_option maxHeartbeats 8000000 in
theorem rises26_any (w : World) (m : Int) (hm : w.cell? ⟨0, 0, none⟩ = some (.int .i64 m)) (v : Value) (l : List ActV) (u : Value) (lv : List Int) (h : Sl w 7 v l.length (l.flatMap actVC)) (hl : ∀ a ∈ l, actVOk a) (hu : Sl w 1 u lv.length (lv.map (.int .u8))) (_ : ∀ z ∈ lv, (Lit.int .u8 z).wf = true) :
    Calls Tryd.prog 11 #[v, u] w fun e w' => e = .returned (.bool true) ∧ Only (fun _ => False) w w' := by
  obtain ⟨i0, hi0, iz0, iz1, iz2⟩ := info_parts infoRec
  obtain ⟨a, cap, rfl, c1, c2, c3⟩ := Sl.cells actVC_length h
  obtain ⟨_, ua, ucap, rfl, d1, d2, d3⟩ := hu
  have d4 := lv.length
  unfold maxLen at c2 d2
  have HC := Lib.hid c3
  have HL := Lib.hid hl
  have HM := Lib.hid hm
  have HD := Lib.hid d3
  clear c3 hl hm d3
  clear h
  go_enter Tryd.func11, Tryd.ntmps11
  go_wp2_with fail
  refine (speaks26_any w m HM.out).mono ?_
  rintro e w1 ⟨rfl, ho1⟩
  have HNEW := Lib.hid (snew_ok w1 48 60000 (by decide) (by decide) (by decide) (by decide))
  have HO1 := Lib.hid ho1
  clear ho1
  go_wp2_with fail
  refine HNEW.out.mono ?_
  rintro e w2 ⟨rfl, ho2, hs2⟩
  have HKN := Lib.hid (knew_ok w2 7 1 0 2 (by decide) (by decide) (by decide) (by decide) (by decide) (by decide) (by decide))
  have HO2 := Lib.hid ho2
  have HS2 := Lib.hid hs2
  clear ho2 hs2
  clear HNEW
  go_wp2_with fail
  refine HKN.out.mono ?_
  rintro e w3 ⟨rfl, ho3, hk3⟩
  obtain ⟨W, hW⟩ : ∃ W, W = w3.alloc (.cells #[.string ⟨#[97]⟩, .string ⟨#[98]⟩, .string ⟨#[99, 46, 100]⟩, .string ⟨#[101]⟩, .string ⟨#[102]⟩, .string ⟨#[103, 45, 49]⟩] 9) := ⟨_, rfl⟩
  have hbW : W.heap[w3.heap.size]? = some (.cells #[.string ⟨#[97]⟩, .string ⟨#[98]⟩, .string ⟨#[99, 46, 100]⟩, .string ⟨#[101]⟩, .string ⟨#[102]⟩, .string ⟨#[103, 45, 49]⟩] 9 (0, 0)) := by rw [hW]; exact heap_alloc_new w3 _
  have hoW : Only (fun _ => False) w3 W := by rw [hW]; exact (Only.refl _ _).alloc _
  have hsW : W.heap.size = w3.heap.size + 1 := by rw [hW]; simp
  have hl2 := HS2.out.lt.1
  have hl3 := hk3.lt.1
  have hoA := ((HO1.out.trans HO2.out).trans ho3).trans hoW
  have hN : w.heap.size ≤ w1.heap.size := HO1.out.size
  have h0 : 0 < w.heap.size := World.block_lt_of_cell? _ _ HM.out
  have hat : RAt w1.heap.size w3.heap.size w1.heap.size W (w2.heap.size + 1) w2.heap.size ⟨7, 1, 0, 2, 0, []⟩ [] 0 := ⟨hk3.new hoW, ((HS2.out.new ho3).new hoW), rinv_start, by omega⟩
  have HOA := Lib.hid hoA
  have HAT := Lib.hid hat
  have HBN := Lib.hid hbW
  clear hoA hat hbW
  clear HKN HO2 HS2 ho3 hk3
  go_upto_region 8 with (fail)
  rw [← hW]
  clear hW hoW
  have hord : w.heap.size ≤ w1.heap.size ∧ w1.heap.size + 1 < w3.heap.size ∧ w3.heap.size < W.heap.size ∧ 0 < w.heap.size := by omega
  generalize w3.heap.size = nb at *
  generalize w1.heap.size = N at *
  have HORD := Lib.hid hord
  clear hord
  clear hl2 hl3 hsW
  go_upto_block 0 with fail
  go_cut [7, 10, 11] (fun v7 v10 v11 wx => ∃ (x b : Nat) (k : KeepT) (L : List RecT) (last : Nat), v7 = .pointer (some ⟨x, 0, none⟩) ∧ v10 = .int .u64 last ∧ v11 = .int .u32 k.life ∧ Only (fun j => N ≤ j ∧ j ≠ nb) W wx ∧ RAt N nb N wx x b k L last)
  case first =>
    go_wp2_with fail
    go_loopg [7, 10, 11, 12] 60 (fun gk v7 v10 v11 v12 wr => ∃ (i x b : Nat) (k : KeepT) (L : List RecT) (last : Nat), v12 = .int .i64 i ∧ i ≤ l.length ∧ i ≤ 60 ∧ k.life ≤ i + 1 ∧ v7 = .pointer (some ⟨x, 0, none⟩) ∧ v10 = .int .u64 last ∧ v11 = .int .u32 k.life ∧ Only (fun j => N ≤ j ∧ j ≠ nb) W wr ∧ RAt N nb N wr x b k L last ∧ gk = 60 - i)
    case atStart => exact ⟨0, _, _, _, [], 0, rfl, Nat.zero_le _, Nat.zero_le _, Nat.le_refl _, rfl, rfl, rfl, Only.refl _ _, HAT.out, rfl⟩
    case round =>
      obtain ⟨i, x, b, k, L, last, rfl, hi, hi60, hlife, rfl, rfl, rfl, ho, hat, hg⟩ := hrel
      have Hg := Lib.hid hg
      have HO := Lib.hid ho
      have HAT1 := Lib.hid hat
      clear hg ho hat
      by_cases hlt : i < l.length ∧ i < 60
      · -- round
        obtain ⟨hlt, hlt60⟩ := hlt
        have hlt' : (i : Int) < (l.length : Int) := by omega
        have hlt60' : (i : Int) < 60 := by omega
        go_upto_region 12 with (fail)
        go_cut [68] (fun v wx => ∃ B : Bool, v = .bool B ∧ Only (fun _ => False) wr wx)
        case first =>
          by_cases hl2 : i < lv.length
          · have hl2' : (i : Int) < (lv.length : Int) := by omega
            rcases HD.out with hz | ⟨lb, loff, rfl, hcell⟩
            · omega
            · have hc0 := hcell i (.int .u8 lv[i]) (by simp [List.getElem?_eq_getElem hl2])
              have hlb := World.block_lt_of_cell? _ _ hc0
              have hc1 : wr.cell? ⟨lb, loff + i, none⟩ = some (.int .u8 lv[i]) := HO.out.cell (HOA.out.cell hc0 id) (fun e => by have h9 : N ≤ lb ∧ lb ≠ nb := e; have := HORD.out; omega)
              generalize lv[i] = z at *
              go_wp2_with fail
              go_meet
              exact ⟨_, rfl, Only.refl _ _⟩
          · have hl2' : ¬ (i : Int) < (lv.length : Int) := by omega
            go_wp2_with fail
            go_meet
            exact ⟨_, rfl, Only.refl _ _⟩
        case rest =>
        obtain ⟨B, rfl, hox⟩ := hcut
        have hat0 := HAT1.out.new hox
        have HOX := Lib.hid hox
        have HAT0 := Lib.hid hat0
        clear hox hat0
        go_upto_if 68 with (fail)
        go_cut [7, 11] (fun v7 v11 wx => ∃ (x' b' : Nat) (k' : KeepT), v7 = .pointer (some ⟨x', 0, none⟩) ∧ v11 = .int .u32 k'.life ∧ k'.life ≤ i + 2 ∧ Only (fun j => N ≤ j ∧ j ≠ nb) wr wx ∧ RAt N nb N wx x' b' k' L last)
        case first =>
          cases B with
          | false =>
            go_wp2_with fail
            go_meet
            exact ⟨x, b, k, rfl, rfl, by omega, (HOX.out.weaken (fun _ _ => False.elim)), HAT0.out⟩
          | true =>
            have hlk := HAT0.out.inv.keep.lifeB
            have HKN := Lib.hid (knew_ok wc 7 (k.life + 1) 0 2 (by decide) (by decide) (by omega) (by omega) (by decide) (by decide) (by decide))
            have hcast : ((k.life + 1 : Nat) : Int) = (k.life : Int) + 1 := by omega
            rw [hcast] at HKN
            go_wp2_with fail
            refine HKN.out.mono ?_
            rintro e w4 ⟨rfl, ho4, hk4⟩
            have hszc : nb < wc.heap.size := by have h1 := HO.out.size; have h2 := HOX.out.size; have := HORD.out; omega
            have hsp := HAT0.out.sep
            have hsl := HAT0.out.store.lt
            have HK4 := Lib.hid hk4
            have HO4 := Lib.hid ho4
            clear hk4 ho4
            go_wp2_with fail
            go_meet
            exact ⟨_, _, _, rfl, by rw [← hcast], by show k.life + 1 ≤ i + 2; omega, ((HOX.out.trans HO4.out).weaken (fun _ _ => False.elim)), ⟨HK4.out, HAT0.out.store.new HO4.out, HAT0.out.inv.anew (by omega), by omega⟩⟩
        case rest =>
        obtain ⟨x1, b1, k1, rfl, rfl, hlife1, ho1, hat1⟩ := hcut
        have hoB := HO.out.trans ho1
        obtain ⟨bb, off, rfl, hcc⟩ := HC.out.at i hlt
        have hcr : ∀ j u, (actVC l[i])[j]? = some u → wc.cell? ⟨bb, off + i * 7 + j, none⟩ = some u := fun j u hu => by
          have h1 := hcc j u hu
          have h2 : bb < w.heap.size := World.block_lt_of_cell? _ _ h1
          exact hoB.cell (HOA.out.cell h1 id) (fun e => by have h9 : N ≤ bb ∧ bb ≠ nb := e; have := HORD.out; omega)
        have hP := HL.out l[i] (List.getElem_mem hlt)
        have hm1 := hoB.cell (HOA.out.cell HM.out id) (fun e => by have h9 : N ≤ 0 ∧ 0 ≠ nb := e; have := HORD.out; omega)
        have hbn := hoB.old HBN.out (fun e => e.2 rfl)
        generalize l[i] = y at *
        obtain ⟨what, nm, a0, a1, a2, a3, p⟩ := y
        have y0 := hcr 0 _ rfl
        have y1 := hcr 1 _ rfl
        have y2 := hcr 2 _ rfl
        have y3 := hcr 3 _ rfl
        have y4 := hcr 4 _ rfl
        have y5 := hcr 5 _ rfl
        have y6 := hcr 6 _ rfl
        simp only [Nat.add_zero] at y0
        simp only at y0 y1 y2 y3 y4 y5 y6
        unfold actVOk at hP
        simp only at hP
        have HOB := Lib.hid hoB
        have HAT2 := Lib.hid hat1
        have HP := Lib.hid hP
        have HM1 := Lib.hid hm1
        have HBN1 := Lib.hid hbn
        clear hoB hat1 hP hm1 hbn
        clear hcc hcr
        go_upto_region 18 with (fail)
        go_cut [14] (fun v wx => ∃ n : ByteArray, n ∈ names6 ∧ v = .string n ∧ Only (fun _ => False) wc wx)
        case first =>
          have c0 : wc.cell? ⟨nb, 0, none⟩ = some (.string ⟨#[97]⟩) := cell_at HBN1.out 0
          have c1 : wc.cell? ⟨nb, 1, none⟩ = some (.string ⟨#[98]⟩) := cell_at HBN1.out 1
          have c2 : wc.cell? ⟨nb, 2, none⟩ = some (.string ⟨#[99, 46, 100]⟩) := cell_at HBN1.out 2
          have c3 : wc.cell? ⟨nb, 3, none⟩ = some (.string ⟨#[101]⟩) := cell_at HBN1.out 3
          have c4 : wc.cell? ⟨nb, 4, none⟩ = some (.string ⟨#[102]⟩) := cell_at HBN1.out 4
          have c5 : wc.cell? ⟨nb, 5, none⟩ = some (.string ⟨#[103, 45, 49]⟩) := cell_at HBN1.out 5
          have hq : (nm.size : Int).tmod 6 = ((nm.size % 6 : Nat) : Int) := rfl
          have hq6 : nm.size % 6 < 6 := Nat.mod_lt _ (by decide)
          have hqc : ∃ n ∈ names6, wc.cell? ⟨nb, nm.size % 6, none⟩ = some (.string n) := by
            generalize nm.size % 6 = q at *
            rcases (by omega : q = 0 ∨ q = 1 ∨ q = 2 ∨ q = 3 ∨ q = 4 ∨ q = 5) with rfl | rfl | rfl | rfl | rfl | rfl
            · exact ⟨_, by simp [names6], c0⟩
            · exact ⟨_, by simp [names6], c1⟩
            · exact ⟨_, by simp [names6], c2⟩
            · exact ⟨_, by simp [names6], c3⟩
            · exact ⟨_, by simp [names6], c4⟩
            · exact ⟨_, by simp [names6], c5⟩
          obtain ⟨n, hn, hqc⟩ := hqc
          have HN := Lib.hid hn
          clear hn
          clear c0 c1 c2 c3 c4 c5
          go_wp2_with fail
          go_meet
          exact ⟨n, HN.out, rfl, Only.refl _ _⟩
        case rest =>
        obtain ⟨n, hn6, rfl, hoy⟩ := hcut
        have hatn := HAT2.out.new hoy
        have y0 := hoy.cell y0 id
        have y2 := hoy.cell y2 id
        have y3 := hoy.cell y3 id
        have y4 := hoy.cell y4 id
        have y5 := hoy.cell y5 id
        have y6 := hoy.cell y6 id
        have hmn := hoy.cell HM1.out id
        have hoC : Only (fun j => N ≤ j ∧ j ≠ nb) W wc := HOB.out.trans (hoy.weaken (fun _ _ => False.elim))
        have hn64 := names6_size n hn6
        have hsp := hatn.sep
        have hx0 : x1 ≠ 0 ∧ b1 ≠ 0 := by have := HORD.out; omega
        have hNw : N < wc.heap.size := hatn.store.lt.2
        have hWw : nb < wc.heap.size := by have h1 := hoC.size; have := HORD.out; omega
        have HATN := Lib.hid hatn
        have HMN := Lib.hid hmn
        have HOC := Lib.hid hoC
        have HN6 := Lib.hid hn6
        clear hatn hmn hoC hn6
        clear y1 hoy HOB HAT2 HM1 HBN1
        go_upto_region 19 with (fail)
        go_cut [95] (fun v wx => ∃ q : Int, v = .int .i64 q ∧ Only (fun _ => False) wc wx)
        case first =>
          go_wp2_with fail
          go_meet
          exact ⟨_, rfl, Only.refl _ _⟩
        case rest =>
        obtain ⟨q, rfl, hoy⟩ := hcut
        have hatn := HATN.out.new hoy
        have y2 := hoy.cell y2 id
        have y3 := hoy.cell y3 id
        have y4 := hoy.cell y4 id
        have y5 := hoy.cell y5 id
        have y6 := hoy.cell y6 id
        have hmn := hoy.cell HMN.out id
        have hoC : Only (fun j => N ≤ j ∧ j ≠ nb) W wc := HOC.out.trans (hoy.weaken (fun _ _ => False.elim))
        have hNw : N < wc.heap.size := hatn.store.lt.2
        have hWw : nb < wc.heap.size := by have h1 := hoC.size; have := HORD.out; omega
        have hbW : bb < N ∧ bb ≠ x1 ∧ bb ≠ b1 := by
          obtain ⟨bb', off', e', hc'⟩ := HC.out.at i hlt
          cases e'
          have h9 : bb < w.heap.size := World.block_lt_of_cell? _ _ (hc' 0 _ rfl)
          have := HORD.out
          omega
        have hxl := hatn.keep.lt
        have HATN := Lib.hid hatn
        have HMN := Lib.hid hmn
        have HOC := Lib.hid hoC
        clear hatn hmn hoC
        clear y0 hoy
        go_upto_block 2 with fail
        go_cut [13] (fun v wx => ∃ (k' : KeepT) (A : List RecT), k'.life = k1.life ∧ Only (fun j => N ≤ j ∧ j ≠ nb) wc wx ∧ RTold N nb N wx wc.heap.size x1 b1 k' L last v A)
        case first =>
          by_cases hq2 : q = 2
          · subst hq2
            have HW := Lib.hid (kwdr_any wc x1 b1 k1 HATN.out.keep hx0 m HMN.out n hn64)
            have HTT := Lib.hid (fun h => tell_wdr HATN.out.inv HN6.out (h : wdrE k1 n = 0))
            have HNO := Lib.hid (wdrK_no (k := k1) (n := n))
            have HLF := Lib.hid (wdrK_life k1 n)
            generalize wdrK k1 n = K2 at *
            generalize wdrE k1 n = E at *
            generalize wdrR k1 n = R at *
            obtain ⟨k2, v2, o2, t2, g2, D2⟩ := R
            unfold recT at HW
            simp only at HW
            clear y2 y3 y4 y5 y6
            go_wp2_with fail
            refine HW.out.mono ?_
            rintro e w4 ⟨rfl, ho4, hk4⟩
            obtain ⟨V, hV⟩ : ∃ V, V = w4.alloc (.cells #[.string k2, .int .u64 v2, .int .i64 o2, .int .i64 t2, .bool g2, .string D2] 33) := ⟨_, rfl⟩
            have hbV : V.heap[w4.heap.size]? = some (.cells #[.string k2, .int .u64 v2, .int .i64 o2, .int .i64 t2, .bool g2, .string D2] 33 (0, 0)) := by rw [hV]; exact heap_alloc_new w4 _
            have hoV : Only (fun _ => False) w4 V := by rw [hV]; exact (Only.refl _ _).alloc _
            have hsV : V.heap.size = w4.heap.size + 1 := by rw [hV]; simp
            have hoV4 := ho4.trans (hoV.weaken (fun _ _ => False.elim))
            have hkV := hk4.new hoV
            have z0 : V.cell? ⟨w4.heap.size, 0, none⟩ = some (.string k2) := cell_at hbV 0
            have z1 : V.cell? ⟨w4.heap.size, 1, none⟩ = some (.int .u64 v2) := cell_at hbV 1
            have z2 : V.cell? ⟨w4.heap.size, 2, none⟩ = some (.int .i64 o2) := cell_at hbV 2
            have z3 : V.cell? ⟨w4.heap.size, 3, none⟩ = some (.int .i64 t2) := cell_at hbV 3
            have z4 : V.cell? ⟨w4.heap.size, 4, none⟩ = some (.bool g2) := cell_at hbV 4
            have z5 : V.cell? ⟨w4.heap.size, 5, none⟩ = some (.string D2) := cell_at hbV 5
            clear hsV
            have hsV := hoV4.size
            have HOV := Lib.hid hoV4
            have HKV := Lib.hid hkV
            clear hoV4 hkV
            clear ho4 hk4 hoV hbV HW
            go_upto_region 25 with (fail)
            rw [← hV]
            clear hV
            by_cases hE : E = 0
            · subst hE
              go_wp2_with (at_builtin; refine Wait.mk ?_)
              refine Wait.go (wpList_append_src _ rfl (.tmp 129) (.tmp 131) 28 28 rfl V.heap.size 33 i0 _ 6 64 Tryd.underlying28 hi0 iz0 iz1 iz2 rfl (.slice none 0 0) 0 [] rfl ?own4 (.slice (some ⟨V.heap.size, 0, none⟩) 1 1) 1 (recC ⟨k2, v2, o2, t2, g2, D2⟩) rfl ?src4 ?m4 ?b4 ?base4 ?_)
              case own4 => exact World.ownsRow_nil _ _ _ _
              case src4 => exact Src.ofSlice _ Tryd.underlying28 _ _ _ _ rfl (news_new _ _ _) (recC_one _)
              case m4 => unfold maxLen; omega
              case b4 => omega
              case base4 => simp
              intro v4 w9 own4 gr4 _
              have ho9 : Only (fun _ => False) V w9 := ((Only.refl _ V).alloc _).own (World.ownsRow_nil _ V.heap.size 33 6) (Nat.le_refl _) gr4
              have hrow9 : RecRow w9 V.heap.size v4 [⟨k2, v2, o2, t2, g2, D2⟩] := by
                unfold RecRow
                rw [List.flatMap_singleton]
                exact own4
              have HO9 := Lib.hid ho9
              have HR9 := Lib.hid hrow9
              clear ho9 hrow9
              clear gr4 own4
              go_wp2_with fail
              go_meet
              obtain ⟨r1, r2⟩ := rtold_act HATN.out (HOV.out.trans (HO9.out.weaken (fun _ _ => False.elim))) (HKV.out.new HO9.out) (HTT.out trivial) (ownsRow_base_a HR9.out (by omega))
              exact ⟨_, _, HLF.out, r1, r2⟩
            · have hEb : (E == 0) = false := by simpa using hE
              have HE := Lib.hid hE
              clear hE
              go_wp2_with fail
              go_meet
              have hK := HNO.out HE.out
              subst hK
              obtain ⟨r1, r2⟩ := rtold_act (A := []) (v := .slice none 0 0) HATN.out HOV.out HKV.out HATN.out.inv (World.ownsRow_nil _ _ _ _)
              exact ⟨_, [], rfl, r1, r2⟩
          · have hq2b : (q == 2) = false := by simpa using hq2
            have HQ2 := Lib.hid hq2
            clear hq2
            by_cases hq3 : q = 3
            · subst hq3
              have HW := Lib.hid (ktick_any wc x1 b1 k1 HATN.out.keep hx0 m HMN.out)
              have HTT := Lib.hid (tell_tick HATN.out.inv)
              have HLF := Lib.hid (show (tickK k1).life = k1.life from rfl)
              generalize tickK k1 = K2 at *
              generalize tickL k1 = A at *
              clear y2 y3 y4 y5 y6
              go_wp2_with fail
              refine HW.out.mono ?_
              rintro e w4 ⟨v4, rfl, ho4, hk4, hr4⟩
              obtain ⟨ta, tcap, rfl, _⟩ := Sl.cells recC_length (Sl.of_owns hr4)
              have HO4 := Lib.hid ho4
              have HK4 := Lib.hid hk4
              have HR4 := Lib.hid hr4
              clear ho4 hk4 hr4
              go_wp2_with fail
              go_meet
              obtain ⟨r1, r2⟩ := rtold_act HATN.out (HO4.out.weaken (fun _ _ e => .inl e)) HK4.out HTT.out HR4.out
              exact ⟨_, _, HLF.out, r1, r2⟩
            · have hq3b : (q == 3) = false := by simpa using hq3
              have HQ3 := Lib.hid hq3
              clear hq3
              have hsv : svcOk ⟨n, a0, a1, a2, a3, p, 0, 0⟩ := ⟨hn64, HP.out.2.2.1, HP.out.2.2.2.1, HP.out.2.2.2.2.1, HP.out.2.2.2.2.2.1, HP.out.2.2.2.2.2.2, (by show (0 : Nat) < 65536; decide), (by show (0 : Nat) < 65536; decide)⟩
              have HTT := Lib.hid (fun h => tell_reg HATN.out.inv hsv HN6.out (h : regE k1 ⟨n, a0, a1, a2, a3, p, 0, 0⟩ = 0))
              have HNO := Lib.hid (regK_no (k := k1) (x := ⟨n, a0, a1, a2, a3, p, 0, 0⟩))
              have HLF := Lib.hid (regK_life k1 ⟨n, a0, a1, a2, a3, p, 0, 0⟩)
              have HW := Lib.hid (fun w' (ho : Only (fun _ => False) wc w') => kreg_any w' x1 b1 k1 (HATN.out.keep.new ho) hx0 m (ho.cell HMN.out id) ⟨n, a0, a1, a2, a3, p, 0, 0⟩ hsv)
              unfold svcT at HW
              simp only [show ((0 : Nat) : Int) = 0 from rfl] at HW
              generalize regK k1 ⟨n, a0, a1, a2, a3, p, 0, 0⟩ = K2 at *
              generalize regE k1 ⟨n, a0, a1, a2, a3, p, 0, 0⟩ = E at *
              generalize regR k1 ⟨n, a0, a1, a2, a3, p, 0, 0⟩ = R at *
              obtain ⟨k2, v2, o2, t2, g2, D2⟩ := R
              unfold recT at HW
              simp only at HW
              have HNE3 := Lib.hid (show ¬ (wc.heap.size = x1 ∨ wc.heap.size = b1) by omega)
              obtain ⟨hb1, hb2, hb3⟩ := hbW
              have HNB := Lib.hid (show ¬ (bb = x1 ∨ bb = b1) by omega)
              obtain ⟨hx1l, hb1l⟩ := hxl
              clear hsv
              go_upto_region 20 with (fail)
              go_cut [17, 18] (fun v17 v18 wx => v18 = .int .i64 E ∧ ∃ Q, v17 = .pointer (some ⟨Q, 0, none⟩) ∧ wx.heap[Q]? = some (.cells #[.string k2, .int .u64 v2, .int .i64 o2, .int .i64 t2, .bool g2, .string D2] 33 (0, 0)) ∧ Only (fun i => i = x1 ∨ i = b1) wc wx ∧ KeepAt wx x1 b1 K2)
              case first =>
                go_region_held3 (fun w' => w'.cell? ⟨bb, off + i * 7 + 2, none⟩ = some (.int .u8 a0) ∧ w'.cell? ⟨bb, off + i * 7 + 3, none⟩ = some (.int .u8 a1) ∧ w'.cell? ⟨bb, off + i * 7 + 4, none⟩ = some (.int .u8 a2) ∧ w'.cell? ⟨bb, off + i * 7 + 5, none⟩ = some (.int .u8 a3) ∧ w'.cell? ⟨bb, off + i * 7 + 6, none⟩ = some (.int .u16 p))
                  (((try go_split_ands); (repeat' apply And.intro); all_goals (repeat (first | (with_reducible assumption) | (with_reducible apply keepDv) | (with_reducible apply keepNv) | ((with_reducible refine keepSv ?_ ?_); (focus omega))))))
                  (first
                    | (go_at_call 35; (with_reducible refine (HW.out _ (by (repeat (first | (with_reducible assumption) | (with_reducible exact Only.refl _ _) | (with_reducible refine Only.drew ?_) | (with_reducible refine Only.alloc ?_ _) | (with_reducible refine onlySet ?_ (by first | (with_reducible assumption) | omega) _) | (with_reducible refine Only.trans ?_ (by with_reducible assumption)))))).mono ?_); rintro e w7 ⟨rfl, ho7, hk7⟩; have o7 : Only (fun i => i = x1 ∨ i = b1) wc w7 := (by (refine Only.trans (b := _) ?_ ho7; refine Only.weaken (S := fun _ => False) ?_ (fun _ _ => False.elim); (repeat (first | (with_reducible assumption) | (with_reducible exact Only.refl _ _) | (with_reducible refine Only.drew ?_) | (with_reducible refine Only.alloc ?_ _) | (with_reducible refine onlySet ?_ (by first | (with_reducible assumption) | omega) _) | (with_reducible refine Only.trans ?_ (by with_reducible assumption)))))); have hs7 := Only.size ho7; (try simp at hs7); have hz7 : wc.heap.size ≤ w7.heap.size := (by omega); have q2 := Only.cell o7 y2 HNB.out; have q3 := Only.cell o7 y3 HNB.out; have q4 := Only.cell o7 y4 HNB.out; have q5 := Only.cell o7 y5 HNB.out; have q6 := Only.cell o7 y6 HNB.out; have HK7 := Lib.hid hk7; (try (have z7 : w7.heap[wc.heap.size]? = some (.cells #[.string ⟨#[]⟩, .int .u64 0, .int .i64 0, .int .i64 0, .bool false, .string ⟨#[]⟩] 33 (0, 0)) := Only.old ho7 (heap_alloc_new wc _) HNE3.out; have zc0 := cell_at z7 0; have zc1 := cell_at z7 1; have zc2 := cell_at z7 2; have zc3 := cell_at z7 3; have zc4 := cell_at z7 4; have zc5 := cell_at z7 5; simp at zc0 zc1 zc2 zc3 zc4 zc5; have zcf := free_at z7; have zcl := lt_of_block z7))))
                all_goals
                  go_split_ands
                  go_wp2_with fail
                  go_meet
                  refine ⟨rfl, _, rfl, ?_, ?_, HK7.out.kept (S := fun k => wc.heap.size ≤ k) ?_ (by omega) (by omega)⟩
                  · (apply Eq.trans; (case h₁ => repeat (first | (with_reducible assumption) | (with_reducible exact heap_alloc_new _ _) | (with_reducible apply blk_new; (repeat (first | (with_reducible rfl) | (with_reducible apply sz_set) | (with_reducible apply sz_alloc) | (with_reducible apply sz_drew))); done) | (with_reducible apply blk_same) | (with_reducible apply blk_ne; case hn => (first | assumption | omega)) | (with_reducible apply blk_old) | (with_reducible apply blk_drew))); (case h₂ => rfl))
                  · (repeat (first | (with_reducible assumption) | (with_reducible refine Only.drew ?_) | (with_reducible refine Only.alloc ?_ _) | (with_reducible refine onlySetXB ?_ (by first | assumption | omega) _)))
                  · (repeat (first | (with_reducible exact Only.refl _ _) | (with_reducible refine Only.drew ?_) | (with_reducible refine Only.alloc ?_ _) | (with_reducible refine onlySetG ?_ (by first | assumption | omega) _)))
              case rest =>
              obtain ⟨rfl, Q, rfl, hbQ, hoV4, hkV⟩ := hcut
              clear y2 y3 y4 y5 y6
              have z0 : wc.cell? ⟨Q, 0, none⟩ = some (.string k2) := cell_at hbQ 0
              have z1 : wc.cell? ⟨Q, 1, none⟩ = some (.int .u64 v2) := cell_at hbQ 1
              have z2 : wc.cell? ⟨Q, 2, none⟩ = some (.int .i64 o2) := cell_at hbQ 2
              have z3 : wc.cell? ⟨Q, 3, none⟩ = some (.int .i64 t2) := cell_at hbQ 3
              have z4 : wc.cell? ⟨Q, 4, none⟩ = some (.bool g2) := cell_at hbQ 4
              have z5 : wc.cell? ⟨Q, 5, none⟩ = some (.string D2) := cell_at hbQ 5
              have hsV := hoV4.size
              have HOV := Lib.hid hoV4
              have HKV := Lib.hid hkV
              clear hoV4 hkV
              clear hbQ HW
              by_cases hE : E = 0
              · subst hE
                go_wp2_with (at_builtin; refine Wait.mk ?_)
                refine Wait.go (wpList_append_src _ rfl (.tmp 115) (.tmp 117) 28 28 rfl wc.heap.size 33 i0 _ 6 64 Tryd.underlying28 hi0 iz0 iz1 iz2 rfl (.slice none 0 0) 0 [] rfl ?own4 (.slice (some ⟨wc.heap.size, 0, none⟩) 1 1) 1 (recC ⟨k2, v2, o2, t2, g2, D2⟩) rfl ?src4 ?m4 ?b4 ?base4 ?_)
                case own4 => exact World.ownsRow_nil _ _ _ _
                case src4 => exact Src.ofSlice _ Tryd.underlying28 _ _ _ _ rfl (news_new _ _ _) (recC_one _)
                case m4 => unfold maxLen; omega
                case b4 => omega
                case base4 => simp
                intro v4 w9 own4 gr4 _
                have ho9 : Only (fun _ => False) wc w9 := ((Only.refl _ wc).alloc _).own (World.ownsRow_nil _ wc.heap.size 33 6) (Nat.le_refl _) gr4
                have hrow9 : RecRow w9 wc.heap.size v4 [⟨k2, v2, o2, t2, g2, D2⟩] := by
                  unfold RecRow
                  rw [List.flatMap_singleton]
                  exact own4
                have HO9 := Lib.hid ho9
                have HR9 := Lib.hid hrow9
                clear ho9 hrow9
                clear gr4 own4
                go_wp2_with fail
                go_meet
                obtain ⟨r1, r2⟩ := rtold_act HATN.out (HOV.out.trans (HO9.out.weaken (fun _ _ => False.elim))) (HKV.out.new HO9.out) (HTT.out trivial) (ownsRow_base_a HR9.out (by omega))
                exact ⟨_, _, HLF.out, r1, r2⟩
              · have hEb : (E == 0) = false := by simpa using hE
                have HE := Lib.hid hE
                clear hE
                go_wp2_with fail
                go_meet
                have hK := HNO.out HE.out
                subst hK
                obtain ⟨r1, r2⟩ := rtold_act (A := []) (v := .slice none 0 0) HATN.out HOV.out HKV.out HATN.out.inv (World.ownsRow_nil _ _ _ _)
                exact ⟨_, [], rfl, r1, r2⟩
        case rest =>
        obtain ⟨k2, A, hlk, ho2, htd⟩ := hcut
        clear y2 y3 y4 y5 y6
        have hsz2 := ho2.size
        have hm2 := ho2.cell HMN.out (fun e => by have h9 : N ≤ 0 ∧ 0 ≠ nb := e; have := HORD.out; omega)
        obtain ⟨ra, rcap, rfl, e1, e2, e3⟩ := Sl.cells recC_length (Sl.of_owns htd.row)
        unfold maxLen at e2
        have hrb : 0 < A.length → ∀ lb off, ra = some ⟨lb, off, none⟩ → N + 1 < lb := fun h0 lb off e => by
          subst e
          have h1 := (htd.row.lt lb rfl).1
          omega
        have hoD := HOC.out.trans ho2
        have HT := Lib.hid htd
        have HM2 := Lib.hid hm2
        have HRC := Lib.hid e3
        have HRB := Lib.hid hrb
        have HOD := Lib.hid hoD
        have HLK := Lib.hid hlk
        clear htd hm2 e3 hrb hoD hlk
        clear ho2
        go_wp2_with fail
        go_loopg [10, 19] A.length (fun g v10 v19 wr => ∃ (j last2 : Nat) (L2 : List RecT), v19 = .int .i64 j ∧ j ≤ A.length ∧ v10 = .int .u64 last2 ∧ Only (fun i => i = N + 1 ∨ i = N) wc wr ∧ StoreAt wr (N + 1) N 48 60000 0 L2 ∧ Tellable k2 L2 last2 (A.drop j) ∧ g = A.length - j)
        case atStart => exact ⟨0, last, L, rfl, Nat.zero_le _, rfl, Only.refl _ _, HT.out.store, HT.out.told, rfl⟩
        case round =>
          obtain ⟨j, last2, L2, rfl, hj, rfl, hoq, hsq, htl, hgj⟩ := hrel
          have hmq := hoq.cell HM2.out (fun e => by have h9 : 0 = N + 1 ∨ 0 = N := e; have := HORD.out; omega)
          have Hgj := Lib.hid hgj
          have HOQ := Lib.hid hoq
          have HSQ := Lib.hid hsq
          have HMQ := Lib.hid hmq
          clear hgj hoq hsq hmq
          by_cases hlj : j < A.length
          · -- one
            rw [List.drop_eq_getElem_cons hlj] at htl
            obtain ⟨t1, t2, t3, t4, t5, t6⟩ := htl
            obtain ⟨lb, loff, he, hc⟩ := HRC.out.at j hlj
            have hlb := HRB.out (by omega) lb loff he
            subst he
            have hcr : ∀ i u, (recC A[j])[i]? = some u → wr.cell? ⟨lb, loff + j * 6 + i, none⟩ = some u := fun i u hu => HOQ.out.cell (hc i u hu) (fun e => by have h9 : lb = N + 1 ∨ lb = N := e; omega)
            have HPS := Lib.hid (show putR 48 60000 L2 A[j] 0 = 0 ∧ putE 48 60000 L2 A[j] = 0 from by unfold putR; rw [t5]; exact ⟨rfl, rfl⟩)
            have HPUT := Lib.hid (fun w' (ho : Only (fun _ => False) wr w') => sput_any w' (N + 1) N 48 60000 0 L2 (HSQ.out.new ho) A[j] m (ho.cell HMQ.out id) t3 (by omega) (by decide) (by decide))
            unfold SPut at HPUT
            rw [HPS.out.1, HPS.out.2] at HPUT
            have HT6 := Lib.hid t6
            clear t6
            have hgd : goodR A[j] = true := t2
            have hlj' : (j : Int) < (A.length : Int) := by omega
            generalize putS 48 60000 L2 A[j] = L3 at *
            generalize A[j] = r at *
            obtain ⟨k3, v3, o3, a3, g3, d3⟩ := r
            have HGD := Lib.hid (good_any wr k3 v3 o3 a3 g3 d3 m HMQ.out t3 (by simp only at t4; omega))
            rw [show goodP k3 v3 o3 a3 g3 d3 = true from hgd] at HGD
            unfold recT at HPUT
            simp only at t1 HPUT
            have z0 := hcr 0 _ rfl
            have z1 := hcr 1 _ rfl
            have z2 := hcr 2 _ rfl
            have z3 := hcr 3 _ rfl
            have z4 := hcr 4 _ rfl
            have z5 := hcr 5 _ rfl
            simp only [Nat.add_zero] at z0
            simp only at z0 z1 z2 z3 z4 z5
            have hv : ¬ (v3 : Int) ≤ (last2 : Int) := by omega
            clear hc hcr t2 t3 t4 t5 HPS hgd
            go_wp2_with fail
            refine HGD.out.mono ?_
            rintro e w5 ⟨rfl, ho5⟩
            have z0 := ho5.cell z0 id
            have z1 := ho5.cell z1 id
            have z2 := ho5.cell z2 id
            have z3 := ho5.cell z3 id
            have z4 := ho5.cell z4 id
            have z5 := ho5.cell z5 id
            have HP5 := Lib.hid (HPUT.out w5 ho5)
            have HO5 := Lib.hid ho5
            clear ho5
            go_wp2_with fail
            refine HP5.out.mono ?_
            rintro e w6 ⟨rfl, ho6, hs6⟩
            have z1 := ho6.cell z1 (fun e => by have h9 : lb = N + 1 ∨ lb = N := e; omega)
            have hoR : Only (fun i => i = N + 1 ∨ i = N) wc w6 := (HOQ.out.trans (HO5.out.weaken (fun _ _ => False.elim))).trans ho6
            have HOR := Lib.hid hoR
            have HS6 := Lib.hid hs6
            clear hoR hs6
            clear ho6 HPUT HP5 HGD
            go_wp2_with fail
            go_roundg (A.length - (j + 1))
            case measure => rw [Hgj.out]; omega
            case rel => exact ⟨j + 1, v3, L3, by go_num, by omega, rfl, HOR.out, HS6.out, HT6.out, rfl⟩
          · have hlj' : ¬ (j : Int) < (A.length : Int) := by omega
            have hjA : j = A.length := by omega
            rw [hjA, List.drop_length] at htl
            have HTL := Lib.hid (show RInv L2 k2 last2 from htl)
            clear htl
            have hsp := HATN.out.sep
            have ho3 : Only (fun j => N ≤ j ∧ j ≠ nb) wc wr := HOQ.out.weaken (fun i _ e => by have h9 : i = N + 1 ∨ i = N := e; show N ≤ i ∧ i ≠ nb; omega)
            have hat3 : RAt N nb N wr x1 b1 k2 L2 last2 := ⟨HT.out.keep.kept HOQ.out (fun e => by have h9 : x1 = N + 1 ∨ x1 = N := e; omega) (fun e => by have h9 : b1 = N + 1 ∨ b1 = N := e; omega), HSQ.out, HTL.out, hsp⟩
            have hoE := HOD.out.trans ho3
            have hlf3 := HLK.out
            have HOE := Lib.hid hoE
            have HAT3 := Lib.hid hat3
            clear hoE hat3
            rw [← hlf3]
            clear hlf3 ho3
            go_wp2_with fail
            go_roundg (60 - (i + 1))
            case measure => rw [Hg.out]; omega
            case rel => exact ⟨i + 1, x1, b1, k2, L2, last2, by go_num, by omega, by omega, by have := HLK.out; omega, rfl, rfl, rfl, HOE.out, HAT3.out, rfl⟩
      · by_cases e1 : i < l.length
        · have e1' : (i : Int) < (l.length : Int) := by omega
          have e2' : ¬ (i : Int) < 60 := by omega
          go_wp2_with fail
          go_meet
          exact ⟨x, b, k, L, last, rfl, rfl, rfl, HO.out, HAT1.out⟩
        · have e1' : ¬ (i : Int) < (l.length : Int) := by omega
          go_wp2_with fail
          go_meet
          exact ⟨x, b, k, L, last, rfl, rfl, rfl, HO.out, HAT1.out⟩
  case rest =>
  as_aux_lemma =>
  obtain ⟨x, b, k, L, last, rfl, rfl, rfl, hoz, hatz⟩ := hcut
  have hoF : Only (fun _ => False) w wc := HOA.out.tr hoz (fun i hi e => by have h9 : N ≤ i ∧ i ≠ nb := e; have := HORD.out; omega)
  have HOWN := Lib.hid (own_any wc x b k hatz.keep)
  have hro := hatz.keep.ok.room
  have hrL := hatz.store.ok.len
  have HATZ := Lib.hid hatz
  have HOF := Lib.hid hoF
  clear hatz hoF
  clear hoz HAT HBN HOA
  go_wp2_with fail
  refine HOWN.out.mono ?_
  rintro e w4 ⟨v4, rfl, ho4, hv4⟩
  obtain ⟨oa, ocap, rfl, o1, o2, o3⟩ := Sl.cells svcCs_length (show Sl w4 8 v4 k.own.length (k.own.flatMap svcCs) from Sl.of_owns hv4)
  have HALL := Lib.hid (sall_any w4 (N + 1) N 48 60000 0 L (HATZ.out.store.new ho4))
  have HO4 := Lib.hid ho4
  have HOC := Lib.hid o3
  clear ho4 o3
  clear hv4
  go_wp2_with fail
  refine HALL.out.mono ?_
  rintro e w5 ⟨v5, rfl, ho5, hr5⟩
  obtain ⟨ra, rcap, rfl, e1, e2, e3⟩ := Sl.cells recC_length (Sl.of_owns hr5)
  have hoG := HO4.out.trans ho5
  have hoH := HOF.out.trans hoG
  have hmH := hoH.cell HM.out id
  have HO5 := Lib.hid ho5
  have HRC := Lib.hid e3
  have HOG := Lib.hid hoG
  have HOH := Lib.hid hoH
  have HMH := Lib.hid hmH
  clear ho5 e3 hoG hoH hmH
  unfold maxLen at e2 o2
  clear hr5 HALL HOWN
  go_wp2_with fail
  go_loopg [22, 23] L.length (fun g v22 v23 wr => ∃ j : Nat, v23 = .int .i64 j ∧ j ≤ L.length ∧ v22 = .int .i64 (((L.take j).filter (liveB k.life)).length : Nat) ∧ Only (fun _ => False) w5 wr ∧ g = L.length - j)
  case atStart => exact ⟨0, rfl, Nat.zero_le _, rfl, Only.refl _ _, rfl⟩
  case round =>
    obtain ⟨j, rfl, hj, rfl, hor, hg⟩ := hrel
    have Hg := Lib.hid hg
    have HOR := Lib.hid hor
    clear hg hor
    by_cases hlt : j < L.length
    · -- count
      obtain ⟨lb, loff, he, hc⟩ := HRC.out.at j hlt
      subst he
      have z1 := HOR.out.cell (hc 1 _ rfl) id
      have z4 := HOR.out.cell (hc 4 _ rfl) id
      have hver : L[j].ver < 2 ^ 64 := by
        have h1 := (HATZ.out.inv.recs _ (List.getElem_mem hlt)).2
        have h2 := HATZ.out.inv.last64
        omega
      have hts : ((L.take (j + 1)).filter (liveB k.life)).length = ((L.take j).filter (liveB k.life)).length + if liveB k.life L[j] then 1 else 0 := by
        rw [← List.take_append_getElem hlt, List.filter_append, List.length_append]
        congr 1
        cases h : liveB k.life L[j] <;> simp [h]
      have hle : ((L.take j).filter (liveB k.life)).length ≤ 48 := by
        have := List.length_filter_le (liveB k.life) (L.take j)
        rw [List.length_take] at this
        omega
      have HLF := Lib.hid (fun w' => life_any w' L[j].ver hver)
      have hlb : liveB k.life L[j] = (decide (L[j].ver / 2 ^ 32 = k.life) && !L[j].gone) := rfl
      rw [hlb] at hts
      generalize L[j].ver / 2 ^ 32 = q at *
      generalize L[j].ver % 2 ^ 32 = q2 at *
      generalize L[j].ver = v3 at *
      generalize L[j].gone = g3 at *
      generalize hcc : ((L.take j).filter (liveB k.life)).length = c at *
      have hlt' : (j : Int) < (L.length : Int) := by omega
      have HTS := Lib.hid hts
      clear hts
      clear hc hver hlb hcc
      go_wp2_with fail
      refine (HLF.out _).mono ?_
      rintro e w6 ⟨rfl, rfl⟩
      by_cases hqk : q = k.life
      · subst hqk
        cases g3 with
        | false =>
          go_wp2_with fail
          go_roundg (L.length - (j + 1))
          case measure => rw [Hg.out]; omega
          case rel => exact ⟨j + 1, by go_num, by omega, by rw [HTS.out]; simp, HOR.out, rfl⟩
        | true =>
          go_wp2_with fail
          go_roundg (L.length - (j + 1))
          case measure => rw [Hg.out]; omega
          case rel => exact ⟨j + 1, by go_num, by omega, by rw [HTS.out]; simp, HOR.out, rfl⟩
      · have hqi : ¬ (q : Int) = (k.life : Int) := by omega
        have HQK := Lib.hid hqk
        clear hqk
        go_wp2_with fail
        go_roundg (L.length - (j + 1))
        case measure => rw [Hg.out]; omega
        case rel => exact ⟨j + 1, by go_num, by omega, by rw [HTS.out, decide_eq_false HQK.out]; simp, HOR.out, rfl⟩
    · -- last
      have hjL : j = L.length := by omega
      subst hjL
      have hcount := HATZ.out.inv.count
      rw [List.take_length, hcount]
      clear hcount hlt
      go_wp2_with fail
      go_loopg [26] k.own.length (fun g v26 wr => ∃ j : Nat, v26 = .int .i64 j ∧ j ≤ k.own.length ∧ Only (fun _ => False) w5 wr ∧ g = k.own.length - j)
      case atStart => exact ⟨0, rfl, Nat.zero_le _, HOR.out, rfl⟩
      case round =>
        obtain ⟨j, rfl, hj, hor, hg⟩ := hrel
        have Hg2 := Lib.hid hg
        have HOR2 := Lib.hid hor
        clear hg hor
        by_cases hlt2 : j < k.own.length
        · -- own
          obtain ⟨lb, loff, he, hc⟩ := HOC.out.at j hlt2
          subst he
          have hmem := List.getElem_mem hlt2
          have hcr : ∀ i u, (svcCs k.own[j])[i]? = some u → wr.cell? ⟨lb, loff + j * 8 + i, none⟩ = some u := fun i u hu => HOR2.out.cell (HO5.out.cell (hc i u hu) id) id
          obtain ⟨r, hfil, hrv, hrk, hte, htv⟩ := HATZ.out.inv.named hmem
          have hst := HATZ.out.store.new (HOG.out.trans HOR2.out)
          have hmr := HOR2.out.cell HMH.out id
          have HNM := Lib.hid (snamed_any wr (N + 1) N 48 60000 0 L hst k.own[j].name m hmr)
          have hfe : L.filter (fun x => !unnamed k.own[j].name x) = [r] := hfil
          rw [hfe] at HNM
          generalize k.own[j] = y at *
          obtain ⟨n1, a0, a1, a2, a3, p1, q1, r1⟩ := y
          obtain ⟨k3, v3, o3, a4, g3, d3⟩ := r
          unfold svcT at htv
          simp only at htv hte hrv hrk HNM
          have y0 := hcr 0 _ rfl
          have y1 := hcr 1 _ rfl
          have y2 := hcr 2 _ rfl
          have y3 := hcr 3 _ rfl
          have y4 := hcr 4 _ rfl
          have y5 := hcr 5 _ rfl
          have y6 := hcr 6 _ rfl
          have y7 := hcr 7 _ rfl
          simp only [Nat.add_zero] at y0
          simp only at y0 y1 y2 y3 y4 y5 y6 y7
          have hlt2' : (j : Int) < (k.own.length : Int) := by omega
          clear hfil hfe hc hcr hst hmem
          have HTV := Lib.hid htv
          have HTE := Lib.hid hte
          clear htv hte
          go_wp2_with fail
          refine HNM.out.mono ?_
          rintro e w6 ⟨v6, rfl, ho6, hr6⟩
          obtain ⟨xa, xcap, rfl, f1, f2, f3⟩ := Sl.cells recC_length (Sl.of_owns hr6)
          obtain ⟨xb, xoff, rfl, hxc⟩ := f3.at 0 Nat.zero_lt_one
          have x0 := hxc 0 _ rfl
          have x1 := hxc 1 _ rfl
          have x2 := hxc 2 _ rfl
          have x3 := hxc 3 _ rfl
          have x4 := hxc 4 _ rfl
          have x5 := hxc 5 _ rfl
          simp only [Nat.zero_mul, Nat.add_zero, List.getElem_cons_zero] at x0 x1 x2 x3 x4 x5
          have HTELL := Lib.hid (tell_any w6 k3 v3 o3 a4 g3 d3 m (ho6.cell hmr id) hrv (by omega))
          rw [HTV.out, HTE.out] at HTELL
          have y0 := ho6.cell y0 id
          have y1 := ho6.cell y1 id
          have y2 := ho6.cell y2 id
          have y3 := ho6.cell y3 id
          have y4 := ho6.cell y4 id
          have y5 := ho6.cell y5 id
          have y6 := ho6.cell y6 id
          have y7 := ho6.cell y7 id
          have hoS := HOR2.out.trans ho6
          have HOS := Lib.hid hoS
          clear hoS
          clear hxc hr6 f3 ho6 HNM
          go_wp2_with fail
          refine HTELL.out.mono ?_
          rintro e w7 ⟨rfl, ho7⟩
          obtain ⟨V, hV⟩ : ∃ V, V = w7.alloc (.cells #[.string n1, .int .u8 a0, .int .u8 a1, .int .u8 a2, .int .u8 a3, .int .u16 p1, .int .u16 q1, .int .u16 r1] 86) := ⟨_, rfl⟩
          have hbV : V.heap[w7.heap.size]? = some (.cells #[.string n1, .int .u8 a0, .int .u8 a1, .int .u8 a2, .int .u8 a3, .int .u16 p1, .int .u16 q1, .int .u16 r1] 86 (0, 0)) := by rw [hV]; exact heap_alloc_new w7 _
          have hoV : Only (fun _ => False) w7 V := by rw [hV]; exact (Only.refl _ _).alloc _
          have hsV : V.heap.size = w7.heap.size + 1 := by rw [hV]; simp
          have z0 : V.cell? ⟨w7.heap.size, 0, none⟩ = some (.string n1) := cell_at hbV 0
          have z1 : V.cell? ⟨w7.heap.size, 1, none⟩ = some (.int .u8 a0) := cell_at hbV 1
          have z2 : V.cell? ⟨w7.heap.size, 2, none⟩ = some (.int .u8 a1) := cell_at hbV 2
          have z3 : V.cell? ⟨w7.heap.size, 3, none⟩ = some (.int .u8 a2) := cell_at hbV 3
          have z4 : V.cell? ⟨w7.heap.size, 4, none⟩ = some (.int .u8 a3) := cell_at hbV 4
          have z5 : V.cell? ⟨w7.heap.size, 5, none⟩ = some (.int .u16 p1) := cell_at hbV 5
          have z6 : V.cell? ⟨w7.heap.size, 6, none⟩ = some (.int .u16 q1) := cell_at hbV 6
          have z7 : V.cell? ⟨w7.heap.size, 7, none⟩ = some (.int .u16 r1) := cell_at hbV 7
          have ho7V := ho7.trans hoV
          have y0 := ho7V.cell y0 id
          have y1 := ho7V.cell y1 id
          have y2 := ho7V.cell y2 id
          have y3 := ho7V.cell y3 id
          have y4 := ho7V.cell y4 id
          have y5 := ho7V.cell y5 id
          have y6 := ho7V.cell y6 id
          have y7 := ho7V.cell y7 id
          have hoT := HOS.out.trans ho7V
          have hne := neS
          have HOT := Lib.hid hoT
          clear hoT
          clear x0 x1 x2 x3 x4 x5 ho7 hoV hbV hsV ho7V HTELL
          go_upto_region 51 with (fail)
          rw [← hV]
          clear hV
          go_quiet (fail)
          go_wp2_with fail
          go_roundg (k.own.length - (j + 1))
          case measure => rw [Hg2.out]; omega
          case rel => exact ⟨j + 1, by go_num, by omega, HOT.out.drewN _, rfl⟩
        · have hlt2' : ¬ (j : Int) < (k.own.length : Int) := by omega
          have hoX := HOH.out.trans HOR2.out
          have HOX := Lib.hid hoX
          clear hoX
          go_wp2_with fail
          go_ret
          exact ⟨rfl, HOX.out⟩
end Go.Proofs.YtianboachknfmaaDoor
/-! ServiceRises is true of every input: through any acts, in life behind life, what a keeper tells rises strictly, each record may be, and a store that is told all of them holds just the services that there are. No condition; the package variables that it names are tied to the text. -/
namespace Go.Proofs.YtianboachknfmaaDoor.svcRisesLaw
open Go.Conc Go.RowKit Go.ChangeShapes Go.WideShapes Go.ChangeAt Go.ChangeMaps

theorem cellsTuint8 : Tryd.prog.cellsOf 5 = 1 := by kernel_rfl
theorem reads : ∀ t ∈ Tryd.f11.params.toList, Tryd.prog.readableRec t = true ∧ t < Tryd.prog.types.size := by
  intro t ht
  have h1 : ([66, 130].all fun u => Tryd.prog.readableRec u && decide (u < Tryd.prog.types.size)) = true := by kernel_rfl
  rw [Tryd.params11] at ht
  have := List.all_eq_true.1 h1 t ht
  simpa using this
set_option maxRecDepth 100000 in
theorem lifted (os : Os) (started : os.Started) (H : Type) (enc : TypeId × Value → H) :
    ReturnsInHanded {} Tryd.checked os 11 .any (fun w args => (Rows.serviceRisesSpec.pre enc Tryd.prog Tryd.f11 Rows.serviceRisesRow.domain false w args ∧ laidMetH Tryd.prog Rows.serviceRisesRow.laid w) ∧ sizedMet enc Tryd.prog Tryd.f11 (OpenSpec.ofChange Rows.serviceRisesSpec) false w args)
      (Rows.serviceRisesSpec.post enc Tryd.prog Tryd.f11 false true false false) := by
  refine returns_laid (C := Tryd.checked) (X := fun w _ => laidMetH Tryd.prog Rows.serviceRisesRow.laid w) (fun _ _ _ hh h => h.of_heap hh) ownD started (by kernel_rfl) Tryd.func11
    (ChangeSpec.witness_shaped (enc := enc) (C := Tryd.checked) (os := os) (X := fun w _ => laidMetH Tryd.prog Rows.serviceRisesRow.laid w) false (World.laidAll Tryd.prog os Rows.serviceRisesRow.laid) #[.slice none 0 0, .slice none 0 0] 8 (World.laidAll_os _ _ _)
      (World.shaped_of_ZipB (by kernel_rfl) (by kernel_rfl)) (by kernel_rfl) (by kernel_rfl) (by kernel_rfl)
      (by rw [MakeChecks.laidMetH_plain _ _ _ (by kernel_rfl)]; exact laidMet_laidAll _ (by kernel_rfl) (by kernel_rfl))) ?_
  intro W base args ds gs before hval0 hW _ hsh
  have hval : ∀ (j : Nat) t v, Tryd.f11.params[j]? = some t → args[j]? = some v → Value.okWide Tryd.prog W .any base t v := hval0
  have hW' := hW
  obtain ⟨m0, hm0⟩ := maxLen_cell W hsh
  obtain ⟨p, q, hA0, hV, rfl, _, _⟩ := hW
  have hA : DataW.TrodAll enc Tryd.prog W 0 (fun _ => true) true Tryd.f11.params.toList args.toList ds p := hA0
  rw [Tryd.params11] at hA hval
  obtain ⟨v0, vs0, d0, ds0, p0, q0, hargs, rfl, rfl, h0, r0⟩ := trodAll_cons hA
  obtain ⟨v1, vs1, d1, ds1, p1, q1, rfl, rfl, rfl, h1, r1⟩ := trodAll_cons r0
  obtain ⟨rfl, rfl, rfl⟩ := trodAll_nil r1
  obtain rfl : args = #[v0, v1] := by cases args; simp_all
  obtain ⟨x0, s0, b0⟩ := sl_acts26 (hval 0 66 v0 rfl rfl) h0
  obtain ⟨x1, s1, b1⟩ := sl_ints Tryd.underlying130 Tryd.underlying5 cellsTuint8 (hval 1 130 v1 rfl rfl) h1
  obtain ⟨rfl, rfl⟩ := trodVars_none hV
  refine (rises26_any W m0 hm0 v0 x0 v1 x1 s0 b0 s1 b1).mono fun e W' ⟨he, ho⟩ => ?_
  subst he
  exact ⟨_, rfl, law_post hW' (ho.below (Nat.le_refl _) (fun _ _ => id)) laidOutD reads rfl Tryd.underlying4 rfl rfl rfl rfl⟩

theorem said : Rows.ServiceRisesSaid :=
  OpenClaim.holds_of_wide 11 Tryd.f11 rfl rfl rfl rfl rfl rfl rfl ⟨rfl, rfl, rfl, rfl, rfl⟩ rfl rfl rfl rfl rfl (by kernel_rfl) Tryd.func11 (by kernel_rfl)
    (of_decide_eq_true (by kernel_rfl)) (by unfold Func.isWrapper; first | (rw [if_pos (by decide +kernel)]; kernel_rfl) | (rw [if_neg (by decide +kernel)]; exact ⟨rfl, rfl⟩))
    (fun os started H enc _ => lifted os started H enc)
theorem looks (f : FuncId) (fn : Func) (hf : Tryd.pinned.checked.prog.funcNamed "bellhop/bellhoplaw26.ServiceRises" = some f) (hfn : Tryd.pinned.checked.prog.funcs[f]? = some fn) :
    true = Tryd.pinned.checked.prog.looks [] ∧ ∀ (j : Nat) t, fn.params[j]? = some t → Tryd.pinned.checked.prog.wantsStandIn t = false := by
  obtain rfl : f = 11 := Option.some.inj ((show Tryd.prog.funcNamed "bellhop/bellhoplaw26.ServiceRises" = some 11 by kernel_rfl).symm.trans hf) |>.symm
  obtain rfl : fn = Tryd.f11 := (Option.some.inj (Tryd.func11.symm.trans hfn)).symm
  refine ⟨by kernel_rfl, fun j t ht => ?_⟩
  rw [Tryd.params11] at ht
  have hm : t ∈ [66, 130] := by simpa using Array.mem_of_getElem? ht
  have hall : ([66, 130].all fun u => !Tryd.prog.wantsStandIn u) = true := by kernel_rfl
  exact (show Tryd.prog.wantsStandIn t = false by simpa using List.all_eq_true.1 hall t hm)
theorem card : Rows.ServiceRisesCardSaid :=
  Claim7.holds_tied_plain_at .later [] _ _ _ _ said (fun _ h => by cases h) (by kernel_rfl) (fun _ h => by cases h) serviceRises_row_tie rfl ⟨rfl, rfl⟩ (by kernel_rfl) rfl looks (by kernel_rfl)
#print axioms card
end Go.Proofs.YtianboachknfmaaDoor.svcRisesLaw
