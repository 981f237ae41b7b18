/- name.Read: the labels lie in a row of the call's own. -/
import Derived.Test.YtbdfijgejkimnaaGreatDoorNL
import Derived.Test.YtbdfijgejkimnaaGreatDoorNC
import Derived.Test.YtbdfijgejkimnaaGreatDoorNB
import Derived.Test.YtbdfijgejkimnaaGreatDoorNJ
import Derived.Deep.RegionHeld3
/-! reply.Build. -/
namespace Go.Proofs.YtbdfijgejkimnaaGreatDoor
open Go.Conc Go.RowKit

theorem fitN_le (q : QT) (L : List RR) (k : Nat) : fitN q (L.take k) ≤ k := by
  have := fits_le (L.take k) (12 + (askB q).length)
  rw [List.length_take] at this
  unfold fitN
  omega
theorem bodyB_at (q : QT) (L : List RR) (k : Nat) : bodyB q (L.take k) = askB q ++ rrsB (L.take (fitN q (L.take k))) := by
  have h := fitN_le q L k
  unfold bodyB
  rw [List.take_take, Nat.min_eq_left h]
theorem body_cut {q : QT} {L : List RR} {k : Nat} (hk : k < L.length) (h : fitN q (L.take k) < k) : fitN q (L.take (k + 1)) = fitN q (L.take k) ∧ bodyB q (L.take (k + 1)) = bodyB q (L.take k) := by
  have e := fit_step q L k hk
  rw [if_pos h] at e
  rw [bodyB_at, bodyB_at, e]
  exact ⟨rfl, rfl⟩
theorem body_full {q : QT} {L : List RR} {k : Nat} (hk : k < L.length) (h : ¬ fitN q (L.take k) < k) (hb : 512 < 12 + (bodyB q (L.take k)).length + (rrB L[k]).length) : fitN q (L.take (k + 1)) = fitN q (L.take k) ∧ bodyB q (L.take (k + 1)) = bodyB q (L.take k) := by
  have hn : fitN q (L.take k) = k := by have := fitN_le q L k; omega
  have e := fit_step q L k hk
  rw [bodyB_at, hn] at hb
  rw [if_neg h, if_pos hb] at e
  rw [bodyB_at, bodyB_at, e, hn]
  exact ⟨rfl, rfl⟩
theorem body_more {q : QT} {L : List RR} {k : Nat} (hk : k < L.length) (h : ¬ fitN q (L.take k) < k) (hb : ¬ 512 < 12 + (bodyB q (L.take k)).length + (rrB L[k]).length) : fitN q (L.take (k + 1)) = fitN q (L.take k) + 1 ∧ bodyB q (L.take (k + 1)) = bodyB q (L.take k) ++ rrB L[k] := by
  have hn : fitN q (L.take k) = k := by have := fitN_le q L k; omega
  have e := fit_step q L k hk
  rw [bodyB_at, hn] at hb
  rw [if_neg h, if_neg hb] at e
  rw [bodyB_at, bodyB_at, e, hn, List.take_succ_eq_append_getElem hk, rrsB_snoc, List.append_assoc]
  exact ⟨rfl, rfl⟩
theorem rrB_max {x : RR} (h : RROk x) : (rrB x).length ≤ 300 := by
  have := rdata_len h
  rw [rrB_len]
  omega
def RowsOk (w : World) (E : List RRv) : Prop := ∀ x ∈ E, RROk x.r ∧ Sl w 1 x.v x.r.tgt.length (x.r.tgt.map .string)
theorem RowsOk.new {w w' : World} {E : List RRv} (h : RowsOk w E) (ho : Only (fun _ => False) w w') : RowsOk w' E := fun x hx => ⟨(h x hx).1, (h x hx).2.new ho⟩
set_option maxRecDepth 100000 in
set_option maxHeartbeats 4000000 in
theorem build_any (w : World) (h : HeadT) (nv v : Value) (q : QT) (code : Nat) (E : List RRv) (ok : QTOk q) (hid : h.id = q.id) (hop : h.op = q.op) (hde : h.des = q.des) (hc : code ≤ 15)
    (hnv : Sl w 1 nv q.name.length (q.name.map .string)) (hv : Sl w 10 v E.length (E.flatMap rrC)) (hE : RowsOk w E) (hl : E.length ≤ 1000) (hae : q.asked = true ∨ E = []) :
    Calls Tryz.prog 28 #[.agg (qC h q.asked nv q.typ q.cls).toArray, .int .i64 code, v] w fun e w' => e = .returned (.tuple #[.string ⟨(repB q code (E.map (·.r))).toArray⟩, .int .i64 0]) ∧ Only (fun _ => False) w w' := by
  obtain ⟨_, na, nc, hnv', _⟩ := id hnv
  subst hnv'
  obtain ⟨sa, cap, rfl, q1, q2, q3⟩ := Sl.cells rrC_length hv
  unfold maxLen at q2
  have hQ := fun (W : World) (ho : Only (fun _ => False) w W) => rquest_any W h _ q ok (hnv.new ho)
  have hfit := fun k (hk : k < (E.map (·.r)).length) => fit_step q (E.map (·.r)) k hk
  have hal := askB_len ok
  have hasz := fun k => bodyB_len ok ((E.map (·.r)).take k)
  have hRB : repB q code (E.map (·.r)) = headB (repH q code (fitN q (E.map (·.r))) (decide (fitN q (E.map (·.r)) < E.length))) ++ (askB q ++ rrsB ((E.map (·.r)).take (fitN q (E.map (·.r))))) := by
    unfold repB bodyB
    rw [List.length_map]
  have hHE := fun (W : World) (n : Nat) (cut : Bool) (hn : n < 65536) => henc_any W (repH q code n cut) (repH_ok ok hc hn cut)
  have c1 : decide ((code : Int) < 0) = false := by simp
  have c2 : decide ((15 : Int) < (code : Int)) = false := by simp; omega
  have c3 : decide ((15 : Int) < (h.op : Int)) = false := by have := ok.op; simp; omega
  have hok := ok.op
  have HHID := Lib.hid hid
  have HHOP := Lib.hid hop
  have HHDE := Lib.hid hde
  clear hid hop hde
  go_enter Tryz.func28, Tryz.ntmps28
  obtain ⟨W, hW⟩ : ∃ W, W = w.alloc (.cells (qC h q.asked (.slice na q.name.length nc) q.typ q.cls).toArray 55) := ⟨_, rfl⟩
  have hbW : W.heap[w.heap.size]? = some (.cells (qC h q.asked (.slice na q.name.length nc) q.typ q.cls).toArray 55 (0, 0)) := by rw [hW]; exact heap_alloc_new w _
  have hoW : Only (fun _ => False) w W := by rw [hW]; exact (Only.refl _ _).alloc _
  have hsW : W.heap.size = w.heap.size + 1 := by rw [hW]; simp
  have x2 : W.cell? ⟨w.heap.size, 2, none⟩ = some (.int .u8 h.op) := (cell_at hbW 2).trans rfl
  have x13 : W.cell? ⟨w.heap.size, 13, none⟩ = some (.bool q.asked) := (cell_at hbW 13).trans rfl
  have HO := Lib.hid hoW
  have HBW := Lib.hid hbW
  have HSW := Lib.hid hsW
  have HQ := Lib.hid hQ
  have HFIT := Lib.hid hfit
  have HAL := Lib.hid hal
  have HASZ := Lib.hid hasz
  have HHE := Lib.hid hHE
  have HC := Lib.hid q3
  have HE := Lib.hid hE
  have HV := Lib.hid hv
  have HNV := Lib.hid hnv
  have HRB := Lib.hid hRB
  clear hoW hbW hsW hQ hfit hal hasz hHE q3 hE hv hnv hRB
  go_upto_region 1 with (fail)
  rw [← hW]
  clear hW
  go_upto_region 3 with (fail)
  have HAS := Lib.hid hae
  obtain ⟨ask, hask⟩ : ∃ ask, ask = q.asked := ⟨_, rfl⟩
  rw [← hask] at x13
  have HASK := Lib.hid hask
  clear hae hask
  go_cut [30] (fun v30 wx => v30 = .bool false ∧ W = wx)
  case first =>
    cases ask with
    | true =>
      go_wp2_with fail
      go_meet
      exact ⟨rfl, rfl⟩
    | false =>
      have he : E = [] := HAS.out.resolve_left (by rw [← HASK.out]; simp)
      have hl0 : decide ((0 : Int) < (E.length : Int)) = false := by rw [he]; rfl
      have hl1 : decide (0 < E.length) = false := by rw [he]; rfl
      clear he
      go_wp2_with fail
      go_meet
      exact ⟨rfl, rfl⟩
  case rest =>
  obtain ⟨rfl, rfl⟩ := hcut
  clear x2 x13
  go_upto_region 5 with (fail)
  go_upto_region 6 with (first
    | ((with_reducible refine wpList_load_row (o := ⟨some 40, .load 55 (.tmp 3), _, _, _, none⟩) rfl _ _ rfl (w.heap.size) ?_ 55 _ (0, 0) _ HBW.out Tryz.underlying55 ?_ (infoQq _ _ _ _ _) ?_); (· rfl); (· rfl))
    | ((with_reducible refine (HQ.out W HO.out).mono ?_); rintro e w1 ⟨rfl, ho1⟩))
  have HO1 := Lib.hid ho1
  clear ho1
  go_upto_region 9 with (fail)
  obtain ⟨L, hL⟩ : ∃ L, L = E.map (·.r) := ⟨_, rfl⟩
  have hLl : L.length = E.length := by rw [hL, List.length_map]
  have HL := Lib.hid hL
  have HLL := Lib.hid hLl
  clear hL hLl
  go_wp2_with fail
  go_loopg [8, 10, 11, 49] E.length (fun g v8 v10 v11 v49 wx => ∃ k : Nat, v49 = .int .i64 k ∧ k ≤ E.length ∧ v8 = .string ⟨(bodyB q (L.take k)).toArray⟩ ∧ v10 = .int .i64 (fitN q (L.take k)) ∧ v11 = .bool (decide (fitN q (L.take k) < k)) ∧ Only (fun _ => False) W wx ∧ g = E.length - k)
  case atStart => exact ⟨0, rfl, Nat.zero_le _, by simp [bodyB, fitN, fits, rrsB], rfl, rfl, HO1.out, rfl⟩
  case round =>
    obtain ⟨k, rfl, hk, rfl, rfl, rfl, ho, hg⟩ := hrel
    have Hg := Lib.hid hg
    clear hg
    by_cases hlt : k < E.length
    · have hlt' : (k : Int) < (E.length : Int) := by omega
      obtain ⟨lb, off, rfl, hc⟩ := HC.out.at k hlt
      have hlt2 : k < L.length := by have := HLL.out; omega
      have hLk : L[k] = E[k].r := by have := HL.out; subst this; simp
      obtain ⟨hok, hsl⟩ := HE.out _ (List.getElem_mem hlt)
      have hcr : ∀ i u, (rrC E[k])[i]? = some u → wr.cell? ⟨lb, off + k * 10 + i, none⟩ = some u := fun i u hu => (HO.out.trans ho).cell (hc i u hu) id
      have hb1 := @body_cut q L k hlt2
      have hb2 := @body_full q L k hlt2
      have hb3 := @body_more q L k hlt2
      have hmx := rrB_max hok
      rw [hLk] at hb2 hb3
      generalize E[k] = x at *
      have hRBY := fun (W' : World) (h' : Only (fun _ => False) w W') => rbytes_any W' x hok (hsl.new h')
      obtain ⟨_, tva, tvc, htv, _⟩ := id hsl
      have hbl := HASZ.out k
      obtain ⟨rx, xv⟩ := x
      dsimp only at htv hmx hb2 hb3 hok
      subst htv
      generalize rrB rx = SB at *
      obtain ⟨typ, ttl, ⟨a0, a1, a2, a3⟩, pr, wt, po, tgt⟩ := rx
      unfold rrC at hcr hRBY
      dsimp only at hcr hRBY
      have y0 := hcr 0 _ rfl
      have y1 := hcr 1 _ rfl
      have y2 := hcr 2 _ rfl
      have y3 := hcr 3 _ rfl
      have y4 := hcr 4 _ rfl
      have y5 := hcr 5 _ rfl
      have y6 := hcr 6 _ rfl
      have y7 := hcr 7 _ rfl
      have y8 := hcr 8 _ rfl
      have y9 := hcr 9 _ rfl
      simp only [Nat.add_zero] at y0
      rw [← HL.out] at hbl
      generalize bodyB q (L.take k) = BB at *
      have HN := Lib.hid (fitN_le q L k)
      generalize fitN q (L.take k) = n at *
      have HOR := Lib.hid ho
      have HB1 := Lib.hid hb1
      have HB2 := Lib.hid hb2
      have HB3 := Lib.hid hb3
      have HRBY := Lib.hid hRBY
      have HBL := Lib.hid hbl
      have HMX := Lib.hid hmx
      have HOK := Lib.hid hok
      have HSL := Lib.hid hsl
      have HLK := Lib.hid hLk
      clear ho hb1 hb2 hb3 hRBY hbl hmx hok hsl hLk
      clear hc hcr
      obtain ⟨W8, hW8⟩ : ∃ W8, W8 = wr.alloc (.cells #[.int .u16 typ, .int .u32 ttl, .int .u8 a0, .int .u8 a1, .int .u8 a2, .int .u8 a3, .int .u16 pr, .int .u16 wt, .int .u16 po, .slice tva tgt.length tvc] 46) := ⟨_, rfl⟩
      have hbW8 : W8.heap[wr.heap.size]? = some (.cells #[.int .u16 typ, .int .u32 ttl, .int .u8 a0, .int .u8 a1, .int .u8 a2, .int .u8 a3, .int .u16 pr, .int .u16 wt, .int .u16 po, .slice tva tgt.length tvc] 46 (0, 0)) := by rw [hW8]; exact heap_alloc_new wr _
      have hoW8 : Only (fun _ => False) wr W8 := by rw [hW8]; exact (Only.refl _ _).alloc _
      have hsW8 : W8.heap.size = wr.heap.size + 1 := by rw [hW8]; simp
      have x0 : W8.cell? ⟨wr.heap.size, 0, none⟩ = some (.int .u16 typ) := cell_at hbW8 0
      have x1 : W8.cell? ⟨wr.heap.size, 1, none⟩ = some (.int .u32 ttl) := cell_at hbW8 1
      have x2 : W8.cell? ⟨wr.heap.size, 2, none⟩ = some (.int .u8 a0) := cell_at hbW8 2
      have x3 : W8.cell? ⟨wr.heap.size, 3, none⟩ = some (.int .u8 a1) := cell_at hbW8 3
      have x4 : W8.cell? ⟨wr.heap.size, 4, none⟩ = some (.int .u8 a2) := cell_at hbW8 4
      have x5 : W8.cell? ⟨wr.heap.size, 5, none⟩ = some (.int .u8 a3) := cell_at hbW8 5
      have x6 : W8.cell? ⟨wr.heap.size, 6, none⟩ = some (.int .u16 pr) := cell_at hbW8 6
      have x7 : W8.cell? ⟨wr.heap.size, 7, none⟩ = some (.int .u16 wt) := cell_at hbW8 7
      have x8 : W8.cell? ⟨wr.heap.size, 8, none⟩ = some (.int .u16 po) := cell_at hbW8 8
      have x9 : W8.cell? ⟨wr.heap.size, 9, none⟩ = some (.slice tva tgt.length tvc) := cell_at hbW8 9
      have HBW8 := Lib.hid hbW8
      have HOW8 := Lib.hid hoW8
      have HSW8 := Lib.hid hsW8
      clear hbW8 hoW8 hsW8
      go_upto_region 12 with (fail)
      rw [← hW8]
      clear hW8 y0 y1 y2 y3 y4 y5 y6 y7 y8 y9
      go_wp2_with fail
      refine (HRBY.out W8 ((HO.out.trans HOR.out).trans HOW8.out)).mono ?_
      rintro e w9 ⟨rfl, ho9⟩
      have HO9 := Lib.hid ((HOR.out.trans HOW8.out).trans ho9)
      clear ho9 x0 x1 x2 x3 x4 x5 x6 x7 x8 x9
      have hBs : (⟨BB.toArray⟩ : ByteArray).size = BB.length := by simp [ByteArray.size]
      have hSs : (⟨SB.toArray⟩ : ByteArray).size = SB.length := by simp [ByteArray.size]
      have happ : (⟨BB.toArray⟩ ++ ⟨SB.toArray⟩ : ByteArray) = ⟨(BB ++ SB).toArray⟩ := by apply str_ext; simp [ByteArray.data_append]
      obtain ⟨BS, hBS⟩ : ∃ BS : ByteArray, BS = ⟨BB.toArray⟩ := ⟨_, rfl⟩
      obtain ⟨SS, hSS⟩ : ∃ SS : ByteArray, SS = ⟨SB.toArray⟩ := ⟨_, rfl⟩
      rw [← hBS] at hBs happ ⊢
      rw [← hSS] at hSs happ ⊢
      have hB1 : BS.size ≤ 500 := by have := HBL.out; omega
      have hS1 : SS.size ≤ 300 := by have := HMX.out; omega
      have hn1 : n ≤ 100000 := by have := HN.out; omega
      have HBS := Lib.hid hBs
      have HSS := Lib.hid hSs
      have HAPP := Lib.hid happ
      have HBE := Lib.hid hBS
      have HSE := Lib.hid hSS
      clear hBs hSs happ hBS hSS
      by_cases hcut : n < k
      · rw [decide_eq_true hcut]
        have HX := Lib.hid (HB1.out hcut)
        have HCU := Lib.hid (show decide (n < k + 1) = true by simp; omega)
        clear hcut
        go_wp2_with fail
        go_roundg (E.length - (k + 1))
        case measure => rw [Hg.out]; omega
        case rel => exact ⟨k + 1, by go_num, by omega, by rw [HX.out.2, HBE.out], by rw [HX.out.1], by rw [HX.out.1, HCU.out], HO9.out, rfl⟩
      · rw [decide_eq_false hcut]
        by_cases hbig : 512 < 12 + BB.length + SB.length
        · have HX := Lib.hid (HB2.out hcut hbig)
          have HCU := Lib.hid (show decide (n < k + 1) = true by have := HN.out; simp; omega)
          have c5 : decide ((512 : Int) < 12 + (BS.size : Int) + (SS.size : Int)) = true := by have h1 := HBS.out; have h2 := HSS.out; simp; omega
          clear hcut hbig
          go_wp2_with fail
          go_roundg (E.length - (k + 1))
          case measure => rw [Hg.out]; omega
          case rel => exact ⟨k + 1, by go_num, by omega, by rw [HX.out.2, HBE.out], by rw [HX.out.1], by rw [HX.out.1, HCU.out], HO9.out, rfl⟩
        · have HX := Lib.hid (HB3.out hcut hbig)
          have HCU := Lib.hid (show decide (n + 1 < k + 1) = false by simp; omega)
          have c5 : decide ((512 : Int) < 12 + (BS.size : Int) + (SS.size : Int)) = false := by have h1 := HBS.out; have h2 := HSS.out; simp; omega
          clear hcut hbig
          go_wp2_with fail
          go_roundg (E.length - (k + 1))
          case measure => rw [Hg.out]; omega
          case rel => exact ⟨k + 1, by go_num, by omega, by rw [HX.out.2, HAPP.out], by rw [HX.out.1]; go_num, by rw [HX.out.1, HCU.out], HO9.out, rfl⟩
    · have hke : k = E.length := by omega
      have hlt' : ¬ (k : Int) < (E.length : Int) := by omega
      have hTK : L.take k = L := List.take_of_length_le (by have := HLL.out; omega)
      rw [hTK]
      have hnl : fitN q L ≤ k := by have := fitN_le q L k; rwa [hTK] at this
      have hbl := HASZ.out E.length
      rw [← HL.out, ← hke, hTK] at hbl
      have hrb := HRB.out
      rw [← HL.out, ← hke] at hrb
      have hbd : askB q ++ rrsB (L.take (fitN q L)) = bodyB q L := rfl
      rw [hbd] at hrb
      have hrw := HRB.out
      generalize bodyB q L = BB at *
      generalize fitN q L = n at *
      obtain ⟨CB, hCB⟩ : ∃ CB, CB = decide (n < k) := ⟨_, rfl⟩
      rw [← hCB] at hrb ⊢
      have hEn := fun (W' : World) => HHE.out W' n CB (by omega)
      obtain ⟨HS, hHS⟩ : ∃ HS : ByteArray, HS = ⟨(headB (repH q code n CB)).toArray⟩ := ⟨_, rfl⟩
      rw [← hHS] at hEn
      have hHz : HS.size = 12 := by rw [hHS]; rfl
      obtain ⟨BS, hBS⟩ : ∃ BS : ByteArray, BS = ⟨BB.toArray⟩ := ⟨_, rfl⟩
      have hBz : BS.size ≤ 500 := by rw [hBS]; show BB.length ≤ 500; omega
      have hap : HS ++ BS = ⟨(headB (repH q code n CB) ++ BB).toArray⟩ := by rw [hHS, hBS]; apply str_ext; simp [ByteArray.data_append]
      rw [← hBS]
      have hbq := ho.old HBW.out id
      have y0 : wr.cell? ⟨w.heap.size, 0, none⟩ = some (.int .u16 h.id) := (cell_at hbq 0).trans rfl
      have y2 : wr.cell? ⟨w.heap.size, 2, none⟩ = some (.int .u8 h.op) := (cell_at hbq 2).trans rfl
      have y5 : wr.cell? ⟨w.heap.size, 5, none⟩ = some (.bool h.des) := (cell_at hbq 5).trans rfl
      have y13 : wr.cell? ⟨w.heap.size, 13, none⟩ = some (.bool q.asked) := (cell_at hbq 13).trans rfl
      have HCC := Lib.hid (show ∀ w', Only (fun _ => False) wr w' → w'.cell? ⟨w.heap.size, 0, none⟩ = some (.int .u16 h.id) ∧ w'.cell? ⟨w.heap.size, 2, none⟩ = some (.int .u8 h.op) ∧ w'.cell? ⟨w.heap.size, 5, none⟩ = some (.bool h.des) ∧ w'.cell? ⟨w.heap.size, 13, none⟩ = some (.bool q.asked) from
        fun w' ho => ⟨ho.cell y0 id, ho.cell y2 id, ho.cell y5 id, ho.cell y13 id⟩)
      have HRBB := Lib.hid hrb
      have HAPP := Lib.hid hap
      have hn6 : n < 65536 := by omega
      have hco : (code : Int) ≤ 15 := by omega
      have hw8 : IntKind.u8.wrap (code : Int) = code := by show (code : Int) % 256 = code; omega
      have hw16 : IntKind.u16.wrap (n : Int) = n := by show (n : Int) % 65536 = n; omega
      unfold headC repH at hEn
      dsimp only at hEn
      rw [← HHID.out, ← HHOP.out, ← HHDE.out] at hEn
      have HOR := Lib.hid ho
      clear ho hrb hap hCB hHS hBS hbq y0 y2 y5 y13 hrw hbd hbl hnl hke hTK hlt c1 c2 c3
      go_upto_region 20 with (fail)
      by_cases hcase : code = 0
      · have e0 : ((code : Int) == 0) = true := by simp; exact hcase
        have hau : decide (code = 0 ∨ code = 3) = true := by simp; exact .inl hcase
        have HEN := Lib.hid (fun W' : World => by have := hEn W'; rw [hau] at this; exact this : ∀ W' : World, Calls Tryz.prog 46 #[.agg #[.int .u16 h.id, .bool true, .int .u8 h.op, .bool true, .bool CB, .bool h.des, .bool false, .int .u8 0, .int .u8 code, .int .u16 q.asked.toNat, .int .u16 n, .int .u16 0, .int .u16 0]] W' fun e w2 => e = .returned (.tuple #[.string HS, .int .i64 0]) ∧ Only (fun _ => False) W' w2)
        clear hEn hcase
        refine wp_region_held_drew (S := fun w' => Only (fun _ => False) wr w' ∧ w'.cell? ⟨w.heap.size, 0, none⟩ = some (.int .u16 h.id) ∧ w'.cell? ⟨w.heap.size, 2, none⟩ = some (.int .u8 h.op) ∧ w'.cell? ⟨w.heap.size, 5, none⟩ = some (.bool h.des) ∧ w'.cell? ⟨w.heap.size, 13, none⟩ = some (.bool q.asked)) (by kernel_rfl) (by (refine heldO HCC.out ?_; (repeat (first | (with_reducible assumption) | (with_reducible exact Only.refl _ _) | (with_reducible refine Only.drew ?_) | (with_reducible refine Only.alloc ?_ _) | (with_reducible refine onlySet ?_ (by first | (with_reducible assumption) | omega) _) | (with_reducible refine Only.trans ?_ (by with_reducible assumption)))))) (fun hHeld => ?_)
        refine wpAnyH_takeD (d := some 80) (i := 0) (oi := _) (v := ?av1) rfl (by kernel_rfl) (by kernel_rfl) (by kernel_rfl) (by kernel_rfl) (fun _ _ _ h => h) (Or.inl ⟨by rfl, ?ahy1⟩) hHeld ?arest1
        case ahy1 =>
          intro w hSw
          try dsimp only at hSw
          go_simp
          try with_reducible rfl
        refine wpAnyH_act (a' := ?ana1) ?ane1 ?anr1
        case ane1 =>
          try simp [Act.put]
          try rfl
        refine wpAnyH_takeD (d := some 81) (i := 1) (oi := _) (v := ?av2) rfl (by kernel_rfl) (by kernel_rfl) (by kernel_rfl) (by kernel_rfl) (fun _ _ _ h => h) (Or.inl ⟨by rfl, ?ahy2⟩) hHeld ?arest2
        case ahy2 =>
          intro w hSw
          try dsimp only at hSw
          go_simp
          try with_reducible rfl
        refine wpAnyH_act (a' := ?ana2) ?ane2 ?anr2
        case ane2 =>
          try simp [Act.put]
          try rfl
        refine wpAnyH_takeD (d := some 82) (i := 2) (oi := _) (v := ?av3) rfl (by kernel_rfl) (by kernel_rfl) (by kernel_rfl) (by kernel_rfl) (fun _ _ _ h => h) (Or.inl ⟨by rfl, ?ahy3⟩) hHeld ?arest3
        case ahy3 =>
          intro w hSw
          try dsimp only at hSw
          go_simp
          try with_reducible rfl
        refine wpAnyH_act (a' := ?ana3) ?ane3 ?anr3
        case ane3 =>
          try simp [Act.put]
          try rfl
        refine wpAnyH_takeD (d := some 83) (i := 3) (oi := _) (v := ?av4) rfl (by kernel_rfl) (by kernel_rfl) (by kernel_rfl) (by kernel_rfl) (fun _ _ _ h => h) (Or.inl ⟨by rfl, ?ahy4⟩) hHeld ?arest4
        case ahy4 =>
          intro w hSw
          try dsimp only at hSw
          go_simp
          try with_reducible rfl
        refine wpAnyH_act (a' := ?ana4) ?ane4 ?anr4
        case ane4 =>
          try simp [Act.put]
          try rfl
        refine wpAnyH_takeD (d := some 84) (i := 4) (oi := _) (v := ?av5) rfl (by kernel_rfl) (by kernel_rfl) (by kernel_rfl) (by kernel_rfl) (fun _ _ _ h => h) (Or.inl ⟨by rfl, ?ahy5⟩) hHeld ?arest5
        case ahy5 =>
          intro w hSw
          try dsimp only at hSw
          go_simp
          try with_reducible rfl
        refine wpAnyH_act (a' := ?ana5) ?ane5 ?anr5
        case ane5 =>
          try simp [Act.put]
          try rfl
        refine wpAnyH_takeD (d := some 85) (i := 5) (oi := _) (v := ?av6) rfl (by kernel_rfl) (by kernel_rfl) (by kernel_rfl) (by kernel_rfl) (fun _ _ _ h => h) (Or.inl ⟨by rfl, ?ahy6⟩) hHeld ?arest6
        case ahy6 =>
          intro w hSw
          try dsimp only at hSw
          go_simp
          try with_reducible rfl
        refine wpAnyH_act (a' := ?ana6) ?ane6 ?anr6
        case ane6 =>
          try simp [Act.put]
          try rfl
        refine wpAnyH_takeD (d := some 86) (i := 6) (oi := _) (v := ?av7) rfl (by kernel_rfl) (by kernel_rfl) (by kernel_rfl) (by kernel_rfl) (fun _ _ _ h => h) (Or.inl ⟨by rfl, ?ahy7⟩) hHeld ?arest7
        case ahy7 =>
          intro w hSw
          try dsimp only at hSw
          go_simp
          try with_reducible rfl
        refine wpAnyH_act (a' := ?ana7) ?ane7 ?anr7
        case ane7 =>
          try simp [Act.put]
          try rfl
        refine wpAnyH_takeD (d := some 87) (i := 7) (oi := _) (v := ?av8) rfl (by kernel_rfl) (by kernel_rfl) (by kernel_rfl) (by kernel_rfl) (fun _ _ _ h => h) (Or.inl ⟨by rfl, ?ahy8⟩) hHeld ?arest8
        case ahy8 =>
          intro w hSw
          try dsimp only at hSw
          go_simp
          try with_reducible rfl
        refine wpAnyH_act (a' := ?ana8) ?ane8 ?anr8
        case ane8 =>
          try simp [Act.put]
          try rfl
        refine wpAnyH_takeD (d := some 88) (i := 8) (oi := _) (v := ?av9) rfl (by kernel_rfl) (by kernel_rfl) (by kernel_rfl) (by kernel_rfl) (fun _ _ _ h => h) (Or.inl ⟨by rfl, ?ahy9⟩) hHeld ?arest9
        case ahy9 =>
          intro w hSw
          try dsimp only at hSw
          go_simp
          try with_reducible rfl
        refine wpAnyH_act (a' := ?ana9) ?ane9 ?anr9
        case ane9 =>
          try simp [Act.put]
          try rfl
        refine wpAnyH_takeD (d := some 89) (i := 9) (oi := _) (v := ?av10) rfl (by kernel_rfl) (by kernel_rfl) (by kernel_rfl) (by kernel_rfl) (fun _ _ _ h => h) (Or.inl ⟨by rfl, ?ahy10⟩) hHeld ?arest10
        case ahy10 =>
          intro w hSw
          try dsimp only at hSw
          go_simp
          try with_reducible rfl
        refine wpAnyH_act (a' := ?ana10) ?ane10 ?anr10
        case ane10 =>
          try simp [Act.put]
          try rfl
        refine wpAnyH_takeD (d := some 90) (i := 10) (oi := _) (v := ?av11) rfl (by kernel_rfl) (by kernel_rfl) (by kernel_rfl) (by kernel_rfl) (fun _ _ _ h => h) (Or.inl ⟨by rfl, ?ahy11⟩) hHeld ?arest11
        case ahy11 =>
          intro w hSw
          try dsimp only at hSw
          go_simp
          try with_reducible rfl
        refine wpAnyH_act (a' := ?ana11) ?ane11 ?anr11
        case ane11 =>
          try simp [Act.put]
          try rfl
        refine wpAnyH_takeD (d := some 91) (i := 11) (oi := _) (v := ?av12) rfl (by kernel_rfl) (by kernel_rfl) (by kernel_rfl) (by kernel_rfl) (fun _ _ _ h => h) (Or.inl ⟨by rfl, ?ahy12⟩) hHeld ?arest12
        case ahy12 =>
          intro w hSw
          try dsimp only at hSw
          go_simp
          try with_reducible rfl
        refine wpAnyH_act (a' := ?ana12) ?ane12 ?anr12
        case ane12 =>
          try simp [Act.put]
          try rfl
        refine wpAnyH_takeD (d := some 92) (i := 12) (oi := _) (v := undef) rfl (by kernel_rfl) (by kernel_rfl) (by kernel_rfl) (by kernel_rfl) (fun _ _ _ h => h) (Or.inr ⟨by rfl, rfl⟩) hHeld ?arest13
        refine wpAnyH_act (a' := ?ana13) ?ane13 ?anr13
        case ane13 =>
          try simp [Act.put]
          try rfl
        refine wpAnyH_takeD (d := some 93) (i := 13) (oi := _) (v := undef) rfl (by kernel_rfl) (by kernel_rfl) (by kernel_rfl) (by kernel_rfl) (fun _ _ _ h => h) (Or.inr ⟨by rfl, rfl⟩) hHeld ?arest14
        refine wpAnyH_act (a' := ?ana14) ?ane14 ?anr14
        case ane14 =>
          try simp [Act.put]
          try rfl
        refine wpAnyH_takeD (d := some 94) (i := 14) (oi := _) (v := ?av15) rfl (by kernel_rfl) (by kernel_rfl) (by kernel_rfl) (by kernel_rfl) (fun _ _ _ h => h) (Or.inl ⟨by rfl, ?ahy15⟩) hHeld ?arest15
        case ahy15 =>
          intro w hSw
          try dsimp only at hSw
          go_simp
          try with_reducible rfl
        refine wpAnyH_act (a' := ?ana15) ?ane15 ?anr15
        case ane15 =>
          try simp [Act.put]
          try rfl
        refine wpAnyH_takeD (d := some 95) (i := 15) (oi := _) (v := ?av16) rfl (by kernel_rfl) (by kernel_rfl) (by kernel_rfl) (by kernel_rfl) (fun _ _ _ h => h) (Or.inl ⟨by rfl, ?ahy16⟩) hHeld ?arest16
        case ahy16 =>
          intro w hSw
          try dsimp only at hSw
          go_simp
          try with_reducible rfl
        refine wpAnyH_act (a' := ?ana16) ?ane16 ?anr16
        case ane16 =>
          try simp [Act.put]
          try rfl
        refine wpAnyH_takeD (d := some 96) (i := 16) (oi := _) (v := ?av17) rfl (by kernel_rfl) (by kernel_rfl) (by kernel_rfl) (by kernel_rfl) (fun _ _ _ h => h) (Or.inl ⟨by rfl, ?ahy17⟩) hHeld ?arest17
        case ahy17 =>
          intro w hSw
          try dsimp only at hSw
          go_simp
          try with_reducible rfl
        refine wpAnyH_act (a' := ?ana17) ?ane17 ?anr17
        case ane17 =>
          try simp [Act.put]
          try rfl
        refine wpAnyH_takeD (d := some 97) (i := 17) (oi := _) (v := ?av18) rfl (by kernel_rfl) (by kernel_rfl) (by kernel_rfl) (by kernel_rfl) (fun _ _ _ h => h) (Or.inl ⟨by rfl, ?ahy18⟩) hHeld ?arest18
        case ahy18 =>
          intro w hSw
          try dsimp only at hSw
          go_simp
          try with_reducible rfl
        refine wpAnyH_act (a' := ?ana18) ?ane18 ?anr18
        case ane18 =>
          try simp [Act.put]
          try rfl
        refine wpAnyH_takeD (d := some 98) (i := 18) (oi := _) (v := ?av19) rfl (by kernel_rfl) (by kernel_rfl) (by kernel_rfl) (by kernel_rfl) (fun _ _ _ h => h) (Or.inl ⟨by rfl, ?ahy19⟩) hHeld ?arest19
        case ahy19 =>
          intro w hSw
          try dsimp only at hSw
          go_simp
          try with_reducible rfl
        refine wpAnyH_act (a' := ?ana19) ?ane19 ?anr19
        case ane19 =>
          try simp [Act.put]
          try rfl
        refine wpAnyH_takeD (d := some 99) (i := 19) (oi := _) (v := ?av20) rfl (by kernel_rfl) (by kernel_rfl) (by kernel_rfl) (by kernel_rfl) (fun _ _ _ h => h) (Or.inl ⟨by rfl, ?ahy20⟩) hHeld ?arest20
        case ahy20 =>
          intro w hSw
          try dsimp only at hSw
          go_simp
          try with_reducible rfl
        refine wpAnyH_act (a' := ?ana20) ?ane20 ?anr20
        case ane20 =>
          try simp [Act.put]
          try rfl
        refine wpAnyH_takeD (d := some 101) (i := 21) (oi := _) (v := ?av21) rfl (by kernel_rfl) (by kernel_rfl) (by kernel_rfl) (by kernel_rfl) (fun _ _ _ h => h) (Or.inl ⟨by rfl, ?ahy21⟩) hHeld ?arest21
        case ahy21 =>
          intro w hSw
          try dsimp only at hSw
          go_simp
          try with_reducible rfl
        refine wpAnyH_act (a' := ?ana21) ?ane21 ?anr21
        case ane21 =>
          try simp [Act.put]
          try rfl
        refine wpAnyH_takeD (d := some 102) (i := 22) (oi := _) (v := ?av22) rfl (by kernel_rfl) (by kernel_rfl) (by kernel_rfl) (by kernel_rfl) (fun _ _ _ h => h) (Or.inl ⟨by rfl, ?ahy22⟩) hHeld ?arest22
        case ahy22 =>
          intro w hSw
          try dsimp only at hSw
          go_simp
          try with_reducible rfl
        refine wpAnyH_act (a' := ?ana22) ?ane22 ?anr22
        case ane22 =>
          try simp [Act.put]
          try rfl
        refine wpAnyH_ready (rs := [20]) (by kernel_rfl) (by simp) ?_
        refine AllReadyH.cons (o := _) rfl (fun K hK => ?_) AllReadyH.nil
        go_simp
        (with_reducible refine (rcounted_any _ _).mono ?_)
        rintro e wc1 ⟨rfl, hwc1⟩
        have hoc1 : Only (fun _ => False) wr wc1 := hwc1 ▸ hHeld.1
        clear hwc1
        go_wp2_with fail
        refine hK.out _ _ (by (refine heldO HCC.out ?_; (repeat (first | (with_reducible assumption) | (with_reducible exact Only.refl _ _) | (with_reducible refine Only.drew ?_) | (with_reducible refine Only.alloc ?_ _) | (with_reducible refine onlySet ?_ (by first | (with_reducible assumption) | omega) _) | (with_reducible refine Only.trans ?_ (by with_reducible assumption)))))) (fun hNew => ?_)
        clear hK K hHeld
        have hHeld := hNew
        clear hNew
        refine wpAnyH_act (a' := ?ana23) ?ane23 ?anr23
        case ane23 =>
          try simp [Act.put]
          try rfl
        refine wpAnyH_takeD (d := some 103) (i := 23) (oi := _) (v := ?av23) rfl (by kernel_rfl) (by kernel_rfl) (by kernel_rfl) (by kernel_rfl) (fun _ _ _ h => h) (Or.inl ⟨by rfl, ?ahy23⟩) hHeld ?arest23
        case ahy23 =>
          intro w hSw
          try dsimp only at hSw
          go_simp
          try with_reducible rfl
        refine wpAnyH_act (a' := ?ana24) ?ane24 ?anr24
        case ane24 =>
          try simp [Act.put]
          try rfl
        refine wpAnyH_takeD (d := some 104) (i := 24) (oi := _) (v := ?av24) rfl (by kernel_rfl) (by kernel_rfl) (by kernel_rfl) (by kernel_rfl) (fun _ _ _ h => h) (Or.inl ⟨by rfl, ?ahy24⟩) hHeld ?arest24
        case ahy24 =>
          intro w hSw
          try dsimp only at hSw
          go_simp
          try with_reducible rfl
        refine wpAnyH_act (a' := ?ana25) ?ane25 ?anr25
        case ane25 =>
          try simp [Act.put]
          try rfl
        refine wpAnyH_ready (rs := [25]) (by kernel_rfl) (by simp) ?_
        refine AllReadyH.cons (o := _) rfl (fun K hK => ?_) AllReadyH.nil
        go_simp
        (with_reducible refine (HEN.out _).mono ?_)
        rintro e wc2 ⟨rfl, hoc2⟩
        have hod2 : Only (fun _ => False) wr wc2 := hHeld.1.trans hoc2
        clear hoc2
        go_wp2_with fail
        refine hK.out _ _ (by (refine heldO HCC.out ?_; (repeat (first | (with_reducible assumption) | (with_reducible exact Only.refl _ _) | (with_reducible refine Only.drew ?_) | (with_reducible refine Only.alloc ?_ _) | (with_reducible refine onlySet ?_ (by first | (with_reducible assumption) | omega) _) | (with_reducible refine Only.trans ?_ (by with_reducible assumption)))))) (fun hNew => ?_)
        clear hK K hHeld
        have hHeld := hNew
        clear hNew
        refine wpAnyH_act (a' := ?ana26) ?ane26 ?anr26
        case ane26 =>
          try simp [Act.put]
          try rfl
        refine wpAnyH_takeD (d := some 79) (i := 26) (oi := _) (v := ?av25) rfl (by kernel_rfl) (by kernel_rfl) (by kernel_rfl) (by kernel_rfl) (fun _ _ _ h => h) (Or.inl ⟨by rfl, ?ahy25⟩) hHeld ?arest25
        case ahy25 =>
          intro w hSw
          try dsimp only at hSw
          go_simp
          try with_reducible rfl
        refine wpAnyH_act (a' := ?ana27) ?ane27 ?anr27
        case ane27 =>
          try simp [Act.put]
          try rfl
        refine wpAnyH_takeD (d := some 106) (i := 27) (oi := _) (v := ?av26) rfl (by kernel_rfl) (by kernel_rfl) (by kernel_rfl) (by kernel_rfl) (fun _ _ _ h => h) (Or.inl ⟨by rfl, ?ahy26⟩) hHeld ?arest26
        case ahy26 =>
          intro w hSw
          try dsimp only at hSw
          go_simp
          try with_reducible rfl
        refine wpAnyH_act (a' := ?ana28) ?ane28 ?anr28
        case ane28 =>
          try simp [Act.put]
          try rfl
        refine wpAnyH_takeD (d := some 107) (i := 28) (oi := _) (v := ?av27) rfl (by kernel_rfl) (by kernel_rfl) (by kernel_rfl) (by kernel_rfl) (fun _ _ _ h => h) (Or.inl ⟨by rfl, ?ahy27⟩) hHeld ?arest27
        case ahy27 =>
          intro w hSw
          try dsimp only at hSw
          go_simp
          try with_reducible rfl
        refine wpAnyH_act (a' := ?ana29) ?ane29 ?anr29
        case ane29 =>
          try simp [Act.put]
          try rfl
        refine wpAnyH_takeD (d := some 16) (i := 29) (oi := _) (v := ?av28) rfl (by kernel_rfl) (by kernel_rfl) (by kernel_rfl) (by kernel_rfl) (fun _ _ _ h => h) (Or.inl ⟨by rfl, ?ahy28⟩) hHeld ?arest28
        case ahy28 =>
          intro w hSw
          try dsimp only at hSw
          go_simp
          try with_reducible rfl
        refine wpAnyH_act (a' := ?ana30) ?ane30 ?anr30
        case ane30 =>
          try simp [Act.put]
          try rfl
        refine wpAnyH_takeD (d := some 9) (i := 30) (oi := _) (v := ?av29) rfl (by kernel_rfl) (by kernel_rfl) (by kernel_rfl) (by kernel_rfl) (fun _ _ _ h => h) (Or.inl ⟨by rfl, ?ahy29⟩) hHeld ?arest29
        case ahy29 =>
          intro w hSw
          try dsimp only at hSw
          go_simp
          try with_reducible rfl
        refine wpAnyH_act (a' := ?ana31) ?ane31 ?anr31
        case ane31 =>
          try simp [Act.put]
          try rfl
        refine wpAnyH_done (by kernel_rfl) ?_ _
        go_wp2_with fail
        go_ret2
        rw [← HL.out, HRBB.out, ← HAPP.out]
        exact ⟨rfl, ((HO.out.trans HOR.out).trans hod2)⟩
      · have e0 : ((code : Int) == 0) = false := by simp; omega
        have hcase0 := hcase
        clear hcase
        by_cases hcase : code = 3
        · have e3 : ((code : Int) == 3) = true := by simp; omega
          have hau : decide (code = 0 ∨ code = 3) = true := by simp; exact .inr hcase
          have HEN := Lib.hid (fun W' : World => by have := hEn W'; rw [hau] at this; exact this : ∀ W' : World, Calls Tryz.prog 46 #[.agg #[.int .u16 h.id, .bool true, .int .u8 h.op, .bool true, .bool CB, .bool h.des, .bool false, .int .u8 0, .int .u8 code, .int .u16 q.asked.toNat, .int .u16 n, .int .u16 0, .int .u16 0]] W' fun e w2 => e = .returned (.tuple #[.string HS, .int .i64 0]) ∧ Only (fun _ => False) W' w2)
          clear hEn hcase hcase0
          refine wp_region_held_drew (S := fun w' => Only (fun _ => False) wr w' ∧ w'.cell? ⟨w.heap.size, 0, none⟩ = some (.int .u16 h.id) ∧ w'.cell? ⟨w.heap.size, 2, none⟩ = some (.int .u8 h.op) ∧ w'.cell? ⟨w.heap.size, 5, none⟩ = some (.bool h.des) ∧ w'.cell? ⟨w.heap.size, 13, none⟩ = some (.bool q.asked)) (by kernel_rfl) (by (refine heldO HCC.out ?_; (repeat (first | (with_reducible assumption) | (with_reducible exact Only.refl _ _) | (with_reducible refine Only.drew ?_) | (with_reducible refine Only.alloc ?_ _) | (with_reducible refine onlySet ?_ (by first | (with_reducible assumption) | omega) _) | (with_reducible refine Only.trans ?_ (by with_reducible assumption)))))) (fun hHeld => ?_)
          refine wpAnyH_takeD (d := some 80) (i := 0) (oi := _) (v := ?bv1) rfl (by kernel_rfl) (by kernel_rfl) (by kernel_rfl) (by kernel_rfl) (fun _ _ _ h => h) (Or.inl ⟨by rfl, ?bhy1⟩) hHeld ?brest1
          case bhy1 =>
            intro w hSw
            try dsimp only at hSw
            go_simp
            try with_reducible rfl
          refine wpAnyH_act (a' := ?bna1) ?bne1 ?bnr1
          case bne1 =>
            try simp [Act.put]
            try rfl
          refine wpAnyH_takeD (d := some 81) (i := 1) (oi := _) (v := ?bv2) rfl (by kernel_rfl) (by kernel_rfl) (by kernel_rfl) (by kernel_rfl) (fun _ _ _ h => h) (Or.inl ⟨by rfl, ?bhy2⟩) hHeld ?brest2
          case bhy2 =>
            intro w hSw
            try dsimp only at hSw
            go_simp
            try with_reducible rfl
          refine wpAnyH_act (a' := ?bna2) ?bne2 ?bnr2
          case bne2 =>
            try simp [Act.put]
            try rfl
          refine wpAnyH_takeD (d := some 82) (i := 2) (oi := _) (v := ?bv3) rfl (by kernel_rfl) (by kernel_rfl) (by kernel_rfl) (by kernel_rfl) (fun _ _ _ h => h) (Or.inl ⟨by rfl, ?bhy3⟩) hHeld ?brest3
          case bhy3 =>
            intro w hSw
            try dsimp only at hSw
            go_simp
            try with_reducible rfl
          refine wpAnyH_act (a' := ?bna3) ?bne3 ?bnr3
          case bne3 =>
            try simp [Act.put]
            try rfl
          refine wpAnyH_takeD (d := some 83) (i := 3) (oi := _) (v := ?bv4) rfl (by kernel_rfl) (by kernel_rfl) (by kernel_rfl) (by kernel_rfl) (fun _ _ _ h => h) (Or.inl ⟨by rfl, ?bhy4⟩) hHeld ?brest4
          case bhy4 =>
            intro w hSw
            try dsimp only at hSw
            go_simp
            try with_reducible rfl
          refine wpAnyH_act (a' := ?bna4) ?bne4 ?bnr4
          case bne4 =>
            try simp [Act.put]
            try rfl
          refine wpAnyH_takeD (d := some 84) (i := 4) (oi := _) (v := ?bv5) rfl (by kernel_rfl) (by kernel_rfl) (by kernel_rfl) (by kernel_rfl) (fun _ _ _ h => h) (Or.inl ⟨by rfl, ?bhy5⟩) hHeld ?brest5
          case bhy5 =>
            intro w hSw
            try dsimp only at hSw
            go_simp
            try with_reducible rfl
          refine wpAnyH_act (a' := ?bna5) ?bne5 ?bnr5
          case bne5 =>
            try simp [Act.put]
            try rfl
          refine wpAnyH_takeD (d := some 85) (i := 5) (oi := _) (v := ?bv6) rfl (by kernel_rfl) (by kernel_rfl) (by kernel_rfl) (by kernel_rfl) (fun _ _ _ h => h) (Or.inl ⟨by rfl, ?bhy6⟩) hHeld ?brest6
          case bhy6 =>
            intro w hSw
            try dsimp only at hSw
            go_simp
            try with_reducible rfl
          refine wpAnyH_act (a' := ?bna6) ?bne6 ?bnr6
          case bne6 =>
            try simp [Act.put]
            try rfl
          refine wpAnyH_takeD (d := some 86) (i := 6) (oi := _) (v := ?bv7) rfl (by kernel_rfl) (by kernel_rfl) (by kernel_rfl) (by kernel_rfl) (fun _ _ _ h => h) (Or.inl ⟨by rfl, ?bhy7⟩) hHeld ?brest7
          case bhy7 =>
            intro w hSw
            try dsimp only at hSw
            go_simp
            try with_reducible rfl
          refine wpAnyH_act (a' := ?bna7) ?bne7 ?bnr7
          case bne7 =>
            try simp [Act.put]
            try rfl
          refine wpAnyH_takeD (d := some 87) (i := 7) (oi := _) (v := ?bv8) rfl (by kernel_rfl) (by kernel_rfl) (by kernel_rfl) (by kernel_rfl) (fun _ _ _ h => h) (Or.inl ⟨by rfl, ?bhy8⟩) hHeld ?brest8
          case bhy8 =>
            intro w hSw
            try dsimp only at hSw
            go_simp
            try with_reducible rfl
          refine wpAnyH_act (a' := ?bna8) ?bne8 ?bnr8
          case bne8 =>
            try simp [Act.put]
            try rfl
          refine wpAnyH_takeD (d := some 88) (i := 8) (oi := _) (v := ?bv9) rfl (by kernel_rfl) (by kernel_rfl) (by kernel_rfl) (by kernel_rfl) (fun _ _ _ h => h) (Or.inl ⟨by rfl, ?bhy9⟩) hHeld ?brest9
          case bhy9 =>
            intro w hSw
            try dsimp only at hSw
            go_simp
            try with_reducible rfl
          refine wpAnyH_act (a' := ?bna9) ?bne9 ?bnr9
          case bne9 =>
            try simp [Act.put]
            try rfl
          refine wpAnyH_takeD (d := some 89) (i := 9) (oi := _) (v := ?bv10) rfl (by kernel_rfl) (by kernel_rfl) (by kernel_rfl) (by kernel_rfl) (fun _ _ _ h => h) (Or.inl ⟨by rfl, ?bhy10⟩) hHeld ?brest10
          case bhy10 =>
            intro w hSw
            try dsimp only at hSw
            go_simp
            try with_reducible rfl
          refine wpAnyH_act (a' := ?bna10) ?bne10 ?bnr10
          case bne10 =>
            try simp [Act.put]
            try rfl
          refine wpAnyH_takeD (d := some 90) (i := 10) (oi := _) (v := ?bv11) rfl (by kernel_rfl) (by kernel_rfl) (by kernel_rfl) (by kernel_rfl) (fun _ _ _ h => h) (Or.inl ⟨by rfl, ?bhy11⟩) hHeld ?brest11
          case bhy11 =>
            intro w hSw
            try dsimp only at hSw
            go_simp
            try with_reducible rfl
          refine wpAnyH_act (a' := ?bna11) ?bne11 ?bnr11
          case bne11 =>
            try simp [Act.put]
            try rfl
          refine wpAnyH_takeD (d := some 91) (i := 11) (oi := _) (v := ?bv12) rfl (by kernel_rfl) (by kernel_rfl) (by kernel_rfl) (by kernel_rfl) (fun _ _ _ h => h) (Or.inl ⟨by rfl, ?bhy12⟩) hHeld ?brest12
          case bhy12 =>
            intro w hSw
            try dsimp only at hSw
            go_simp
            try with_reducible rfl
          refine wpAnyH_act (a' := ?bna12) ?bne12 ?bnr12
          case bne12 =>
            try simp [Act.put]
            try rfl
          refine wpAnyH_takeD (d := some 92) (i := 12) (oi := _) (v := ?bv13) rfl (by kernel_rfl) (by kernel_rfl) (by kernel_rfl) (by kernel_rfl) (fun _ _ _ h => h) (Or.inl ⟨by rfl, ?bhy13⟩) hHeld ?brest13
          case bhy13 =>
            intro w hSw
            try dsimp only at hSw
            go_simp
            try with_reducible rfl
          refine wpAnyH_act (a' := ?bna13) ?bne13 ?bnr13
          case bne13 =>
            try simp [Act.put]
            try rfl
          refine wpAnyH_takeD (d := some 93) (i := 13) (oi := _) (v := ?bv14) rfl (by kernel_rfl) (by kernel_rfl) (by kernel_rfl) (by kernel_rfl) (fun _ _ _ h => h) (Or.inl ⟨by rfl, ?bhy14⟩) hHeld ?brest14
          case bhy14 =>
            intro w hSw
            try dsimp only at hSw
            go_simp
            try with_reducible rfl
          refine wpAnyH_act (a' := ?bna14) ?bne14 ?bnr14
          case bne14 =>
            try simp [Act.put]
            try rfl
          refine wpAnyH_takeD (d := some 94) (i := 14) (oi := _) (v := ?bv15) rfl (by kernel_rfl) (by kernel_rfl) (by kernel_rfl) (by kernel_rfl) (fun _ _ _ h => h) (Or.inl ⟨by rfl, ?bhy15⟩) hHeld ?brest15
          case bhy15 =>
            intro w hSw
            try dsimp only at hSw
            go_simp
            try with_reducible rfl
          refine wpAnyH_act (a' := ?bna15) ?bne15 ?bnr15
          case bne15 =>
            try simp [Act.put]
            try rfl
          refine wpAnyH_takeD (d := some 95) (i := 15) (oi := _) (v := ?bv16) rfl (by kernel_rfl) (by kernel_rfl) (by kernel_rfl) (by kernel_rfl) (fun _ _ _ h => h) (Or.inl ⟨by rfl, ?bhy16⟩) hHeld ?brest16
          case bhy16 =>
            intro w hSw
            try dsimp only at hSw
            go_simp
            try with_reducible rfl
          refine wpAnyH_act (a' := ?bna16) ?bne16 ?bnr16
          case bne16 =>
            try simp [Act.put]
            try rfl
          refine wpAnyH_takeD (d := some 96) (i := 16) (oi := _) (v := ?bv17) rfl (by kernel_rfl) (by kernel_rfl) (by kernel_rfl) (by kernel_rfl) (fun _ _ _ h => h) (Or.inl ⟨by rfl, ?bhy17⟩) hHeld ?brest17
          case bhy17 =>
            intro w hSw
            try dsimp only at hSw
            go_simp
            try with_reducible rfl
          refine wpAnyH_act (a' := ?bna17) ?bne17 ?bnr17
          case bne17 =>
            try simp [Act.put]
            try rfl
          refine wpAnyH_takeD (d := some 97) (i := 17) (oi := _) (v := ?bv18) rfl (by kernel_rfl) (by kernel_rfl) (by kernel_rfl) (by kernel_rfl) (fun _ _ _ h => h) (Or.inl ⟨by rfl, ?bhy18⟩) hHeld ?brest18
          case bhy18 =>
            intro w hSw
            try dsimp only at hSw
            go_simp
            try with_reducible rfl
          refine wpAnyH_act (a' := ?bna18) ?bne18 ?bnr18
          case bne18 =>
            try simp [Act.put]
            try rfl
          refine wpAnyH_takeD (d := some 98) (i := 18) (oi := _) (v := ?bv19) rfl (by kernel_rfl) (by kernel_rfl) (by kernel_rfl) (by kernel_rfl) (fun _ _ _ h => h) (Or.inl ⟨by rfl, ?bhy19⟩) hHeld ?brest19
          case bhy19 =>
            intro w hSw
            try dsimp only at hSw
            go_simp
            try with_reducible rfl
          refine wpAnyH_act (a' := ?bna19) ?bne19 ?bnr19
          case bne19 =>
            try simp [Act.put]
            try rfl
          refine wpAnyH_takeD (d := some 99) (i := 19) (oi := _) (v := ?bv20) rfl (by kernel_rfl) (by kernel_rfl) (by kernel_rfl) (by kernel_rfl) (fun _ _ _ h => h) (Or.inl ⟨by rfl, ?bhy20⟩) hHeld ?brest20
          case bhy20 =>
            intro w hSw
            try dsimp only at hSw
            go_simp
            try with_reducible rfl
          refine wpAnyH_act (a' := ?bna20) ?bne20 ?bnr20
          case bne20 =>
            try simp [Act.put]
            try rfl
          refine wpAnyH_takeD (d := some 101) (i := 21) (oi := _) (v := ?bv21) rfl (by kernel_rfl) (by kernel_rfl) (by kernel_rfl) (by kernel_rfl) (fun _ _ _ h => h) (Or.inl ⟨by rfl, ?bhy21⟩) hHeld ?brest21
          case bhy21 =>
            intro w hSw
            try dsimp only at hSw
            go_simp
            try with_reducible rfl
          refine wpAnyH_act (a' := ?bna21) ?bne21 ?bnr21
          case bne21 =>
            try simp [Act.put]
            try rfl
          refine wpAnyH_takeD (d := some 102) (i := 22) (oi := _) (v := ?bv22) rfl (by kernel_rfl) (by kernel_rfl) (by kernel_rfl) (by kernel_rfl) (fun _ _ _ h => h) (Or.inl ⟨by rfl, ?bhy22⟩) hHeld ?brest22
          case bhy22 =>
            intro w hSw
            try dsimp only at hSw
            go_simp
            try with_reducible rfl
          refine wpAnyH_act (a' := ?bna22) ?bne22 ?bnr22
          case bne22 =>
            try simp [Act.put]
            try rfl
          refine wpAnyH_ready (rs := [20]) (by kernel_rfl) (by simp) ?_
          refine AllReadyH.cons (o := _) rfl (fun K hK => ?_) AllReadyH.nil
          go_simp
          (with_reducible refine (rcounted_any _ _).mono ?_)
          rintro e wc1 ⟨rfl, hwc1⟩
          have hoc1 : Only (fun _ => False) wr wc1 := hwc1 ▸ hHeld.1
          clear hwc1
          go_wp2_with fail
          refine hK.out _ _ (by (refine heldO HCC.out ?_; (repeat (first | (with_reducible assumption) | (with_reducible exact Only.refl _ _) | (with_reducible refine Only.drew ?_) | (with_reducible refine Only.alloc ?_ _) | (with_reducible refine onlySet ?_ (by first | (with_reducible assumption) | omega) _) | (with_reducible refine Only.trans ?_ (by with_reducible assumption)))))) (fun hNew => ?_)
          clear hK K hHeld
          have hHeld := hNew
          clear hNew
          refine wpAnyH_act (a' := ?bna23) ?bne23 ?bnr23
          case bne23 =>
            try simp [Act.put]
            try rfl
          refine wpAnyH_takeD (d := some 103) (i := 23) (oi := _) (v := ?bv23) rfl (by kernel_rfl) (by kernel_rfl) (by kernel_rfl) (by kernel_rfl) (fun _ _ _ h => h) (Or.inl ⟨by rfl, ?bhy23⟩) hHeld ?brest23
          case bhy23 =>
            intro w hSw
            try dsimp only at hSw
            go_simp
            try with_reducible rfl
          refine wpAnyH_act (a' := ?bna24) ?bne24 ?bnr24
          case bne24 =>
            try simp [Act.put]
            try rfl
          refine wpAnyH_takeD (d := some 104) (i := 24) (oi := _) (v := ?bv24) rfl (by kernel_rfl) (by kernel_rfl) (by kernel_rfl) (by kernel_rfl) (fun _ _ _ h => h) (Or.inl ⟨by rfl, ?bhy24⟩) hHeld ?brest24
          case bhy24 =>
            intro w hSw
            try dsimp only at hSw
            go_simp
            try with_reducible rfl
          refine wpAnyH_act (a' := ?bna25) ?bne25 ?bnr25
          case bne25 =>
            try simp [Act.put]
            try rfl
          refine wpAnyH_ready (rs := [25]) (by kernel_rfl) (by simp) ?_
          refine AllReadyH.cons (o := _) rfl (fun K hK => ?_) AllReadyH.nil
          go_simp
          (with_reducible refine (HEN.out _).mono ?_)
          rintro e wc2 ⟨rfl, hoc2⟩
          have hod2 : Only (fun _ => False) wr wc2 := hHeld.1.trans hoc2
          clear hoc2
          go_wp2_with fail
          refine hK.out _ _ (by (refine heldO HCC.out ?_; (repeat (first | (with_reducible assumption) | (with_reducible exact Only.refl _ _) | (with_reducible refine Only.drew ?_) | (with_reducible refine Only.alloc ?_ _) | (with_reducible refine onlySet ?_ (by first | (with_reducible assumption) | omega) _) | (with_reducible refine Only.trans ?_ (by with_reducible assumption)))))) (fun hNew => ?_)
          clear hK K hHeld
          have hHeld := hNew
          clear hNew
          refine wpAnyH_act (a' := ?bna26) ?bne26 ?bnr26
          case bne26 =>
            try simp [Act.put]
            try rfl
          refine wpAnyH_takeD (d := some 79) (i := 26) (oi := _) (v := ?bv25) rfl (by kernel_rfl) (by kernel_rfl) (by kernel_rfl) (by kernel_rfl) (fun _ _ _ h => h) (Or.inl ⟨by rfl, ?bhy25⟩) hHeld ?brest25
          case bhy25 =>
            intro w hSw
            try dsimp only at hSw
            go_simp
            try with_reducible rfl
          refine wpAnyH_act (a' := ?bna27) ?bne27 ?bnr27
          case bne27 =>
            try simp [Act.put]
            try rfl
          refine wpAnyH_takeD (d := some 106) (i := 27) (oi := _) (v := ?bv26) rfl (by kernel_rfl) (by kernel_rfl) (by kernel_rfl) (by kernel_rfl) (fun _ _ _ h => h) (Or.inl ⟨by rfl, ?bhy26⟩) hHeld ?brest26
          case bhy26 =>
            intro w hSw
            try dsimp only at hSw
            go_simp
            try with_reducible rfl
          refine wpAnyH_act (a' := ?bna28) ?bne28 ?bnr28
          case bne28 =>
            try simp [Act.put]
            try rfl
          refine wpAnyH_takeD (d := some 107) (i := 28) (oi := _) (v := ?bv27) rfl (by kernel_rfl) (by kernel_rfl) (by kernel_rfl) (by kernel_rfl) (fun _ _ _ h => h) (Or.inl ⟨by rfl, ?bhy27⟩) hHeld ?brest27
          case bhy27 =>
            intro w hSw
            try dsimp only at hSw
            go_simp
            try with_reducible rfl
          refine wpAnyH_act (a' := ?bna29) ?bne29 ?bnr29
          case bne29 =>
            try simp [Act.put]
            try rfl
          refine wpAnyH_takeD (d := some 16) (i := 29) (oi := _) (v := ?bv28) rfl (by kernel_rfl) (by kernel_rfl) (by kernel_rfl) (by kernel_rfl) (fun _ _ _ h => h) (Or.inl ⟨by rfl, ?bhy28⟩) hHeld ?brest28
          case bhy28 =>
            intro w hSw
            try dsimp only at hSw
            go_simp
            try with_reducible rfl
          refine wpAnyH_act (a' := ?bna30) ?bne30 ?bnr30
          case bne30 =>
            try simp [Act.put]
            try rfl
          refine wpAnyH_takeD (d := some 9) (i := 30) (oi := _) (v := ?bv29) rfl (by kernel_rfl) (by kernel_rfl) (by kernel_rfl) (by kernel_rfl) (fun _ _ _ h => h) (Or.inl ⟨by rfl, ?bhy29⟩) hHeld ?brest29
          case bhy29 =>
            intro w hSw
            try dsimp only at hSw
            go_simp
            try with_reducible rfl
          refine wpAnyH_act (a' := ?bna31) ?bne31 ?bnr31
          case bne31 =>
            try simp [Act.put]
            try rfl
          refine wpAnyH_done (by kernel_rfl) ?_ _
          go_wp2_with fail
          go_ret2
          rw [← HL.out, HRBB.out, ← HAPP.out]
          exact ⟨rfl, ((HO.out.trans HOR.out).trans hod2)⟩
        · have e3 : ((code : Int) == 3) = false := by simp; omega
          have hau : decide (code = 0 ∨ code = 3) = false := by simp; exact ⟨hcase0, hcase⟩
          have HEN := Lib.hid (fun W' : World => by have := hEn W'; rw [hau] at this; exact this : ∀ W' : World, Calls Tryz.prog 46 #[.agg #[.int .u16 h.id, .bool true, .int .u8 h.op, .bool false, .bool CB, .bool h.des, .bool false, .int .u8 0, .int .u8 code, .int .u16 q.asked.toNat, .int .u16 n, .int .u16 0, .int .u16 0]] W' fun e w2 => e = .returned (.tuple #[.string HS, .int .i64 0]) ∧ Only (fun _ => False) W' w2)
          clear hEn hcase hcase0
          refine wp_region_held_drew (S := fun w' => Only (fun _ => False) wr w' ∧ w'.cell? ⟨w.heap.size, 0, none⟩ = some (.int .u16 h.id) ∧ w'.cell? ⟨w.heap.size, 2, none⟩ = some (.int .u8 h.op) ∧ w'.cell? ⟨w.heap.size, 5, none⟩ = some (.bool h.des) ∧ w'.cell? ⟨w.heap.size, 13, none⟩ = some (.bool q.asked)) (by kernel_rfl) (by (refine heldO HCC.out ?_; (repeat (first | (with_reducible assumption) | (with_reducible exact Only.refl _ _) | (with_reducible refine Only.drew ?_) | (with_reducible refine Only.alloc ?_ _) | (with_reducible refine onlySet ?_ (by first | (with_reducible assumption) | omega) _) | (with_reducible refine Only.trans ?_ (by with_reducible assumption)))))) (fun hHeld => ?_)
          refine wpAnyH_takeD (d := some 80) (i := 0) (oi := _) (v := ?cv1) rfl (by kernel_rfl) (by kernel_rfl) (by kernel_rfl) (by kernel_rfl) (fun _ _ _ h => h) (Or.inl ⟨by rfl, ?chy1⟩) hHeld ?crest1
          case chy1 =>
            intro w hSw
            try dsimp only at hSw
            go_simp
            try with_reducible rfl
          refine wpAnyH_act (a' := ?cna1) ?cne1 ?cnr1
          case cne1 =>
            try simp [Act.put]
            try rfl
          refine wpAnyH_takeD (d := some 81) (i := 1) (oi := _) (v := ?cv2) rfl (by kernel_rfl) (by kernel_rfl) (by kernel_rfl) (by kernel_rfl) (fun _ _ _ h => h) (Or.inl ⟨by rfl, ?chy2⟩) hHeld ?crest2
          case chy2 =>
            intro w hSw
            try dsimp only at hSw
            go_simp
            try with_reducible rfl
          refine wpAnyH_act (a' := ?cna2) ?cne2 ?cnr2
          case cne2 =>
            try simp [Act.put]
            try rfl
          refine wpAnyH_takeD (d := some 82) (i := 2) (oi := _) (v := ?cv3) rfl (by kernel_rfl) (by kernel_rfl) (by kernel_rfl) (by kernel_rfl) (fun _ _ _ h => h) (Or.inl ⟨by rfl, ?chy3⟩) hHeld ?crest3
          case chy3 =>
            intro w hSw
            try dsimp only at hSw
            go_simp
            try with_reducible rfl
          refine wpAnyH_act (a' := ?cna3) ?cne3 ?cnr3
          case cne3 =>
            try simp [Act.put]
            try rfl
          refine wpAnyH_takeD (d := some 83) (i := 3) (oi := _) (v := ?cv4) rfl (by kernel_rfl) (by kernel_rfl) (by kernel_rfl) (by kernel_rfl) (fun _ _ _ h => h) (Or.inl ⟨by rfl, ?chy4⟩) hHeld ?crest4
          case chy4 =>
            intro w hSw
            try dsimp only at hSw
            go_simp
            try with_reducible rfl
          refine wpAnyH_act (a' := ?cna4) ?cne4 ?cnr4
          case cne4 =>
            try simp [Act.put]
            try rfl
          refine wpAnyH_takeD (d := some 84) (i := 4) (oi := _) (v := ?cv5) rfl (by kernel_rfl) (by kernel_rfl) (by kernel_rfl) (by kernel_rfl) (fun _ _ _ h => h) (Or.inl ⟨by rfl, ?chy5⟩) hHeld ?crest5
          case chy5 =>
            intro w hSw
            try dsimp only at hSw
            go_simp
            try with_reducible rfl
          refine wpAnyH_act (a' := ?cna5) ?cne5 ?cnr5
          case cne5 =>
            try simp [Act.put]
            try rfl
          refine wpAnyH_takeD (d := some 85) (i := 5) (oi := _) (v := ?cv6) rfl (by kernel_rfl) (by kernel_rfl) (by kernel_rfl) (by kernel_rfl) (fun _ _ _ h => h) (Or.inl ⟨by rfl, ?chy6⟩) hHeld ?crest6
          case chy6 =>
            intro w hSw
            try dsimp only at hSw
            go_simp
            try with_reducible rfl
          refine wpAnyH_act (a' := ?cna6) ?cne6 ?cnr6
          case cne6 =>
            try simp [Act.put]
            try rfl
          refine wpAnyH_takeD (d := some 86) (i := 6) (oi := _) (v := ?cv7) rfl (by kernel_rfl) (by kernel_rfl) (by kernel_rfl) (by kernel_rfl) (fun _ _ _ h => h) (Or.inl ⟨by rfl, ?chy7⟩) hHeld ?crest7
          case chy7 =>
            intro w hSw
            try dsimp only at hSw
            go_simp
            try with_reducible rfl
          refine wpAnyH_act (a' := ?cna7) ?cne7 ?cnr7
          case cne7 =>
            try simp [Act.put]
            try rfl
          refine wpAnyH_takeD (d := some 87) (i := 7) (oi := _) (v := ?cv8) rfl (by kernel_rfl) (by kernel_rfl) (by kernel_rfl) (by kernel_rfl) (fun _ _ _ h => h) (Or.inl ⟨by rfl, ?chy8⟩) hHeld ?crest8
          case chy8 =>
            intro w hSw
            try dsimp only at hSw
            go_simp
            try with_reducible rfl
          refine wpAnyH_act (a' := ?cna8) ?cne8 ?cnr8
          case cne8 =>
            try simp [Act.put]
            try rfl
          refine wpAnyH_takeD (d := some 88) (i := 8) (oi := _) (v := ?cv9) rfl (by kernel_rfl) (by kernel_rfl) (by kernel_rfl) (by kernel_rfl) (fun _ _ _ h => h) (Or.inl ⟨by rfl, ?chy9⟩) hHeld ?crest9
          case chy9 =>
            intro w hSw
            try dsimp only at hSw
            go_simp
            try with_reducible rfl
          refine wpAnyH_act (a' := ?cna9) ?cne9 ?cnr9
          case cne9 =>
            try simp [Act.put]
            try rfl
          refine wpAnyH_takeD (d := some 89) (i := 9) (oi := _) (v := ?cv10) rfl (by kernel_rfl) (by kernel_rfl) (by kernel_rfl) (by kernel_rfl) (fun _ _ _ h => h) (Or.inl ⟨by rfl, ?chy10⟩) hHeld ?crest10
          case chy10 =>
            intro w hSw
            try dsimp only at hSw
            go_simp
            try with_reducible rfl
          refine wpAnyH_act (a' := ?cna10) ?cne10 ?cnr10
          case cne10 =>
            try simp [Act.put]
            try rfl
          refine wpAnyH_takeD (d := some 90) (i := 10) (oi := _) (v := ?cv11) rfl (by kernel_rfl) (by kernel_rfl) (by kernel_rfl) (by kernel_rfl) (fun _ _ _ h => h) (Or.inl ⟨by rfl, ?chy11⟩) hHeld ?crest11
          case chy11 =>
            intro w hSw
            try dsimp only at hSw
            go_simp
            try with_reducible rfl
          refine wpAnyH_act (a' := ?cna11) ?cne11 ?cnr11
          case cne11 =>
            try simp [Act.put]
            try rfl
          refine wpAnyH_takeD (d := some 91) (i := 11) (oi := _) (v := ?cv12) rfl (by kernel_rfl) (by kernel_rfl) (by kernel_rfl) (by kernel_rfl) (fun _ _ _ h => h) (Or.inl ⟨by rfl, ?chy12⟩) hHeld ?crest12
          case chy12 =>
            intro w hSw
            try dsimp only at hSw
            go_simp
            try with_reducible rfl
          refine wpAnyH_act (a' := ?cna12) ?cne12 ?cnr12
          case cne12 =>
            try simp [Act.put]
            try rfl
          refine wpAnyH_takeD (d := some 92) (i := 12) (oi := _) (v := ?cv13) rfl (by kernel_rfl) (by kernel_rfl) (by kernel_rfl) (by kernel_rfl) (fun _ _ _ h => h) (Or.inl ⟨by rfl, ?chy13⟩) hHeld ?crest13
          case chy13 =>
            intro w hSw
            try dsimp only at hSw
            go_simp
            try with_reducible rfl
          refine wpAnyH_act (a' := ?cna13) ?cne13 ?cnr13
          case cne13 =>
            try simp [Act.put]
            try rfl
          refine wpAnyH_takeD (d := some 93) (i := 13) (oi := _) (v := ?cv14) rfl (by kernel_rfl) (by kernel_rfl) (by kernel_rfl) (by kernel_rfl) (fun _ _ _ h => h) (Or.inl ⟨by rfl, ?chy14⟩) hHeld ?crest14
          case chy14 =>
            intro w hSw
            try dsimp only at hSw
            go_simp
            try with_reducible rfl
          refine wpAnyH_act (a' := ?cna14) ?cne14 ?cnr14
          case cne14 =>
            try simp [Act.put]
            try rfl
          refine wpAnyH_takeD (d := some 94) (i := 14) (oi := _) (v := ?cv15) rfl (by kernel_rfl) (by kernel_rfl) (by kernel_rfl) (by kernel_rfl) (fun _ _ _ h => h) (Or.inl ⟨by rfl, ?chy15⟩) hHeld ?crest15
          case chy15 =>
            intro w hSw
            try dsimp only at hSw
            go_simp
            try with_reducible rfl
          refine wpAnyH_act (a' := ?cna15) ?cne15 ?cnr15
          case cne15 =>
            try simp [Act.put]
            try rfl
          refine wpAnyH_takeD (d := some 95) (i := 15) (oi := _) (v := ?cv16) rfl (by kernel_rfl) (by kernel_rfl) (by kernel_rfl) (by kernel_rfl) (fun _ _ _ h => h) (Or.inl ⟨by rfl, ?chy16⟩) hHeld ?crest16
          case chy16 =>
            intro w hSw
            try dsimp only at hSw
            go_simp
            try with_reducible rfl
          refine wpAnyH_act (a' := ?cna16) ?cne16 ?cnr16
          case cne16 =>
            try simp [Act.put]
            try rfl
          refine wpAnyH_takeD (d := some 96) (i := 16) (oi := _) (v := ?cv17) rfl (by kernel_rfl) (by kernel_rfl) (by kernel_rfl) (by kernel_rfl) (fun _ _ _ h => h) (Or.inl ⟨by rfl, ?chy17⟩) hHeld ?crest17
          case chy17 =>
            intro w hSw
            try dsimp only at hSw
            go_simp
            try with_reducible rfl
          refine wpAnyH_act (a' := ?cna17) ?cne17 ?cnr17
          case cne17 =>
            try simp [Act.put]
            try rfl
          refine wpAnyH_takeD (d := some 97) (i := 17) (oi := _) (v := ?cv18) rfl (by kernel_rfl) (by kernel_rfl) (by kernel_rfl) (by kernel_rfl) (fun _ _ _ h => h) (Or.inl ⟨by rfl, ?chy18⟩) hHeld ?crest18
          case chy18 =>
            intro w hSw
            try dsimp only at hSw
            go_simp
            try with_reducible rfl
          refine wpAnyH_act (a' := ?cna18) ?cne18 ?cnr18
          case cne18 =>
            try simp [Act.put]
            try rfl
          refine wpAnyH_takeD (d := some 98) (i := 18) (oi := _) (v := ?cv19) rfl (by kernel_rfl) (by kernel_rfl) (by kernel_rfl) (by kernel_rfl) (fun _ _ _ h => h) (Or.inl ⟨by rfl, ?chy19⟩) hHeld ?crest19
          case chy19 =>
            intro w hSw
            try dsimp only at hSw
            go_simp
            try with_reducible rfl
          refine wpAnyH_act (a' := ?cna19) ?cne19 ?cnr19
          case cne19 =>
            try simp [Act.put]
            try rfl
          refine wpAnyH_takeD (d := some 99) (i := 19) (oi := _) (v := ?cv20) rfl (by kernel_rfl) (by kernel_rfl) (by kernel_rfl) (by kernel_rfl) (fun _ _ _ h => h) (Or.inl ⟨by rfl, ?chy20⟩) hHeld ?crest20
          case chy20 =>
            intro w hSw
            try dsimp only at hSw
            go_simp
            try with_reducible rfl
          refine wpAnyH_act (a' := ?cna20) ?cne20 ?cnr20
          case cne20 =>
            try simp [Act.put]
            try rfl
          refine wpAnyH_takeD (d := some 101) (i := 21) (oi := _) (v := ?cv21) rfl (by kernel_rfl) (by kernel_rfl) (by kernel_rfl) (by kernel_rfl) (fun _ _ _ h => h) (Or.inl ⟨by rfl, ?chy21⟩) hHeld ?crest21
          case chy21 =>
            intro w hSw
            try dsimp only at hSw
            go_simp
            try with_reducible rfl
          refine wpAnyH_act (a' := ?cna21) ?cne21 ?cnr21
          case cne21 =>
            try simp [Act.put]
            try rfl
          refine wpAnyH_takeD (d := some 102) (i := 22) (oi := _) (v := ?cv22) rfl (by kernel_rfl) (by kernel_rfl) (by kernel_rfl) (by kernel_rfl) (fun _ _ _ h => h) (Or.inl ⟨by rfl, ?chy22⟩) hHeld ?crest22
          case chy22 =>
            intro w hSw
            try dsimp only at hSw
            go_simp
            try with_reducible rfl
          refine wpAnyH_act (a' := ?cna22) ?cne22 ?cnr22
          case cne22 =>
            try simp [Act.put]
            try rfl
          refine wpAnyH_ready (rs := [20]) (by kernel_rfl) (by simp) ?_
          refine AllReadyH.cons (o := _) rfl (fun K hK => ?_) AllReadyH.nil
          go_simp
          (with_reducible refine (rcounted_any _ _).mono ?_)
          rintro e wc1 ⟨rfl, hwc1⟩
          have hoc1 : Only (fun _ => False) wr wc1 := hwc1 ▸ hHeld.1
          clear hwc1
          go_wp2_with fail
          refine hK.out _ _ (by (refine heldO HCC.out ?_; (repeat (first | (with_reducible assumption) | (with_reducible exact Only.refl _ _) | (with_reducible refine Only.drew ?_) | (with_reducible refine Only.alloc ?_ _) | (with_reducible refine onlySet ?_ (by first | (with_reducible assumption) | omega) _) | (with_reducible refine Only.trans ?_ (by with_reducible assumption)))))) (fun hNew => ?_)
          clear hK K hHeld
          have hHeld := hNew
          clear hNew
          refine wpAnyH_act (a' := ?cna23) ?cne23 ?cnr23
          case cne23 =>
            try simp [Act.put]
            try rfl
          refine wpAnyH_takeD (d := some 103) (i := 23) (oi := _) (v := ?cv23) rfl (by kernel_rfl) (by kernel_rfl) (by kernel_rfl) (by kernel_rfl) (fun _ _ _ h => h) (Or.inl ⟨by rfl, ?chy23⟩) hHeld ?crest23
          case chy23 =>
            intro w hSw
            try dsimp only at hSw
            go_simp
            try with_reducible rfl
          refine wpAnyH_act (a' := ?cna24) ?cne24 ?cnr24
          case cne24 =>
            try simp [Act.put]
            try rfl
          refine wpAnyH_takeD (d := some 104) (i := 24) (oi := _) (v := ?cv24) rfl (by kernel_rfl) (by kernel_rfl) (by kernel_rfl) (by kernel_rfl) (fun _ _ _ h => h) (Or.inl ⟨by rfl, ?chy24⟩) hHeld ?crest24
          case chy24 =>
            intro w hSw
            try dsimp only at hSw
            go_simp
            try with_reducible rfl
          refine wpAnyH_act (a' := ?cna25) ?cne25 ?cnr25
          case cne25 =>
            try simp [Act.put]
            try rfl
          refine wpAnyH_ready (rs := [25]) (by kernel_rfl) (by simp) ?_
          refine AllReadyH.cons (o := _) rfl (fun K hK => ?_) AllReadyH.nil
          go_simp
          (with_reducible refine (HEN.out _).mono ?_)
          rintro e wc2 ⟨rfl, hoc2⟩
          have hod2 : Only (fun _ => False) wr wc2 := hHeld.1.trans hoc2
          clear hoc2
          go_wp2_with fail
          refine hK.out _ _ (by (refine heldO HCC.out ?_; (repeat (first | (with_reducible assumption) | (with_reducible exact Only.refl _ _) | (with_reducible refine Only.drew ?_) | (with_reducible refine Only.alloc ?_ _) | (with_reducible refine onlySet ?_ (by first | (with_reducible assumption) | omega) _) | (with_reducible refine Only.trans ?_ (by with_reducible assumption)))))) (fun hNew => ?_)
          clear hK K hHeld
          have hHeld := hNew
          clear hNew
          refine wpAnyH_act (a' := ?cna26) ?cne26 ?cnr26
          case cne26 =>
            try simp [Act.put]
            try rfl
          refine wpAnyH_takeD (d := some 79) (i := 26) (oi := _) (v := ?cv25) rfl (by kernel_rfl) (by kernel_rfl) (by kernel_rfl) (by kernel_rfl) (fun _ _ _ h => h) (Or.inl ⟨by rfl, ?chy25⟩) hHeld ?crest25
          case chy25 =>
            intro w hSw
            try dsimp only at hSw
            go_simp
            try with_reducible rfl
          refine wpAnyH_act (a' := ?cna27) ?cne27 ?cnr27
          case cne27 =>
            try simp [Act.put]
            try rfl
          refine wpAnyH_takeD (d := some 106) (i := 27) (oi := _) (v := ?cv26) rfl (by kernel_rfl) (by kernel_rfl) (by kernel_rfl) (by kernel_rfl) (fun _ _ _ h => h) (Or.inl ⟨by rfl, ?chy26⟩) hHeld ?crest26
          case chy26 =>
            intro w hSw
            try dsimp only at hSw
            go_simp
            try with_reducible rfl
          refine wpAnyH_act (a' := ?cna28) ?cne28 ?cnr28
          case cne28 =>
            try simp [Act.put]
            try rfl
          refine wpAnyH_takeD (d := some 107) (i := 28) (oi := _) (v := ?cv27) rfl (by kernel_rfl) (by kernel_rfl) (by kernel_rfl) (by kernel_rfl) (fun _ _ _ h => h) (Or.inl ⟨by rfl, ?chy27⟩) hHeld ?crest27
          case chy27 =>
            intro w hSw
            try dsimp only at hSw
            go_simp
            try with_reducible rfl
          refine wpAnyH_act (a' := ?cna29) ?cne29 ?cnr29
          case cne29 =>
            try simp [Act.put]
            try rfl
          refine wpAnyH_takeD (d := some 16) (i := 29) (oi := _) (v := ?cv28) rfl (by kernel_rfl) (by kernel_rfl) (by kernel_rfl) (by kernel_rfl) (fun _ _ _ h => h) (Or.inl ⟨by rfl, ?chy28⟩) hHeld ?crest28
          case chy28 =>
            intro w hSw
            try dsimp only at hSw
            go_simp
            try with_reducible rfl
          refine wpAnyH_act (a' := ?cna30) ?cne30 ?cnr30
          case cne30 =>
            try simp [Act.put]
            try rfl
          refine wpAnyH_takeD (d := some 9) (i := 30) (oi := _) (v := ?cv29) rfl (by kernel_rfl) (by kernel_rfl) (by kernel_rfl) (by kernel_rfl) (fun _ _ _ h => h) (Or.inl ⟨by rfl, ?chy29⟩) hHeld ?crest29
          case chy29 =>
            intro w hSw
            try dsimp only at hSw
            go_simp
            try with_reducible rfl
          refine wpAnyH_act (a' := ?cna31) ?cne31 ?cnr31
          case cne31 =>
            try simp [Act.put]
            try rfl
          refine wpAnyH_done (by kernel_rfl) ?_ _
          go_wp2_with fail
          go_ret2
          rw [← HL.out, HRBB.out, ← HAPP.out]
          exact ⟨rfl, ((HO.out.trans HOR.out).trans hod2)⟩
end Go.Proofs.YtbdfijgejkimnaaGreatDoor
/-! name.Read: the labels lie in a row of the call's own. -/
namespace Go.Proofs.YtbdfijgejkimnaaGreatDoor
open Go.Conc Go.RowKit

/-- What Read returns, in a row of its own. -/
def ReadOwn (w : World) (r : Rd) (e : Ending) (w' : World) : Prop :=
  ∃ v, e = .returned (.tuple #[v, .int .i64 r.stop, .int .i64 r.err]) ∧ Only (fun _ => False) w w' ∧ w'.ownsRow w.heap.size 9 1 v r.ls.length (r.ls.map .string)
theorem ReadOwn.of_bad {w w' : World} {r : Rd} {n : Nat} (hr : r = .bad n) (ho : Only (fun _ => False) w w') : ReadOwn w r (.returned (.tuple #[.slice none 0 0, .int .i64 0, .int .i64 n])) w' := by
  subst hr
  exact ⟨_, rfl, ho, World.ownsRow_nil _ _ _ _⟩
set_option maxRecDepth 100000 in
set_option maxHeartbeats 400000 in
theorem read_own (w : World) (m : ByteArray) (i : Nat) (hm : m.size ≤ 100000) (hi : i ≤ m.size) :
    Calls Tryz.prog 83 #[.string m, .int .i64 i] w fun e w' => ReadOwn w (rdP m i i []) e w' := by
  obtain ⟨i0, hi0, hz0, hz1, hz2⟩ := info_parts infoStr
  have hgt : decide ((m.size : Int) < (i : Int)) = false := by simp; omega
  have hgt0 : decide ((i : Int) < 0) = false := by simp
  have hgtN : decide (m.size < i) = false := by simp; omega
  go_enter Tryz.func83, Tryz.ntmps83
  go_wp2_with fail
  go_loopg [1, 7, 8, 9, 10, 11] (i * (m.size + 2) + (m.size + 1 - i)) (fun g v1 v7 v8 v9 v10 v11 wx => ∃ (k bd : Nat) (l : List ByteArray) (e : Int), v1 = .int .i64 k ∧ v9 = .int .i64 bd ∧ v8 = .int .i64 e ∧ k ≤ m.size ∧ bd ≤ m.size ∧ Only (fun _ => False) w wx ∧ wx.ownsRow w.heap.size 9 1 v7 l.length (l.map .string) ∧ mayGo 0 l = true ∧ -1 ≤ e ∧ e ≤ 200000 ∧ rdP m i i [] = (rdP m k bd l).fin e ∧ g = bd * (m.size + 2) + (m.size + 1 - k))
  case atStart => exact ⟨i, i, [], -1, rfl, rfl, rfl, hi, hi, Only.refl _ _, World.ownsRow_nil _ _ _ _, rfl, by omega, by omega, (fin_low (by omega)).symm, rfl⟩
  case round =>
    obtain ⟨k, bd, l, e, rfl, rfl, rfl, hk, hbd, ho, hown, hmay, he1, he2, hR, hg⟩ := hrel
    have Hg := Lib.hid hg
    have HR := Lib.hid hR
    have Hm := Lib.hid hmay
    clear hg hR hmay
    by_cases hlt : m.size ≤ k
    · have e0 : decide ((m.size : Int) ≤ (k : Int)) = true := by simp; omega
      go_wp2_with fail
      go_ret3
      exact ReadOwn.of_bad (by rw [HR.out, rdP_short Hm.out hlt, fin_bad (by decide)]) ho
    · have e0 : decide ((m.size : Int) ≤ (k : Int)) = false := by simp; omega
      have hn : ((m[k]'(by omega)).toNat : Int) = (bAt m k : Int) := congrArg _ (bAt_get m k (by omega))
      have hnl := bAt_lt m k
      by_cases c0 : bAt m k = 0
      · have HZ := Lib.hid (rdP_zero (bd := bd) Hm.out hlt c0)
        have e1 : (((bAt m k : Nat) : Int) == 0) = true := by simp; omega
        clear c0
        by_cases he : e < 0
        · have e3 : decide (e < 0) = true := by simp; omega
          go_wp2_with fail
          go_ret3
          have hr : rdP m i i [] = ⟨l, k + 1, 0⟩ := by rw [HR.out, HZ.out, fin_low he]
          rw [hr]
          exact ⟨_, rfl, ho, hown⟩
        · have e3 : decide (e < 0) = false := by simp; omega
          go_wp2_with fail
          go_ret3
          have hr : rdP m i i [] = ⟨l, e, 0⟩ := by
            rw [HR.out, HZ.out, Rd.fin, if_pos ⟨rfl, by omega⟩]
          rw [hr]
          exact ⟨_, rfl, ho, hown⟩
      · have e1 : (((bAt m k : Nat) : Int) == 0) = false := by simp; omega
        by_cases c1 : 192 ≤ bAt m k
        · have e2 : decide (192 ≤ ((bAt m k : Nat) : Int)) = true := by simp; omega
          by_cases c2 : m.size ≤ k + 1
          · have e3 : decide ((m.size : Int) ≤ (k : Int) + 1) = true := by simp; omega
            go_wp2_with fail
            go_ret3
            exact ReadOwn.of_bad (by rw [HR.out, rdP_short2 Hm.out hlt c1 c2, fin_bad (by decide)]) ho
          · have e3 : decide ((m.size : Int) ≤ (k : Int) + 1) = false := by simp; omega
            have hn2 : ((m[k + 1]'(by omega)).toNat : Int) = (bAt m (k + 1) : Int) := congrArg _ (bAt_get m (k + 1) (by omega))
            have hnl2 := bAt_lt m (k + 1)
            have hto : ∀ y : Int, y = ((bAt m (k + 1) : Nat) : Int) → bits BinOp.or IntKind.i64 ((((bAt m k : Nat) : Int) - 192) * 256) y = ((256 * (bAt m k - 192) + bAt m (k + 1) : Nat) : Int) := by
              rintro y rfl
              have := to_ptr (bAt m k - 192) (bAt m (k + 1)) (by omega) (by omega)
              rwa [show (((bAt m k - 192 : Nat) : Nat) : Int) = ((bAt m k : Nat) : Int) - 192 by omega] at this
            have HL := Lib.hid (rdP_loop (bd := bd) Hm.out hlt c1 c2)
            have HP := Lib.hid (rdP_ptr (bd := bd) Hm.out hlt c1 c2)
            generalize 256 * (bAt m k - 192) + bAt m (k + 1) = q at *
            by_cases c3 : bd ≤ q
            · have e5 : decide ((bd : Int) ≤ (q : Int)) = true := by simp; omega
              go_wp2_with fail
              go_ret3
              exact ReadOwn.of_bad (by rw [HR.out, HL.out c3, fin_bad (by decide)]) ho
            · have e5 : decide ((bd : Int) ≤ (q : Int)) = false := by simp; omega
              by_cases he : e < 0
              · have e6 : decide (e < 0) = true := by simp; omega
                have He := Lib.hid he
                clear he
                go_wp2_with fail
                go_roundg (q * (m.size + 2) + (m.size + 1 - q))
                case measure => rw [Hg.out]; exact measure_ptr (by omega) hk
                case rel => exact ⟨q, q, l, k + 1 + 1, rfl, rfl, rfl, by omega, by omega, ho, hown, Hm.out, by omega, by omega, by rw [HR.out, HP.out c3, fin_low He.out]; exact congrArg _ (by omega), rfl⟩
              · have e6 : decide (e < 0) = false := by simp; omega
                have He := Lib.hid he
                clear he
                go_wp2_with fail
                go_roundg (q * (m.size + 2) + (m.size + 1 - q))
                case measure => rw [Hg.out]; exact measure_ptr (by omega) hk
                case rel => exact ⟨q, q, l, e, rfl, rfl, rfl, by omega, by omega, ho, hown, Hm.out, by omega, by omega, by rw [HR.out, HP.out c3, fin_fin (by omega) (by have := He.out; omega)], rfl⟩
        · have e2 : decide (192 ≤ ((bAt m k : Nat) : Int)) = false := by simp; omega
          by_cases c2 : 63 < bAt m k
          · have e3 : decide (63 < ((bAt m k : Nat) : Int)) = true := by simp; omega
            go_wp2_with fail
            go_ret3
            exact ReadOwn.of_bad (by rw [HR.out, rdP_form Hm.out hlt c1 c2, fin_bad (by decide)]) ho
          · have e3 : decide (63 < ((bAt m k : Nat) : Int)) = false := by simp; omega
            by_cases c3 : m.size < k + 1 + bAt m k
            · have e4 : decide ((m.size : Int) - ((k : Int) + 1) < ((bAt m k : Nat) : Int)) = true := by simp; omega
              have e5 : ((m.size : Int) < (k : Int) + 1 + ((bAt m k : Nat) : Int)) := by omega
              go_wp2_with fail
              go_ret3
              exact ReadOwn.of_bad (by rw [HR.out, rdP_short3 Hm.out hlt c0 c2 c3, fin_bad (by decide)]) ho
            · have e4 : decide ((m.size : Int) - ((k : Int) + 1) < ((bAt m k : Nat) : Int)) = false := by simp; omega
              have e5 : ¬ ((m.size : Int) < (k : Int) + 1 + ((bAt m k : Nat) : Int)) := by omega
              go_wp2_with (at_builtin; refine Wait.mk ?_)
              have hsm : (m.extract (k + 1) (k + 1 + bAt m k)).size ≤ 63 := by rw [ByteArray.size_extract]; omega
              have HS := Lib.hid (rdP_step (bd := bd) Hm.out hlt c0 c2 c3)
              have hll := (mayGo_all l 0 Hm.out).2
              generalize m.extract (k + 1) (k + 1 + bAt m k) = s at *
              refine Wait.go (wpList_append_src _ rfl (.tmp 31) (.tmp 38) 34 34 rfl w.heap.size 9 i0 _ 1 16 Tryz.underlying34 hi0 hz0 hz1 hz2 rfl u7 l.length (l.map .string) rfl (hown.alloc _) _ 1 [.string s] rfl ?src ?m ?b ?base ?_)
              case src => exact Src.ofSlice _ Tryz.underlying34 _ _ _ _ rfl (news_new _ _ _) (str_one [s])
              case m => unfold maxLen; omega
              case b => omega
              case base => have := ho.size; simp; omega
              intro v1 w5 own1 gr1 hv1
              have ho5 : Only (fun _ => False) w w5 := ho.tr (T := fun x => u7.ownBlock = some x) (((Only.refl _ _).alloc _).grown gr1 (fun k e => .inr e)) (fun j hj e => by have := (hown.lt _ e).1; omega)
              have own2 : w5.ownsRow w.heap.size 9 1 v1 (l ++ [s]).length ((l ++ [s]).map .string) := by simpa using own1
              clear own1 hown
              go_wp2_with fail
              refine (may_any _ v1 (l ++ [s]) (Sl.of_owns own2) ?_).mono ?_
              · intro x hx
                rcases List.mem_append.1 hx with hx | hx
                · have := (mayGo_all l 0 Hm.out).1 x hx
                  unfold maxLen; omega
                · rw [List.mem_singleton] at hx
                  subst hx
                  unfold maxLen; omega
              rintro e' w6 ⟨rfl, rfl⟩
              generalize hma : mayGo 0 (l ++ [s]) = b at *
              have Hma := Lib.hid hma
              clear hma
              cases b with
              | false =>
                go_wp2_with fail
                go_ret3
                exact ReadOwn.of_bad (by rw [HR.out, HS.out, rdP_name Hma.out, fin_bad (by decide)]) ho5
              | true =>
                go_wp2_with fail
                go_roundg (bd * (m.size + 2) + (m.size + 1 - (k + 1 + bAt m k)))
                case measure => rw [Hg.out]; omega
                case rel => exact ⟨k + 1 + bAt m k, bd, l ++ [s], e, by go_num, rfl, rfl, by omega, hbd, ho5, own2, Hma.out, he1, he2, by rw [HR.out, HS.out], rfl⟩
end Go.Proofs.YtbdfijgejkimnaaGreatDoor
