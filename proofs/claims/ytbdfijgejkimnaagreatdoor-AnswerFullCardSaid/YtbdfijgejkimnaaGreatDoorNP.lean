/- The step from a walk to a row that lists tables, with the world's shape at hand. -/
import Derived.Test.YtbdfijgejkimnaaGreatDoorNG
import Derived.ChangeKeysEq
import Derived.Test.YtbdfijgejkimnaaGreatDoorNO
import Derived.Test.YtbdfijgejkimnaaGreatDoorNA
import Derived.ProofKit
import Derived.OpenShut
import Derived.JoinedCond
import Derived.SizedLaws
import Derived.Deep.Slices
import Derived.Test.YtbdfijgejkimnaaGreatDoorShelf
import Derived.LaidMore
import Derived.Lay
import Derived.Stop.Joined
import Derived.HandedShaped
/-! == on addresses, hasA (as in Ans15, Ans13: for the laws that want no more of these). -/
namespace Go.Proofs.YtbdfijgejkimnaaGreatDoor
open Go.Conc Go.RowKit Go.Maps

theorem eqArr (w : World) (x y z u x' y' z' u' : Nat) : (binOp BinOp.eql 44 (.agg #[.int .u8 x, .int .u8 y, .int .u8 z, .int .u8 u]) (.agg #[.int .u8 x', .int .u8 y', .int .u8 z', .int .u8 u'])).run Tryz.prog w = .ok (.bool (decide ((x, y, z, u) = (x', y', z', u')))) w := by
  have hc : Tryz.prog.cellsOf 5 = 1 := by kernel_rfl
  have hsz : ∀ w, (Go.sizeOf 5).run Tryz.prog w = .ok 1 w := fun w => by kernel_rfl
  have info : (Tryz.prog.info? 5).map (fun i => (i.zero, i.size, i.bytes)) = some (some (.int .u8 0), 1, 1) := by kernel_rfl
  obtain ⟨i, hi, _⟩ := info_parts info
  rw [run_eql_struct, run_equalIn_array (P := Tryz.prog) w 9999 _ _ Tryz.underlying44 hi]
  simp [Op.eqItems, List.range, List.range.loop, hc, part, hsz, go_sem]
  by_cases h1 : x = x' <;> by_cases h2 : y = y' <;> by_cases h3 : z = z' <;> by_cases h4 : u = u' <;> simp [h1, h2, h3, h4] <;> omega
theorem hasA_snoc (E : List RR) (k : Nat) (hk : k < E.length) (a : Nat × Nat × Nat × Nat) : hasA (E.take (k + 1)) a = (hasA (E.take k) a || decide (E[k].a = a)) := by
  unfold hasA
  rw [List.take_add_one, List.getElem?_eq_getElem hk, Option.toList_some, List.any_append]
  simp
theorem infoStr25 : (Tryz.prog.info? 9).map (fun i => (i.zero, i.size, i.bytes)) = some (some (.string ⟨#[]⟩), 1, 16) := by kernel_rfl
end Go.Proofs.YtbdfijgejkimnaaGreatDoor
/-! bellhoplaw25.speaks. -/
namespace Go.Proofs.YtbdfijgejkimnaaGreatDoor
open Go.Conc Go.RowKit Go.Maps

theorem strsNew (w : World) (l : List ByteArray) (hn : l.length ≤ 1000) : Sl (w.alloc (.cells (l.map .string).toArray 9)) 1 (.slice (some ⟨w.heap.size, 0, none⟩) l.length l.length) l.length (l.map .string) :=
  Sl.fresh w _ _ l.length 1 (by simp) (by unfold maxLen; omega)
theorem rowCells {w : World} {base : Nat} {v : Value} {x : RR} {E : List RRv} (h : RpRow w base v E) (hm : E.map (·.r) = [x]) : ∃ b off c tv, v = .slice (some ⟨b, off, none⟩) 1 c ∧ (∀ i u, (rrC ⟨x, tv⟩)[i]? = some u → w.cell? ⟨b, off + i, none⟩ = some u) ∧ Sl w 1 tv x.tgt.length (x.tgt.map .string) := by
  obtain ⟨e, rfl⟩ : ∃ e, E = [e] := by
    match E, hm with
    | [e], _ => exact ⟨e, rfl⟩
  simp only [List.map_cons, List.map_nil, List.cons.injEq, and_true] at hm
  obtain ⟨sa, cap, rfl, q1, q2, q3⟩ := Sl.cells rrC_length (Sl.of_owns h.row)
  obtain ⟨b, off, rfl, hc⟩ := q3.at 0 (by simp)
  obtain ⟨r, tv⟩ := e
  dsimp only at hm
  subst hm
  have ht := Sl.of_owns (h.tgt ⟨r, tv⟩ (by simp))
  exact ⟨b, off, cap, tv, rfl, fun i u hu => by simpa using hc i u hu, ht⟩
theorem sp25_dbl : lookM 100 [sp25X] ([dbS, bellS].map foldS) 1 = [] := lookM_nil sp25_db
theorem sp25_dbk : decide (heldM [sp25X] ([dbS, bellS].map foldS) ≠ []) = false := by rw [sp25_db]; simp
theorem itoa7 : itoaB 7 = ⟨#[55]⟩ := by unfold itoaB; rw [dec_small (by decide)]; rfl
set_option maxRecDepth 100000 in
set_option maxHeartbeats 4000000 in
theorem speaks25_any (w : World) (m : Int) (hE : EnvW w m) : Calls Tryz.prog 8 #[] w fun e w' => e = .returned (.bool true) ∧ Only (fun _ => False) w w' := by
  obtain ⟨W, hW⟩ : ∃ W, W = w.alloc (.cells #[.int .u8 6, .int .u8 0, .int .u8 5, .int .u16 80, .bool false, .int .u8 0] 80) := ⟨_, rfl⟩
  have hbW : W.heap[w.heap.size]? = some (.cells #[.int .u8 6, .int .u8 0, .int .u8 5, .int .u16 80, .bool false, .int .u8 0] 80 (0, 0)) := by rw [hW]; exact heap_alloc_new w _
  have hoW : Only (fun _ => False) w W := by rw [hW]; exact (Only.refl _ _).alloc _
  have hsW : W.heap.size = w.heap.size + 1 := by rw [hW]; simp
  have hsl : Sl W 6 (.slice (some ⟨w.heap.size, 0, none⟩) 1 1) [sp25].length ([sp25].flatMap recBC) := by rw [hW]; exact Sl.fresh w _ _ 1 6 rfl (by unfold maxLen; decide)
  have hEW := hE.new hoW
  have hmade := made25_any W m hEW.max _ [sp25] hsl (fun a ha => by rw [List.mem_singleton.1 ha]; exact sp25_row)
  unfold MadeB at hmade
  rw [sp25_made] at hmade
  have HMADE := Lib.hid hmade
  have HOW := Lib.hid hoW
  have HE := Lib.hid hEW
  clear hmade hoW hEW
  clear hsl hbW hsW hE
  go_enter Tryz.func8, Tryz.ntmps8
  go_wp2_with fail
  rw [← hW]
  clear hW
  refine HMADE.out.mono ?_
  rintro e w1 ⟨s1, b1, r1, q1, v1, rfl, ho1, hs1, hb1, hst1, hr1, hr2, hr3, hr4, hsl1⟩
  obtain ⟨va, vcap, rfl, _⟩ := Sl.cells recC_length hsl1
  unfold rstV
  have HO1 := Lib.hid (HOW.out.trans ho1)
  have HE1 := Lib.hid (HE.out.new ho1)
  have HST := Lib.hid hst1
  clear ho1 hs1 hb1 hst1 hsl1 hr1 hr2 hr3 hr4 HMADE
  obtain ⟨V1, hV1⟩ : ∃ V1, V1 = w1.alloc (.cells #[.int .i64 48, .int .i64 100, .slice va 1 vcap, .int .i64 q1] 27) := ⟨_, rfl⟩
  have hbV1 : V1.heap[w1.heap.size]? = some (.cells #[.int .i64 48, .int .i64 100, .slice va 1 vcap, .int .i64 q1] 27 (0, 0)) := by rw [hV1]; exact heap_alloc_new w1 _
  have hoV1 : Only (fun _ => False) w1 V1 := by rw [hV1]; exact (Only.refl _ _).alloc _
  have hsV1 : V1.heap.size = w1.heap.size + 1 := by rw [hV1]; simp
  have HO2 := Lib.hid (HO1.out.trans hoV1)
  have HE2 := Lib.hid (HE1.out.new hoV1)
  have HSE := Lib.hid (sees_store (HST.out.new hoV1) HE2.out.max (fun x hx => by rw [List.mem_singleton.1 hx]; exact (rec25_bd sp25).1))
  clear hoV1 hbV1 hsV1 HST HE1 HO1
  go_upto_region 2 with (fail)
  rw [← hV1]
  clear hV1
  obtain ⟨V2, hV2⟩ : ∃ V2, V2 = V1.alloc (.cells #[.string ⟨#[87, 69, 66]⟩, .string ⟨#[98, 101, 108, 108]⟩] 9) := ⟨_, rfl⟩
  have hbV2 : V2.heap[V1.heap.size]? = some (.cells #[.string ⟨#[87, 69, 66]⟩, .string ⟨#[98, 101, 108, 108]⟩] 9 (0, 0)) := by rw [hV2]; exact heap_alloc_new V1 _
  have hoV2 : Only (fun _ => False) V1 V2 := by rw [hV2]; exact (Only.refl _ _).alloc _
  have hsV2 : V2.heap.size = V1.heap.size + 1 := by rw [hV2]; simp
  have hsl3 := strsNew V1 [webU, bellS] (by decide)
  have hlk3 := lookup_any V2 m 100 (.pointer (some ⟨s1, 0, none⟩)) (.slice (some ⟨V1.heap.size, 0, none⟩) 2 2) [sp25X] [webU, bellS] 33 (HE2.out.new hoV2) (HSE.out.new hoV2) ⟨_, rfl⟩ (by rw [hV2]; exact hsl3) (by decide) (by intro s hs; simp only [List.mem_cons, List.not_mem_nil, or_false] at hs; rcases hs with rfl | rfl | rfl <;> decide)
  rw [sp25_srv, sp25_srvk, show ((33 : Nat) : Int) = 33 from rfl] at hlk3
  have HLK3 := Lib.hid hlk3
  have HOB3 := Lib.hid (HO2.out.trans hoV2)
  clear hlk3 hsl3 hbV2 hsV2
  go_wp2_with fail
  rw [← hV2]
  refine HLK3.out.mono ?_
  rintro e w3 ⟨v3, E3, rfl, ho3, hrow3, hmap3⟩
  have HO3 := Lib.hid (HOB3.out.trans ho3)
  have HE3 := Lib.hid ((HE2.out.new hoV2).new ho3)
  have HS3 := Lib.hid ((HSE.out.new hoV2).new ho3)
  have HOA3 := Lib.hid (hoV2.trans ho3)
  clear ho3 hoV2 hV2 HLK3
  obtain ⟨b1', o1, c1, tv1, rfl, hc1, ht1⟩ := rowCells hrow3 hmap3
  obtain ⟨htl, ta, tc, rfl, _, _, hta⟩ := id ht1
  obtain ⟨tb, tof, rfl, hts⟩ := hta.resolve_left (by show ¬ (3 : Nat) = 0; decide)
  have hp8 := hc1 8 _ rfl
  have hp9 := hc1 9 _ rfl
  have hts0 := hts 0 (.string ⟨#[55]⟩) (by rw [← itoa7]; rfl)
  rw [Nat.add_zero] at hts0
  have HP8 := Lib.hid hp8
  have HP9 := Lib.hid hp9
  have HTS := Lib.hid hts0
  clear hp8 hp9 hts0
  clear hrow3 hmap3 hc1 ht1 hts hta htl
  go_upto_region 3 with (fail)
  obtain ⟨V4, hV4⟩ : ∃ V4, V4 = w3.alloc (.cells #[.string ⟨#[55]⟩, .string ⟨#[110, 111, 100, 101]⟩, .string ⟨#[98, 101, 108, 108]⟩] 9) := ⟨_, rfl⟩
  have hbV4 : V4.heap[w3.heap.size]? = some (.cells #[.string ⟨#[55]⟩, .string ⟨#[110, 111, 100, 101]⟩, .string ⟨#[98, 101, 108, 108]⟩] 9 (0, 0)) := by rw [hV4]; exact heap_alloc_new w3 _
  have hoV4 : Only (fun _ => False) w3 V4 := by rw [hV4]; exact (Only.refl _ _).alloc _
  have hsV4 : V4.heap.size = w3.heap.size + 1 := by rw [hV4]; simp
  have hsl5 := strsNew w3 [sevS, nodeS, bellS] (by decide)
  have hlk5 := lookup_any V4 m 100 (.pointer (some ⟨s1, 0, none⟩)) (.slice (some ⟨w3.heap.size, 0, none⟩) 3 3) [sp25X] [sevS, nodeS, bellS] 1 (HE3.out.new hoV4) (HS3.out.new hoV4) ⟨_, rfl⟩ (by rw [hV4]; exact hsl5) (by decide) (by intro s hs; simp only [List.mem_cons, List.not_mem_nil, or_false] at hs; rcases hs with rfl | rfl | rfl <;> decide)
  rw [sp25_a, sp25_ak, show ((1 : Nat) : Int) = 1 from rfl] at hlk5
  have HLK5 := Lib.hid hlk5
  have HOB5 := Lib.hid (HO3.out.trans hoV4)
  clear hlk5 hsl5 hbV4 hsV4
  go_wp2_with fail
  rw [← hV4]
  refine HLK5.out.mono ?_
  rintro e w5 ⟨v5, E5, rfl, ho5, hrow5, hmap5⟩
  have HO5 := Lib.hid (HOB5.out.trans ho5)
  have HE5 := Lib.hid ((HE3.out.new hoV4).new ho5)
  have HS5 := Lib.hid ((HS3.out.new hoV4).new ho5)
  have HOA5 := Lib.hid (hoV4.trans ho5)
  clear ho5 hoV4 hV4 HLK5
  obtain ⟨b2', o2, c2, tv2, rfl, hc2, ht2⟩ := rowCells hrow5 hmap5
  have hd2 := hc2 2 _ rfl
  have hd3 := hc2 3 _ rfl
  have hd4 := hc2 4 _ rfl
  have hd5 := hc2 5 _ rfl
  have HD2 := Lib.hid hd2
  have HD3 := Lib.hid hd3
  have HD4 := Lib.hid hd4
  have HD5 := Lib.hid hd5
  clear hd2 hd3 hd4 hd5
  clear hrow5 hmap5 hc2 ht2
  go_upto_region 4 with (fail)
  obtain ⟨V6, hV6⟩ : ∃ V6, V6 = w5.alloc (.cells #[.string ⟨#[100, 98]⟩, .string ⟨#[98, 101, 108, 108]⟩] 9) := ⟨_, rfl⟩
  have hbV6 : V6.heap[w5.heap.size]? = some (.cells #[.string ⟨#[100, 98]⟩, .string ⟨#[98, 101, 108, 108]⟩] 9 (0, 0)) := by rw [hV6]; exact heap_alloc_new w5 _
  have hoV6 : Only (fun _ => False) w5 V6 := by rw [hV6]; exact (Only.refl _ _).alloc _
  have hsV6 : V6.heap.size = w5.heap.size + 1 := by rw [hV6]; simp
  have hsl7 := strsNew w5 [dbS, bellS] (by decide)
  have hlk7 := lookup_any V6 m 100 (.pointer (some ⟨s1, 0, none⟩)) (.slice (some ⟨w5.heap.size, 0, none⟩) 2 2) [sp25X] [dbS, bellS] 1 (HE5.out.new hoV6) (HS5.out.new hoV6) ⟨_, rfl⟩ (by rw [hV6]; exact hsl7) (by decide) (by intro s hs; simp only [List.mem_cons, List.not_mem_nil, or_false] at hs; rcases hs with rfl | rfl | rfl <;> decide)
  rw [sp25_dbl, sp25_dbk, show ((1 : Nat) : Int) = 1 from rfl] at hlk7
  have HLK7 := Lib.hid hlk7
  have HOB7 := Lib.hid (HO5.out.trans hoV6)
  clear hlk7 hsl7 hbV6 hsV6
  go_wp2_with fail
  rw [← hV6]
  refine HLK7.out.mono ?_
  rintro e w7 ⟨v7, E7, rfl, ho7, hrow7, hmap7⟩
  have HO7 := Lib.hid (HOB7.out.trans ho7)
  have HE7 := Lib.hid ((HE5.out.new hoV6).new ho7)
  have HS7 := Lib.hid ((HS5.out.new hoV6).new ho7)
  have HOA7 := Lib.hid (hoV6.trans ho7)
  clear ho7 hoV6 hV6 HLK7
  clear hrow7 hmap7
  go_upto_region 5 with (fail)
  obtain ⟨V8, hV8⟩ : ∃ V8, V8 = w7.alloc (.cells #[.string ⟨#[100, 98]⟩, .string ⟨#[98, 101, 108, 108]⟩] 9) := ⟨_, rfl⟩
  have hbV8 : V8.heap[w7.heap.size]? = some (.cells #[.string ⟨#[100, 98]⟩, .string ⟨#[98, 101, 108, 108]⟩] 9 (0, 0)) := by rw [hV8]; exact heap_alloc_new w7 _
  have hoV8 : Only (fun _ => False) w7 V8 := by rw [hV8]; exact (Only.refl _ _).alloc _
  have hsV8 : V8.heap.size = w7.heap.size + 1 := by rw [hV8]; simp
  have hask := ask_ok V8 (.slice (some ⟨w7.heap.size, 0, none⟩) 2 2) 1 1 [dbS, bellS] (by rw [hV8]; exact strsNew w7 [dbS, bellS] (by decide)) sp25_may (by decide) (by decide)
  rw [show ((1 : Nat) : Int) = 1 from rfl] at hask
  have hrs0 := fun W hE hS => respond_any W m 100 (.pointer (some ⟨s1, 0, none⟩)) [sp25X] ⟨(askMsg 1 [dbS, bellS] 1).toArray⟩ hE hS ⟨_, rfl⟩ (by show 12 ≤ (askMsg 1 [dbS, bellS] 1).length; rw [askMsg_len]; omega) (by show (askMsg 1 [dbS, bellS] 1).length ≤ 100000; rw [askMsg_len]; have := (may_size sp25_may).1; omega) (by rw [headD_ask (by decide)]; rfl)
  rw [sp25_resp] at hrs0
  have hpar := fun W => repParse_any W (askQ 1 [dbS, bellS] 1) (askQ_ok (by decide) (by decide) sp25_may) (fun h => by cases h) 3 (by decide) [] (fun x hx => by cases hx) (by decide) (.inl rfl)
  rw [List.take_nil, show decide (fitN (askQ 1 [dbS, bellS] 1) [] < ([] : List RR).length) = false from decide_eq_false (Nat.not_lt_zero _)] at hpar
  unfold ParseP at hpar
  rw [show ((3 : Nat) : Int) = 3 from rfl] at hpar
  generalize (⟨(askMsg 1 [dbS, bellS] 1).toArray⟩ : ByteArray) = MS at *
  generalize (⟨(repB (askQ 1 [dbS, bellS] 1) 3 []).toArray⟩ : ByteArray) = RS at *
  have HASK := Lib.hid hask
  have HRS0 := Lib.hid hrs0
  have HPAR := Lib.hid hpar
  clear hask hrs0 hpar
  clear hbV8 hsV8
  go_wp2_with fail
  rw [← hV8]
  clear hV8
  refine HASK.out.mono ?_
  rintro e w9 ⟨rfl, ho9⟩
  have HO9 := Lib.hid (HO7.out.trans (hoV8.trans ho9))
  have HOA9 := Lib.hid (hoV8.trans ho9)
  have HRS1 := Lib.hid (HRS0.out w9 (HE7.out.new HOA9.out) (HS7.out.new HOA9.out))
  clear hoV8 ho9 HASK
  go_wp2_with fail
  refine HRS1.out.mono ?_
  rintro e w10 ⟨rfl, ho10⟩
  have HO10 := Lib.hid (HO9.out.trans ho10)
  have HOA10 := Lib.hid (HOA9.out.trans ho10)
  clear ho10
  go_wp2_with fail
  refine (HPAR.out w10).mono ?_
  rintro e w11 ⟨v11, nv, E11, rfl, ho11, hrow11, hmap11, own11⟩
  obtain ⟨_, na, nc, rfl, _⟩ := id (Sl.of_owns own11)
  have HO11 := Lib.hid (HO10.out.trans ho11)
  have HOA11 := Lib.hid (HOA10.out.trans ho11)
  have HZ : Only (fun _ => False) w3 w11 := (HOA5.out.trans HOA7.out).trans HOA11.out
  have HZ5 : Only (fun _ => False) w5 w11 := HOA7.out.trans HOA11.out
  clear hrow11 hmap11 own11 ho11
  have hqi := infoQq (hdQ (askQ 1 [dbS, bellS] 1) (askQ 1 [dbS, bellS] 1).asked.toNat) (askQ 1 [dbS, bellS] 1).asked (.slice na (askQ 1 [dbS, bellS] 1).name.length nc) (askQ 1 [dbS, bellS] 1).typ (askQ 1 [dbS, bellS] 1).cls
  have hqo := qC_one (hdQ (askQ 1 [dbS, bellS] 1) (askQ 1 [dbS, bellS] 1).asked.toNat) (askQ 1 [dbS, bellS] 1).asked (.slice na (askQ 1 [dbS, bellS] 1).name.length nc) (askQ 1 [dbS, bellS] 1).typ (askQ 1 [dbS, bellS] 1).cls rfl
  generalize (qC (hdQ (askQ 1 [dbS, bellS] 1) (askQ 1 [dbS, bellS] 1).asked.toNat) (askQ 1 [dbS, bellS] 1).asked (.slice na (askQ 1 [dbS, bellS] 1).name.length nc) (askQ 1 [dbS, bellS] 1).typ (askQ 1 [dbS, bellS] 1).cls).toArray = QA at *
  have HQI := Lib.hid hqi
  have HQO := Lib.hid hqo
  clear hqi hqo
  have y8 := HZ.cell HP8.out id
  have y9 := HZ.cell HP9.out id
  have yt := HZ.cell HTS.out id
  have d2 := HZ5.cell HD2.out id
  have d3 := HZ5.cell HD3.out id
  have d4 := HZ5.cell HD4.out id
  have d5 := HZ5.cell HD5.out id
  rw [show ((80 : Nat) : Int) = 80 from rfl] at y8
  rw [show ((10 : Nat) : Int) = 10 from rfl] at d2
  rw [show ((0 : Nat) : Int) = 0 from rfl] at d3 d4
  rw [show ((5 : Nat) : Int) = 5 from rfl] at d5
  have hqz : QA.size = 17 := by have h := HQI.out; rw [infoQ] at h; exact (Option.some.inj h).symm
  have HQZ := Lib.hid hqz
  clear HZ HZ5 hqz
  go_upto_region 8 with ((with_reducible refine wpList_store_row (o := ⟨none, .store 55 (.tmp 13) (.tmp 56), _, _, _, none⟩) rfl _ _ _ rfl (w11.heap.size) QA ?_ ?_ 55 _ (heap_alloc_new w11 _) HQI.out ?_ HQO.out ?_); (· rfl); (· rfl); (· rw [HQZ.out]; rfl))
  have ho13 : Only (fun _ => False) w11 ((w11.alloc (.cells #[.int .u16 0, .bool false, .int .u8 0, .bool false, .bool false, .bool false, .bool false, .int .u8 0, .int .u8 0, .int .u16 0, .int .u16 0, .int .u16 0, .int .u16 0, .bool false, .slice none 0 0, .int .u16 0, .int .u16 0] 55)).setRow w11.heap.size QA) := ((Only.refl _ _).alloc _).setRow (.inl (Nat.le_refl _)) _
  generalize (w11.alloc (.cells #[.int .u16 0, .bool false, .int .u8 0, .bool false, .bool false, .bool false, .bool false, .int .u8 0, .int .u8 0, .int .u16 0, .int .u16 0, .int .u16 0, .int .u16 0, .bool false, .slice none 0 0, .int .u16 0, .int .u16 0] 55)).setRow w11.heap.size QA = w13 at *
  have y8' := ho13.cell y8 id
  have y9' := ho13.cell y9 id
  have yt' := ho13.cell yt id
  have d2' := ho13.cell d2 id
  have d3' := ho13.cell d3 id
  have d4' := ho13.cell d4 id
  have d5' := ho13.cell d5 id
  have heq : ∀ w : World, (binOp BinOp.eql 44 (.agg #[.int .u8 10, .int .u8 0, .int .u8 0, .int .u8 5]) (.agg #[.int .u8 10, .int .u8 0, .int .u8 0, .int .u8 5])).run Tryz.prog w = .ok (.bool true) w := fun w => eqArr w 10 0 0 5 10 0 0 5
  have HO13 := Lib.hid (HO11.out.trans ho13)
  clear ho13 y8 y9 yt d2 d3 d4 d5
  go_wp2_with fail
  go_ret
  exact ⟨rfl, HO13.out⟩
end Go.Proofs.YtbdfijgejkimnaaGreatDoor
/-! From a walk that returns true and touches nothing that was there to the row's post; the arguments' readings as 'Sl'. -/
namespace Go.Proofs.YtbdfijgejkimnaaGreatDoor
open Go.Conc Go.RowKit Go.ChangeShapes Go.WideShapes Go.ChangeAt Go.WideMaps Go.WideElems

theorem trodAll_stays {H : Type} {enc : TypeId × Value → H} {P : Program} (hl : laidOutB P = true) {W W' : World} (hb : Below W.heap.size W W') :
    ∀ (ts : List TypeId) (vs : List Value) (ds : List (DataW H)) (ps : List MemPlace), (∀ t ∈ ts, P.readableRec t = true ∧ t < P.types.size) →
      DataW.TrodAll enc P W 0 (fun _ => true) true ts vs ds ps → (∀ x ∈ ps, x.block < W.heap.size) → DataW.TrodAll enc P W' 0 (fun b => decide (b < W.heap.size)) true ts vs ds ps
  | [], [], [], _, _, h, _ => h
  | t :: ts, v :: vs, d :: ds, _, ht, h, hlt => by
    obtain ⟨p, q, h1, h2, rfl⟩ := h
    obtain ⟨r1, r2⟩ := ht t (by simp)
    exact ⟨p, q, Below.trod hl r1 r2 h1 hb (fun x hx => hlt x (by simp [hx])), trodAll_stays hl hb ts vs ds q (fun t' h' => ht t' (by simp [h'])) h2 (fun x hx => hlt x (by simp [hx])), rfl⟩

/-- THE POST OF A LAW: it has returned true, and below the heap's old size nothing has changed. -/
theorem law_post {H : Type} {enc : TypeId × Value → H} {P : Program} {f : Func} {s : ChangeSpec} {apart fresh handsOn : Bool} {W W' : World} {args : Array Value} {ds gs : List (DataW H)} {before : List MemPlace} {tb : TypeId}
    (hW : DataW.Whole enc P f.params.toList s.vars apart W args.toList ds gs before) (hb : Below W.heap.size W W') (hl : laidOutB P = true) (hr : ∀ t ∈ f.params.toList, P.readableRec t = true ∧ t < P.types.size)
    (hrt : f.resultTypes = #[tb]) (htb : P.underlying tb = some .bool) (hv : s.vars = []) (e1 : (s.fn H (ds ++ gs)).results = [.lit (.bool true)]) (e2 : (s.fn H (ds ++ gs)).args = ds) (e3 : (s.fn H (ds ++ gs)).vars = []) :
    s.post enc P f apart fresh handsOn false W args (.bool true) W' := by
  have hW' := hW
  obtain ⟨p, q, hA, hV, rfl, _, _⟩ := hW
  rw [hv] at hV
  obtain ⟨rfl, rfl⟩ := trodVars_none hV
  simp only [List.append_nil] at hW' e1 e2 e3
  have hlt : ∀ x ∈ p, x.block < W.heap.size := fun x hx => by simpa using hW'.lt x hx
  refine ⟨ds, [], p, [], p, [], hW', ?_, ?_, ?_, hb.frame _, fun h => by cases h⟩
  · rw [List.append_nil, e1, hrt]
    exact trodAll_mk1 (shut_bool htb _)
  · rw [List.append_nil, e2]
    exact trodAll_stays hl hb _ _ _ _ hr hA hlt
  · rw [List.append_nil, e3, hv]
    rfl

theorem spot_of {w : World} {a : Addr} {u : Value} (h : w.cell? a = some u) : a.spot = none := World.cell?_spot h

section
variable {H : Type} {enc : TypeId × Value → H} {P : Program} {w : World} {base : Nat} {spare : Nat → Bool} {held : Bool} {t e : TypeId} {v : Value} {d : DataW H} {ps : List MemPlace}

theorem sl_of_row {size : Nat} {a : Addr} {len cap : Nat} {xs : List Value} (hsz : 0 < size) (hx : xs.length = len * size) (hl : len ≤ cap) (hm : cap ≤ maxLen) (hc : ∀ j u, xs[j]? = some u → w.cell? (a.add j) = some u) : Sl w size (.slice (some a) len cap) len xs := by
  refine ⟨hx, _, cap, rfl, hl, hm, ?_⟩
  by_cases h0 : len = 0
  · exact .inl h0
  · have hpos : 0 < xs.length := by rw [hx]; exact Nat.mul_pos (by omega) hsz
    have h1 := hc 0 xs[0] (by simp)
    obtain ⟨b, off, spot⟩ := a
    have hs : spot = none := by simpa [Addr.add] using World.cell?_spot h1
    subst hs
    exact .inr ⟨b, off, rfl, fun j u hu => by rw [← Addr.add_lit]; exact hc j u hu⟩

/-- A slice of integers that came in. -/
theorem sl_ints {k : IntKind} (ht : P.underlying t = some (.slice e)) (he : P.underlying e = some (.int k)) (hc : P.cellsOf e = 1) (hok : Value.okWide P w .any base t v) (h : DataW.Trod enc P w 0 (fun _ => true) held t v d ps) :
    ∃ zs : List Int, Sl w 1 v zs.length (zs.map (.int k)) ∧ ∀ z ∈ zs, (Lit.int k z).wf = true := by
  obtain ⟨a0, n0, c0, rfl⟩ := okWide_slice ht hok
  obtain ⟨fuel, hf⟩ := h
  rcases open_ints ht he hc hf with ⟨hcs, -⟩ | ⟨a, len', cap', zs, hcs, _, hl, hm, hz, -, hcell, hwz⟩
  · simp [Value.cells] at hcs
    obtain ⟨rfl, rfl, rfl⟩ := hcs
    exact ⟨[], Sl.nil _ _, by simp⟩
  · simp [Value.cells] at hcs
    obtain ⟨rfl, rfl, rfl⟩ := hcs
    simp only [if_true] at hz
    have hlen : (zs.take n0).length = n0 := by rw [List.length_take]; omega
    refine ⟨zs.take n0, ?_, fun z h => hwz z (List.mem_of_mem_take h)⟩
    refine (sl_of_row (by decide) (by simp; omega) hl hm ?_ : Sl w 1 _ n0 _).cast hlen.symm
    intro j u hu
    simp only [List.getElem?_map, Option.map_eq_some_iff] at hu
    obtain ⟨z, hz1, rfl⟩ := hu
    have hj : j < n0 := by have := (List.getElem?_eq_some_iff.1 hz1).1; omega
    rw [hcell j (by omega)]
    rw [List.getElem?_take] at hz1
    rw [if_pos hj] at hz1
    simp [List.getD, hz1]

/-- A slice of strings that came in. -/
theorem sl_strs (ht : P.underlying t = some (.slice e)) (he : P.underlying e = some .string) (hc : P.cellsOf e = 1) (hok : Value.okWide P w .any base t v) (h : DataW.Trod enc P w 0 (fun _ => true) held t v d ps) :
    ∃ ss : List ByteArray, Sl w 1 v ss.length (ss.map .string) ∧ ∀ s ∈ ss, s.size ≤ maxLen := by
  obtain ⟨a0, n0, c0, rfl⟩ := okWide_slice ht hok
  obtain ⟨fuel, hf⟩ := h
  rcases open_strings ht he hc hf with ⟨hcs, -⟩ | ⟨a, len', cap', zs, hcs, _, hl, hm, hz, -, hcell, hwz⟩
  · simp [Value.cells] at hcs
    obtain ⟨rfl, rfl, rfl⟩ := hcs
    exact ⟨[], Sl.nil _ _, by simp⟩
  · simp [Value.cells] at hcs
    obtain ⟨rfl, rfl, rfl⟩ := hcs
    simp only [if_true] at hz
    have hlen : (zs.take n0).length = n0 := by rw [List.length_take]; omega
    refine ⟨zs.take n0, ?_, fun z h => hwz z (List.mem_of_mem_take h)⟩
    refine (sl_of_row (by decide) (by simp; omega) hl hm ?_ : Sl w 1 _ n0 _).cast hlen.symm
    intro j u hu
    simp only [List.getElem?_map, Option.map_eq_some_iff] at hu
    obtain ⟨z, hz1, rfl⟩ := hu
    have hj : j < n0 := by have := (List.getElem?_eq_some_iff.1 hz1).1; omega
    rw [hcell j (by omega)]
    rw [List.getElem?_take] at hz1
    rw [if_pos hj] at hz1
    simp [List.getD, hz1]
theorem sl_strs_cell {fuel : Nat} {x : DataW H × List MemPlace} (ht : P.underlying t = some (.slice e)) (he : P.underlying e = some .string) (hc : P.cellsOf e = 1) (hf : DataW.trod enc P w 0 (fun _ => true) held fuel t [v] = some x) :
    ∃ ss : List ByteArray, Sl w 1 v ss.length (ss.map .string) ∧ ∀ s ∈ ss, s.size ≤ maxLen := by
  rcases open_strings ht he hc hf with ⟨hcs, -⟩ | ⟨a, n0, cap', zs, hcs, _, hl, hm, hz, -, hcell, hwz⟩
  · simp at hcs
    subst hcs
    exact ⟨[], Sl.nil _ _, by simp⟩
  · simp at hcs
    subst hcs
    simp only [if_true] at hz
    have hlen : (zs.take n0).length = n0 := by rw [List.length_take]; omega
    refine ⟨zs.take n0, ?_, fun z h => hwz z (List.mem_of_mem_take h)⟩
    refine (sl_of_row (by decide) (by simp; omega) hl hm ?_ : Sl w 1 _ n0 _).cast hlen.symm
    intro j u hu
    simp only [List.getElem?_map, Option.map_eq_some_iff] at hu
    obtain ⟨z, hz1, rfl⟩ := hu
    have hj : j < n0 := by have := (List.getElem?_eq_some_iff.1 hz1).1; omega
    rw [hcell j (by omega)]
    rw [List.getElem?_take] at hz1
    rw [if_pos hj] at hz1
    simp [List.getD, hz1]
/-- A slice of slices of strings that came in (they may share memory). -/
theorem sl_rows {s : TypeId} (ht : P.underlying t = some (.slice e)) (he : P.underlying e = some (.slice s)) (hs : P.underlying s = some .string) (hc : P.cellsOf e = 1) (hc2 : P.cellsOf s = 1) (hok : Value.okWide P w .any base t v) (h : DataW.Trod enc P w 0 (fun _ => true) held t v d ps) :
    ∃ xs : List Value, Sl w 1 v xs.length xs ∧ ∀ x ∈ xs, ∃ l : List ByteArray, Sl w 1 x l.length (l.map .string) ∧ ∀ s ∈ l, s.size ≤ maxLen := by
  obtain ⟨a0, n0, c0, rfl⟩ := okWide_slice ht hok
  obtain ⟨fuel, hf⟩ := h
  rcases Deep.open_slice1 ht hc hf with ⟨hcs, -⟩ | ⟨a, len', cap', m, n, V, D, Pl, hcs, _, hl, hm, hmm, -, hel⟩
  · simp [Value.cells] at hcs
    obtain ⟨rfl, rfl, rfl⟩ := hcs
    exact ⟨[], Sl.nil _ _, by simp⟩
  · simp [Value.cells] at hcs
    obtain ⟨rfl, rfl, rfl⟩ := hcs
    simp only [if_true] at hmm
    refine ⟨(List.range n0).map V, ?_, fun x hx => ?_⟩
    · refine (sl_of_row (by decide) (by simp) hl hm ?_ : Sl w 1 _ n0 _).cast (by simp)
      intro j u hu
      simp only [List.getElem?_map, Option.map_eq_some_iff] at hu
      obtain ⟨i, hi1, rfl⟩ := hu
      obtain ⟨hi2, hi3⟩ := List.getElem?_eq_some_iff.1 hi1
      simp at hi2 hi3
      subst hi3
      exact (hel j (by omega)).1
    · obtain ⟨i, hi, rfl⟩ := List.mem_map.1 hx
      have hi : i < n0 := by simpa using hi
      exact sl_strs_cell he hs hc2 (hel i (by omega)).2
/-- A slice of bools that came in. -/
theorem sl_bools (ht : P.underlying t = some (.slice e)) (he : P.underlying e = some .bool) (hc : P.cellsOf e = 1) (hok : Value.okWide P w .any base t v) (h : DataW.Trod enc P w 0 (fun _ => true) held t v d ps) :
    ∃ zs : List Bool, Sl w 1 v zs.length (zs.map .bool) := by
  obtain ⟨a0, n0, c0, rfl⟩ := okWide_slice ht hok
  obtain ⟨fuel, hf⟩ := h
  rcases Deep.open_slice1 ht hc hf with ⟨hcs, -⟩ | ⟨a, len', cap', m, n, V, D, Pl, hcs, _, hl, hm, hmm, -, hel⟩
  · simp [Value.cells] at hcs
    obtain ⟨rfl, rfl, rfl⟩ := hcs
    exact ⟨[], Sl.nil _ _⟩
  · simp [Value.cells] at hcs
    obtain ⟨rfl, rfl, rfl⟩ := hcs
    simp only [if_true] at hmm
    have each : ∀ i, i < n0 → ∃ b : Bool, w.cell? (a.add i) = some (.bool b) := by
      intro i hi
      obtain ⟨h1, h2⟩ := hel i (by omega)
      obtain ⟨b, h3, -⟩ := DataW.trod_bool he h2
      simp at h3
      exact ⟨b, by rw [h1, h3]⟩
    obtain ⟨f, hf2⟩ := Deep.choose_lt each
    refine ⟨(List.range n0).map f, ?_⟩
    refine (sl_of_row (by decide) (by simp) hl hm ?_ : Sl w 1 _ n0 _).cast (by simp)
    intro j u hu
    simp only [List.map_map, List.getElem?_map, Option.map_eq_some_iff] at hu
    obtain ⟨i, hi1, rfl⟩ := hu
    obtain ⟨hi2, hi3⟩ := List.getElem?_eq_some_iff.1 hi1
    simp at hi2 hi3
    subst hi3
    simpa using hf2 j hi2
end
end Go.Proofs.YtbdfijgejkimnaaGreatDoor
/-! The step from a walk to a row that lists tables, with the world's shape at hand. -/
namespace Go.Proofs.YtbdfijgejkimnaaGreatDoor
open Go.Conc Go.RowKit Go.ChangeShapes Go.WideShapes Go.ChangeAt

theorem returns_laid {a : Assume} {C : Checked} {os : Os} {f : FuncId} {fn : Func} {s : ChangeSpec} {conds : List PathCond} {apart fresh handsOn again : Bool} {H : Type} {enc : TypeId × Value → H} {X : World → Array Value → Prop}
    (hX : ∀ (w w' : World) (args : Array Value), w.heap = w'.heap → X w args → X w' args) (own : ownKnob C.prog.godebug = none) (started : os.Started) (noInit : C.prog.inits.idxOf? f = none) (hfn : C.prog.funcs[f]? = some fn)
    (witness : ∃ (w : World) (tape : Tape) (i : Input), w.os = os ∧ (w.forCall tape i).Shaped C.prog ∧ i.vars = [] ∧ Input.okWide C.prog (w.forCall tape i) .any w.heap.size f i ∧
      ((s.pre enc C.prog fn conds apart (w.forCall tape i).memory i.args ∧ X (w.forCall tape i).memory i.args) ∧ sizedMet enc C.prog fn (OpenSpec.ofChange s) apart (w.forCall tape i).memory i.args) ∧ a.holds C.prog (lone (Frame.enter C.prog f i.args .normal) [] (w.forCall tape i)))
    (walk : ∀ (W : World) (base : Nat) (args : Array Value) (ds gs : List (DataW H)) (before : List MemPlace),
      (∀ (j : Nat) t v, fn.params[j]? = some t → args[j]? = some v → Value.okWide C.prog W .any base t v) → DataW.Whole enc C.prog fn.params.toList s.vars apart W args.toList ds gs before →
      X W args → W.ShapedOpen C.prog → Calls C.prog f args W fun e W' => ∃ v, e = .returned v ∧ s.post enc C.prog fn apart fresh handsOn again W args v W') :
    ReturnsInHanded a C os f .any (fun w args => (s.pre enc C.prog fn conds apart w args ∧ X w args) ∧ sizedMet enc C.prog fn (OpenSpec.ofChange s) apart w args) (s.post enc C.prog fn apart fresh handsOn again) := by
  refine returnsInHanded_of_calls own started noInit witness fun w tape i _ hsh _ hok hpre _ => ?_
  obtain ⟨_, _, _, fn', h1, _, _, _, _, hval⟩ := hok
  obtain rfl : fn' = fn := Option.some.inj (h1.symm.trans hfn)
  obtain ⟨⟨⟨ds, gs, before, hw, _⟩, hx⟩, _⟩ := hpre
  refine (walk (w.forCall tape i) w.heap.size i.args ds gs before hval (DataW.Whole.of_heap (w' := w.forCall tape i) (by rfl) hw) (hX _ _ _ (by rfl) hx) hsh).mono fun e W' ⟨v, he, hp⟩ => ?_
  subst he
  exact ChangeSpec.post_blind hp
theorem ownD : ownKnob Tryz.prog.godebug = none := by kernel_rfl
theorem laidOutD : laidOutB Tryz.prog = true := by kernel_rfl
theorem maxLen_cell (W : World) (h : W.ShapedOpen Tryz.prog) : ∃ m, W.cell? ⟨0, 0, none⟩ = some (.int .i64 m) := Tryz.laysM219.s1_3 W h
end Go.Proofs.YtbdfijgejkimnaaGreatDoor
