/- What is wanted: Heard. -/
import Derived.Test.YtefadkmdfhjaeaaWnt5
import Derived.Test.YtefadkmdfhjaeaaHeld
import Derived.Deep.CutBlock
namespace Go.Proofs.Ytefadkmdfhjaeaa
open Go.Conc Go.RowKit Go.Maps

set_option maxRecDepth 100000 in
theorem wheard_nil (w : World) (k : ByteArray) (ver : Nat) (fr now : Int) : Calls Try.prog 8 #[.pointer none, .agg #[.string k, .int .u64 ver], .int .i64 fr, .int .i64 now] w fun e w' => e = .returned (.bool false) ∧ Only (fun _ => False) w w' := by
  go_enter Try.func8, Try.ntmps8
  go_wp2_with fail
  go_ret
  exact ⟨rfl, (Only.refl _ _).alloc _⟩
theorem sync_none {L : List EntW} {C : List (ByteArray × (Int × Int))} (hs : (C.map (·.1)).Perm (L.map (·.key))) {k : ByteArray} (hf : findW L k = none) : lookL C k = none := lookL_of_none (fun p hp e => by
  have h1 : p.1 ∈ L.map (·.key) := hs.mem_iff.1 (List.mem_map.2 ⟨p, hp, rfl⟩)
  obtain ⟨q, hq, e2⟩ := List.mem_map.1 h1
  exact findW_none hf q hq (e2.trans e))
def HRes (w : World) (x kb c cb : Nat) (wait cnt : Int) (L : List EntW) (C : List (ByteArray × (Int × Int))) (k : ByteArray) (ver : Nat) (fr at_ : Int) (e : Ending) (w' : World) : Prop := ∃ b, e = .returned (.bool b) ∧ HPost w w' x kb c cb wait cnt L C k ver fr at_ b
theorem infoIntW : (Try.prog.info? 3).map (fun i => (i.zero, i.size, i.bytes)) = some (some (.int .i64 0), 1, 8) := by kernel_rfl
set_option maxRecDepth 100000 in
set_option maxHeartbeats 8000000 in
theorem wheard_any (w : World) (x kb c cb : Nat) (wait cnt : Int) (L : List EntW) (C : List (ByteArray × (Int × Int))) (h : WantAt w x kb c cb wait cnt L C) (k : ByteArray) (hk : k.size ≤ maxLen) (ver : Nat) (fr now : Int) (hw0 : 0 ≤ wait) (hw1 : wait ≤ 1000) (hnow : -9223372036854775808 ≤ now) (hcnt0 : 0 ≤ cnt) (hcnt : cnt < 1000000) (hL : L.length ≤ 1000) :
    Calls Try.prog 8 #[.pointer (some ⟨x, 0, none⟩), .agg #[.string k, .int .u64 ver], .int .i64 fr, .int .i64 now] w fun e w' => HRes w x kb c cb wait cnt L C k ver fr (min now 4611686018427387904 + wait) e w' := by
  obtain ⟨W, hW⟩ : ∃ W, W = w.alloc (.cells #[.string k, .int .u64 ver] 29) := ⟨_, rfl⟩
  have hbW : W.heap[w.heap.size]? = some (.cells #[.string k, .int .u64 ver] 29 (0, 0)) := by rw [hW]; exact heap_alloc_new w _
  have hoW : Only (fun _ => False) w W := by rw [hW]; exact (Only.refl _ _).alloc _
  have hsW : W.heap.size = w.heap.size + 1 := by rw [hW]; simp
  have hW1 := h.new hoW
  have HP0 := Lib.hid (fun w' (ho : Only (fun _ => False) w w') b hs => HPost.same (w' := w') (k := k) (ver := ver) (from_ := fr) (at_ := min now 4611686018427387904 + wait) (b := b) h ho hs)
  by_cases hf1 : fr < 1
  · have HF := Lib.hid (HP0.out W hoW false (.inl ⟨rfl, rfl, rfl, rfl, .inl hf1⟩))
    have HW := Lib.hid hW
    clear hW hoW hbW hsW hW1 h
    go_enter Try.func8, Try.ntmps8
    go_wp2_with fail
    go_ret
    rw [← HW.out]
    exact ⟨_, rfl, HF.out⟩
  by_cases hf2 : fr > 65535
  · have HF := Lib.hid (HP0.out W hoW false (.inl ⟨rfl, rfl, rfl, rfl, .inr (.inl hf2)⟩))
    have HW := Lib.hid hW
    clear hW hoW hbW hsW hW1 h
    go_enter Try.func8, Try.ntmps8
    go_wp2_with fail
    go_ret
    rw [← HW.out]
    exact ⟨_, rfl, HF.out⟩
  obtain ⟨vv, va, vn, vc, ok, hlk, hcase⟩ := hW1.look k hk
  have x0 : W.cell? ⟨x, 0, none⟩ = some (.map (some kb)) := cell_at hW1.blk 0
  have b0 : W.cell? ⟨w.heap.size, 0, none⟩ = some (.string k) := cell_at hbW 0
  have HCC := Lib.hid (show ∀ w', Only (fun _ => False) W w' → w'.cell? ⟨x, 0, none⟩ = some (.map (some kb)) ∧ w'.cell? ⟨w.heap.size, 0, none⟩ = some (.string k) ∧ (Instr.lookup 64 (.map (some kb)) (.string k) true).run Try.prog w' = .ok (.tuple #[.agg #[.int .u64 vv, .slice va vn vc], .bool ok]) w' from fun w' ho => ⟨ho.cell x0 id, ho.cell b0 id, hlk w' ho⟩)
  have hCL : C.length = L.length := by have := h.sync.length_eq; simpa using this
  have hxl := lt_of_block h.blk
  have hNX := h.nes
  have hlt3 : kb < w.heap.size ∧ c < w.heap.size ∧ cb < w.heap.size := ⟨h.keys.lt, lt_of_block h.clk.blk, h.clk.map.lt⟩
  have HLT := Lib.hid hlt3
  have HO := Lib.hid hoW
  have HW := Lib.hid hW
  have HB := Lib.hid hbW
  have HWA := Lib.hid hW1
  have HCS := Lib.hid hcase
  have HNX := Lib.hid hNX
  clear hoW hW hbW hW1 hcase hNX
  clear hlk x0 b0 hsW hlt3
  go_enter Try.func8, Try.ntmps8
  go_upto_region 3 with (fail)
  rw [← HW.out]
  go_cut [9, 10] (fun v9 v10 wx => v10 = .bool ok ∧ ∃ Q, v9 = .pointer (some ⟨Q, 0, none⟩) ∧ wx.heap[Q]? = some (.cells #[.int .u64 vv, .slice va vn vc] 70 (0, 0)) ∧ Only (fun _ => False) W wx ∧ W.heap.size ≤ Q)
  case first =>
    go_region_held3 (fun w' => Only (fun _ => False) W w' ∧ w'.cell? ⟨x, 0, none⟩ = some (.map (some kb)) ∧ w'.cell? ⟨w.heap.size, 0, none⟩ = some (.string k) ∧ (Instr.lookup 64 (.map (some kb)) (.string k) true).run Try.prog w' = .ok (.tuple #[.agg #[.int .u64 vv, .slice va vn vc], .bool ok]) w')
      (((refine heldO HCC.out ?_); (repeat (first | (with_reducible assumption) | (with_reducible exact Only.refl _ _) | (with_reducible refine Only.drew ?_) | (with_reducible refine Only.alloc ?_ _) | (with_reducible refine onlySet ?_ (by first | (with_reducible assumption) | omega) _) | (with_reducible refine Only.trans ?_ (by with_reducible assumption))))))
      (fail)
    all_goals
      go_wp2_with fail
      go_meet
      refine ⟨rfl, _, by with_reducible rfl, ?_, ?_, ?_⟩
      · (apply Eq.trans; (case h₁ => repeat (first | (with_reducible assumption) | (with_reducible exact heap_alloc_new _ _) | (with_reducible apply blk_new; (repeat (first | (with_reducible rfl) | (with_reducible apply sz_set) | (with_reducible apply sz_alloc) | (with_reducible apply sz_drew))); done) | (with_reducible apply blk_same) | (with_reducible apply blk_ne; case hn => (first | assumption | omega)) | (with_reducible apply blk_old) | (with_reducible apply blk_drew))); (case h₂ => rfl))
      · (repeat (first | (with_reducible assumption) | (with_reducible exact Only.refl _ _) | (with_reducible refine Only.drew ?_) | (with_reducible refine Only.alloc ?_ _) | (with_reducible refine onlySet ?_ (by first | (with_reducible assumption) | omega) _) | (with_reducible refine Only.trans ?_ (by with_reducible assumption))))
      · first | omega | (simp; omega)
  case rest =>
    obtain ⟨rfl, Q, rfl, hQ, hoQ, hQs⟩ := hcut
    generalize hw3 : wc = w3 at *
    clear hw3
    have hQw := HWA.out.new hoQ
    have hB := hoQ.old HB.out id
    have hoA := HO.out.trans hoQ
    have HQB := Lib.hid hQ
    have HBB := Lib.hid hB
    have HQW := Lib.hid hQw
    have HOA := Lib.hid hoA
    have HQS := Lib.hid hQs
    clear hQ hB hQw hoA hQs
    clear hoQ HCC
    rcases HCS.out with ⟨rfl, hf⟩ | ⟨rfl, e, hf, he1, he2, he3, he4⟩
    · -- new
      have hnone := sync_none h.sync hf
      have hst := fun w' (ho : Only (fun _ => False) w3 w') => set_clk w' c cb 64 cnt C ((HQW.out.new ho).clk) k hk (min now 4611686018427387904 + wait) hcnt0 hcnt (by omega)
      have hlt := fun w' (ho : Only (fun _ => False) w3 w') => wlater_any w' x kb c cb wait cnt L C (HQW.out.new ho) now hw0 hw1 hnow
      have x1 : w3.cell? ⟨x, 1, none⟩ = some (.pointer (some ⟨c, 0, none⟩)) := cell_at HQW.out.blk 1
      have b0 : w3.cell? ⟨w.heap.size, 0, none⟩ = some (.string k) := cell_at HBB.out 0
      have b1 : w3.cell? ⟨w.heap.size, 1, none⟩ = some (.int .u64 ver) := cell_at HBB.out 1
      obtain ⟨n1, n2, n3⟩ := HNX.out
      have hx1 : x ≠ c ∧ x ≠ cb ∧ w.heap.size ≠ c ∧ w.heap.size ≠ cb := by
        have := HLT.out
        exact ⟨fun e => n1 (.inr (.inl e)), fun e => n1 (.inr (.inr e)), by omega, by omega⟩
      have HST := Lib.hid hst
      have HLA := Lib.hid hlt
      have HX1 := Lib.hid hx1
      have X1 := Lib.hid x1
      have B0 := Lib.hid b0
      have B1 := Lib.hid b1
      clear hst hlt hx1 x1 b0 b1
      go_upto_region 4 with (fail)
      go_cut [31] (fun v31 wx => ∃ D : Bool, D = okSet 64 C k ∧ v31 = .bool (!D) ∧ SetPost w3 c cb 64 cnt C k (min now 4611686018427387904 + wait) wx)
      case first =>
        have x1 := X1.out
        have b0 := B0.out
        generalize okSet 64 C k = D at *
        go_region_held3 (fun w' => w'.cell? ⟨x, 1, none⟩ = some (.pointer (some ⟨c, 0, none⟩)) ∧ w'.cell? ⟨w.heap.size, 0, none⟩ = some (.string k))
          (first | exact ⟨x1, b0⟩ | exact ⟨hs9.1.cell x1 (fun e => e.elim HX1.out.1 HX1.out.2.1), hs9.1.cell b0 (fun e => e.elim HX1.out.2.2.1 HX1.out.2.2.2)⟩)
          (first
            | (go_at_call 20; (with_reducible refine (HLA.out _ (by (repeat (first | (with_reducible assumption) | (with_reducible exact Only.refl _ _) | (with_reducible refine Only.drew ?_) | (with_reducible refine Only.alloc ?_ _) | (with_reducible refine onlySet ?_ (by first | (with_reducible assumption) | omega) _) | (with_reducible refine Only.trans ?_ (by with_reducible assumption)))))).mono ?_); rintro e w8 ⟨rfl, rfl⟩)
            | (go_at_call 19; (with_reducible refine (HST.out _ (by (repeat (first | (with_reducible assumption) | (with_reducible exact Only.refl _ _) | (with_reducible refine Only.drew ?_) | (with_reducible refine Only.alloc ?_ _) | (with_reducible refine onlySet ?_ (by first | (with_reducible assumption) | omega) _) | (with_reducible refine Only.trans ?_ (by with_reducible assumption)))))).mono ?_); rintro e w9 ⟨rfl, hs9⟩))
        all_goals
          go_wp2_with fail
          go_meet
          exact ⟨D, rfl, rfl, ⟨hs9.1.os, hs9.1.tape, hs9.1.output, hs9.1.size, hs9.1.block⟩, hs9.2⟩
      case rest =>
        obtain ⟨D, hD, rfl, hsp⟩ := hcut
        have hbB := hsp.1.old HBB.out (fun e => e.elim HX1.out.2.2.1 HX1.out.2.2.2)
        have hSP2 := hsp.2
        rw [← hD] at hSP2
        have HD := Lib.hid hD
        clear hD
        cases D with
        | false =>
          have hC64 : 64 ≤ C.length := by
            have hD := HD.out
            unfold okSet at hD
            rw [hnone] at hD
            have h9 : decide ((C.length : Int) < 64) = false := by simpa using hD.symm
            have := of_decide_eq_false h9
            omega
          obtain ⟨q1, q2⟩ := HQW.out.clkd hsp.1 hSP2 HQW.out.sync
          have HF := Lib.hid (show HPost w wc x kb c cb wait cnt L C k ver fr (min now 4611686018427387904 + wait) false from ⟨L, C, cnt, q1, (HOA.out.weaken (fun _ _ => False.elim)).trans q2, .inl ⟨rfl, rfl, rfl, rfl, .inr (.inr (.inl ⟨hf, hC64⟩))⟩, fun _ he => .inl he⟩)
          clear q1 q2 hsp hSP2 hC64 hbB
          go_wp2_with fail
          go_ret
          exact ⟨_, rfl, HF.out⟩
        | true =>
          have hC64 : C.length < 64 := by
            have hD := HD.out
            unfold okSet at hD
            rw [hnone] at hD
            have h9 : decide ((C.length : Int) < 64) = true := by simpa using hD.symm
            have := of_decide_eq_true h9
            omega
          have hck : ClkIs wc c cb 64 (cnt + 1) (putL C k (min now 4611686018427387904 + wait, cnt + 1)) := hSP2
          obtain ⟨n1, n2, n3⟩ := HNX.out
          have hkeys : ∀ w', Only (fun _ => False) wc w' → WMapW w' kb L := fun w' ho => (HQW.out.keys.kept hsp.1 (fun e => e.elim n2 HQW.out.ne)).kept ho id
          have hxx : wc.heap[x]? = some (.cells #[.map (some kb), .pointer (some ⟨c, 0, none⟩), .int .i64 wait] 68 (0, 0)) := hsp.1.old HQW.out.blk (fun e => e.elim HX1.out.1 HX1.out.2.1)
          have x0 : wc.cell? ⟨x, 0, none⟩ = some (.map (some kb)) := cell_at hxx 0
          have b0 : wc.cell? ⟨w.heap.size, 0, none⟩ = some (.string k) := cell_at hbB 0
          have b1 : wc.cell? ⟨w.heap.size, 1, none⟩ = some (.int .u64 ver) := cell_at hbB 1
          have HC2 := Lib.hid (show ∀ w', Only (fun _ => False) wc w' → w'.cell? ⟨x, 0, none⟩ = some (.map (some kb)) ∧ w'.cell? ⟨w.heap.size, 0, none⟩ = some (.string k) ∧ w'.cell? ⟨w.heap.size, 1, none⟩ = some (.int .u64 ver) from fun w' ho => ⟨ho.cell x0 id, ho.cell b0 id, ho.cell b1 id⟩)
          have hkx : x ≠ kb ∧ w.heap.size ≠ kb := ⟨fun e => n1 (.inl e), fun e => by have := HLT.out; omega⟩
          have hLm : (prsW L).length < maxLen := by unfold prsW maxLen; rw [List.length_map]; omega
          have HKS := Lib.hid hkeys
          have HKX := Lib.hid hkx
          have HSP := Lib.hid hsp
          have HCK := Lib.hid hck
          have HLM := Lib.hid hLm
          clear hkeys hkx hsp hck hLm
          clear n1 n2 n3 hSP2 hxx hbB
          have hoP : Only (fun _ => False) wc ((wc.alloc (.cells #[.int .i64 fr] 3)).drew) := ((Only.refl _ _).alloc _).drew
          have hbP : ((wc.alloc (.cells #[.int .i64 fr] 3)).drew).heap[wc.heap.size]? = some (.cells #[.int .i64 fr] 3 (0, 0)) := heap_alloc_new wc _
          obtain ⟨w5, hst0, hm5, ho5⟩ := (HKS.out _ hoP).store strKeyed strInj Try.underlying64 HLM.out (strOk hk) (Value.agg #[.int .u64 ver, .slice (some ⟨wc.heap.size, 0, none⟩) 1 1])
          have hst : (Instr.mapUpdate 64 (.map (some kb)) (.string k) (.agg #[.int .u64 ver, .slice (some ⟨wc.heap.size, 0, none⟩) 1 1])).run Try.prog ((wc.alloc (.cells #[.int .i64 fr] 3)).drew) = .ok () w5 := hst0
          have HOP := Lib.hid hoP
          have HBP := Lib.hid hbP
          have HM5 := Lib.hid hm5
          have HO5 := Lib.hid ho5
          clear hoP hbP hm5 ho5
          clear hst0
          go_upto_region 7 with (fail)
          go_region_held3 (fun w' => w'.cell? ⟨x, 0, none⟩ = some (.map (some kb)) ∧ w'.cell? ⟨w.heap.size, 0, none⟩ = some (.string k) ∧ w'.cell? ⟨w.heap.size, 1, none⟩ = some (.int .u64 ver))
            (first | (refine HC2.out _ ?_; (repeat (first | (with_reducible assumption) | (with_reducible exact Only.refl _ _) | (with_reducible refine Only.drew ?_) | (with_reducible refine Only.alloc ?_ _) | (with_reducible refine onlySet ?_ (by first | (with_reducible assumption) | omega) _) | (with_reducible refine Only.trans ?_ (by with_reducible assumption)))); done) | exact ⟨HO5.out.cell (HC2.out _ HOP.out).1 HKX.out.1, HO5.out.cell (HC2.out _ HOP.out).2.1 HKX.out.2, HO5.out.cell (HC2.out _ HOP.out).2.2 HKX.out.2⟩)
            (fail)
          all_goals
            have hfr : ∀ g, (EntW.s ⟨k, ver, [fr], some ⟨wc.heap.size, 0, none⟩, 1⟩).ownBlock = some g → w.heap.size ≤ g := fun g hg => by
              have h9 : wc.heap.size = g := by simpa [EntW.s, Value.ownBlock] using hg
              have := HOA.out.size
              have := HSP.out.1.size
              omega
            have hCp : putL C k (min now 4611686018427387904 + wait, cnt + 1) = C ++ [(k, (min now 4611686018427387904 + wait, cnt + 1))] := by
              unfold putL
              rw [dropL_of_none hnone]
            have hPn : putW L ⟨k, ver, [fr], some ⟨wc.heap.size, 0, none⟩, 1⟩ = L ++ [⟨k, ver, [fr], some ⟨wc.heap.size, 0, none⟩, 1⟩] := putW_new hf
            have hck1 : ClkIs ((wc.alloc (.cells #[.int .i64 fr] 3)).drew) c cb 64 (cnt + 1) (C ++ [(k, (min now 4611686018427387904 + wait, cnt + 1))]) := by
              rw [← hCp]
              exact HCK.out.kept HOP.out id id
            obtain ⟨q1, q2⟩ := HQW.out.put (C' := C ++ [(k, (min now 4611686018427387904 + wait, cnt + 1))]) ⟨k, ver, [fr], some ⟨wc.heap.size, 0, none⟩, 1⟩ (HSP.out.1.trans (HOP.out.weaken (fun _ _ => False.elim))) hck1 HO5.out HM5.out (row_one HBP.out) (by
              rw [hPn, List.map_append, List.map_append]
              exact HQW.out.sync.append_right _) ⟨hk, by simp, by simp⟩
            have HF := Lib.hid (show HPost w w5 x kb c cb wait cnt L C k ver fr (min now 4611686018427387904 + wait) true from ⟨_, _, _, q1, (HOA.out.weaken (fun _ _ => False.elim)).trans q2, .inr ⟨rfl, by omega, by omega, .inl ⟨hf, hC64, ⟨_, _, hPn⟩, rfl, rfl⟩⟩, fresh_put hfr⟩)
            clear q1 q2 hCp hPn hck1
            go_wp2_with fail
            go_ret
            exact ⟨_, rfl, HF.out⟩
    · -- old
      subst he1
      obtain ⟨hem, hek⟩ := findW_some hf
      have hrow3 := HQW.out.rows e hem
      obtain ⟨_, hesz, hene⟩ := HQW.out.small e hem
      have hves : e.s = .slice va vn vc := by unfold EntW.s; rw [he2, he3, he4]
      rw [hves] at hrow3
      have q0 : w3.cell? ⟨Q, 0, none⟩ = some (.int .u64 e.ver) := cell_at HQB.out 0
      have b1 : w3.cell? ⟨w.heap.size, 1, none⟩ = some (.int .u64 ver) := cell_at HBB.out 1
      have HSM := Lib.hid (fun w' (ho : Only (fun _ => False) w3 w') b hs => HP0.out w' (HOA.out.trans ho) b hs)
      have HR3 := Lib.hid hrow3
      have Q0 := Lib.hid q0
      have B1 := Lib.hid b1
      clear hrow3 q0 b1
      clear HCS he2 he3 he4
      go_upto_region 4 with (fail)
      go_quiet (fail)
      obtain ⟨W2, hW2⟩ : ∃ W2, W2 = w3.drewN nq := ⟨_, rfl⟩
      rw [← hW2]
      have ho2 : Only (fun _ => False) w3 W2 := by rw [hW2]; exact (Only.refl _ _).drewN _
      have q0 := ho2.cell Q0.out id
      have b1 := ho2.cell B1.out id
      have hQ2 := ho2.old HQB.out id
      have hB2 := ho2.old HBB.out id
      have hA2 := HQW.out.new ho2
      have HO2 := Lib.hid ho2
      have HQ2 := Lib.hid hQ2
      have HB2 := Lib.hid hB2
      have HA2 := Lib.hid hA2
      clear ho2 hQ2 hB2 hA2
      clear hW2
      by_cases hlt : (e.ver : Int) < (ver : Int)
      · -- newer
        have x0 : W2.cell? ⟨x, 0, none⟩ = some (.map (some kb)) := cell_at HA2.out.blk 0
        have b0 : W2.cell? ⟨w.heap.size, 0, none⟩ = some (.string k) := cell_at HB2.out 0
        obtain ⟨n1, n2, n3⟩ := HNX.out
        have HC2 := Lib.hid (show ∀ w', Only (fun _ => False) W2 w' → w'.cell? ⟨x, 0, none⟩ = some (.map (some kb)) ∧ w'.cell? ⟨w.heap.size, 0, none⟩ = some (.string k) ∧ w'.cell? ⟨w.heap.size, 1, none⟩ = some (.int .u64 ver) from fun w' ho => ⟨ho.cell x0 id, ho.cell b0 id, ho.cell b1 id⟩)
        have hkx : x ≠ kb ∧ w.heap.size ≠ kb := ⟨fun e => n1 (.inl e), fun e => by have := HLT.out; omega⟩
        have hLm : (prsW L).length < maxLen := by unfold prsW maxLen; rw [List.length_map]; omega
        have hoP : Only (fun _ => False) W2 ((W2.alloc (.cells #[.int .i64 fr] 3)).drew) := ((Only.refl _ _).alloc _).drew
        have hbP : ((W2.alloc (.cells #[.int .i64 fr] 3)).drew).heap[W2.heap.size]? = some (.cells #[.int .i64 fr] 3 (0, 0)) := heap_alloc_new W2 _
        obtain ⟨w5, hst0, hm5, ho5⟩ := (HA2.out.keys.kept hoP id).store strKeyed strInj Try.underlying64 hLm (strOk hk) (Value.agg #[.int .u64 ver, .slice (some ⟨W2.heap.size, 0, none⟩) 1 1])
        have hst : (Instr.mapUpdate 64 (.map (some kb)) (.string k) (.agg #[.int .u64 ver, .slice (some ⟨W2.heap.size, 0, none⟩) 1 1])).run Try.prog ((W2.alloc (.cells #[.int .i64 fr] 3)).drew) = .ok () w5 := hst0
        have HKX := Lib.hid hkx
        have HOP := Lib.hid hoP
        have HBP := Lib.hid hbP
        have HM5 := Lib.hid hm5
        have HO5 := Lib.hid ho5
        clear hkx hoP hbP hm5 ho5
        clear n1 n2 n3 hst0
        go_upto_region 7 with (fail)
        go_region_held3 (fun w' => w'.cell? ⟨x, 0, none⟩ = some (.map (some kb)) ∧ w'.cell? ⟨w.heap.size, 0, none⟩ = some (.string k) ∧ w'.cell? ⟨w.heap.size, 1, none⟩ = some (.int .u64 ver))
          (first | (refine HC2.out _ ?_; (repeat (first | (with_reducible assumption) | (with_reducible exact Only.refl _ _) | (with_reducible refine Only.drew ?_) | (with_reducible refine Only.alloc ?_ _) | (with_reducible refine onlySet ?_ (by first | (with_reducible assumption) | omega) _) | (with_reducible refine Only.trans ?_ (by with_reducible assumption)))); done) | exact ⟨HO5.out.cell (HC2.out _ HOP.out).1 HKX.out.1, HO5.out.cell (HC2.out _ HOP.out).2.1 HKX.out.2, HO5.out.cell (HC2.out _ HOP.out).2.2 HKX.out.2⟩)
          (fail)
        all_goals
          have hfr : ∀ g, (EntW.s ⟨k, ver, [fr], some ⟨W2.heap.size, 0, none⟩, 1⟩).ownBlock = some g → w.heap.size ≤ g := fun g hg => by
            have h9 : W2.heap.size = g := by simpa [EntW.s, Value.ownBlock] using hg
            have := HOA.out.size
            have := HO2.out.size
            omega
          have hkk : (putW L ⟨k, ver, [fr], some ⟨W2.heap.size, 0, none⟩, 1⟩).map (·.key) |>.Perm (L.map (·.key)) := putW_keys HQW.out.apart (e := ⟨k, ver, [fr], some ⟨W2.heap.size, 0, none⟩, 1⟩) hf
          obtain ⟨q1, q2⟩ := HA2.out.put (C' := C) ⟨k, ver, [fr], some ⟨W2.heap.size, 0, none⟩, 1⟩ (HOP.out.weaken (fun _ _ => False.elim)) (HA2.out.clk.kept HOP.out id id) HO5.out HM5.out (row_one HBP.out) (HQW.out.sync.trans hkk.symm) ⟨hk, by simp, by simp⟩
          have HF := Lib.hid (show HPost w w5 x kb c cb wait cnt L C k ver fr (min now 4611686018427387904 + wait) true from ⟨_, _, _, q1, ((HOA.out.trans HO2.out).weaken (fun _ _ => False.elim)).trans q2, .inr ⟨rfl, by omega, by omega, .inr ⟨e, hf, rfl, rfl, .inl ⟨by omega, _, _, rfl⟩⟩⟩, fresh_put hfr⟩)
          clear q1 q2 hkk
          go_wp2_with fail
          go_ret
          exact ⟨_, rfl, HF.out⟩
      by_cases hgt : (e.ver : Int) > (ver : Int)
      · -- older
        have HF := Lib.hid (HSM.out W2 HO2.out false (.inl ⟨rfl, rfl, rfl, rfl, .inr (.inr (.inr ⟨e, hf, .inl (by omega)⟩))⟩))
        go_wp2_with fail
        go_ret
        exact ⟨_, rfl, HF.out⟩
      have HVEQ := Lib.hid (show e.ver = ver by omega)
      have q1 : W2.cell? ⟨Q, 1, none⟩ = some (.slice va vn vc) := cell_at HQ2.out 1
      have hvn : vn = e.has.length := by unfold EntW.s at hves; injection hves with h1 h2 h3; exact h2.symm
      subst hvn
      have hr2 : W2.ownsRow 0 3 1 (.slice va e.has.length vc) e.has.length (rowI e.has) := row_kept HR3.out HO2.out (fun _ => False.elim)
      have hct := contains_row W2 (.slice va e.has.length vc) e.has hr2 hene (by omega) fr
      have HR2 := Lib.hid hr2
      clear hr2
      by_cases hm : fr ∈ e.has
      · rw [show e.has.contains fr = true by simpa using hm] at hct
        have HCT := Lib.hid hct
        have HF := Lib.hid (HSM.out W2 HO2.out true (.inr ⟨rfl, by omega, by omega, .inr ⟨e, hf, rfl, rfl, .inr (.inl ⟨HVEQ.out, hm, rfl⟩)⟩⟩))
        clear hct hm
        go_wp2_with fail
        refine HCT.out.mono ?_
        rintro e9 w' ⟨rfl, rfl⟩
        go_wp2_with fail
        go_ret
        exact ⟨_, rfl, HF.out⟩
      rw [show e.has.contains fr = false by simpa using hm] at hct
      have HCT := Lib.hid hct
      clear hct
      by_cases hfull : e.has.length < 64
      case neg =>
        have hge : (e.has.length : Int) ≥ 64 := by omega
        have HF := Lib.hid (HSM.out W2 HO2.out false (.inl ⟨rfl, rfl, rfl, rfl, .inr (.inr (.inr ⟨e, hf, .inr ⟨HVEQ.out.symm, hm, by omega⟩⟩))⟩))
        clear hm
        go_wp2_with fail
        refine HCT.out.mono ?_
        rintro e9 w' ⟨rfl, rfl⟩
        go_wp2_with fail
        go_ret
        exact ⟨_, rfl, HF.out⟩
      have hge : ¬ (e.has.length : Int) ≥ 64 := by omega
      have HCL := Lib.hid (clone_row W2 (.slice va e.has.length vc) e.has HR2.out hene (by omega))
      have HMM := Lib.hid hm
      obtain ⟨i0, hi0, iz0, iz1, iz2⟩ := info_parts infoIntW
      clear hm
      go_wp2_with fail
      refine HCT.out.mono ?_
      rintro e9 w' ⟨rfl, rfl⟩
      go_wp2_with fail
      refine HCL.out.mono ?_
      rintro e9 w4 ⟨v4, rfl, own4, ho4⟩
      have OWN4 := Lib.hid own4
      have HO4 := Lib.hid ho4
      clear own4 ho4
      clear q0 q1 b1 hge HCT HCL
      go_wp2_with (at_builtin; refine Wait.mk ?_)
      refine Wait.go (wpList_append_src _ rfl (.tmp 86) (.tmp 88) 30 30 rfl W2.heap.size 3 i0 _ 1 8 Try.underlying30 hi0 iz0 iz1 iz2 rfl _ e.has.length (rowI e.has) rfl (OWN4.out.alloc _) _ 1 [.int .i64 fr] rfl ?src4 ?m4 ?b4 ?base4 ?_)
      case src4 => exact Src.ofSlice _ Try.underlying30 _ _ _ _ rfl (news_new _ _ _) (by simp [Value.oneCell'])
      case m4 => unfold maxLen; omega
      case b4 => omega
      case base4 => have h2 := HO4.out.size; simp; omega
      intro v5 w5 own5 gr5 hv5
      have hlen5 : (e.has ++ [fr]).length = e.has.length + 1 := by simp
      have hown5 : w5.ownsRow W2.heap.size 3 1 v5 (e.has ++ [fr]).length (rowI (e.has ++ [fr])) := by
        rw [hlen5]
        unfold rowI
        rw [List.map_append]
        exact own5
      have ho5 : Only (fun _ => False) W2 w5 := (HO4.out.alloc _).own (OWN4.out.alloc _) (Nat.le_refl _) gr5
      obtain ⟨_, a5, c5, rfl, _⟩ := Sl.of_owns hown5
      have hQ5 := ho5.old HQ2.out id
      have qf : ∀ i, w5.frozen? ⟨Q, i, none⟩ = false := free_at hQ5
      have q0 : w5.cell? ⟨Q, 0, none⟩ = some (.int .u64 e.ver) := cell_at hQ5 0
      have q1 : w5.cell? ⟨Q, 1, none⟩ = some (.slice va e.has.length vc) := cell_at hQ5 1
      have HOWN5 := Lib.hid hown5
      have HO5 := Lib.hid ho5
      have HQ5 := Lib.hid hQ5
      clear hown5 ho5 hQ5
      clear own5 gr5 hv5 hi0 iz0 iz1 iz2
      go_upto_region 16 with (fail)
      obtain ⟨W6, hW6⟩ : ∃ W6, W6 = w5.setCell ⟨Q, 1, none⟩ (.slice a5 (e.has.length + 1) c5) := ⟨_, rfl⟩
      have hwW := lt_of_block HB.out
      have hQW := HQS.out
      have hQb : W6.heap[Q]? = some (.cells #[.int .u64 e.ver, .slice a5 (e.has.length + 1) c5] 70 (0, 0)) := by rw [hW6]; exact set_at HQ5.out 1 _
      have hoQ6 : Only (fun i => i = Q) w5 W6 := by rw [hW6]; exact (Only.refl (fun i => i = Q) _).setCell (p := ⟨Q, 1, none⟩) (.inr rfl) _
      have ho6 : Only (fun _ => False) w W6 := by rw [hW6]; exact (HOA.out.trans (HO2.out.trans HO5.out)).setCell (p := ⟨Q, 1, none⟩) (.inl (by show w.heap.size ≤ Q; omega)) _
      have hB6 := hoQ6.old (HO5.out.old HB2.out id) (fun e9 => by have h9 : w.heap.size = Q := e9; omega)
      have hrow6 : W6.ownsRow 0 3 1 (.slice a5 (e.has ++ [fr]).length c5) (e.has ++ [fr]).length (rowI (e.has ++ [fr])) := by
        have h9 := HOWN5.out
        rw [hlen5] at h9 ⊢
        refine row_kept (l := e.has ++ [fr]) (by rw [hlen5]; exact ownsRow_base_a h9 (Nat.zero_le _)) hoQ6 (fun j hj cs f e9 => ?_) |> fun h8 => by rw [hlen5] at h8; exact h8
        have h7 : j = Q := hj
        rw [h7, HQ5.out] at e9
        cases e9
      have x0 : W6.cell? ⟨x, 0, none⟩ = some (.map (some kb)) := cell_at (ho6.old h.blk id) 0
      have b0 : W6.cell? ⟨w.heap.size, 0, none⟩ = some (.string k) := cell_at hB6 0
      have g0 : W6.cell? ⟨Q, 0, none⟩ = some (.int .u64 e.ver) := cell_at hQb 0
      have g1 : W6.cell? ⟨Q, 1, none⟩ = some (.slice a5 (e.has.length + 1) c5) := cell_at hQb 1
      have hLm : (prsW L).length < maxLen := by unfold prsW maxLen; rw [List.length_map]; omega
      obtain ⟨w7, hst0, hm7, ho7⟩ := (h.keys.kept (ho6.drew) id).store strKeyed strInj Try.underlying64 hLm (strOk hk) (Value.agg #[.int .u64 e.ver, .slice a5 (e.has ++ [fr]).length c5])
      have hst : (Instr.mapUpdate 64 (.map (some kb)) (.string k) (.agg #[.int .u64 e.ver, .slice a5 (e.has.length + 1) c5])).run Try.prog W6.drew = .ok () w7 := by rw [← hlen5]; exact hst0
      obtain ⟨n1, n2, n3⟩ := HNX.out
      have hkx : x ≠ kb ∧ w.heap.size ≠ kb ∧ Q ≠ kb := ⟨fun e => n1 (.inl e), fun e => by have := HLT.out; omega, fun e => by have := HLT.out; omega⟩
      have HO6 := Lib.hid ho6
      have HM7 := Lib.hid hm7
      have HO7 := Lib.hid ho7
      have HROW6 := Lib.hid hrow6
      have HKX := Lib.hid hkx
      clear ho6 hm7 ho7 hrow6 hkx
      rw [← hW6]
      clear n1 n2 n3 hst0 hW6 hQb hoQ6 hB6 q0 q1 qf hwW hQW hLm
      go_region_held3 (fun w' => w'.cell? ⟨x, 0, none⟩ = some (.map (some kb)) ∧ w'.cell? ⟨w.heap.size, 0, none⟩ = some (.string k) ∧ w'.cell? ⟨Q, 0, none⟩ = some (.int .u64 e.ver) ∧ w'.cell? ⟨Q, 1, none⟩ = some (.slice a5 (e.has.length + 1) c5))
        (first | exact ⟨x0, b0, g0, g1⟩ | exact ⟨HO7.out.cell x0 HKX.out.1, HO7.out.cell b0 HKX.out.2.1, HO7.out.cell g0 HKX.out.2.2, HO7.out.cell g1 HKX.out.2.2⟩)
        (fail)
      all_goals
        have hfr : ∀ g, (EntW.s ⟨k, e.ver, e.has ++ [fr], a5, c5⟩).ownBlock = some g → w.heap.size ≤ g := fun g hg => by
          have h9 := (HOWN5.out.lt g hg).1
          have := HOA.out.size
          have := HO2.out.size
          omega
        have hkk := putW_keys h.apart (e := ⟨k, e.ver, e.has ++ [fr], a5, c5⟩) hf
        obtain ⟨p1, p2⟩ := h.put (C' := C) ⟨k, e.ver, e.has ++ [fr], a5, c5⟩ (HO6.out.drew.weaken (fun _ _ => False.elim)) (h.clk.kept HO6.out.drew id id) HO7.out HM7.out (row_kept HROW6.out ((Only.refl (fun _ => False) _).drew) (fun _ => False.elim)) (h.sync.trans hkk.symm) ⟨hk, by show (e.has ++ [fr]).length ≤ 64; omega, by simp⟩
        have hs : HStep L C cnt (putW L ⟨k, e.ver, e.has ++ [fr], a5, c5⟩) C cnt k ver fr (min now 4611686018427387904 + wait) true := by
          refine .inr ⟨rfl, by omega, by omega, .inr ⟨e, hf, rfl, rfl, .inr (.inr ⟨HVEQ.out, HMM.out, hfull, a5, c5, ?_⟩)⟩⟩
          rw [HVEQ.out]
        have HF := Lib.hid (show HPost w w7 x kb c cb wait cnt L C k ver fr (min now 4611686018427387904 + wait) true from ⟨_, _, _, p1, p2, hs, fresh_put hfr⟩)
        clear p1 p2 hkk hs
        go_wp2_with fail
        go_ret
        exact ⟨_, rfl, HF.out⟩
end Go.Proofs.Ytefadkmdfhjaeaa
