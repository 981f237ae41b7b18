/- What is wanted by a Want that a call made. -/
import Derived.Test.YtefadkmdfhjaeaaWC
import Derived.Test.YtefadkmdfhjaeaaWA
import Derived.Deep.CutBlock
/-! What is wanted: Heard. -/
namespace Go.Proofs.Ytefadkmdfhjaeaa
open Go.Conc Go.RowKit Go.Maps

set_option maxRecDepth 100000 in
theorem wheard_nil (w : World) (k : ByteArray) (ver : Nat) (fr now : Int) : Calls Try.prog 8 #[.pointer none, .agg #[.string k, .int .u64 ver], .int .i64 fr, .int .i64 now] w fun e w' => e = .returned (.bool false) ∧ Only (fun _ => False) w w' := by
  go_enter Try.func8, Try.ntmps8
  go_wp2_with fail
  go_ret
  exact ⟨rfl, (Only.refl _ _).alloc _⟩
theorem sync_none {L : List EntW} {C : List (ByteArray × (Int × Int))} (hs : (C.map (·.1)).Perm (L.map (·.key))) {k : ByteArray} (hf : findW L k = none) : lookL C k = none := lookL_of_none (fun p hp e => by
  have h1 : p.1 ∈ L.map (·.key) := hs.mem_iff.1 (List.mem_map.2 ⟨p, hp, rfl⟩)
  obtain ⟨q, hq, e2⟩ := List.mem_map.1 h1
  exact findW_none hf q hq (e2.trans e))
def HRes (w : World) (x kb c cb : Nat) (wait cnt : Int) (L : List EntW) (C : List (ByteArray × (Int × Int))) (k : ByteArray) (ver : Nat) (fr at_ : Int) (e : Ending) (w' : World) : Prop := ∃ b, e = .returned (.bool b) ∧ HPost w w' x kb c cb wait cnt L C k ver fr at_ b
theorem infoIntW : (Try.prog.info? 3).map (fun i => (i.zero, i.size, i.bytes)) = some (some (.int .i64 0), 1, 8) := by kernel_rfl
set_option maxRecDepth 100000 in
set_option maxHeartbeats 8000000 in
theorem wheard_any (w : World) (x kb c cb : Nat) (wait cnt : Int) (L : List EntW) (C : List (ByteArray × (Int × Int))) (h : WantAt w x kb c cb wait cnt L C) (k : ByteArray) (hk : k.size ≤ maxLen) (ver : Nat) (fr now : Int) (hw0 : 0 ≤ wait) (hw1 : wait ≤ 1000) (hnow : -9223372036854775808 ≤ now) (hcnt0 : 0 ≤ cnt) (hcnt : cnt < 1000000) (hL : L.length ≤ 1000) :
    Calls Try.prog 8 #[.pointer (some ⟨x, 0, none⟩), .agg #[.string k, .int .u64 ver], .int .i64 fr, .int .i64 now] w fun e w' => HRes w x kb c cb wait cnt L C k ver fr (min now 4611686018427387904 + wait) e w' := by
  obtain ⟨W, hW⟩ : ∃ W, W = w.alloc (.cells #[.string k, .int .u64 ver] 29) := ⟨_, rfl⟩
  have hbW : W.heap[w.heap.size]? = some (.cells #[.string k, .int .u64 ver] 29 (0, 0)) := by rw [hW]; exact heap_alloc_new w _
  have hoW : Only (fun _ => False) w W := by rw [hW]; exact (Only.refl _ _).alloc _
  have hsW : W.heap.size = w.heap.size + 1 := by rw [hW]; simp
  have hW1 := h.new hoW
  have HP0 := Lib.hid (fun w' (ho : Only (fun _ => False) w w') b hs => HPost.same (w' := w') (k := k) (ver := ver) (from_ := fr) (at_ := min now 4611686018427387904 + wait) (b := b) h ho hs)
  by_cases hf1 : fr < 1
  · have HF := Lib.hid (HP0.out W hoW false (.inl ⟨rfl, rfl, rfl, rfl, .inl hf1⟩))
    have HW := Lib.hid hW
    clear hW hoW hbW hsW hW1 h
    go_enter Try.func8, Try.ntmps8
    go_wp2_with fail
    go_ret
    rw [← HW.out]
    exact ⟨_, rfl, HF.out⟩
  by_cases hf2 : fr > 65535
  · have HF := Lib.hid (HP0.out W hoW false (.inl ⟨rfl, rfl, rfl, rfl, .inr (.inl hf2)⟩))
    have HW := Lib.hid hW
    clear hW hoW hbW hsW hW1 h
    go_enter Try.func8, Try.ntmps8
    go_wp2_with fail
    go_ret
    rw [← HW.out]
    exact ⟨_, rfl, HF.out⟩
  obtain ⟨vv, va, vn, vc, ok, hlk, hcase⟩ := hW1.look k hk
  have x0 : W.cell? ⟨x, 0, none⟩ = some (.map (some kb)) := cell_at hW1.blk 0
  have b0 : W.cell? ⟨w.heap.size, 0, none⟩ = some (.string k) := cell_at hbW 0
  have HCC := Lib.hid (show ∀ w', Only (fun _ => False) W w' → w'.cell? ⟨x, 0, none⟩ = some (.map (some kb)) ∧ w'.cell? ⟨w.heap.size, 0, none⟩ = some (.string k) ∧ (Instr.lookup 64 (.map (some kb)) (.string k) true).run Try.prog w' = .ok (.tuple #[.agg #[.int .u64 vv, .slice va vn vc], .bool ok]) w' from fun w' ho => ⟨ho.cell x0 id, ho.cell b0 id, hlk w' ho⟩)
  have hCL : C.length = L.length := by have := h.sync.length_eq; simpa using this
  have hxl := lt_of_block h.blk
  have hNX := h.nes
  have hlt3 : kb < w.heap.size ∧ c < w.heap.size ∧ cb < w.heap.size := ⟨h.keys.lt, lt_of_block h.clk.blk, h.clk.map.lt⟩
  have HLT := Lib.hid hlt3
  have HO := Lib.hid hoW
  have HW := Lib.hid hW
  have HB := Lib.hid hbW
  have HWA := Lib.hid hW1
  have HCS := Lib.hid hcase
  have HNX := Lib.hid hNX
  clear hoW hW hbW hW1 hcase hNX
  clear hlk x0 b0 hsW hlt3
  go_enter Try.func8, Try.ntmps8
  go_upto_region 3 with (fail)
  rw [← HW.out]
  go_cut [9, 10] (fun v9 v10 wx => v10 = .bool ok ∧ ∃ Q, v9 = .pointer (some ⟨Q, 0, none⟩) ∧ wx.heap[Q]? = some (.cells #[.int .u64 vv, .slice va vn vc] 70 (0, 0)) ∧ Only (fun _ => False) W wx ∧ W.heap.size ≤ Q)
  case first =>
    go_region_held3 (fun w' => Only (fun _ => False) W w' ∧ w'.cell? ⟨x, 0, none⟩ = some (.map (some kb)) ∧ w'.cell? ⟨w.heap.size, 0, none⟩ = some (.string k) ∧ (Instr.lookup 64 (.map (some kb)) (.string k) true).run Try.prog w' = .ok (.tuple #[.agg #[.int .u64 vv, .slice va vn vc], .bool ok]) w')
      (((refine heldO HCC.out ?_); (repeat (first | (with_reducible assumption) | (with_reducible exact Only.refl _ _) | (with_reducible refine Only.drew ?_) | (with_reducible refine Only.alloc ?_ _) | (with_reducible refine onlySet ?_ (by first | (with_reducible assumption) | omega) _) | (with_reducible refine Only.trans ?_ (by with_reducible assumption))))))
      (fail)
    all_goals
      go_wp2_with fail
      go_meet
      refine ⟨rfl, _, by with_reducible rfl, ?_, ?_, ?_⟩
      · (apply Eq.trans; (case h₁ => repeat (first | (with_reducible assumption) | (with_reducible exact heap_alloc_new _ _) | (with_reducible apply blk_new; (repeat (first | (with_reducible rfl) | (with_reducible apply sz_set) | (with_reducible apply sz_alloc) | (with_reducible apply sz_drew))); done) | (with_reducible apply blk_same) | (with_reducible apply blk_ne; case hn => (first | assumption | omega)) | (with_reducible apply blk_old) | (with_reducible apply blk_drew))); (case h₂ => rfl))
      · (repeat (first | (with_reducible assumption) | (with_reducible exact Only.refl _ _) | (with_reducible refine Only.drew ?_) | (with_reducible refine Only.alloc ?_ _) | (with_reducible refine onlySet ?_ (by first | (with_reducible assumption) | omega) _) | (with_reducible refine Only.trans ?_ (by with_reducible assumption))))
      · first | omega | (simp; omega)
  case rest =>
    obtain ⟨rfl, Q, rfl, hQ, hoQ, hQs⟩ := hcut
    generalize hw3 : wc = w3 at *
    clear hw3
    have hQw := HWA.out.new hoQ
    have hB := hoQ.old HB.out id
    have hoA := HO.out.trans hoQ
    have HQB := Lib.hid hQ
    have HBB := Lib.hid hB
    have HQW := Lib.hid hQw
    have HOA := Lib.hid hoA
    have HQS := Lib.hid hQs
    clear hQ hB hQw hoA hQs
    clear hoQ HCC
    rcases HCS.out with ⟨rfl, hf⟩ | ⟨rfl, e, hf, he1, he2, he3, he4⟩
    · -- new
      have hnone := sync_none h.sync hf
      have hst := fun w' (ho : Only (fun _ => False) w3 w') => set_clk w' c cb 64 cnt C ((HQW.out.new ho).clk) k hk (min now 4611686018427387904 + wait) hcnt0 hcnt (by omega)
      have hlt := fun w' (ho : Only (fun _ => False) w3 w') => wlater_any w' x kb c cb wait cnt L C (HQW.out.new ho) now hw0 hw1 hnow
      have x1 : w3.cell? ⟨x, 1, none⟩ = some (.pointer (some ⟨c, 0, none⟩)) := cell_at HQW.out.blk 1
      have b0 : w3.cell? ⟨w.heap.size, 0, none⟩ = some (.string k) := cell_at HBB.out 0
      have b1 : w3.cell? ⟨w.heap.size, 1, none⟩ = some (.int .u64 ver) := cell_at HBB.out 1
      obtain ⟨n1, n2, n3⟩ := HNX.out
      have hx1 : x ≠ c ∧ x ≠ cb ∧ w.heap.size ≠ c ∧ w.heap.size ≠ cb := by
        have := HLT.out
        exact ⟨fun e => n1 (.inr (.inl e)), fun e => n1 (.inr (.inr e)), by omega, by omega⟩
      have HST := Lib.hid hst
      have HLA := Lib.hid hlt
      have HX1 := Lib.hid hx1
      have X1 := Lib.hid x1
      have B0 := Lib.hid b0
      have B1 := Lib.hid b1
      clear hst hlt hx1 x1 b0 b1
      go_upto_region 4 with (fail)
      go_cut [31] (fun v31 wx => ∃ D : Bool, D = okSet 64 C k ∧ v31 = .bool (!D) ∧ SetPost w3 c cb 64 cnt C k (min now 4611686018427387904 + wait) wx)
      case first =>
        have x1 := X1.out
        have b0 := B0.out
        generalize okSet 64 C k = D at *
        go_region_held3 (fun w' => w'.cell? ⟨x, 1, none⟩ = some (.pointer (some ⟨c, 0, none⟩)) ∧ w'.cell? ⟨w.heap.size, 0, none⟩ = some (.string k))
          (first | exact ⟨x1, b0⟩ | exact ⟨hs9.1.cell x1 (fun e => e.elim HX1.out.1 HX1.out.2.1), hs9.1.cell b0 (fun e => e.elim HX1.out.2.2.1 HX1.out.2.2.2)⟩)
          (first
            | (go_at_call 20; (with_reducible refine (HLA.out _ (by (repeat (first | (with_reducible assumption) | (with_reducible exact Only.refl _ _) | (with_reducible refine Only.drew ?_) | (with_reducible refine Only.alloc ?_ _) | (with_reducible refine onlySet ?_ (by first | (with_reducible assumption) | omega) _) | (with_reducible refine Only.trans ?_ (by with_reducible assumption)))))).mono ?_); rintro e w8 ⟨rfl, rfl⟩)
            | (go_at_call 19; (with_reducible refine (HST.out _ (by (repeat (first | (with_reducible assumption) | (with_reducible exact Only.refl _ _) | (with_reducible refine Only.drew ?_) | (with_reducible refine Only.alloc ?_ _) | (with_reducible refine onlySet ?_ (by first | (with_reducible assumption) | omega) _) | (with_reducible refine Only.trans ?_ (by with_reducible assumption)))))).mono ?_); rintro e w9 ⟨rfl, hs9⟩))
        all_goals
          go_wp2_with fail
          go_meet
          exact ⟨D, rfl, rfl, ⟨hs9.1.os, hs9.1.tape, hs9.1.output, hs9.1.size, hs9.1.block⟩, hs9.2⟩
      case rest =>
        obtain ⟨D, hD, rfl, hsp⟩ := hcut
        have hbB := hsp.1.old HBB.out (fun e => e.elim HX1.out.2.2.1 HX1.out.2.2.2)
        have hSP2 := hsp.2
        rw [← hD] at hSP2
        have HD := Lib.hid hD
        clear hD
        cases D with
        | false =>
          have hC64 : 64 ≤ C.length := by
            have hD := HD.out
            unfold okSet at hD
            rw [hnone] at hD
            have h9 : decide ((C.length : Int) < 64) = false := by simpa using hD.symm
            have := of_decide_eq_false h9
            omega
          obtain ⟨q1, q2⟩ := HQW.out.clkd hsp.1 hSP2 HQW.out.sync
          have HF := Lib.hid (show HPost w wc x kb c cb wait cnt L C k ver fr (min now 4611686018427387904 + wait) false from ⟨L, C, cnt, q1, (HOA.out.weaken (fun _ _ => False.elim)).trans q2, .inl ⟨rfl, rfl, rfl, rfl, .inr (.inr (.inl ⟨hf, hC64⟩))⟩, fun _ he => .inl he⟩)
          clear q1 q2 hsp hSP2 hC64 hbB
          go_wp2_with fail
          go_ret
          exact ⟨_, rfl, HF.out⟩
        | true =>
          have hC64 : C.length < 64 := by
            have hD := HD.out
            unfold okSet at hD
            rw [hnone] at hD
            have h9 : decide ((C.length : Int) < 64) = true := by simpa using hD.symm
            have := of_decide_eq_true h9
            omega
          have hck : ClkIs wc c cb 64 (cnt + 1) (putL C k (min now 4611686018427387904 + wait, cnt + 1)) := hSP2
          obtain ⟨n1, n2, n3⟩ := HNX.out
          have hkeys : ∀ w', Only (fun _ => False) wc w' → WMapW w' kb L := fun w' ho => (HQW.out.keys.kept hsp.1 (fun e => e.elim n2 HQW.out.ne)).kept ho id
          have hxx : wc.heap[x]? = some (.cells #[.map (some kb), .pointer (some ⟨c, 0, none⟩), .int .i64 wait] 68 (0, 0)) := hsp.1.old HQW.out.blk (fun e => e.elim HX1.out.1 HX1.out.2.1)
          have x0 : wc.cell? ⟨x, 0, none⟩ = some (.map (some kb)) := cell_at hxx 0
          have b0 : wc.cell? ⟨w.heap.size, 0, none⟩ = some (.string k) := cell_at hbB 0
          have b1 : wc.cell? ⟨w.heap.size, 1, none⟩ = some (.int .u64 ver) := cell_at hbB 1
          have HC2 := Lib.hid (show ∀ w', Only (fun _ => False) wc w' → w'.cell? ⟨x, 0, none⟩ = some (.map (some kb)) ∧ w'.cell? ⟨w.heap.size, 0, none⟩ = some (.string k) ∧ w'.cell? ⟨w.heap.size, 1, none⟩ = some (.int .u64 ver) from fun w' ho => ⟨ho.cell x0 id, ho.cell b0 id, ho.cell b1 id⟩)
          have hkx : x ≠ kb ∧ w.heap.size ≠ kb := ⟨fun e => n1 (.inl e), fun e => by have := HLT.out; omega⟩
          have hLm : (prsW L).length < maxLen := by unfold prsW maxLen; rw [List.length_map]; omega
          have HKS := Lib.hid hkeys
          have HKX := Lib.hid hkx
          have HSP := Lib.hid hsp
          have HCK := Lib.hid hck
          have HLM := Lib.hid hLm
          clear hkeys hkx hsp hck hLm
          clear n1 n2 n3 hSP2 hxx hbB
          have hoP : Only (fun _ => False) wc ((wc.alloc (.cells #[.int .i64 fr] 3)).drew) := ((Only.refl _ _).alloc _).drew
          have hbP : ((wc.alloc (.cells #[.int .i64 fr] 3)).drew).heap[wc.heap.size]? = some (.cells #[.int .i64 fr] 3 (0, 0)) := heap_alloc_new wc _
          obtain ⟨w5, hst0, hm5, ho5⟩ := (HKS.out _ hoP).store strKeyed strInj Try.underlying64 HLM.out (strOk hk) (Value.agg #[.int .u64 ver, .slice (some ⟨wc.heap.size, 0, none⟩) 1 1])
          have hst : (Instr.mapUpdate 64 (.map (some kb)) (.string k) (.agg #[.int .u64 ver, .slice (some ⟨wc.heap.size, 0, none⟩) 1 1])).run Try.prog ((wc.alloc (.cells #[.int .i64 fr] 3)).drew) = .ok () w5 := hst0
          have HOP := Lib.hid hoP
          have HBP := Lib.hid hbP
          have HM5 := Lib.hid hm5
          have HO5 := Lib.hid ho5
          clear hoP hbP hm5 ho5
          clear hst0
          go_upto_region 7 with (fail)
          go_region_held3 (fun w' => w'.cell? ⟨x, 0, none⟩ = some (.map (some kb)) ∧ w'.cell? ⟨w.heap.size, 0, none⟩ = some (.string k) ∧ w'.cell? ⟨w.heap.size, 1, none⟩ = some (.int .u64 ver))
            (first | (refine HC2.out _ ?_; (repeat (first | (with_reducible assumption) | (with_reducible exact Only.refl _ _) | (with_reducible refine Only.drew ?_) | (with_reducible refine Only.alloc ?_ _) | (with_reducible refine onlySet ?_ (by first | (with_reducible assumption) | omega) _) | (with_reducible refine Only.trans ?_ (by with_reducible assumption)))); done) | exact ⟨HO5.out.cell (HC2.out _ HOP.out).1 HKX.out.1, HO5.out.cell (HC2.out _ HOP.out).2.1 HKX.out.2, HO5.out.cell (HC2.out _ HOP.out).2.2 HKX.out.2⟩)
            (fail)
          all_goals
            have hfr : ∀ g, (EntW.s ⟨k, ver, [fr], some ⟨wc.heap.size, 0, none⟩, 1⟩).ownBlock = some g → w.heap.size ≤ g := fun g hg => by
              have h9 : wc.heap.size = g := by simpa [EntW.s, Value.ownBlock] using hg
              have := HOA.out.size
              have := HSP.out.1.size
              omega
            have hCp : putL C k (min now 4611686018427387904 + wait, cnt + 1) = C ++ [(k, (min now 4611686018427387904 + wait, cnt + 1))] := by
              unfold putL
              rw [dropL_of_none hnone]
            have hPn : putW L ⟨k, ver, [fr], some ⟨wc.heap.size, 0, none⟩, 1⟩ = L ++ [⟨k, ver, [fr], some ⟨wc.heap.size, 0, none⟩, 1⟩] := putW_new hf
            have hck1 : ClkIs ((wc.alloc (.cells #[.int .i64 fr] 3)).drew) c cb 64 (cnt + 1) (C ++ [(k, (min now 4611686018427387904 + wait, cnt + 1))]) := by
              rw [← hCp]
              exact HCK.out.kept HOP.out id id
            obtain ⟨q1, q2⟩ := HQW.out.put (C' := C ++ [(k, (min now 4611686018427387904 + wait, cnt + 1))]) ⟨k, ver, [fr], some ⟨wc.heap.size, 0, none⟩, 1⟩ (HSP.out.1.trans (HOP.out.weaken (fun _ _ => False.elim))) hck1 HO5.out HM5.out (row_one HBP.out) (by
              rw [hPn, List.map_append, List.map_append]
              exact HQW.out.sync.append_right _) ⟨hk, by simp, by simp⟩
            have HF := Lib.hid (show HPost w w5 x kb c cb wait cnt L C k ver fr (min now 4611686018427387904 + wait) true from ⟨_, _, _, q1, (HOA.out.weaken (fun _ _ => False.elim)).trans q2, .inr ⟨rfl, by omega, by omega, .inl ⟨hf, hC64, ⟨_, _, hPn⟩, rfl, rfl⟩⟩, fresh_put hfr⟩)
            clear q1 q2 hCp hPn hck1
            go_wp2_with fail
            go_ret
            exact ⟨_, rfl, HF.out⟩
    · -- old
      subst he1
      obtain ⟨hem, hek⟩ := findW_some hf
      have hrow3 := HQW.out.rows e hem
      obtain ⟨_, hesz, hene⟩ := HQW.out.small e hem
      have hves : e.s = .slice va vn vc := by unfold EntW.s; rw [he2, he3, he4]
      rw [hves] at hrow3
      have q0 : w3.cell? ⟨Q, 0, none⟩ = some (.int .u64 e.ver) := cell_at HQB.out 0
      have b1 : w3.cell? ⟨w.heap.size, 1, none⟩ = some (.int .u64 ver) := cell_at HBB.out 1
      have HSM := Lib.hid (fun w' (ho : Only (fun _ => False) w3 w') b hs => HP0.out w' (HOA.out.trans ho) b hs)
      have HR3 := Lib.hid hrow3
      have Q0 := Lib.hid q0
      have B1 := Lib.hid b1
      clear hrow3 q0 b1
      clear HCS he2 he3 he4
      go_upto_region 4 with (fail)
      go_quiet (fail)
      obtain ⟨W2, hW2⟩ : ∃ W2, W2 = w3.drewN nq := ⟨_, rfl⟩
      rw [← hW2]
      have ho2 : Only (fun _ => False) w3 W2 := by rw [hW2]; exact (Only.refl _ _).drewN _
      have q0 := ho2.cell Q0.out id
      have b1 := ho2.cell B1.out id
      have hQ2 := ho2.old HQB.out id
      have hB2 := ho2.old HBB.out id
      have hA2 := HQW.out.new ho2
      have HO2 := Lib.hid ho2
      have HQ2 := Lib.hid hQ2
      have HB2 := Lib.hid hB2
      have HA2 := Lib.hid hA2
      clear ho2 hQ2 hB2 hA2
      clear hW2
      by_cases hlt : (e.ver : Int) < (ver : Int)
      · -- newer
        have x0 : W2.cell? ⟨x, 0, none⟩ = some (.map (some kb)) := cell_at HA2.out.blk 0
        have b0 : W2.cell? ⟨w.heap.size, 0, none⟩ = some (.string k) := cell_at HB2.out 0
        obtain ⟨n1, n2, n3⟩ := HNX.out
        have HC2 := Lib.hid (show ∀ w', Only (fun _ => False) W2 w' → w'.cell? ⟨x, 0, none⟩ = some (.map (some kb)) ∧ w'.cell? ⟨w.heap.size, 0, none⟩ = some (.string k) ∧ w'.cell? ⟨w.heap.size, 1, none⟩ = some (.int .u64 ver) from fun w' ho => ⟨ho.cell x0 id, ho.cell b0 id, ho.cell b1 id⟩)
        have hkx : x ≠ kb ∧ w.heap.size ≠ kb := ⟨fun e => n1 (.inl e), fun e => by have := HLT.out; omega⟩
        have hLm : (prsW L).length < maxLen := by unfold prsW maxLen; rw [List.length_map]; omega
        have hoP : Only (fun _ => False) W2 ((W2.alloc (.cells #[.int .i64 fr] 3)).drew) := ((Only.refl _ _).alloc _).drew
        have hbP : ((W2.alloc (.cells #[.int .i64 fr] 3)).drew).heap[W2.heap.size]? = some (.cells #[.int .i64 fr] 3 (0, 0)) := heap_alloc_new W2 _
        obtain ⟨w5, hst0, hm5, ho5⟩ := (HA2.out.keys.kept hoP id).store strKeyed strInj Try.underlying64 hLm (strOk hk) (Value.agg #[.int .u64 ver, .slice (some ⟨W2.heap.size, 0, none⟩) 1 1])
        have hst : (Instr.mapUpdate 64 (.map (some kb)) (.string k) (.agg #[.int .u64 ver, .slice (some ⟨W2.heap.size, 0, none⟩) 1 1])).run Try.prog ((W2.alloc (.cells #[.int .i64 fr] 3)).drew) = .ok () w5 := hst0
        have HKX := Lib.hid hkx
        have HOP := Lib.hid hoP
        have HBP := Lib.hid hbP
        have HM5 := Lib.hid hm5
        have HO5 := Lib.hid ho5
        clear hkx hoP hbP hm5 ho5
        clear n1 n2 n3 hst0
        go_upto_region 7 with (fail)
        go_region_held3 (fun w' => w'.cell? ⟨x, 0, none⟩ = some (.map (some kb)) ∧ w'.cell? ⟨w.heap.size, 0, none⟩ = some (.string k) ∧ w'.cell? ⟨w.heap.size, 1, none⟩ = some (.int .u64 ver))
          (first | (refine HC2.out _ ?_; (repeat (first | (with_reducible assumption) | (with_reducible exact Only.refl _ _) | (with_reducible refine Only.drew ?_) | (with_reducible refine Only.alloc ?_ _) | (with_reducible refine onlySet ?_ (by first | (with_reducible assumption) | omega) _) | (with_reducible refine Only.trans ?_ (by with_reducible assumption)))); done) | exact ⟨HO5.out.cell (HC2.out _ HOP.out).1 HKX.out.1, HO5.out.cell (HC2.out _ HOP.out).2.1 HKX.out.2, HO5.out.cell (HC2.out _ HOP.out).2.2 HKX.out.2⟩)
          (fail)
        all_goals
          have hfr : ∀ g, (EntW.s ⟨k, ver, [fr], some ⟨W2.heap.size, 0, none⟩, 1⟩).ownBlock = some g → w.heap.size ≤ g := fun g hg => by
            have h9 : W2.heap.size = g := by simpa [EntW.s, Value.ownBlock] using hg
            have := HOA.out.size
            have := HO2.out.size
            omega
          have hkk : (putW L ⟨k, ver, [fr], some ⟨W2.heap.size, 0, none⟩, 1⟩).map (·.key) |>.Perm (L.map (·.key)) := putW_keys HQW.out.apart (e := ⟨k, ver, [fr], some ⟨W2.heap.size, 0, none⟩, 1⟩) hf
          obtain ⟨q1, q2⟩ := HA2.out.put (C' := C) ⟨k, ver, [fr], some ⟨W2.heap.size, 0, none⟩, 1⟩ (HOP.out.weaken (fun _ _ => False.elim)) (HA2.out.clk.kept HOP.out id id) HO5.out HM5.out (row_one HBP.out) (HQW.out.sync.trans hkk.symm) ⟨hk, by simp, by simp⟩
          have HF := Lib.hid (show HPost w w5 x kb c cb wait cnt L C k ver fr (min now 4611686018427387904 + wait) true from ⟨_, _, _, q1, ((HOA.out.trans HO2.out).weaken (fun _ _ => False.elim)).trans q2, .inr ⟨rfl, by omega, by omega, .inr ⟨e, hf, rfl, rfl, .inl ⟨by omega, _, _, rfl⟩⟩⟩, fresh_put hfr⟩)
          clear q1 q2 hkk
          go_wp2_with fail
          go_ret
          exact ⟨_, rfl, HF.out⟩
      by_cases hgt : (e.ver : Int) > (ver : Int)
      · -- older
        have HF := Lib.hid (HSM.out W2 HO2.out false (.inl ⟨rfl, rfl, rfl, rfl, .inr (.inr (.inr ⟨e, hf, .inl (by omega)⟩))⟩))
        go_wp2_with fail
        go_ret
        exact ⟨_, rfl, HF.out⟩
      have HVEQ := Lib.hid (show e.ver = ver by omega)
      have q1 : W2.cell? ⟨Q, 1, none⟩ = some (.slice va vn vc) := cell_at HQ2.out 1
      have hvn : vn = e.has.length := by unfold EntW.s at hves; injection hves with h1 h2 h3; exact h2.symm
      subst hvn
      have hr2 : W2.ownsRow 0 3 1 (.slice va e.has.length vc) e.has.length (rowI e.has) := row_kept HR3.out HO2.out (fun _ => False.elim)
      have hct := contains_row W2 (.slice va e.has.length vc) e.has hr2 hene (by omega) fr
      have HR2 := Lib.hid hr2
      clear hr2
      by_cases hm : fr ∈ e.has
      · rw [show e.has.contains fr = true by simpa using hm] at hct
        have HCT := Lib.hid hct
        have HF := Lib.hid (HSM.out W2 HO2.out true (.inr ⟨rfl, by omega, by omega, .inr ⟨e, hf, rfl, rfl, .inr (.inl ⟨HVEQ.out, hm, rfl⟩)⟩⟩))
        clear hct hm
        go_wp2_with fail
        refine HCT.out.mono ?_
        rintro e9 w' ⟨rfl, rfl⟩
        go_wp2_with fail
        go_ret
        exact ⟨_, rfl, HF.out⟩
      rw [show e.has.contains fr = false by simpa using hm] at hct
      have HCT := Lib.hid hct
      clear hct
      by_cases hfull : e.has.length < 64
      case neg =>
        have hge : (e.has.length : Int) ≥ 64 := by omega
        have HF := Lib.hid (HSM.out W2 HO2.out false (.inl ⟨rfl, rfl, rfl, rfl, .inr (.inr (.inr ⟨e, hf, .inr ⟨HVEQ.out.symm, hm, by omega⟩⟩))⟩))
        clear hm
        go_wp2_with fail
        refine HCT.out.mono ?_
        rintro e9 w' ⟨rfl, rfl⟩
        go_wp2_with fail
        go_ret
        exact ⟨_, rfl, HF.out⟩
      have hge : ¬ (e.has.length : Int) ≥ 64 := by omega
      have HCL := Lib.hid (clone_row W2 (.slice va e.has.length vc) e.has HR2.out hene (by omega))
      have HMM := Lib.hid hm
      obtain ⟨i0, hi0, iz0, iz1, iz2⟩ := info_parts infoIntW
      clear hm
      go_wp2_with fail
      refine HCT.out.mono ?_
      rintro e9 w' ⟨rfl, rfl⟩
      go_wp2_with fail
      refine HCL.out.mono ?_
      rintro e9 w4 ⟨v4, rfl, own4, ho4⟩
      have OWN4 := Lib.hid own4
      have HO4 := Lib.hid ho4
      clear own4 ho4
      clear q0 q1 b1 hge HCT HCL
      go_wp2_with (at_builtin; refine Wait.mk ?_)
      refine Wait.go (wpList_append_src _ rfl (.tmp 86) (.tmp 88) 30 30 rfl W2.heap.size 3 i0 _ 1 8 Try.underlying30 hi0 iz0 iz1 iz2 rfl _ e.has.length (rowI e.has) rfl (OWN4.out.alloc _) _ 1 [.int .i64 fr] rfl ?src4 ?m4 ?b4 ?base4 ?_)
      case src4 => exact Src.ofSlice _ Try.underlying30 _ _ _ _ rfl (news_new _ _ _) (by simp [Value.oneCell'])
      case m4 => unfold maxLen; omega
      case b4 => omega
      case base4 => have h2 := HO4.out.size; simp; omega
      intro v5 w5 own5 gr5 hv5
      have hlen5 : (e.has ++ [fr]).length = e.has.length + 1 := by simp
      have hown5 : w5.ownsRow W2.heap.size 3 1 v5 (e.has ++ [fr]).length (rowI (e.has ++ [fr])) := by
        rw [hlen5]
        unfold rowI
        rw [List.map_append]
        exact own5
      have ho5 : Only (fun _ => False) W2 w5 := (HO4.out.alloc _).own (OWN4.out.alloc _) (Nat.le_refl _) gr5
      obtain ⟨_, a5, c5, rfl, _⟩ := Sl.of_owns hown5
      have hQ5 := ho5.old HQ2.out id
      have qf : ∀ i, w5.frozen? ⟨Q, i, none⟩ = false := free_at hQ5
      have q0 : w5.cell? ⟨Q, 0, none⟩ = some (.int .u64 e.ver) := cell_at hQ5 0
      have q1 : w5.cell? ⟨Q, 1, none⟩ = some (.slice va e.has.length vc) := cell_at hQ5 1
      have HOWN5 := Lib.hid hown5
      have HO5 := Lib.hid ho5
      have HQ5 := Lib.hid hQ5
      clear hown5 ho5 hQ5
      clear own5 gr5 hv5 hi0 iz0 iz1 iz2
      go_upto_region 16 with (fail)
      obtain ⟨W6, hW6⟩ : ∃ W6, W6 = w5.setCell ⟨Q, 1, none⟩ (.slice a5 (e.has.length + 1) c5) := ⟨_, rfl⟩
      have hwW := lt_of_block HB.out
      have hQW := HQS.out
      have hQb : W6.heap[Q]? = some (.cells #[.int .u64 e.ver, .slice a5 (e.has.length + 1) c5] 70 (0, 0)) := by rw [hW6]; exact set_at HQ5.out 1 _
      have hoQ6 : Only (fun i => i = Q) w5 W6 := by rw [hW6]; exact (Only.refl (fun i => i = Q) _).setCell (p := ⟨Q, 1, none⟩) (.inr rfl) _
      have ho6 : Only (fun _ => False) w W6 := by rw [hW6]; exact (HOA.out.trans (HO2.out.trans HO5.out)).setCell (p := ⟨Q, 1, none⟩) (.inl (by show w.heap.size ≤ Q; omega)) _
      have hB6 := hoQ6.old (HO5.out.old HB2.out id) (fun e9 => by have h9 : w.heap.size = Q := e9; omega)
      have hrow6 : W6.ownsRow 0 3 1 (.slice a5 (e.has ++ [fr]).length c5) (e.has ++ [fr]).length (rowI (e.has ++ [fr])) := by
        have h9 := HOWN5.out
        rw [hlen5] at h9 ⊢
        refine row_kept (l := e.has ++ [fr]) (by rw [hlen5]; exact ownsRow_base_a h9 (Nat.zero_le _)) hoQ6 (fun j hj cs f e9 => ?_) |> fun h8 => by rw [hlen5] at h8; exact h8
        have h7 : j = Q := hj
        rw [h7, HQ5.out] at e9
        cases e9
      have x0 : W6.cell? ⟨x, 0, none⟩ = some (.map (some kb)) := cell_at (ho6.old h.blk id) 0
      have b0 : W6.cell? ⟨w.heap.size, 0, none⟩ = some (.string k) := cell_at hB6 0
      have g0 : W6.cell? ⟨Q, 0, none⟩ = some (.int .u64 e.ver) := cell_at hQb 0
      have g1 : W6.cell? ⟨Q, 1, none⟩ = some (.slice a5 (e.has.length + 1) c5) := cell_at hQb 1
      have hLm : (prsW L).length < maxLen := by unfold prsW maxLen; rw [List.length_map]; omega
      obtain ⟨w7, hst0, hm7, ho7⟩ := (h.keys.kept (ho6.drew) id).store strKeyed strInj Try.underlying64 hLm (strOk hk) (Value.agg #[.int .u64 e.ver, .slice a5 (e.has ++ [fr]).length c5])
      have hst : (Instr.mapUpdate 64 (.map (some kb)) (.string k) (.agg #[.int .u64 e.ver, .slice a5 (e.has.length + 1) c5])).run Try.prog W6.drew = .ok () w7 := by rw [← hlen5]; exact hst0
      obtain ⟨n1, n2, n3⟩ := HNX.out
      have hkx : x ≠ kb ∧ w.heap.size ≠ kb ∧ Q ≠ kb := ⟨fun e => n1 (.inl e), fun e => by have := HLT.out; omega, fun e => by have := HLT.out; omega⟩
      have HO6 := Lib.hid ho6
      have HM7 := Lib.hid hm7
      have HO7 := Lib.hid ho7
      have HROW6 := Lib.hid hrow6
      have HKX := Lib.hid hkx
      clear ho6 hm7 ho7 hrow6 hkx
      rw [← hW6]
      clear n1 n2 n3 hst0 hW6 hQb hoQ6 hB6 q0 q1 qf hwW hQW hLm
      go_region_held3 (fun w' => w'.cell? ⟨x, 0, none⟩ = some (.map (some kb)) ∧ w'.cell? ⟨w.heap.size, 0, none⟩ = some (.string k) ∧ w'.cell? ⟨Q, 0, none⟩ = some (.int .u64 e.ver) ∧ w'.cell? ⟨Q, 1, none⟩ = some (.slice a5 (e.has.length + 1) c5))
        (first | exact ⟨x0, b0, g0, g1⟩ | exact ⟨HO7.out.cell x0 HKX.out.1, HO7.out.cell b0 HKX.out.2.1, HO7.out.cell g0 HKX.out.2.2, HO7.out.cell g1 HKX.out.2.2⟩)
        (fail)
      all_goals
        have hfr : ∀ g, (EntW.s ⟨k, e.ver, e.has ++ [fr], a5, c5⟩).ownBlock = some g → w.heap.size ≤ g := fun g hg => by
          have h9 := (HOWN5.out.lt g hg).1
          have := HOA.out.size
          have := HO2.out.size
          omega
        have hkk := putW_keys h.apart (e := ⟨k, e.ver, e.has ++ [fr], a5, c5⟩) hf
        obtain ⟨p1, p2⟩ := h.put (C' := C) ⟨k, e.ver, e.has ++ [fr], a5, c5⟩ (HO6.out.drew.weaken (fun _ _ => False.elim)) (h.clk.kept HO6.out.drew id id) HO7.out HM7.out (row_kept HROW6.out ((Only.refl (fun _ => False) _).drew) (fun _ => False.elim)) (h.sync.trans hkk.symm) ⟨hk, by show (e.has ++ [fr]).length ≤ 64; omega, by simp⟩
        have hs : HStep L C cnt (putW L ⟨k, e.ver, e.has ++ [fr], a5, c5⟩) C cnt k ver fr (min now 4611686018427387904 + wait) true := by
          refine .inr ⟨rfl, by omega, by omega, .inr ⟨e, hf, rfl, rfl, .inr (.inr ⟨HVEQ.out, HMM.out, hfull, a5, c5, ?_⟩)⟩⟩
          rw [HVEQ.out]
        have HF := Lib.hid (show HPost w w7 x kb c cb wait cnt L C k ver fr (min now 4611686018427387904 + wait) true from ⟨_, _, _, p1, p2, hs, fresh_put hfr⟩)
        clear p1 p2 hkk hs
        go_wp2_with fail
        go_ret
        exact ⟨_, rfl, HF.out⟩
end Go.Proofs.Ytefadkmdfhjaeaa
/-! What is wanted, while the clock has lost keys that the map still has; what Due does to the lists. -/
namespace Go.Proofs.Ytefadkmdfhjaeaa
open Go.Conc Go.RowKit Go.Maps

structure WantMid (w : World) (x kb c cb : Nat) (wait cnt : Int) (L : List EntW) (C : List (ByteArray × (Int × Int))) : Prop where
  blk : w.heap[x]? = some (.cells #[.map (some kb), .pointer (some ⟨c, 0, none⟩), .int .i64 wait] 68 (0, 0))
  keys : WMapW w kb L
  rows : ∀ e ∈ L, w.ownsRow 0 3 1 e.s e.has.length (rowI e.has)
  clk : ClkIs w c cb 64 cnt C
  ne : kb ≠ cb
  small : ∀ e ∈ L, e.key.size ≤ maxLen ∧ e.has.length ≤ 64 ∧ e.has ≠ []
section
variable {w w' w1 w2 : World} {x kb c cb : Nat} {wait cnt cnt' : Int} {L : List EntW} {C C' : List (ByteArray × (Int × Int))}
theorem WantAt.mid (h : WantAt w x kb c cb wait cnt L C) : WantMid w x kb c cb wait cnt L C := ⟨h.blk, h.keys, h.rows, h.clk, h.ne, h.small⟩
theorem WantMid.full (h : WantMid w x kb c cb wait cnt L C) (hs : (C.map (·.1)).Perm (L.map (·.key))) : WantAt w x kb c cb wait cnt L C := ⟨h.blk, h.keys, h.rows, h.clk, hs, h.ne, h.small⟩
theorem WantMid.new (h : WantMid w x kb c cb wait cnt L C) (ho : Only (fun _ => False) w w') : WantMid w' x kb c cb wait cnt L C :=
  ⟨ho.old h.blk id, h.keys.kept ho id, fun e he => row_kept (h.rows e he) ho (fun _ => False.elim), h.clk.kept ho id id, h.ne, h.small⟩
theorem WantMid.foot_not (h : WantMid w x kb c cb wait cnt L C) : ∀ k, footW kb c cb k → ∀ cs f, w.heap[k]? ≠ some (.cells cs 3 f) := by
  intro k hk cs f e
  rcases hk with rfl | rfl | rfl
  · obtain ⟨es, c, hb⟩ := mapW_not h.keys; rw [hb] at e; cases e
  · rw [h.clk.blk] at e; cases e
  · obtain ⟨es, c, hb⟩ := mapW_not h.clk.map; rw [hb] at e; cases e
theorem WantMid.nes (h : WantMid w x kb c cb wait cnt L C) : ¬ footW kb c cb x ∧ kb ≠ c ∧ c ≠ cb := by
  obtain ⟨es, q, hb⟩ := mapW_not h.keys
  obtain ⟨es', q', hb'⟩ := mapW_not h.clk.map
  refine ⟨fun hk => ?_, fun e => ?_, h.clk.ne⟩
  · have hx := h.blk
    rcases hk with rfl | rfl | rfl
    · rw [hb] at hx; cases hx
    · rw [h.clk.blk] at hx; cases hx
    · rw [hb'] at hx; cases hx
  · rw [e, h.clk.blk] at hb; cases hb
theorem WantMid.noStr (h : WantMid w x kb c cb wait cnt L C) : ∀ g, footW kb c cb g → ∀ i s, w.cell? ⟨g, i, none⟩ ≠ some (.string s) := by
  intro g hg i s e
  rcases hg with rfl | rfl | rfl
  · obtain ⟨es, q, hb⟩ := mapW_not h.keys
    simp [World.cell?, hb] at e
  · rw [cell_at h.clk.blk] at e
    rcases i with _ | _ | _ | i <;> simp at e
  · obtain ⟨es, q, hb⟩ := mapW_not h.clk.map
    simp [World.cell?, hb] at e
theorem WantMid.apart (h : WantMid w x kb c cb wait cnt L C) : L.Pairwise (fun p q => p.key ≠ q.key) := by
  have := h.keys.apart
  unfold prsW at this
  rw [List.pairwise_map] at this
  exact this
/-- The clock alone has turned. -/
theorem WantMid.clkd (h : WantMid w x kb c cb wait cnt L C) (ho : Only (fun i => i = c ∨ i = cb) w w') (hc : ClkIs w' c cb 64 cnt' C') : WantMid w' x kb c cb wait cnt' L C' ∧ Only (footW kb c cb) w w' := by
  obtain ⟨n1, n2, n3⟩ := h.nes
  have ho' : Only (footW kb c cb) w w' := ho.weaken (fun i _ e => .inr e)
  exact ⟨⟨ho'.old h.blk n1, h.keys.kept ho (fun e => e.elim n2 h.ne), fun e he => row_kept (h.rows e he) ho' h.foot_not, hc, h.ne, h.small⟩, ho'⟩
/-- A key is struck out of the keys. -/
theorem WantMid.drop (h : WantMid w x kb c cb wait cnt L C) (k : ByteArray) (ho : Only (fun i => i = kb) w w') (hm : MapIs Try.prog 9 Value.string (fun v : Value => v) w' kb (dropL (prsW L) k)) : WantMid w' x kb c cb wait cnt (dropW L k) C ∧ Only (footW kb c cb) w w' := by
  obtain ⟨n1, n2, n3⟩ := h.nes
  have ho' : Only (footW kb c cb) w w' := ho.weaken (fun i _ e => .inl e)
  rw [drop_prsW] at hm
  exact ⟨⟨ho'.old h.blk n1, hm, fun e he => row_kept (h.rows e (List.mem_filter.1 he).1) ho' h.foot_not, h.clk.kept ho (fun e => n2 (Eq.symm e)) (fun e => h.ne (Eq.symm e)), h.ne, fun e he => h.small e (List.mem_filter.1 he).1⟩, ho'⟩
/-- An entry is put. -/
theorem WantMid.put (h : WantMid w x kb c cb wait cnt L C) (e : EntW) (ho : Only (fun i => i = kb) w w') (hm : MapIs Try.prog 9 Value.string (fun v : Value => v) w' kb (putL (prsW L) e.key e.v)) (hrow : w.ownsRow 0 3 1 e.s e.has.length (rowI e.has)) (hsm : e.key.size ≤ maxLen ∧ e.has.length ≤ 64 ∧ e.has ≠ []) : WantMid w' x kb c cb wait cnt (putW L e) C ∧ Only (footW kb c cb) w w' := by
  obtain ⟨n1, n2, n3⟩ := h.nes
  have ho' : Only (footW kb c cb) w w' := ho.weaken (fun i _ e => .inl e)
  rw [put_prsW] at hm
  have hf := fun j (hj : j = kb) => h.foot_not j (.inl hj)
  refine ⟨⟨ho'.old h.blk n1, hm, fun e' he => ?_, h.clk.kept ho (fun e => n2 (Eq.symm e)) (fun e => h.ne (Eq.symm e)), h.ne, fun e' he => ?_⟩, ho'⟩
  · rcases List.mem_append.1 he with he | he
    · exact row_kept (h.rows e' (List.mem_filter.1 he).1) ho' h.foot_not
    · obtain rfl : e' = e := by simpa using he
      exact row_kept hrow ho hf
  · rcases List.mem_append.1 he with he | he
    · exact h.small e' (List.mem_filter.1 he).1
    · obtain rfl : e' = e := by simpa using he
      exact hsm
end
/-- An ask: whom, for what. -/
structure AskT where
  whom : Int
  key : ByteArray
  ver : Nat
/-- What Due does, key by key. -/
inductive DRun (at_ : Int) (L : List EntW) (C : List (ByteArray × (Int × Int))) (cnt : Int) : List ByteArray → List AskT → List EntW → List (ByteArray × (Int × Int)) → Int → Prop
  | nil : DRun at_ L C cnt [] [] L C cnt
  | drop {D : List ByteArray} {A : List AskT} {L1 : List EntW} {C1 : List (ByteArray × (Int × Int))} {cnt1 : Int} {y : ByteArray} {e : EntW} {h : Int} : DRun at_ L C cnt D A L1 C1 cnt1 → findW L1 y = some e → e.has = [h] → DRun at_ L C cnt (D ++ [y]) (A ++ [⟨h, y, e.ver⟩]) (dropW L1 y) C1 cnt1
  | keep {D : List ByteArray} {A : List AskT} {L1 : List EntW} {C1 : List (ByteArray × (Int × Int))} {cnt1 : Int} {y : ByteArray} {e : EntW} {h : Int} {t : List Int} {a : Option Addr} {cap : Nat} : DRun at_ L C cnt D A L1 C1 cnt1 → findW L1 y = some e → e.has = h :: t → t ≠ [] → DRun at_ L C cnt (D ++ [y]) (A ++ [⟨h, y, e.ver⟩]) (putW L1 ⟨y, e.ver, t, a, cap⟩) (C1 ++ [(y, (at_, cnt1 + 1))]) (cnt1 + 1)
def askC (q : AskT) : List Value := [.int .i64 q.whom, .string q.key, .int .u64 q.ver]
theorem askC_one (q : AskT) : ∀ u ∈ askC q, u.oneCell' = true := by
  intro u hu
  simp only [askC, List.mem_cons, List.not_mem_nil, or_false] at hu
  rcases hu with rfl | rfl | rfl <;> rfl
end Go.Proofs.Ytefadkmdfhjaeaa
/-! What is wanted: Due. -/
namespace Go.Proofs.Ytefadkmdfhjaeaa
open Go.Conc Go.RowKit Go.Maps

theorem infoAskW : (Try.prog.info? 36).map (fun i => (i.zero, i.size, i.bytes)) = some (some (.agg #[.int .i64 0, .string ⟨#[]⟩, .int .u64 0]), 3, 32) := by kernel_rfl
theorem wdue_nil (w : World) (now : Int) : Calls Try.prog 9 #[.pointer none, .int .i64 now] w fun e w' => e = .returned (.slice none 0 0) ∧ w = w' := by
  go_enter Try.func9, Try.ntmps9
  go_wp2_with fail
  go_ret
  exact ⟨rfl, rfl⟩
def keyS (k : ByteArray) : List Value := [.string k]
theorem keyS_length (k : ByteArray) : (keyS k).length = 1 := rfl
theorem own_kind {w : World} {base : Nat} {e : TypeId} {size n : Nat} {v : Value} {xs : List Value} (h : w.ownsRow base e size v n xs) {k : Nat} (hk : v.ownBlock = some k) : k < w.heap.size ∧ ∃ cs f, w.heap[k]? = some (.cells cs e f) := by
  rcases h.2 with ⟨h2, _⟩ | ⟨g, cap, cur, rfl, hb, hg, _⟩
  · rw [h2] at hk; cases hk
  · have : g = k := by simpa [Value.ownBlock] using hk
    subst this
    exact ⟨lt_of_block hg, _, _, hg⟩
/-- Asks alone have been written. -/
theorem WantMid.asks {w w' : World} {x kb c cb : Nat} {wait cnt : Int} {L : List EntW} {C : List (ByteArray × (Int × Int))} {S : Nat → Prop} (h : WantMid w x kb c cb wait cnt L C) (ho : Only S w w') (hS : ∀ k, S k → ∃ cs f, w.heap[k]? = some (.cells cs 36 f)) : WantMid w' x kb c cb wait cnt L C := by
  have hm : ∀ k, S k → ∀ es q, w.heap[k]? ≠ some (.map es q) := fun k hk es q e => by
    obtain ⟨cs, f, h9⟩ := hS k hk
    rw [e] at h9
    cases h9
  refine ⟨ho.old h.blk (fun hs => ?_), h.keys.kept ho (fun hs => ?_), fun e he => row_kept (h.rows e he) ho (fun k hs cs f e9 => ?_), h.clk.kept ho (fun hs => ?_) (fun hs => ?_), h.ne, h.small⟩
  · obtain ⟨cs, f, h9⟩ := hS _ hs
    rw [h.blk] at h9
    cases h9
  · obtain ⟨es, q, hb⟩ := mapW_not h.keys
    exact hm _ hs _ _ hb
  · obtain ⟨cs', f', h9⟩ := hS k hs
    rw [e9] at h9
    cases h9
  · obtain ⟨cs, f, h9⟩ := hS _ hs
    rw [h.clk.blk] at h9
    cases h9
  · obtain ⟨es, q, hb⟩ := mapW_not h.clk.map
    exact hm _ hs _ _ hb
theorem drop_keys {L : List EntW} (ha : L.Pairwise (fun p q => p.key ≠ q.key)) {y : ByteArray} {e : EntW} (hf : findW L y = some e) : (L.map (·.key)).Perm (y :: (dropW L y).map (·.key)) := by
  obtain ⟨_, hk⟩ := findW_some hf
  subst hk
  have h1 := putW_keys ha (e := e) hf
  unfold putW at h1
  rw [List.map_append] at h1
  exact h1.symm.trans (List.perm_append_comm)
theorem sync_drop {K : List ByteArray} {y : ByteArray} {R M M' : List ByteArray} (h : (K ++ y :: R).Perm M) (hM : M.Perm (y :: M')) : (K ++ R).Perm M' := (List.perm_cons y).1 ((List.perm_middle.symm.trans h).trans hM)
set_option maxRecDepth 100000 in
theorem wlater_cell (w : World) (x : Nat) (wait : Int) (c2 : w.cell? ⟨x, 2, none⟩ = some (.int .i64 wait)) (now : Int) (hw0 : 0 ≤ wait) (hw : wait ≤ 1000) (hnow : -9223372036854775808 ≤ now) :
    Calls Try.prog 20 #[.pointer (some ⟨x, 0, none⟩), .int .i64 now] w fun e w' => e = .returned (.int .i64 (min now 4611686018427387904 + wait)) ∧ w = w' := by
  have hwr : IntKind.i64.wrap (min now 4611686018427387904 + wait) = min now 4611686018427387904 + wait := by rw [IntKind.wrap_i64]; omega
  go_enter Try.func20, Try.ntmps20
  go_wp2_with fail
  go_ret
  exact ⟨rfl, rfl⟩
/-- The key that comes is in the clock no more. -/
theorem sync_not {L : List EntW} {C : List (ByteArray × (Int × Int))} {y : ByteArray} {R : List ByteArray} (ha : L.Pairwise (fun p q => p.key ≠ q.key)) (h : (C.map (·.1) ++ y :: R).Perm (L.map (·.key))) : lookL C y = none ∧ C.length + 1 + R.length = L.length := by
  have hnd : (L.map (·.key)).Pairwise (· ≠ ·) := by
    rw [List.pairwise_map]
    exact ha
  have hnd2 := (h.pairwise_iff (fun {_ _} h9 => Ne.symm h9)).2 hnd
  refine ⟨lookL_of_none (fun p hp e => ?_), by have := h.length_eq; simp at this; omega⟩
  have h1 := (List.pairwise_append.1 hnd2).2.2 p.1 (List.mem_map.2 ⟨p, hp, rfl⟩) y (by simp)
  exact h1 e
structure WDuePost (w : World) (x kb c cb : Nat) (wait cnt : Int) (L : List EntW) (C : List (ByteArray × (Int × Int))) (now at_ : Int) (v : Value) (w' : World) : Prop where
  out : ∃ D A L' C' cnt', D.Perm ((C.filter (fun p => !decide (now < p.2.1))).map (·.1)) ∧ DueSorted C D ∧ DRun at_ L (C.filter (fun p => decide (now < p.2.1))) cnt D A L' C' cnt' ∧ WantAt w' x kb c cb wait cnt' L' C' ∧ Only (footW kb c cb) w w' ∧ w'.ownsRow w.heap.size 36 3 v A.length (A.flatMap askC)
def WDueRes (w : World) (x kb c cb : Nat) (wait cnt : Int) (L : List EntW) (C : List (ByteArray × (Int × Int))) (now at_ : Int) (e : Ending) (w' : World) : Prop := ∃ v, e = .returned v ∧ WDuePost w x kb c cb wait cnt L C now at_ v w'
set_option maxRecDepth 100000 in
set_option maxHeartbeats 8000000 in
theorem wdue_any (w : World) (x kb c cb : Nat) (wait cnt : Int) (L : List EntW) (C : List (ByteArray × (Int × Int))) (h : WantAt w x kb c cb wait cnt L C) (now : Int) (hw0 : 0 ≤ wait) (hw1 : wait ≤ 1000) (hnow : -9223372036854775808 ≤ now) (hcnt0 : 0 ≤ cnt) (hcnt : cnt < 900000) (hL : L.length ≤ 64) :
    Calls Try.prog 9 #[.pointer (some ⟨x, 0, none⟩), .int .i64 now] w fun e w' => WDueRes w x kb c cb wait cnt L C now (min now 4611686018427387904 + wait) e w' := by
  have hCL : C.length = L.length := by have := h.sync.length_eq; simpa using this
  have hCs : ∀ p ∈ C, p.1.size ≤ maxLen := fun p hp => by
    have h1 : p.1 ∈ L.map (·.key) := h.sync.mem_iff.1 (List.mem_map.2 ⟨p, hp, rfl⟩)
    obtain ⟨q, hq, e2⟩ := List.mem_map.1 h1
    rw [← e2]
    exact (h.small q hq).1
  have HDU := Lib.hid (due_clk w c cb 64 cnt C now h.clk hCs (by omega))
  have c1 : w.cell? ⟨x, 1, none⟩ = some (.pointer (some ⟨c, 0, none⟩)) := cell_at h.blk 1
  have H := Lib.hid h
  clear h
  go_enter Try.func9, Try.ntmps9
  go_wp2_with fail
  refine HDU.out.mono ?_
  rintro e w1 hdp
  unfold DuePost at hdp
  obtain ⟨v, D, rfl, hDp, hDs, hrow, ho1, hc1⟩ := hdp
  have hm1 := (H.out.mid.clkd (ho1.weaken (fun i _ e => .inr e)) hc1).1
  have hf1 : Only (footW kb c cb) w w1 := ho1.weaken (fun i _ e => .inr (.inr e))
  have hlt3 : kb < w.heap.size ∧ c < w.heap.size ∧ cb < w.heap.size := ⟨H.out.keys.lt, lt_of_block H.out.clk.blk, H.out.clk.map.lt⟩
  have hsl : Sl w1 1 v D.length (D.flatMap keyS) := by
    have h9 := Sl.of_owns hrow
    rwa [show D.map Value.string = D.flatMap keyS by rw [List.map_eq_flatMap]; rfl] at h9
  obtain ⟨ka, kcap, rfl, k1, k2, k3⟩ := Sl.cells keyS_length hsl
  unfold maxLen at k2
  have hsplit : ((C.filter (fun p => decide (now < p.2.1))).map (·.1) ++ D).Perm (L.map (·.key)) := by
    refine List.Perm.trans ?_ H.out.sync
    refine (List.Perm.append_left _ hDp).trans ?_
    rw [← List.map_append]
    refine List.Perm.map _ ?_
    exact List.filter_append_perm (fun p => decide (now < p.2.1)) C
  have hDl : D.length ≤ 64 := by
    have := hsplit.length_eq
    simp at this
    omega
  have hP0 : DRun (min now 4611686018427387904 + wait) L (C.filter (fun p => decide (now < p.2.1))) cnt (D.take 0) [] L (C.filter (fun p => decide (now < p.2.1))) cnt := by rw [List.take_zero]; exact .nil
  have HK := Lib.hid k3
  have HM1 := Lib.hid hm1
  have HF1 := Lib.hid hf1
  have HLT := Lib.hid hlt3
  have HSP := Lib.hid hsplit
  have HDL := Lib.hid hDl
  have HP0 := Lib.hid hP0
  have HDP := Lib.hid hDp
  have HDS := Lib.hid hDs
  clear k3 hm1 hf1 hlt3 hsplit hDl hP0 hDp hDs
  clear hrow hsl hc1 ho1 HDU c1
  generalize hCf : C.filter (fun p => decide (now < p.2.1)) = Cf at *
  go_wp2_with fail
  go_loopg [18, 5] D.length (fun gk v18 v5 wr => ∃ (j : Nat) (A : List AskT) (Lj : List EntW) (Cj : List (ByteArray × (Int × Int))) (cntj : Int), v18 = .int .i64 j ∧ j ≤ D.length ∧ DRun (min now 4611686018427387904 + wait) L Cf cnt (D.take j) A Lj Cj cntj ∧ WantMid wr x kb c cb wait cntj Lj Cj ∧ (Cj.map (·.1) ++ D.drop j).Perm (Lj.map (·.key)) ∧ Only (footW kb c cb) w1 wr ∧ wr.ownsRow w1.heap.size 36 3 v5 A.length (A.flatMap askC) ∧ A.length = j ∧ Lj.length ≤ 64 ∧ cnt ≤ cntj ∧ cntj ≤ cnt + j ∧ gk = D.length - j)
  case atStart => exact ⟨0, [], L, Cf, cnt, rfl, Nat.zero_le _, HP0.out, HM1.out, by rw [List.drop_zero]; exact HSP.out, Only.refl _ _, World.ownsRow_nil w1 _ _ _, rfl, hL, Int.le_refl _, by omega, rfl⟩
  case round =>
    obtain ⟨j, A, Lj, Cj, cntj, rfl, hj, hrun, hmid, hsync, hof, hrowA, hAl, hLj, hc0, hc1, hg⟩ := hrel
    by_cases hlt : j < D.length
    · -- one
      have hlt' : (j : Int) < (D.length : Int) := by omega
      obtain ⟨bb, off, rfl, hcc⟩ := HK.out.at j hlt
      have hyc : w1.cell? ⟨bb, off + j, none⟩ = some (.string D[j]) := by
        have h9 := hcc 0 _ rfl
        simpa using h9
      have y0 : wr.cell? ⟨bb, off + j, none⟩ = some (.string D[j]) := hof.cell hyc (fun hk => HM1.out.noStr _ hk _ _ hyc)
      have htk : D.take (j + 1) = D.take j ++ [D[j]] := by rw [List.take_add_one, List.getElem?_eq_getElem hlt]; rfl
      have hdr : D.drop j = D[j] :: D.drop (j + 1) := List.drop_eq_getElem_cons hlt
      generalize D[j] = y at *
      have hyL : y ∈ Lj.map (·.key) := hsync.mem_iff.1 (by rw [hdr]; simp)
      obtain ⟨e0, he0, hek⟩ := List.mem_map.1 hyL
      have hfind : findW Lj y = some e0 := by rw [← hek]; exact findW_mem hmid.apart he0
      obtain ⟨hks, h64, hne⟩ := hmid.small e0 he0
      have hye : e0.key = y := hek
      rw [hye] at hks
      have hlk := hmid.keys.look strKeyed strInj Try.underlying64 (z := Value.agg #[.int .u64 0, .slice none 0 0]) (zeroW wr) (strOk hks) false
      rw [look_prsW, hfind] at hlk
      obtain ⟨h0, t, hht⟩ := List.exists_cons_of_ne_nil hne
      have hrow0 := hmid.rows e0 he0
      obtain ⟨g, gcap, hgs, hgc⟩ := row_cells hrow0 hne
      have hlk2 : (Instr.lookup 64 (.map (some kb)) (.string y) false).run Try.prog wr = .ok (.agg #[.int .u64 e0.ver, .slice (some ⟨g, 0, none⟩) e0.has.length gcap]) wr := by
        have h9 : Value.agg #[.int .u64 e0.ver, .slice (some ⟨g, 0, none⟩) e0.has.length gcap] = e0.v := by unfold EntW.v; rw [hgs]
        rw [h9]
        exact hlk
      have x0 : wr.cell? ⟨x, 0, none⟩ = some (.map (some kb)) := cell_at hmid.blk 0
      obtain ⟨W, hW⟩ : ∃ W, W = wr.alloc (.cells #[.int .u64 e0.ver, .slice (some ⟨g, 0, none⟩) e0.has.length gcap] 70) := ⟨_, rfl⟩
      have hbW : W.heap[wr.heap.size]? = some (.cells #[.int .u64 e0.ver, .slice (some ⟨g, 0, none⟩) e0.has.length gcap] 70 (0, 0)) := by rw [hW]; exact heap_alloc_new wr _
      have hoW : Only (fun _ => False) wr W := by rw [hW]; exact (Only.refl _ _).alloc _
      have hsW : W.heap.size = wr.heap.size + 1 := by rw [hW]; simp
      have hlen0 : 0 < e0.has.length := by rw [hht]; simp
      have q0 : W.cell? ⟨wr.heap.size, 0, none⟩ = some (.int .u64 e0.ver) := cell_at hbW 0
      have q1 : W.cell? ⟨wr.heap.size, 1, none⟩ = some (.slice (some ⟨g, 0, none⟩) e0.has.length gcap) := cell_at hbW 1
      have g0 : W.cell? ⟨g, 0, none⟩ = some (.int .i64 h0) := by
        have h9 := hoW.cell (hgc 0 hlen0) id
        rw [hht] at h9
        simpa using h9
      have hmW := hmid.new hoW
      have HGS := Lib.hid hgs
      have HGC := Lib.hid hgc
      have Hg := Lib.hid hg
      have HW := Lib.hid hW
      have HOW := Lib.hid hoW
      have HBW := Lib.hid hbW
      have HMW := Lib.hid hmW
      have HTK := Lib.hid htk
      have HDR := Lib.hid hdr
      have HFD := Lib.hid hfind
      have HHT := Lib.hid hht
      have HR0 := Lib.hid hrow0
      have HRUN := Lib.hid hrun
      have HSYN := Lib.hid hsync
      have HOF := Lib.hid hof
      have HRA := Lib.hid hrowA
      have HKS := Lib.hid hks
      clear hgs hgc hg hW hoW hbW hmW htk hdr hfind hht hrow0 hrun hsync hof hrowA hks
      clear hlk hcc hyc hyL hsW hmid
      go_upto_region 8 with (fail)
      rw [← HW.out]
      obtain ⟨i0, hi0, iz0, iz1, iz2⟩ := info_parts infoAskW
      have hra : W.ownsRow w1.heap.size 36 3 u5 A.length (A.flatMap askC) := owns_only HRA.out HOW.out (fun _ _ => id)
      have hg1 : ∃ cs f, W.heap[g]? = some (.cells cs 3 f) := by
        obtain ⟨g', gc', cur, e9, _, hgg, _⟩ := row_form HR0.out (fun e9 => by unfold rowI at e9; rw [HHT.out] at e9; simp at e9)
        have : g' = g := by
          have h9 := HGS.out.symm.trans e9
          simp at h9
          exact h9.1.symm
        subst this
        exact ⟨_, _, HOW.out.old hgg id⟩
      have hnq : ¬ u5.ownBlock = some wr.heap.size := fun e9 => by have := (own_kind HRA.out e9).1; omega
      have hng : ¬ u5.ownBlock = some g := fun e9 => by
        obtain ⟨_, cs, f, h9⟩ := own_kind hra e9
        obtain ⟨cs', f', h8⟩ := hg1
        rw [h9] at h8
        cases h8
      have hszW : w1.heap.size ≤ W.heap.size := Nat.le_trans HOF.out.size HOW.out.size
      have HCC := Lib.hid (show ∀ w', Only (fun k => u5.ownBlock = some k) W w' → w'.cell? ⟨wr.heap.size, 0, none⟩ = some (.int .u64 e0.ver) ∧ w'.cell? ⟨wr.heap.size, 1, none⟩ = some (.slice (some ⟨g, 0, none⟩) e0.has.length gcap) ∧ w'.cell? ⟨g, 0, none⟩ = some (.int .i64 h0) from fun w' ho => ⟨ho.cell q0 hnq, ho.cell q1 hnq, ho.cell g0 hng⟩)
      clear hg1 q0 q1 g0 x0 hlk2 y0
      generalize u5 = uo at *
      go_cut [5] (fun v5 wx => Only (fun k => uo.ownBlock = some k) W wx ∧ wx.ownsRow w1.heap.size 36 3 v5 (A.length + 1) (A.flatMap askC ++ askC ⟨h0, y, e0.ver⟩))
      case first =>
        go_region_held3 (fun w' => w'.cell? ⟨wr.heap.size, 0, none⟩ = some (.int .u64 e0.ver) ∧ w'.cell? ⟨wr.heap.size, 1, none⟩ = some (.slice (some ⟨g, 0, none⟩) e0.has.length gcap) ∧ w'.cell? ⟨g, 0, none⟩ = some (.int .i64 h0))
          (((refine HCC.out _ ?_); (repeat (first | (with_reducible assumption) | (with_reducible exact Only.refl _ _) | (with_reducible refine Only.drew ?_) | (with_reducible refine Only.alloc ?_ _) | (with_reducible refine onlySet ?_ (by first | (with_reducible assumption) | omega) _) | (with_reducible refine Only.trans ?_ (by with_reducible assumption))))))
          (first
            | (refine step_append_src rfl (.tmp 28) (.tmp 38) 33 33 rfl w1.heap.size 36 i0 _ 3 32 Try.underlying33 hi0 iz0 iz1 iz2 rfl uo A.length (A.flatMap askC) rfl ?_ _ 1 (askC ⟨h0, y, e0.ver⟩) rfl (Src.ofSlice _ Try.underlying33 _ _ _ _ rfl (news_at (e := 36) ?_) (askC_one _)) ?_ ?_ ?_ ?_
               · exact hra.alloc _
               · (apply Eq.trans; (case h₁ => repeat (first | (with_reducible assumption) | (with_reducible exact heap_alloc_new _ _) | (with_reducible apply blk_new; (repeat (first | (with_reducible rfl) | (with_reducible apply sz_set) | (with_reducible apply sz_alloc) | (with_reducible apply sz_drew))); done) | (with_reducible apply blk_same) | (with_reducible apply blk_ne; case hn => (first | assumption | omega)) | (with_reducible apply blk_old) | (with_reducible apply blk_drew))); (case h₂ => rfl))
               · have := HDL.out; unfold maxLen; omega
               · have := HDL.out; omega
               · first | assumption | (simp; omega)
               intro v8 w8 own8 gr8 hv8
               have hO8 : Only (fun k => uo.ownBlock = some k) W w8 := by (refine Only.grown ?_ gr8 (fun k e => .inr e); (repeat (first | (with_reducible assumption) | (with_reducible exact Only.refl _ _) | (with_reducible refine Only.drew ?_) | (with_reducible refine Only.alloc ?_ _) | (with_reducible refine onlySet ?_ (by first | (with_reducible assumption) | omega) _) | (with_reducible refine Only.trans ?_ (by with_reducible assumption)))))))
        all_goals
          go_wp2_with fail
          go_meet
          exact ⟨hO8, own8⟩
      case rest =>
        obtain ⟨ho8, own8⟩ := hcut
        obtain ⟨q0, q1, g0⟩ := HCC.out wc ho8
        have hmcA : WantMid wc x kb c cb wait cntj Lj Cj := HMW.out.asks ho8 (fun k hk => (own_kind hra hk).2)
        have hof8 : Only (footW kb c cb) w1 wc := (HOF.out.trans (HOW.out.weaken (fun _ _ => False.elim))).tr ho8 (fun i hi e9 => absurd (hra.lt i e9).1 (by omega))
        have hAA : (A ++ [AskT.mk h0 y e0.ver]).length = A.length + 1 ∧ (A ++ [AskT.mk h0 y e0.ver]).flatMap askC = A.flatMap askC ++ askC ⟨h0, y, e0.ver⟩ := ⟨by simp, by rw [List.flatMap_append]; simp⟩
        have hrow8 : wc.ownsRow w1.heap.size 36 3 u5 (A ++ [AskT.mk h0 y e0.ver]).length ((A ++ [AskT.mk h0 y e0.ver]).flatMap askC) := by rw [hAA.1, hAA.2]; exact own8
        have HOF8 := Lib.hid hof8
        have HROW8 := Lib.hid hrow8
        have HMC := Lib.hid hmcA
        clear hof8 hrow8 hmcA
        clear own8 hAA
        by_cases hone : t = []
        · -- last
          have hl1 : e0.has.length = 1 := by rw [HHT.out, hone]; rfl
          have hmc := HMC.out
          have x0 : wc.cell? ⟨x, 0, none⟩ = some (.map (some kb)) := cell_at hmc.blk 0
          have hkm := hmc.keys
          rw [hl1] at q1
          clear hlen0
          go_wp2_with (first | (at_delete; refine wpList_mapDrop rfl _ _ _ rfl hkm strKeyed strInj Try.underlying64 rfl rfl (strOk HKS.out) ?_; intro w9 hm9 ho9) | fail)
          obtain ⟨p1, p2⟩ := HMC.out.drop y ho9 hm9
          have hsy := HSYN.out
          rw [HDR.out] at hsy
          have hsy2 := sync_drop hsy (drop_keys HMC.out.apart HFD.out)
          have hrn : DRun (min now 4611686018427387904 + wait) L Cf cnt (D.take (j + 1)) (A ++ [AskT.mk h0 y e0.ver]) (dropW Lj y) Cj cntj := by
            rw [HTK.out]
            exact .drop HRUN.out HFD.out (by rw [HHT.out, hone])
          have hL9 : (dropW Lj y).length ≤ 64 := Nat.le_trans (List.length_filter_le _ _) hLj
          have hrow9 := owns_only HROW8.out ho9 (fun k hk e9 => by have h9 : k = kb := e9; have := HLT.out; have := HF1.out.size; omega)
          have hof9 := HOF8.out.trans (ho9.weaken (T := footW kb c cb) (fun i _ e9 => .inl e9))
          have P1 := Lib.hid p1
          have HSY2 := Lib.hid hsy2
          have HRN := Lib.hid hrn
          have HL9 := Lib.hid hL9
          have HROW9 := Lib.hid hrow9
          have HOF9 := Lib.hid hof9
          clear p1 hsy2 hrn hL9 hrow9 hof9
          clear p2 hsy hm9 ho9 x0 hkm hmc q0 q1 g0
          go_roundg (D.length - (j + 1))
          case measure => rw [Hg.out]; omega
          case rel => exact ⟨j + 1, _, _, _, _, by go_num, by omega, HRN.out, P1.out, HSY2.out, HOF9.out, HROW9.out, by simp [hAl], HL9.out, hc0, by omega, rfl⟩
        · -- more
          have ht1 : 0 < t.length := List.length_pos_iff.2 hone
          have hl2 : e0.has.length = t.length + 1 := by rw [HHT.out]; rfl
          have hcap : t.length + 1 ≤ gcap := by
            obtain ⟨g', gc', cur, e9, _, hgg, h9, _⟩ := row_form HR0.out (fun e9 => by unfold rowI at e9; rw [HHT.out] at e9; simp at e9)
            have h8 := HGS.out.symm.trans e9
            simp at h8
            omega
          have hl1 : ¬ e0.has.length = 1 := by omega
          have hl1' : ¬ ((t.length : Int) + 1 = 1) := by omega
          have x0 : wc.cell? ⟨x, 0, none⟩ = some (.map (some kb)) := cell_at HMC.out.blk 0
          rw [hl2] at q1
          have HX0 := Lib.hid (show ∀ w', Only (fun _ => False) wc w' → w'.cell? ⟨x, 0, none⟩ = some (.map (some kb)) ∧ w'.cell? ⟨wr.heap.size, 0, none⟩ = some (.int .u64 e0.ver) ∧ w'.cell? ⟨wr.heap.size, 1, none⟩ = some (.slice (some ⟨g, 0, none⟩) (t.length + 1) gcap) from fun w' ho => ⟨ho.cell x0 id, ho.cell q0 id, ho.cell q1 id⟩)
          have HL2 := Lib.hid hl2
          have hs2 : (1 : Int) ≤ (t.length : Int) + 1 := by omega
          have hs3 : (t.length : Int) + 1 ≤ (gcap : Int) := by omega
          have hs4 : ¬ gcap = 1 := by omega
          have hgw : ∀ j, j < t.length → wc.cell? ⟨g, 1 + j, none⟩ = some (.int .i64 (t.getD j 0)) := fun j hj => by
            have h9 := ho8.cell (HOW.out.cell (HGC.out (j + 1) (by rw [hl2]; omega)) id) hng
            rw [HHT.out] at h9
            rw [show 1 + j = 0 + (j + 1) by omega]
            simpa using h9
          have ht64 : t.length ≤ 64 := by omega
          have HCL := Lib.hid (show ∀ w', Only (fun _ => False) wc w' → Calls Try.prog 22 #[.slice (some ⟨g, 1, none⟩) t.length (gcap - 1)] w' fun e w2 => ∃ v', e = .returned v' ∧ w2.ownsRow w'.heap.size 3 1 v' t.length (rowI t) ∧ Only (fun _ => False) w' w2 from fun w' ho => (Try.slices_Clone_int g 1 t.length (gcap - 1) t w' (Nat.le_refl _) (by omega) (fun j hj => ho.cell (hgw j hj) id)).mono (by
            rintro e9 w2 ⟨v', rfl, h1, _, h3⟩
            rw [List.take_length] at h1
            exact ⟨v', rfl, h1, Only.of_below h3⟩))
          have HKM := Lib.hid (fun w' (ho : Only (fun _ => False) wc w') => HMC.out.keys.kept ho id)
          have hLm : (prsW Lj).length < maxLen := by unfold prsW maxLen; rw [List.length_map]; omega
          have HLM := Lib.hid hLm
          clear hlen0 hl1 hl2 hgw hLm
          go_upto_region 11 with (fail)
          have hkx : x ≠ kb ∧ wr.heap.size ≠ kb := ⟨fun e9 => HMC.out.nes.1 (.inl e9), fun e9 => by have := HLT.out; have := HF1.out.size; have := HOF.out.size; omega⟩
          have HKX := Lib.hid hkx
          clear hkx
          go_region_held3 (fun w' => w'.cell? ⟨x, 0, none⟩ = some (.map (some kb)) ∧ w'.cell? ⟨wr.heap.size, 0, none⟩ = some (.int .u64 e0.ver) ∧ w'.cell? ⟨wr.heap.size, 1, none⟩ = some (.slice (some ⟨g, 0, none⟩) (t.length + 1) gcap))
            (first | (refine HX0.out _ ?_; (repeat (first | (with_reducible assumption) | (with_reducible exact Only.refl _ _) | (with_reducible refine Only.drew ?_) | (with_reducible refine Only.alloc ?_ _) | (with_reducible refine onlySet ?_ (by first | (with_reducible assumption) | omega) _) | (with_reducible refine Only.trans ?_ (by with_reducible assumption)))); done) | exact ⟨ho9.cell (HX0.out _ o8).1 HKX.out.1, ho9.cell (HX0.out _ o8).2.1 HKX.out.2, ho9.cell (HX0.out _ o8).2.2 HKX.out.2⟩)
            (first | (go_at_call 22; (with_reducible refine (HCL.out _ (by (repeat (first | (with_reducible assumption) | (with_reducible exact Only.refl _ _) | (with_reducible refine Only.drew ?_) | (with_reducible refine Only.alloc ?_ _) | (with_reducible refine onlySet ?_ (by first | (with_reducible assumption) | omega) _) | (with_reducible refine Only.trans ?_ (by with_reducible assumption)))))).mono ?_); rintro e9 w8 ⟨v8, rfl, own8, ho8b⟩; (obtain ⟨_, a8, c8, rfl, _⟩ := Sl.of_owns own8); have o8 : Only (fun _ => False) wc w8 := (by (refine Only.trans (b := _) ?_ ho8b); (repeat (first | (with_reducible assumption) | (with_reducible exact Only.refl _ _) | (with_reducible refine Only.drew ?_) | (with_reducible refine Only.alloc ?_ _) | (with_reducible refine onlySet ?_ (by first | (with_reducible assumption) | omega) _) | (with_reducible refine Only.trans ?_ (by with_reducible assumption))))); (obtain ⟨w9, hst9, hm9, ho9⟩ := (HKM.out w8 o8).store strKeyed strInj Try.underlying64 HLM.out (strOk HKS.out) (Value.agg #[.int .u64 e0.ver, .slice a8 t.length c8])); have hst : (Instr.mapUpdate 64 (.map (some kb)) (.string y) (.agg #[.int .u64 e0.ver, .slice a8 t.length c8])).run Try.prog w8 = .ok () w9 := hst9))
          all_goals
            have hrow8b : w8.ownsRow 0 3 1 (.slice a8 t.length c8) t.length (rowI t) := ownsRow_base_a own8 (Nat.zero_le _)
            have hm8 := HMC.out.new o8
            obtain ⟨p1, p2⟩ := hm8.put ⟨y, e0.ver, t, a8, c8⟩ ho9 hm9 hrow8b ⟨HKS.out, ht64, hone⟩
            have hof9 := HOF8.out.trans ((o8.weaken (fun _ _ => False.elim)).trans p2)
            have hrow9 := owns_only (owns_only HROW8.out o8 (fun _ _ => id)) ho9 (fun k hk e9 => by have h9 : k = kb := e9; have := HLT.out; have := HF1.out.size; omega)
            have P1 := Lib.hid p1
            have HOF9 := Lib.hid hof9
            have HROW9 := Lib.hid hrow9
            clear p1 hof9 hrow9
            clear p2 hm8 hrow8b hm9 ho9 hst9 hst own8 ho8b o8 x0 q0 q1 g0 hs2 hs3 hs4
            have hsy := HSYN.out
            rw [HDR.out] at hsy
            obtain ⟨hn9, hlen9⟩ := sync_not HMC.out.apart hsy
            have hok : okSet 64 Cj y = true := by
              unfold okSet
              rw [hn9]
              have : (Cj.length : Int) < 64 := by omega
              simp [this]
            have hDl9 := HDL.out
            have hst := fun w' (ho : Only (fun _ => False) w9 w') => set_clk w' c cb 64 cntj Cj ((P1.out.new ho).clk) y HKS.out (min now 4611686018427387904 + wait) (by omega) (by omega) (by omega)
            rw [hok] at hst
            have x1 : w9.cell? ⟨x, 1, none⟩ = some (.pointer (some ⟨c, 0, none⟩)) := cell_at P1.out.blk 1
            have x2 : w9.cell? ⟨x, 2, none⟩ = some (.int .i64 wait) := cell_at P1.out.blk 2
            have hlt := fun w' (ho : Only (fun _ => False) w9 w') => wlater_cell w' x wait (ho.cell x2 id) now hw0 hw1 hnow
            have hxc : x ≠ c ∧ x ≠ cb := ⟨fun e9 => P1.out.nes.1 (.inr (.inl e9)), fun e9 => P1.out.nes.1 (.inr (.inr e9))⟩
            have HST := Lib.hid hst
            have HLA := Lib.hid hlt
            have HXC := Lib.hid hxc
            have HN9 := Lib.hid hn9
            have HSY := Lib.hid hsy
            have HLE9 := Lib.hid hlen9
            have HOK := Lib.hid hok
            clear hst hlt hxc hn9 hsy hlen9 hok
            clear x2 hDl9
            go_upto_region 12 with (fail)
            go_region_held3 (fun w' => w'.cell? ⟨x, 1, none⟩ = some (.pointer (some ⟨c, 0, none⟩)))
              (first | exact x1 | exact hs9.1.cell x1 (fun e9 => e9.elim HXC.out.1 HXC.out.2))
              (first
                | (go_at_call 20; (with_reducible refine (HLA.out _ (by (repeat (first | (with_reducible assumption) | (with_reducible exact Only.refl _ _) | (with_reducible refine Only.drew ?_) | (with_reducible refine Only.alloc ?_ _) | (with_reducible refine onlySet ?_ (by first | (with_reducible assumption) | omega) _) | (with_reducible refine Only.trans ?_ (by with_reducible assumption)))))).mono ?_); rintro e9 wl ⟨rfl, rfl⟩)
                | (go_at_call 19; (with_reducible refine (HST.out _ (by (repeat (first | (with_reducible assumption) | (with_reducible exact Only.refl _ _) | (with_reducible refine Only.drew ?_) | (with_reducible refine Only.alloc ?_ _) | (with_reducible refine onlySet ?_ (by first | (with_reducible assumption) | omega) _) | (with_reducible refine Only.trans ?_ (by with_reducible assumption)))))).mono ?_); rintro e9 wz ⟨rfl, hs9⟩))
            all_goals
              have hz1 : Only (fun i => i = c ∨ i = cb) w9 wz := ⟨hs9.1.os, hs9.1.tape, hs9.1.output, hs9.1.size, hs9.1.block⟩
              have hz2 := hs9.2
              rw [HOK.out, if_pos rfl] at hz2
              have hCp : putL Cj y (min now 4611686018427387904 + wait, cntj + 1) = Cj ++ [(y, (min now 4611686018427387904 + wait, cntj + 1))] := by
                unfold putL
                rw [dropL_of_none HN9.out]
              rw [hCp] at hz2
              obtain ⟨r1, r2⟩ := P1.out.clkd hz1 hz2
              have hkk := putW_keys HMC.out.apart (e := ⟨y, e0.ver, t, a8, c8⟩) HFD.out
              have hrn : DRun (min now 4611686018427387904 + wait) L Cf cnt (D.take (j + 1)) (A ++ [AskT.mk h0 y e0.ver]) (putW Lj ⟨y, e0.ver, t, a8, c8⟩) (Cj ++ [(y, (min now 4611686018427387904 + wait, cntj + 1))]) (cntj + 1) := by
                rw [HTK.out]
                exact .keep HRUN.out HFD.out HHT.out hone
              have hsyn2 : ((Cj ++ [(y, (min now 4611686018427387904 + wait, cntj + 1))]).map (·.1) ++ D.drop (j + 1)).Perm ((putW Lj ⟨y, e0.ver, t, a8, c8⟩).map (·.key)) := by
                rw [List.map_append, List.append_assoc]
                exact HSY.out.trans hkk.symm
              have hL9 : (putW Lj ⟨y, e0.ver, t, a8, c8⟩).length ≤ 64 := by
                have h9 := hkk.length_eq
                rw [List.length_map, List.length_map] at h9
                omega
              have hrowz := owns_only HROW9.out hz1 (fun k hk e9 => by have h9 : k = c ∨ k = cb := e9; have := HLT.out; have := HF1.out.size; omega)
              have hofz := HOF9.out.trans r2
              have R1 := Lib.hid r1
              have HRN := Lib.hid hrn
              have HSY2 := Lib.hid hsyn2
              have HL9 := Lib.hid hL9
              have HROWZ := Lib.hid hrowz
              have HOFZ := Lib.hid hofz
              clear r1 hrn hsyn2 hL9 hrowz hofz
              clear hz1 hz2 hCp r2 hkk x1 hs9
              go_wp2_with fail
              go_roundg (D.length - (j + 1))
              case measure => rw [Hg.out]; omega
              case rel => exact ⟨j + 1, _, _, _, _, by go_num, by omega, HRN.out, R1.out, HSY2.out, HOFZ.out, HROWZ.out, by simp [hAl], HL9.out, by omega, by omega, rfl⟩
    · have hlt' : ¬ (j : Int) < (D.length : Int) := by omega
      have hjj : j = D.length := by omega
      rw [hjj, List.take_length] at hrun
      rw [hjj, List.drop_length, List.append_nil] at hsync
      have hWF := hmid.full hsync
      have HF := Lib.hid (show WDuePost w x kb c cb wait cnt L C now (min now 4611686018427387904 + wait) u5 wr from ⟨D, A, Lj, Cj, cntj, HDP.out, HDS.out, by rw [hCf]; exact hrun, hWF, HF1.out.trans hof, ownsRow_base_a hrowA HF1.out.size⟩)
      clear hrun hsync hWF hmid hof hrowA hAl hLj hc0 hc1 hg hjj hCf
      go_wp2_with fail
      go_ret
      exact ⟨_, rfl, HF.out⟩
end Go.Proofs.Ytefadkmdfhjaeaa
/-! One key alone is wanted: what Heard and Due do to it. -/
namespace Go.Proofs.Ytefadkmdfhjaeaa
open Go.Conc Go.RowKit Go.Maps

theorem DRun.none {at_ : Int} {L L' : List EntW} {C C' : List (ByteArray × (Int × Int))} {cnt cnt' : Int} {D : List ByteArray} {A : List AskT} (h : DRun at_ L C cnt D A L' C' cnt') (hD : D = []) : A = [] ∧ L' = L ∧ C' = C ∧ cnt' = cnt := by
  cases h with
  | nil => exact ⟨rfl, rfl, rfl, rfl⟩
  | drop => simp at hD
  | keep => simp at hD
theorem findW_one (e : EntW) : findW [e] e.key = some e := by simp [findW]
theorem putW_one (e e' : EntW) (h : e'.key = e.key) : putW [e] e' = [e'] := by simp [putW, dropW, h]
theorem dropW_one (e : EntW) : dropW [e] e.key = [] := by simp [dropW]
theorem DRun.one {at_ : Int} {e : EntW} {L' : List EntW} {C C' : List (ByteArray × (Int × Int))} {cnt cnt' : Int} {D : List ByteArray} {A : List AskT} {h0 : Int} {t : List Int} (h : DRun at_ [e] C cnt D A L' C' cnt') (hD : D = [e.key]) (he : e.has = h0 :: t) :
    A = [⟨h0, e.key, e.ver⟩] ∧ ((t = [] ∧ L' = [] ∧ C' = C ∧ cnt' = cnt) ∨ (t ≠ [] ∧ (∃ a cap, L' = [⟨e.key, e.ver, t, a, cap⟩]) ∧ C' = C ++ [(e.key, (at_, cnt + 1))] ∧ cnt' = cnt + 1)) := by
  cases h with
  | nil => simp at hD
  | @drop D0 A0 L1 C1 cnt1 y e1 h1 hr hf hh =>
    obtain ⟨rfl, hy⟩ : D0 = [] ∧ y = e.key := by
      cases D0 with
      | nil => exact ⟨rfl, by simpa using hD⟩
      | cons a l => simp at hD
    subst hy
    obtain ⟨rfl, rfl, rfl, rfl⟩ := hr.none rfl
    rw [findW_one] at hf
    cases hf
    rw [he] at hh
    cases hh
    exact ⟨rfl, .inl ⟨rfl, dropW_one e, rfl, rfl⟩⟩
  | @keep D0 A0 L1 C1 cnt1 y e1 h1 t1 a cap hr hf hh hne =>
    obtain ⟨rfl, hy⟩ : D0 = [] ∧ y = e.key := by
      cases D0 with
      | nil => exact ⟨rfl, by simpa using hD⟩
      | cons a l => simp at hD
    subst hy
    obtain ⟨rfl, rfl, rfl, rfl⟩ := hr.none rfl
    rw [findW_one] at hf
    cases hf
    rw [he] at hh
    cases hh
    exact ⟨rfl, .inr ⟨hne, ⟨a, cap, putW_one e _ rfl⟩, rfl, rfl⟩⟩
theorem HStep.first {cnt cnt' : Int} {L' : List EntW} {C' : List (ByteArray × (Int × Int))} {k : ByteArray} {ver : Nat} {fr at_ : Int} {b : Bool} (h : HStep [] [] cnt L' C' cnt' k ver fr at_ b) (h1 : 1 ≤ fr) (h2 : fr ≤ 65535) : b = true ∧ (∃ a cap, L' = [⟨k, ver, [fr], a, cap⟩]) ∧ C' = [(k, (at_, cnt + 1))] ∧ cnt' = cnt + 1 := by
  rcases h with ⟨_, _, _, _, h | h | ⟨_, h⟩ | ⟨e, h, _⟩⟩ | ⟨rfl, _, _, ⟨_, _, ⟨a, cap, rfl⟩, rfl, rfl⟩ | ⟨e, h, _⟩⟩
  · omega
  · omega
  · simp at h
  · cases h
  · exact ⟨rfl, ⟨a, cap, rfl⟩, rfl, rfl⟩
  · cases h
theorem HStep.again {cnt cnt' : Int} {e : EntW} {L' : List EntW} {C C' : List (ByteArray × (Int × Int))} {fr at_ : Int} {b : Bool} (h : HStep [e] C cnt L' C' cnt' e.key e.ver fr at_ b) (h1 : 1 ≤ fr) (h2 : fr ≤ 65535) (h64 : e.has.length < 64) : b = true ∧ C' = C ∧ cnt' = cnt ∧ ((fr ∈ e.has ∧ L' = [e]) ∨ (fr ∉ e.has ∧ ∃ a cap, L' = [⟨e.key, e.ver, e.has ++ [fr], a, cap⟩])) := by
  have hf := findW_one e
  rcases h with ⟨_, _, _, _, h | h | ⟨h, _⟩ | ⟨e', h, h3 | ⟨_, _, h3⟩⟩⟩ | ⟨rfl, _, _, ⟨h, _⟩ | ⟨e', h, rfl, rfl, ⟨h3, _⟩ | ⟨_, h3, rfl⟩ | ⟨_, h3, _, a, cap, rfl⟩⟩⟩
  · omega
  · omega
  · rw [hf] at h; cases h
  · rw [hf] at h; cases h; omega
  · rw [hf] at h; cases h; omega
  · rw [hf] at h; cases h
  · rw [hf] at h; cases h; omega
  · rw [hf] at h; cases h; exact ⟨rfl, rfl, rfl, .inl ⟨h3, rfl⟩⟩
  · rw [hf] at h; cases h; exact ⟨rfl, rfl, rfl, .inr ⟨h3, a, cap, putW_one e _ rfl⟩⟩
/-- What is due of one key. -/
theorem due_one {k : ByteArray} {t o now : Int} {D : List ByteArray} (h : D.Perm (([(k, (t, o))].filter (fun p => !decide (now < p.2.1))).map (·.1))) : D = if now < t then [] else [k] := by
  by_cases hn : now < t
  · rw [if_pos hn]
    rw [List.filter_cons_of_neg (by simpa using hn)] at h
    exact List.Perm.eq_nil h
  · rw [if_neg hn]
    rw [List.filter_cons_of_pos (by simpa using hn)] at h
    exact List.Perm.eq_singleton h
end Go.Proofs.Ytefadkmdfhjaeaa
/-! What is wanted by a Want that a call made. -/
namespace Go.Proofs.Ytefadkmdfhjaeaa
open Go.Conc Go.RowKit Go.Maps

/-- A Want made behind w. -/
structure WRun (w w' : World) (x kb c cb : Nat) (wait cnt : Int) (L : List EntW) (C : List (ByteArray × (Int × Int))) : Prop where
  at_ : WantAt w' x kb c cb wait cnt L C
  only : Only (fun _ => False) w w'
  foot : w.heap.size ≤ kb ∧ w.heap.size ≤ c ∧ w.heap.size ≤ cb
theorem WRun.new {w w1 w2 : World} {x kb c cb : Nat} {wait cnt : Int} {L : List EntW} {C : List (ByteArray × (Int × Int))} (h : WRun w w1 x kb c cb wait cnt L C) (ho : Only (fun _ => False) w1 w2) : WRun w w2 x kb c cb wait cnt L C := ⟨h.at_.new ho, h.only.trans ho, h.foot⟩
theorem WRun.step {w w1 w2 : World} {x kb c cb : Nat} {wait cnt cnt' : Int} {L L' : List EntW} {C C' : List (ByteArray × (Int × Int))} (h : WRun w w1 x kb c cb wait cnt L C) (h2 : WantAt w2 x kb c cb wait cnt' L' C') (ho : Only (footW kb c cb) w1 w2) : WRun w w2 x kb c cb wait cnt' L' C' :=
  ⟨h2, h.only.tr ho (fun i hi hf => by
    have := h.foot
    rcases hf with hf | hf | hf <;> omega), h.foot⟩
theorem wrun_new (w : World) (m : Int) : Calls Try.prog 7 #[.int .i64 m] w fun e w' => ∃ x kb c cb, e = .returned (.pointer (some ⟨x, 0, none⟩)) ∧ WRun w w' x kb c cb (min (max m 0) 1000) 0 [] [] := by
  refine (wnew_any w m).mono ?_
  rintro e w' ⟨x, kb, c, cb, rfl, h1, h2, h3, h4, h5, h6⟩
  exact ⟨x, kb, c, cb, rfl, h2, h1, h4, h5, h6⟩
/-- What Heard leaves. -/
structure HRun (w w1 w' : World) (x kb c cb : Nat) (wait cnt : Int) (L : List EntW) (C : List (ByteArray × (Int × Int))) (k : ByteArray) (ver : Nat) (fr at_ : Int) (e : Ending) : Prop where
  out : ∃ b L' C' cnt', e = .returned (.bool b) ∧ HStep L C cnt L' C' cnt' k ver fr at_ b ∧ WRun w w' x kb c cb wait cnt' L' C' ∧ Only (footW kb c cb) w1 w' ∧ FreshW w1 L L'
theorem wrun_heard {w w1 : World} {x kb c cb : Nat} {wait cnt : Int} {L : List EntW} {C : List (ByteArray × (Int × Int))} (h : WRun w w1 x kb c cb wait cnt L C) (k : ByteArray) (hk : k.size ≤ maxLen) (ver : Nat) (fr now : Int) (hw0 : 0 ≤ wait) (hw1 : wait ≤ 1000) (hnow : -9223372036854775808 ≤ now) (hcnt0 : 0 ≤ cnt) (hcnt : cnt < 1000000) (hL : L.length ≤ 1000) :
    Calls Try.prog 8 #[.pointer (some ⟨x, 0, none⟩), .agg #[.string k, .int .u64 ver], .int .i64 fr, .int .i64 now] w1 fun e w' => HRun w w1 w' x kb c cb wait cnt L C k ver fr (min now 4611686018427387904 + wait) e := by
  refine (wheard_any w1 x kb c cb wait cnt L C h.at_ k hk ver fr now hw0 hw1 hnow hcnt0 hcnt hL).mono ?_
  rintro e w' ⟨b, rfl, hp⟩
  obtain ⟨L', C', cnt', q1, q2, q3, q4⟩ := hp.out
  exact ⟨b, L', C', cnt', rfl, q3, h.step q1 q2, q2, q4⟩
/-- What Due leaves. -/
structure DRunW (w w1 w' : World) (x kb c cb : Nat) (wait cnt : Int) (L : List EntW) (C : List (ByteArray × (Int × Int))) (now at_ : Int) (e : Ending) : Prop where
  out : ∃ v D A L' C' cnt', e = .returned v ∧ D.Perm ((C.filter (fun p => !decide (now < p.2.1))).map (·.1)) ∧ DRun at_ L (C.filter (fun p => decide (now < p.2.1))) cnt D A L' C' cnt' ∧ WRun w w' x kb c cb wait cnt' L' C' ∧ Only (footW kb c cb) w1 w' ∧ w'.ownsRow w1.heap.size 36 3 v A.length (A.flatMap askC)
theorem wrun_due {w w1 : World} {x kb c cb : Nat} {wait cnt : Int} {L : List EntW} {C : List (ByteArray × (Int × Int))} (h : WRun w w1 x kb c cb wait cnt L C) (now : Int) (hw0 : 0 ≤ wait) (hw1 : wait ≤ 1000) (hnow : -9223372036854775808 ≤ now) (hcnt0 : 0 ≤ cnt) (hcnt : cnt < 900000) (hL : L.length ≤ 64) :
    Calls Try.prog 9 #[.pointer (some ⟨x, 0, none⟩), .int .i64 now] w1 fun e w' => DRunW w w1 w' x kb c cb wait cnt L C now (min now 4611686018427387904 + wait) e := by
  refine (wdue_any w1 x kb c cb wait cnt L C h.at_ now hw0 hw1 hnow hcnt0 hcnt hL).mono ?_
  rintro e w' ⟨v, rfl, hp⟩
  obtain ⟨D, A, L', C', cnt', q1, _, q3, q4, q5, q6⟩ := hp.out
  exact ⟨v, D, A, L', C', cnt', rfl, q1, q3, h.step q4 q5, q5, q6⟩
/-- What Ids leaves. -/
structure IRun (w w1 w' : World) (x kb c cb : Nat) (wait cnt : Int) (L : List EntW) (C : List (ByteArray × (Int × Int))) (e : Ending) : Prop where
  out : ∃ v S, e = .returned v ∧ SortedW S L ∧ Only (fun _ => False) w1 w' ∧ WRun w w' x kb c cb wait cnt L C ∧ w'.ownsRow w1.heap.size 29 2 v S.length (S.flatMap idW)
theorem wrun_ids {w w1 : World} {x kb c cb : Nat} {wait cnt : Int} {L : List EntW} {C : List (ByteArray × (Int × Int))} (h : WRun w w1 x kb c cb wait cnt L C) (hL : L.length ≤ 1000) :
    Calls Try.prog 10 #[.pointer (some ⟨x, 0, none⟩)] w1 fun e w' => IRun w w1 w' x kb c cb wait cnt L C e := by
  refine (wids_any w1 x kb c cb wait cnt L C h.at_ hL).mono ?_
  rintro e w' ⟨v, rfl, ho, S, hs, hr⟩
  exact ⟨v, S, rfl, hs, ho, h.new ho, hr⟩
end Go.Proofs.Ytefadkmdfhjaeaa
