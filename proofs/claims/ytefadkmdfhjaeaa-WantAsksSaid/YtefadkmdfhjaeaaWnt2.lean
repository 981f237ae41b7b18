/- What is wanted: Got. -/
import Derived.Test.YtefadkmdfhjaeaaWnt1
import Derived.Test.YtefadkmdfhjaeaaHeld
import Derived.Deep.CutBlock
namespace Go.Proofs.Ytefadkmdfhjaeaa
open Go.Conc Go.RowKit Go.Maps

/-- A look-up among the keys. -/
theorem WantAt.look {w : World} {x kb c cb : Nat} {wait cnt : Int} {L : List EntW} {C : List (ByteArray × (Int × Int))} (h : WantAt w x kb c cb wait cnt L C) (k : ByteArray) (hk : k.size ≤ maxLen) :
    ∃ (vv : Nat) (va : Option Addr) (vn vc : Nat) (ok : Bool), (∀ w1, Only (fun _ => False) w w1 → (Instr.lookup 64 (.map (some kb)) (.string k) true).run Try.prog w1 = .ok (.tuple #[.agg #[.int .u64 vv, .slice va vn vc], .bool ok]) w1) ∧
      ((ok = false ∧ findW L k = none) ∨ (ok = true ∧ ∃ e, findW L k = some e ∧ vv = e.ver ∧ va = e.a ∧ vn = e.has.length ∧ vc = e.cap)) := by
  have hlk := fun w1 (ho : Only (fun _ => False) w w1) => (h.keys.kept ho id).look strKeyed strInj Try.underlying64 (z := Value.agg #[.int .u64 0, .slice none 0 0]) (zeroW w1) (strOk hk) true
  simp only [look_prsW] at hlk
  cases hf : findW L k with
  | none =>
    rw [hf] at hlk
    exact ⟨0, none, 0, 0, false, hlk, .inl ⟨rfl, rfl⟩⟩
  | some e =>
    rw [hf] at hlk
    exact ⟨e.ver, e.a, e.has.length, e.cap, true, hlk, .inr ⟨rfl, e, rfl, rfl, rfl, rfl, rfl⟩⟩
def gotB (L : List EntW) (k : ByteArray) (ver : Nat) : Bool := match findW L k with
  | none => false
  | some e => decide (e.ver ≤ ver)
def GotPost (w w' : World) (x kb c cb : Nat) (wait cnt : Int) (L : List EntW) (C : List (ByteArray × (Int × Int))) (k : ByteArray) (b : Bool) : Prop :=
  Only (footW kb c cb) w w' ∧ WantAt w' x kb c cb wait cnt (if b then dropW L k else L) (if b then dropL C k else C)
set_option maxRecDepth 100000 in
theorem wgot_nil (w : World) (k : ByteArray) (ver : Nat) : Calls Try.prog 11 #[.pointer none, .agg #[.string k, .int .u64 ver]] w fun e w' => e = .returned (.bool false) ∧ Only (fun _ => False) w w' := by
  go_enter Try.func11, Try.ntmps11
  go_wp2_with fail
  go_ret
  exact ⟨rfl, (Only.refl _ _).alloc _⟩
set_option maxRecDepth 100000 in
set_option maxHeartbeats 4000000 in
theorem wgot_any (w : World) (x kb c cb : Nat) (wait cnt : Int) (L : List EntW) (C : List (ByteArray × (Int × Int))) (h : WantAt w x kb c cb wait cnt L C) (k : ByteArray) (hk : k.size ≤ maxLen) (ver : Nat) :
    Calls Try.prog 11 #[.pointer (some ⟨x, 0, none⟩), .agg #[.string k, .int .u64 ver]] w fun e w' => e = .returned (.bool (gotB L k ver)) ∧ GotPost w w' x kb c cb wait cnt L C k (gotB L k ver) := by
  obtain ⟨W, hW⟩ : ∃ W, W = w.alloc (.cells #[.string k, .int .u64 ver] 29) := ⟨_, rfl⟩
  have hbW : W.heap[w.heap.size]? = some (.cells #[.string k, .int .u64 ver] 29 (0, 0)) := by rw [hW]; exact heap_alloc_new w _
  have hoW : Only (fun _ => False) w W := by rw [hW]; exact (Only.refl _ _).alloc _
  have hsW : W.heap.size = w.heap.size + 1 := by rw [hW]; simp
  have hW1 := h.new hoW
  obtain ⟨vv, va, vn, vc, ok, hlk, hcase⟩ := hW1.look k hk
  have x0 : W.cell? ⟨x, 0, none⟩ = some (.map (some kb)) := cell_at hW1.blk 0
  have b0 : W.cell? ⟨w.heap.size, 0, none⟩ = some (.string k) := cell_at hbW 0
  have HCC := Lib.hid (show ∀ w', Only (fun _ => False) W w' → w'.cell? ⟨x, 0, none⟩ = some (.map (some kb)) ∧ w'.cell? ⟨w.heap.size, 0, none⟩ = some (.string k) ∧ (Instr.lookup 64 (.map (some kb)) (.string k) true).run Try.prog w' = .ok (.tuple #[.agg #[.int .u64 vv, .slice va vn vc], .bool ok]) w' from fun w' ho => ⟨ho.cell x0 id, ho.cell b0 id, hlk w' ho⟩)
  have HO := Lib.hid hoW
  have HW := Lib.hid hW
  have HB := Lib.hid hbW
  have HWA := Lib.hid hW1
  have HCS := Lib.hid hcase
  clear hoW hW hbW hW1 hcase
  clear hlk x0 b0 hsW
  go_enter Try.func11, Try.ntmps11
  go_upto_region 3 with (fail)
  rw [← HW.out]
  go_cut [5, 6] (fun v5 v6 wx => v6 = .bool ok ∧ ∃ Q, v5 = .pointer (some ⟨Q, 0, none⟩) ∧ wx.heap[Q]? = some (.cells #[.int .u64 vv, .slice va vn vc] 70 (0, 0)) ∧ Only (fun _ => False) W wx ∧ W.heap.size ≤ Q)
  case first =>
    go_region_held3 (fun w' => Only (fun _ => False) W w' ∧ w'.cell? ⟨x, 0, none⟩ = some (.map (some kb)) ∧ w'.cell? ⟨w.heap.size, 0, none⟩ = some (.string k) ∧ (Instr.lookup 64 (.map (some kb)) (.string k) true).run Try.prog w' = .ok (.tuple #[.agg #[.int .u64 vv, .slice va vn vc], .bool ok]) w')
      (((refine heldO HCC.out ?_); (repeat (first | (with_reducible assumption) | (with_reducible exact Only.refl _ _) | (with_reducible refine Only.drew ?_) | (with_reducible refine Only.alloc ?_ _) | (with_reducible refine onlySet ?_ (by first | (with_reducible assumption) | omega) _) | (with_reducible refine Only.trans ?_ (by with_reducible assumption))))))
      (fail)
    all_goals
      go_wp2_with fail
      go_meet
      refine ⟨rfl, _, by with_reducible rfl, ?_, ?_, ?_⟩
      · (apply Eq.trans; (case h₁ => repeat (first | (with_reducible assumption) | (with_reducible exact heap_alloc_new _ _) | (with_reducible apply blk_new; (repeat (first | (with_reducible rfl) | (with_reducible apply sz_set) | (with_reducible apply sz_alloc) | (with_reducible apply sz_drew))); done) | (with_reducible apply blk_same) | (with_reducible apply blk_ne; case hn => (first | assumption | omega)) | (with_reducible apply blk_old) | (with_reducible apply blk_drew))); (case h₂ => rfl))
      · (repeat (first | (with_reducible assumption) | (with_reducible exact Only.refl _ _) | (with_reducible refine Only.drew ?_) | (with_reducible refine Only.alloc ?_ _) | (with_reducible refine onlySet ?_ (by first | (with_reducible assumption) | omega) _) | (with_reducible refine Only.trans ?_ (by with_reducible assumption))))
      · first | omega | (simp; omega)
  case rest =>
    obtain ⟨rfl, Q, rfl, hQ, hoQ, hQs⟩ := hcut
    have hQw := HWA.out.new hoQ
    have hB := hoQ.old HB.out id
    have q0 : wc.cell? ⟨Q, 0, none⟩ = some (.int .u64 vv) := cell_at hQ 0
    have b0 : wc.cell? ⟨w.heap.size, 0, none⟩ = some (.string k) := cell_at hB 0
    have b1 : wc.cell? ⟨w.heap.size, 1, none⟩ = some (.int .u64 ver) := cell_at hB 1
    have hoA := HO.out.trans hoQ
    have HQW := Lib.hid hQw
    have HOA := Lib.hid hoA
    clear hQw hoA
    clear hQ hoQ hB hQs HCC
    rcases HCS.out with ⟨rfl, hf⟩ | ⟨rfl, e, hf, he1, _, _, _⟩
    · have hg : gotB L k ver = false := by unfold gotB; rw [hf]
      have HG := Lib.hid hg
      clear hf hg
      go_wp2_with fail
      go_ret
      rw [HG.out]
      exact ⟨rfl, HOA.out.weaken (fun _ _ => False.elim), HQW.out⟩
    · by_cases hv : (vv : Int) > (ver : Int)
      · have hg : gotB L k ver = false := by unfold gotB; rw [hf]; exact decide_eq_false (by omega)
        have HG := Lib.hid hg
        clear hf hg he1
        go_wp2_with fail
        go_ret
        rw [HG.out]
        exact ⟨rfl, HOA.out.weaken (fun _ _ => False.elim), HQW.out⟩
      · have hg : gotB L k ver = true := by unfold gotB; rw [hf]; exact decide_eq_true (by omega)
        have HG := Lib.hid hg
        have HD := Lib.hid (wdrop_any wc x kb c cb wait cnt L C HQW.out k hk)
        clear hf hg he1
        go_wp2_with fail
        refine HD.out.mono ?_
        rintro e w2 ⟨rfl, hd1, hd2⟩
        have HD1 := Lib.hid hd1
        have HD2 := Lib.hid hd2
        clear hd1 hd2
        clear q0 b0 b1
        go_wp2_with fail
        go_ret
        rw [HG.out]
        exact ⟨rfl, (HOA.out.weaken (fun _ _ => False.elim)).trans HD2.out, HD1.out⟩
end Go.Proofs.Ytefadkmdfhjaeaa
