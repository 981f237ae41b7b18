/- Contracts of the functions of package pipe that touch the channel: New, Len, put, Take. -/
import Derived.Test.YtjgcbcahikemdaaBase
import Derived.Conc.LoneSelectN
namespace Go.Proofs.Ytjgcbcahikemdaa
open Go.Conc Go.RowKit

/-- A pipe: its pointer's block p, its channel's block c, what lies in it. -/
structure PipeAt (w : World) (p c : Nat) (buf : List Value) : Prop where
  blk : w.heap[p]? = some (.cells #[.chan (some c)] 127 (0, 0))
  chan : ∃ s r, w.heap[c]? = some (.chan 64 buf.toArray false s r false)

theorem PipeAt.cell {w : World} {p c : Nat} {buf : List Value} (h : PipeAt w p c buf) : w.cell? ⟨p, 0, none⟩ = some (.chan (some c)) := by simp [World.cell?, h.blk]
theorem PipeAt.ne {w : World} {p c : Nat} {buf : List Value} (h : PipeAt w p c buf) {a : Addr} {v : Value} (hc : w.cell? a = some v) : a.block ≠ c := by
  obtain ⟨s, r, hb⟩ := h.chan
  intro e
  simp [World.cell?, e, hb] at hc
theorem PipeAt.lt {w : World} {p c : Nat} {buf : List Value} (h : PipeAt w p c buf) : p < w.heap.size ∧ c < w.heap.size := by
  obtain ⟨s, r, hb⟩ := h.chan
  exact ⟨World.block_lt_of_cell? _ _ h.cell, lt_of_block hb⟩
theorem PipeAt.pne {w : World} {p c : Nat} {buf : List Value} (h : PipeAt w p c buf) : p ≠ c := h.ne h.cell
theorem PipeAt.kept {w w' : World} {S : Nat → Prop} {p c : Nat} {buf : List Value} (h : PipeAt w p c buf) (ho : Only S w w') (hp : ¬ S p) (hc : ¬ S c) : PipeAt w' p c buf := by
  obtain ⟨s, r, hb⟩ := h.chan
  exact ⟨ho.old h.blk hp, s, r, (ho.block c h.lt.2 hc).trans hb⟩
theorem PipeAt.set {w w' : World} {S : Nat → Prop} {p c : Nat} {buf : List Value} (h : PipeAt w p c buf) (ho : Only S w w') (hp : ¬ S p) (hc : ¬ S c) (buf' : List Value) (s r : Nat) : PipeAt (w'.setChan c 64 buf'.toArray false s r false) p c buf' := by
  have h1 := h.kept ho hp hc
  refine ⟨?_, s, r, heap_setChan _ _ _ _ _ _ _ _ h1.lt.2⟩
  have : (w'.setChan c 64 buf'.toArray false s r false).heap[p]? = w'.heap[p]? := by simp [World.setChan, Array.getElem?_setIfInBounds_ne h.pne.symm]
  exact this.trans h1.blk

theorem PipeAt.ne_own {w : World} {p c : Nat} {buf : List Value} (h : PipeAt w p c buf) {base : Nat} {e : TypeId} {size n : Nat} {v : Value} {xs : List Value} (ho : w.ownsRow base e size v n xs) (he : e ≠ 127) : v.ownBlock ≠ some p ∧ v.ownBlock ≠ some c := by
  obtain ⟨s, r, hb⟩ := h.chan
  have hb' := h.blk
  rcases ho.2 with ⟨rfl, _⟩ | ⟨g, cap, cur, rfl, _, hg, _⟩
  · simp [Value.ownBlock]
  · refine ⟨fun e1 => ?_, fun e1 => ?_⟩
    · simp only [Value.ownBlock, Option.some.injEq] at e1
      subst e1
      rw [hg] at hb'
      simp at hb'
      exact he hb'.2
    · simp only [Value.ownBlock, Option.some.injEq] at e1
      subst e1
      rw [hg] at hb
      simp at hb

theorem bytesItem : ∃ i, Try.prog.info? 58 = some i ∧ i.bytes = 24 := by
  have h : (Try.prog.info? 58).map (·.bytes) = some 24 := by kernel_rfl
  obtain ⟨i, hi, hb⟩ := Option.map_eq_some_iff.1 h
  exact ⟨i, hi, hb⟩
theorem mkchan (w : World) : (Instr.makeChan 125 (.int .i64 64)).run Try.prog w = .ok (.chan (some w.heap.size)) (w.alloc (.chan 64 #[] false 0 0 false)) := by
  obtain ⟨i, hi, hb⟩ := bytesItem
  simpa using run_makeChan (P := Try.prog) (w := w) Try.underlying125 hi .i64 64 (by omega) (by rw [hb]; omega)

/-- New: a new pipe, empty. -/
theorem new_any (w : World) : Calls Try.prog 75 #[] w fun e w' => e = .returned (.pointer (some ⟨w.heap.size + 1, 0, none⟩)) ∧
    Only (fun _ => False) w w' ∧ PipeAt w' (w.heap.size + 1) w.heap.size [] ∧ w.heap.size + 1 < w'.heap.size := by
  have hmc := mkchan
  go_enter Try.func75, Try.ntmps75
  go_wp2
  go_ret
  refine ⟨rfl, ((Only.refl _ w).alloc _).alloc _, ⟨?_, 0, 0, ?_⟩, by simp⟩
  · have := heap_alloc_new (w.alloc (.chan 64 #[] false 0 0 false)) (.cells #[.chan (some w.heap.size)] 127 (0, 0))
    simpa only [World.size_alloc] using this
  · rw [Below.heap_alloc _ _ _ (by simp)]
    exact heap_alloc_new w _

theorem len_any (w : World) (p c : Nat) (buf : List Value) (h : PipeAt w p c buf) :
    Calls Try.prog 62 #[.pointer (some ⟨p, 0, none⟩)] w fun e w' => e = .returned (.int .i64 buf.length) ∧ w = w' := by
  have hp := h.cell
  obtain ⟨_, s, r, hc⟩ := h
  have hlen := fun ty => run_len_chan (P := Try.prog) 125 ty Try.underlying125 hc
  rw [List.size_toArray] at hlen
  go_enter Try.func62, Try.ntmps62
  go_wp2
  go_ret
  exact ⟨rfl, rfl⟩
theorem len_nil (w : World) : Calls Try.prog 62 #[.pointer none] w fun e w' => e = .returned (.int .i64 0) ∧ w = w' := by
  go_enter Try.func62, Try.ntmps62
  go_wp2
  go_ret
  exact ⟨rfl, rfl⟩

set_option maxRecDepth 100000 in
theorem put_room (w : World) (p c : Nat) (buf : List Value) (x y : Value) (h : PipeAt w p c buf) (hroom : buf.length < 64) :
    Calls Try.prog 76 #[.pointer (some ⟨p, 0, none⟩), .agg #[x, y]] w fun e w' => e = .returned (.bool true) ∧ Only (· = c) w w' ∧ PipeAt w' p c (buf ++ [.agg #[x, y]]) := by
  have h0 := h
  have hp := h.cell
  obtain ⟨_, s, r, hc⟩ := h
  have hlt : p < w.heap.size := World.block_lt_of_cell? _ _ hp
  have hcl : c < w.heap.size := lt_of_block hc
  refine calls_of_loneTo fun cs => ?_
  have e : Frame.enter Try.prog 76 #[.pointer (some ⟨p, 0, none⟩), .agg #[x, y]] .normal = (base 76).at ⟨#[.pointer (some ⟨p, 0, none⟩), .agg #[x, y], undef, undef, undef, undef, undef, undef, undef, undef, undef, undef, undef], []⟩ [.code (Try.f76.body.getD .skip)] := by
    simp [Frame.enter, Frame.at, Try.func76, base, Try.f76]
  rw [e]
  refine LoneTo.goes (n := 40) ?_
  simp only [Try.f76, Option.getD_some]
  s_c stepG_seq
  s_reg
  s_op
  s_op
  s_c stepG_region_end
  s_c stepG_seq
  s_c stepG_seq
  s_reg
  s_op
  s_op
  s_op
  s_op
  s_c stepG_region_end
  s_reg
  s_op
  s_c stepG_region_end
  s_c stepG_seq
  s_reg
  s_stop
  refine LoneTo.step (step_lone_select_send_room (c := c) (v := .agg #[x, y]) (z' := .agg #[.bool false, .string ⟨#[]⟩]) (cap := 64) (buf := buf.toArray) (s := s) (r := r) (tm := false)
    (stepG_comm (cases := #[scase c (.agg #[x, y]) (.agg #[.bool false, .string ⟨#[]⟩])]) (blocking := false) (shape := .select) (w' := w.alloc (.cells #[x, y] 58)) rfl rfl (by decide) (by simp [go_sem, execOp, scase, Act.eval]))
    ((Below.heap_alloc _ _ _ hcl).trans hc) (by simpa using hroom)) ?_
  rw [Frame.finish_at]
  walk_nrm
  refine LoneTo.goes (n := 40) ?_
  s_op
  s_op
  s_c stepG_region_end
  s_c stepG_block
  s_cond true
  s_c stepG_seq
  s_reg
  s_op
  s_c stepG_region_end
  s_c stepG_ret'
  s_stop
  refine LoneTo.done ⟨.returned (.bool true), _, rfl, ⟨rfl, ((Only.refl (· = c) w).alloc _).setChan (S := (· = c)) (Or.inr rfl) _ _ _ _ _ _, ?_⟩, rfl, rfl, rfl, rfl, _, Try.func76, by simp [results, Try.f76, Frame.at]⟩
  exact h0.set (S := fun _ => False) ((Only.refl _ w).alloc _) id id _ _ _

set_option maxRecDepth 100000 in
theorem put_full (w : World) (p c : Nat) (buf : List Value) (x y : Value) (h : PipeAt w p c buf) (hroom : 64 ≤ buf.length) :
    Calls Try.prog 76 #[.pointer (some ⟨p, 0, none⟩), .agg #[x, y]] w fun e w' => e = .returned (.bool false) ∧ Only (· = c) w w' ∧ PipeAt w' p c buf := by
  have h0 := h
  have hp := h.cell
  obtain ⟨_, s, r, hc⟩ := h
  have hlt : p < w.heap.size := World.block_lt_of_cell? _ _ hp
  have hcl : c < w.heap.size := lt_of_block hc
  refine calls_of_loneTo fun cs => ?_
  have e : Frame.enter Try.prog 76 #[.pointer (some ⟨p, 0, none⟩), .agg #[x, y]] .normal = (base 76).at ⟨#[.pointer (some ⟨p, 0, none⟩), .agg #[x, y], undef, undef, undef, undef, undef, undef, undef, undef, undef, undef, undef], []⟩ [.code (Try.f76.body.getD .skip)] := by
    simp [Frame.enter, Frame.at, Try.func76, base, Try.f76]
  rw [e]
  refine LoneTo.goes (n := 40) ?_
  simp only [Try.f76, Option.getD_some]
  s_c stepG_seq
  s_reg
  s_op
  s_op
  s_c stepG_region_end
  s_c stepG_seq
  s_c stepG_seq
  s_reg
  s_op
  s_op
  s_op
  s_op
  s_c stepG_region_end
  s_reg
  s_op
  s_c stepG_region_end
  s_c stepG_seq
  s_reg
  s_stop
  refine LoneTo.step (step_lone_select_send_full (c := c) (v := .agg #[x, y]) (z' := .agg #[.bool false, .string ⟨#[]⟩]) (cap := 64) (buf := buf.toArray) (s := s) (r := r) (tm := false)
    (stepG_comm (cases := #[scase c (.agg #[x, y]) (.agg #[.bool false, .string ⟨#[]⟩])]) (blocking := false) (shape := .select) (w' := w.alloc (.cells #[x, y] 58)) rfl rfl (by decide) (by simp [go_sem, execOp, scase, Act.eval]))
    ((Below.heap_alloc _ _ _ hcl).trans hc) (by simpa using hroom)) ?_
  rw [Frame.finish_at]
  walk_nrm
  refine LoneTo.goes (n := 40) ?_
  s_op
  s_op
  s_c stepG_region_end
  s_c stepG_block
  s_cond false
  s_c stepG_seq
  s_reg
  s_op
  s_c stepG_region_end
  s_c stepG_ret'
  s_stop
  refine LoneTo.done ⟨.returned (.bool false), _, rfl, ⟨rfl, (Only.refl _ w).alloc _, h0.kept (S := fun _ => False) ((Only.refl _ w).alloc _) id id⟩, rfl, rfl, rfl, rfl, _, Try.func76, by simp [results, Try.f76, Frame.at]⟩

def zeroItem : Value := .agg #[.bool false, .string ⟨#[]⟩]
theorem take_nil (w : World) : Calls Try.prog 53 #[.pointer none] w fun e w' => e = .returned (.tuple #[.agg #[.bool false, .string ⟨#[]⟩], .bool false]) ∧ Only (fun _ => False) w w' := by
  go_enter Try.func53, Try.ntmps53
  go_wp2
  exact bodyPost_ret (v := .tuple #[.agg #[.bool false, .string ⟨#[]⟩], .bool false]) (by simp [results, Try.results53, go_sem]) rfl ⟨rfl, (Only.refl _ w).alloc _⟩

set_option maxRecDepth 100000 in
theorem take_none (w : World) (p c : Nat) (h : PipeAt w p c []) :
    Calls Try.prog 53 #[.pointer (some ⟨p, 0, none⟩)] w fun e w' => e = .returned (.tuple #[.agg #[.bool false, .string ⟨#[]⟩], .bool false]) ∧ Only (fun _ => False) w w' := by
  have h0 := h
  have hp := h.cell
  obtain ⟨_, s, r, hc⟩ := h
  have hlt : p < w.heap.size := World.block_lt_of_cell? _ _ hp
  have hcl : c < w.heap.size := lt_of_block hc
  refine calls_of_loneTo fun cs => ?_
  have e : Frame.enter Try.prog 53 #[.pointer (some ⟨p, 0, none⟩)] .normal = (base 53).at ⟨#[.pointer (some ⟨p, 0, none⟩), undef, undef, undef, undef, undef, undef, undef, undef, undef, undef, undef, undef, undef, undef, undef, undef, undef], []⟩ [.code (Try.f53.body.getD .skip)] := by
    simp [Frame.enter, Frame.at, Try.func53, base, Try.f53]
  rw [e]
  refine LoneTo.goes (n := 40) ?_
  simp only [Try.f53, Option.getD_some]
  s_c stepG_seq
  s_reg
  s_op
  s_op
  s_c stepG_region_end
  s_c stepG_seq
  s_c stepG_seq
  s_reg
  s_op
  s_op
  s_c stepG_region_end
  s_cond false
  s_c stepG_skip
  s_c stepG_seq
  s_reg
  s_op
  s_op
  s_op
  s_op
  s_c stepG_region_end
  s_c stepG_seq
  s_reg
  s_stop
  refine LoneTo.step (step_lone_select_default (c := c) (z := .agg #[.bool false, .string ⟨#[]⟩]) (cap := 64) (s := s) (r := r) (tm := false)
    (stepG_comm (cases := #[rcase c (.agg #[.bool false, .string ⟨#[]⟩])]) (blocking := false) (shape := .select) (w' := w.alloc (.cells #[.bool false, .string ⟨#[]⟩] 58)) rfl rfl (by decide) (by simp [go_sem, execOp, rcase, Act.eval]))
    ((Below.heap_alloc _ _ _ hcl).trans hc)) ?_
  rw [Frame.finish_at]
  walk_nrm
  refine LoneTo.goes (n := 40) ?_
  s_op
  s_op
  s_c stepG_region_end
  s_c stepG_block
  s_cond false
  s_c stepG_seq
  s_reg
  s_op
  s_op
  s_op
  s_c stepG_region_end
  s_c stepG_ret'
  s_stop
  refine LoneTo.done ⟨.returned (.tuple #[.agg #[.bool false, .string ⟨#[]⟩], .bool false]), _, rfl, ⟨rfl, ?_⟩, rfl, rfl, rfl, rfl, _, Try.func53, by simp [results, Try.f53, Frame.at, go_sem]⟩
  exact (Only.refl _ w).alloc _

set_option maxRecDepth 100000 in
theorem take_some (w : World) (p c : Nat) (x : Bool) (y : ByteArray) (buf : List Value) (h : PipeAt w p c (.agg #[.bool x, .string y] :: buf)) :
    Calls Try.prog 53 #[.pointer (some ⟨p, 0, none⟩)] w fun e w' => e = .returned (.tuple #[.agg #[.bool x, .string y], .bool true]) ∧ Only (· = c) w w' ∧ PipeAt w' p c buf := by
  have h0 := h
  have hp := h.cell
  obtain ⟨_, s, r, hc⟩ := h
  have hlt : p < w.heap.size := World.block_lt_of_cell? _ _ hp
  have hcl : c < w.heap.size := lt_of_block hc
  refine calls_of_loneTo fun cs => ?_
  have e : Frame.enter Try.prog 53 #[.pointer (some ⟨p, 0, none⟩)] .normal = (base 53).at ⟨#[.pointer (some ⟨p, 0, none⟩), undef, undef, undef, undef, undef, undef, undef, undef, undef, undef, undef, undef, undef, undef, undef, undef, undef], []⟩ [.code (Try.f53.body.getD .skip)] := by
    simp [Frame.enter, Frame.at, Try.func53, base, Try.f53]
  rw [e]
  refine LoneTo.goes (n := 40) ?_
  simp only [Try.f53, Option.getD_some]
  s_c stepG_seq
  s_reg
  s_op
  s_op
  s_c stepG_region_end
  s_c stepG_seq
  s_c stepG_seq
  s_reg
  s_op
  s_op
  s_c stepG_region_end
  s_cond false
  s_c stepG_skip
  s_c stepG_seq
  s_reg
  s_op
  s_op
  s_op
  s_op
  s_c stepG_region_end
  s_c stepG_seq
  s_reg
  s_stop
  refine LoneTo.step (step_lone_select_recv_buf (c := c) (z := .agg #[.bool false, .string ⟨#[]⟩]) (cap := 64) (buf := (.agg #[.bool x, .string y] :: buf).toArray) (closed := false) (s := s) (r := r) (tm := false)
    (stepG_comm (cases := #[rcase c (.agg #[.bool false, .string ⟨#[]⟩])]) (blocking := false) (shape := .select) (w' := w.alloc (.cells #[.bool false, .string ⟨#[]⟩] 58)) rfl rfl (by decide) (by simp [go_sem, execOp, rcase, Act.eval]))
    ((Below.heap_alloc _ _ _ hcl).trans hc) (by simp)) ?_
  rw [Frame.finish_at]
  have hb : (Value.agg #[.bool x, .string y] :: buf).toArray.extract 1 (Value.agg #[.bool x, .string y] :: buf).toArray.size = buf.toArray := by simp
  have hg : (Value.agg #[.bool x, .string y] :: buf).toArray.getD 0 undef = .agg #[.bool x, .string y] := by simp
  rw [hb, hg]
  walk_nrm
  generalize hW : (w.alloc (.cells #[.bool false, .string ⟨#[]⟩] 58)).setChan c 64 buf.toArray false s (r + 1) false = W
  have hs : w.heap.size < W.heap.size := by subst hW; simp [World.setChan]
  have h2 : Only (· = c) w W := by subst hW; exact ((Only.refl (· = c) w).alloc _).setChan (S := (· = c)) (Or.inr rfl) _ _ _ _ _ _
  have h3 : PipeAt W p c buf := by subst hW; exact h0.set (S := fun _ => False) ((Only.refl _ w).alloc _) id id _ _ _
  have hc0 : W.heap[w.heap.size]? = some (.cells #[.bool false, .string ⟨#[]⟩] 58 (0, 0)) := by
    subst hW
    simp only [World.setChan]
    rw [Array.getElem?_setIfInBounds_ne (by omega)]
    exact heap_alloc_new w _
  have hf0 : W.frozen? ⟨w.heap.size, 0, none⟩ = false := by simp [World.frozen?, hc0]
  have hf1 : W.frozen? ⟨w.heap.size, 0 + 1, none⟩ = false := by simp [World.frozen?, hc0]
  have hk0 : W.cell? ⟨w.heap.size, 0, none⟩ = some (.bool false) := by simp [World.cell?, hc0]
  have hk1 : W.cell? ⟨w.heap.size, 0 + 1, none⟩ = some (.string ⟨#[]⟩) := by simp [World.cell?, hc0]
  clear hW
  refine LoneTo.goes (n := 40) ?_
  s_op
  s_op
  s_c stepG_region_end
  s_c stepG_block
  s_cond true
  s_c stepG_seq
  s_reg
  s_op
  s_op
  s_op
  s_c stepG_region_end
  s_c stepG_seq
  s_reg
  s_op
  s_op
  s_op
  s_c stepG_region_end
  s_c stepG_ret'
  s_stop
  generalize hV : (W.setCell ⟨w.heap.size, 0, none⟩ (.bool x)).setCell ⟨w.heap.size, 1, none⟩ (.string y) = V
  have hv : V.heap[w.heap.size]? = some (.cells #[.bool x, .string y] 58 (0, 0)) := by
    subst hV
    simp [World.setCell, Array.getElem?_modify, hc0]
  have v1 : Only (· = c) w V := by subst hV; exact (h2.setCell (.inl (Nat.le_refl _)) _).setCell (.inl (Nat.le_refl _)) _
  have v2 : PipeAt V p c buf := by
    subst hV
    have ho : Only (· = w.heap.size) W ((W.setCell ⟨w.heap.size, 0, none⟩ (.bool x)).setCell ⟨w.heap.size, 1, none⟩ (.string y)) :=
      ((Only.refl (· = w.heap.size) W).setCell (S := (· = w.heap.size)) (p := ⟨w.heap.size, 0, none⟩) (Or.inr rfl) _).setCell (S := (· = w.heap.size)) (p := ⟨w.heap.size, 1, none⟩) (Or.inr rfl) _
    refine h3.kept ho ?_ ?_
    · show ¬ (p = w.heap.size); omega
    · show ¬ (c = w.heap.size); omega
  have hlt : w.heap.size < V.heap.size := lt_of_block hv
  have hk0 : V.cell? ⟨w.heap.size, 0, none⟩ = some (.bool x) := by simp [World.cell?, hv]
  have hk1 : V.cell? ⟨w.heap.size, 1, none⟩ = some (.string y) := by simp [World.cell?, hv]
  refine LoneTo.done ⟨.returned (.tuple #[.agg #[.bool x, .string y], .bool true]), _, rfl, ⟨rfl, v1.alloc _, ?_⟩, rfl, rfl, rfl, rfl, _, Try.func53, by simp [results, Try.f53, Frame.at, go_sem, hk0, hk1, hlt]⟩
  exact v2.kept (S := fun _ => False) ((Only.refl _ V).alloc _) id id

end Go.Proofs.Ytjgcbcahikemdaa
