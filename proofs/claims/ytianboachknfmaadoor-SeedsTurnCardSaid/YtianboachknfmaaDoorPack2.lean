/- strings.Builder inside a Writer: WriteByte, WriteString, String. -/
import Derived.Test.YtianboachknfmaaDoorPack1
import Derived.Lib.Builder
import Derived.Lib.UnsafeStr
import Derived.Laws.Externs
namespace Go.Proofs.YtianboachknfmaaDoor
open Go.Conc Go.RowKit

def bcells (l : List UInt8) : List Value := l.map fun b => .int .u8 b.toNat
theorem bcells_append (l m : List UInt8) : bcells (l ++ m) = bcells l ++ bcells m := List.map_append
theorem bcells_length (l : List UInt8) : (bcells l).length = l.length := List.length_map _
theorem bcells_one (l : List UInt8) : ∀ u ∈ bcells l, u.oneCell' = true := by
  intro u hu
  obtain ⟨b, _, rfl⟩ := List.mem_map.1 hu
  rfl
/-- A Writer: its block b, its bytes; S: the blocks that its calls may change. -/
def WrAt (w : World) (b base : Nat) (S : Nat → Prop) (l : List UInt8) : Prop :=
  ∃ p v, w.heap[b]? = some (.cells #[p, v] 208 (0, 0)) ∧ (p = .pointer none ∨ p = .pointer (some ⟨b, 0, none⟩)) ∧ w.ownsRow base 5 1 v l.length (bcells l) ∧ ∀ x, S x ↔ (x = b ∨ v.ownBlock = some x)
def WPost (w w' : World) (b base : Nat) (S : Nat → Prop) (l : List UInt8) : Prop :=
  ∃ S', Only S w w' ∧ WrAt w' b base S' l ∧ ∀ x, S' x → S x ∨ w.heap.size ≤ x
theorem WPost.refl {w : World} {b base : Nat} {S : Nat → Prop} {l : List UInt8} (h : WrAt w b base S l) : WPost w w b base S l := ⟨S, Only.refl _ _, h, fun _ h => .inl h⟩
theorem WrAt.lt {w : World} {b base : Nat} {S : Nat → Prop} {l : List UInt8} (h : WrAt w b base S l) : ∀ x, S x → x < w.heap.size := by
  obtain ⟨p, v, hb, _, hown, hS⟩ := h
  intro x hx
  rcases (hS x).1 hx with rfl | e
  · exact lt_of_block hb
  · exact (hown.lt x e).2
theorem WPost.trans {a w w' : World} {b base : Nat} {S : Nat → Prop} {l m : List UInt8} (h : WPost a w b base S l) (k : ∀ S', WrAt w b base S' l → WPost w w' b base S' m) : WPost a w' b base S m := by
  obtain ⟨S', h1, h2, h3⟩ := h
  obtain ⟨S2, k1, k2, k3⟩ := k S' h2
  refine ⟨S2, h1.tr k1 (fun i hi x => (h3 i x).elim id (fun y => absurd hi (by omega))), k2, fun x hx => ?_⟩
  rcases k3 x hx with y | y
  · exact h3 x y
  · exact .inr (Nat.le_trans h1.size y)
theorem sizeBuilder : (Tryd.prog.info? 206).map (·.size) = some 2 := by kernel_rfl
theorem liesBuilder : liesAt Tryd.prog Tryd.prog.depth 208 (2 / Tryd.prog.cellsOf 208) 0 206 1 = true := by kernel_rfl
theorem infoByte : (Tryd.prog.info? 5).map (fun i => (i.zero, i.size, i.bytes)) = some (some (.int .u8 0), 1, 1) := by kernel_rfl

set_option maxRecDepth 100000 in
theorem cc_any (w : World) (b : Nat) (p v : Value) (hb : w.heap[b]? = some (.cells #[p, v] 208 (0, 0))) (hp : p = .pointer none ∨ p = .pointer (some ⟨b, 0, none⟩)) :
    Calls Tryd.prog 134 #[.pointer (some ⟨b, 0, none⟩)] w fun e w' => e = .returned (.tuple #[]) ∧ Only (fun x => x = b) w w' ∧ w'.heap[b]? = some (.cells #[.pointer (some ⟨b, 0, none⟩), v] 208 (0, 0)) := by
  obtain ⟨j, hj, hjs⟩ := Option.map_eq_some_iff.1 sizeBuilder
  have h0 : w.cell? ⟨b, 0, none⟩ = some p := cell_at hb 0
  have hfz := free_at hb 0
  have hsh : w.shape? b = some (208, 2) := by simp [World.shape?, hb]
  rcases hp with rfl | rfl
  · go_enter Tryd.func134, Tryd.ntmps134
    go_wp2
    rw [Lib.run_to_unsafe w ⟨b, 0, none⟩ Tryd.underlying204 Tryd.underlying237 hj (by rw [hjs]; decide) hsh (Nat.zero_lt_succ 1)]
    simp only [Result.andThen]
    rw [Oper.upon_value]
    go_wp2
    rw [run_callFunc_extern Tryd.func150 (by kernel_rfl) (by kernel_rfl) (by kernel_rfl) (e := Extern.AbiNoEscape.same) (by kernel_rfl)]
    rw [Lib.run_noEscape]
    simp only [Result.andThen]
    rw [Oper.upon_value]
    go_wp2
    rw [Lib.run_from_unsafe w ⟨b, 0, none⟩ Tryd.underlying237 Tryd.underlying204 hj hsh liesBuilder]
    simp only [Result.andThen]
    rw [Oper.upon_value]
    go_wp2
    go_end0
    refine ⟨rfl, (Only.refl _ _).setCell (S := fun x => x = b) (p := ⟨b, 0, none⟩) (.inr rfl) _, ?_⟩
    exact set_at hb 0 _
  · go_enter Tryd.func134, Tryd.ntmps134
    go_wp2
    rw [Lib.run_neq_ptr_same w _ Tryd.underlying204 hj]
    go_wp2
    go_end0
    exact ⟨rfl, Only.refl _ _, hb⟩

theorem WrAt.kept {S T : Nat → Prop} {w w' : World} {b base : Nat} {l : List UInt8} (h : WrAt w b base S l) (ho : Only T w w') (hn : ∀ x, S x → ¬ T x) : WrAt w' b base S l := by
  obtain ⟨p, v, hb, hp, hown, hS⟩ := h
  exact ⟨p, v, ho.old hb (hn b ((hS b).2 (.inl rfl))), hp, owns_kept hown ho (fun k hk => hn k ((hS k).2 (.inr hk))), hS⟩
/-- Behind an append whose result is stored back. -/
theorem WPost.put {w w1 w2 : World} {b base : Nat} {S : Nat → Prop} {m : List UInt8} {v v' : Value} (ho1 : Only (fun x => x = b) w w1) (hb1 : w1.heap[b]? = some (.cells #[.pointer (some ⟨b, 0, none⟩), v] 208 (0, 0)))
    (hS : ∀ x, S x ↔ (x = b ∨ v.ownBlock = some x)) (hne : v.ownBlock ≠ some b) (hown' : w2.ownsRow base 5 1 v' m.length (bcells m)) (ho2 : Only (fun x => v.ownBlock = some x) w1 w2)
    (hv : ∀ k, v'.ownBlock = some k → v.ownBlock = some k ∨ w1.heap.size ≤ k) : WPost w (w2.setCell ⟨b, 1, none⟩ v') b base S m := by
  have hb2 := ho2.old hb1 hne
  have hne' : v'.ownBlock ≠ some b := fun e => by
    rcases hv b e with h | h
    · exact hne h
    · exact absurd (lt_of_block hb1) (by omega)
  refine ⟨fun x => x = b ∨ v'.ownBlock = some x, ?_, ⟨_, v', set_at hb2 1 _, .inr rfl, owns_kept hown' ((Only.refl _ _).setCell (S := fun x => x = b) (p := ⟨b, 1, none⟩) (.inr rfl) _) (fun k hk e => hne' (e ▸ hk)), fun x => Iff.rfl⟩, ?_⟩
  · have h1 : Only S w w1 := ho1.weaken (fun k _ e => (hS k).2 (.inl e))
    have h2 : Only S w1 w2 := ho2.weaken (fun k _ e => (hS k).2 (.inr e))
    exact (h1.trans h2).setCell (p := ⟨b, 1, none⟩) (.inr ((hS b).2 (.inl rfl))) _
  · rintro x (rfl | hx)
    · exact .inl ((hS x).2 (.inl rfl))
    · rcases hv x hx with h | h
      · exact .inl ((hS x).2 (.inr h))
      · exact .inr (Nat.le_trans ho1.size h)
theorem WrAt.ne {w : World} {b base n : Nat} {p v : Value} {xs : List Value} (hb : w.heap[b]? = some (.cells #[p, v] 208 (0, 0))) (hown : w.ownsRow base 5 1 v n xs) : v.ownBlock ≠ some b := by
  intro e
  rcases hown.2 with ⟨h2, _⟩ | ⟨g, cap, cur, rfl, _, hg, _⟩
  · subst h2; simp [Value.ownBlock] at e
  · simp [Value.ownBlock] at e
    subst e
    rw [hb] at hg
    simp at hg

set_option maxRecDepth 100000 in
set_option maxHeartbeats 1000000 in
theorem wb_any (w : World) (b base : Nat) (S : Nat → Prop) (l : List UInt8) (c : Int) (x : UInt8) (h : WrAt w b base S l) (hc : c = (x.toNat : Int)) (hl : l.length ≤ 100000) (hbase : base ≤ w.heap.size) :
    Calls Tryd.prog 125 #[.pointer (some ⟨b, 0, none⟩), .int .u8 c] w fun e w' => e = .returned .nilIface ∧ WPost w w' b base S (l ++ [x]) := by
  subst hc
  obtain ⟨i0, hi, hz0, hz1, hz2⟩ := info_parts infoByte
  obtain ⟨p, v, hb, hp, hown, hS⟩ := h
  have HB := Lib.hid hb
  have HP := Lib.hid hp
  have HS := Lib.hid hS
  clear hb hp hS
  go_enter Tryd.func125, Tryd.ntmps125
  go_wp2_with fail
  refine (cc_any _ b p v HB.out HP.out).mono ?_
  rintro e w1 ⟨rfl, ho1, hb1⟩
  have hne := WrAt.ne HB.out hown
  have hown1 := owns_kept hown ho1 (fun k hk e => hne (e ▸ hk))
  have c0 : w1.cell? ⟨b, 0, none⟩ = some (.pointer (some ⟨b, 0, none⟩)) := cell_at hb1 0
  have c1 : w1.cell? ⟨b, 1, none⟩ = some v := cell_at hb1 1
  have hsz := ho1.size
  have HNE := Lib.hid hne
  have HB1 := Lib.hid hb1
  clear hne hb1 hown
  go_wp2_with (at_builtin; refine Wait.mk ?_)
  refine Wait.go (wpList_append_src _ rfl (.tmp 11) (.tmp 13) 130 130 rfl base 5 i0 _ 1 1 Tryd.underlying130 hi hz0 hz1 hz2 rfl _ l.length (bcells l) rfl (hown1.alloc _) _ 1 (bcells [x]) rfl ?src ?m ?b ?base ?_)
  case src => exact Src.ofSlice _ Tryd.underlying130 _ _ _ _ rfl (news_new _ _ _) (bcells_one [x])
  case m => unfold maxLen; omega
  case b => omega
  case base => simp; omega
  intro v' w2 own2 gr2 hv2
  have ho2 : Only (fun x => v.ownBlock = some x) w1 w2 := ((Only.refl _ _).alloc _).grown gr2 (fun k e => .inr e)
  have hb2 := ho2.old HB1.out HNE.out
  have d0 : w2.cell? ⟨b, 0, none⟩ = some (.pointer (some ⟨b, 0, none⟩)) := cell_at hb2 0
  have d1 : w2.cell? ⟨b, 1, none⟩ = some v := cell_at hb2 1
  have f1 := free_at hb2 1
  obtain ⟨va, vc, rfl⟩ : ∃ a c, v' = .slice a (l.length + 1) c := by obtain ⟨_, a, c, h, _⟩ := Sl.of_owns own2; exact ⟨a, c, h⟩
  have own3 : w2.ownsRow base 5 1 (.slice va (l.length + 1) vc) (l ++ [x]).length (bcells (l ++ [x])) := by
    rw [bcells_append, List.length_append]
    exact own2
  have HV := Lib.hid hv2
  have OW3 := Lib.hid own3
  clear own2 gr2 hv2 hb2 own3 hown1
  go_wp2_with fail
  go_ret
  refine ⟨rfl, WPost.put ho1 HB1.out HS.out HNE.out OW3.out ho2 (fun k hk => ?_)⟩
  rcases HV.out k hk with h | h
  · exact .inl h
  · simp at h; exact .inr (by omega)

set_option maxRecDepth 100000 in
set_option maxHeartbeats 1000000 in
theorem ws_any (w : World) (b base : Nat) (S : Nat → Prop) (l : List UInt8) (s : ByteArray) (h : WrAt w b base S l) (hl : l.length ≤ 100000) (hs : s.size ≤ 100000) (hbase : base ≤ w.heap.size) :
    Calls Tryd.prog 124 #[.pointer (some ⟨b, 0, none⟩), .string s] w fun e w' => e = .returned (.tuple #[.int .i64 s.size, .nilIface]) ∧ WPost w w' b base S (l ++ s.data.toList) := by
  obtain ⟨i0, hi, hz0, hz1, hz2⟩ := info_parts infoByte
  obtain ⟨p, v, hb, hp, hown, hS⟩ := h
  have HB := Lib.hid hb
  have HP := Lib.hid hp
  have HS := Lib.hid hS
  clear hb hp hS
  go_enter Tryd.func124, Tryd.ntmps124
  go_wp2_with fail
  refine (cc_any _ b p v HB.out HP.out).mono ?_
  rintro e w1 ⟨rfl, ho1, hb1⟩
  have hne := WrAt.ne HB.out hown
  have hown1 := owns_kept hown ho1 (fun k hk e => hne (e ▸ hk))
  have c0 : w1.cell? ⟨b, 0, none⟩ = some (.pointer (some ⟨b, 0, none⟩)) := cell_at hb1 0
  have c1 : w1.cell? ⟨b, 1, none⟩ = some v := cell_at hb1 1
  have hsz := ho1.size
  have HNE := Lib.hid hne
  have HB1 := Lib.hid hb1
  clear hne hb1 hown
  go_wp2_with (at_builtin; refine Wait.mk ?_)
  refine Wait.go (wpList_append_src _ rfl (.tmp 12) (.tmp 13) 130 9 rfl base 5 i0 _ 1 1 Tryd.underlying130 hi hz0 hz1 hz2 rfl _ l.length (bcells l) rfl hown1 _ s.size (bcells s.data.toList) rfl ?src ?m ?b ?base ?_)
  case src => exact Src.ofString _ Tryd.underlying9 s
  case m => unfold maxLen; omega
  case b => omega
  case base => omega
  intro v' w2 own2 gr2 hv2
  have ho2 : Only (fun x => v.ownBlock = some x) w1 w2 := (Only.refl _ _).grown gr2 (fun k e => .inr e)
  have hb2 := ho2.old HB1.out HNE.out
  have d0 : w2.cell? ⟨b, 0, none⟩ = some (.pointer (some ⟨b, 0, none⟩)) := cell_at hb2 0
  have d1 : w2.cell? ⟨b, 1, none⟩ = some v := cell_at hb2 1
  have f1 := free_at hb2 1
  obtain ⟨va, vc, rfl⟩ : ∃ a c, v' = .slice a (l.length + s.size) c := by obtain ⟨_, a, c, h, _⟩ := Sl.of_owns own2; exact ⟨a, c, h⟩
  have own3 : w2.ownsRow base 5 1 (.slice va (l.length + s.size) vc) (l ++ s.data.toList).length (bcells (l ++ s.data.toList)) := by
    rw [bcells_append, List.length_append]
    exact own2
  have HV := Lib.hid hv2
  have OW3 := Lib.hid own3
  clear own2 gr2 hv2 hb2 own3 hown1
  go_wp2_with fail
  go_ret2
  exact ⟨rfl, WPost.put ho1 HB1.out HS.out HNE.out OW3.out ho2 HV.out⟩

theorem Only.freeze {S : Nat → Prop} {a w : World} (h : Only S a w) (g n : Nat) (hg : a.heap.size ≤ g ∨ S g) : Only S a (w.freeze ⟨g, 0, none⟩ n) := by
  unfold World.freeze
  split
  · exact h
  · refine ⟨h.os, h.tape, h.output, by simpa using h.size, fun k hk hn => ?_⟩
    have hk2 : g ≠ k := fun e => by subst e; rcases hg with h' | h'; exact absurd hk (by omega); exact hn h'
    rw [← h.block k hk hn]
    simp [Array.getElem?_modify, hk2]
set_option maxRecDepth 100000 in
set_option maxHeartbeats 1000000 in
theorem bs_any (w : World) (b base : Nat) (S : Nat → Prop) (l : List UInt8) (h : WrAt w b base S l) (h0 : l ≠ []) :
    Calls Tryd.prog 123 #[.pointer (some ⟨b, 0, none⟩)] w fun e w' => e = .returned (.string ⟨l.toArray⟩) ∧ Only S w w' := by
  obtain ⟨p, v, hbk, hp, hown, hS⟩ := h
  have hl0 : l.length ≠ 0 := by simpa using h0
  obtain ⟨g, cap, cur, rfl, hbg, hg, hnc, hcm, hcs, htake⟩ : ∃ g cap cur, v = .slice (some ⟨g, 0, none⟩) l.length cap ∧ base ≤ g ∧ w.heap[g]? = some (.cells cur 5 (0, 0)) ∧ l.length ≤ cap ∧ cap ≤ maxLen ∧ cur.size = cap * 1 ∧ cur.toList.take (l.length * 1) = bcells l := by
    rcases hown.2 with ⟨_, hz⟩ | ⟨g, cap, cur, hv, r⟩
    · exact absurd hz hl0
    · exact ⟨g, cap, cur, hv, r⟩
  have c1 : w.drew.cell? ⟨b, 1, none⟩ = some (.slice (some ⟨g, 0, none⟩) l.length cap) := by
    have : w.drew.heap[b]? = some (.cells #[p, .slice (some ⟨g, 0, none⟩) l.length cap] 208 (0, 0)) := hbk
    exact cell_at this 1
  have hSD : (Builtin.unsafeSliceData_ #[130] 222 #[.slice (some ⟨g, 0, none⟩) l.length cap]).run Tryd.prog w.drew = .ok (.pointer (some ⟨g, 0, none⟩)) w.drew :=
    Lib.run_unsafeSliceData_row _ _ _ _ _ _ (by omega)
  have hUS : (Builtin.unsafeString_ #[222, 3] 9 #[.pointer (some ⟨g, 0, none⟩), .int .i64 l.length]).run Tryd.prog w.drew = .ok (.string ⟨l.toArray⟩) (w.drew.freeze ⟨g, 0, none⟩ l.length) := by
    refine Lib.run_unsafeString_row w.drew 222 3 9 5 Tryd.underlying222 (by kernel_rfl) g cur.size (by have hg' : w.drew.heap[g]? = some (.cells cur 5 (0, 0)) := hg; simp [World.shape?, hg']) l h0 (by omega) (by unfold maxLen at hcm; omega) ?_
    intro j x hx
    have := hown.cells (g := g) rfl j (.int .u8 x.toNat) (by simp [bcells, hx])
    exact this
  have HS := Lib.hid hS
  clear hown hS htake hg hbk
  go_enter Tryd.func123, Tryd.ntmps123
  go_wp2
  go_region
  all_goals (go_wp2; go_ret; exact ⟨rfl, ((Only.refl _ _).drew).freeze g _ (.inr ((HS.out g).2 (.inr rfl)))⟩)
end Go.Proofs.YtianboachknfmaaDoor
