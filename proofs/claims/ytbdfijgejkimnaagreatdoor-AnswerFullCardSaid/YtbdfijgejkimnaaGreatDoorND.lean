/- record: Good. -/
import Derived.Test.YtbdfijgejkimnaaGreatDoorNC
import Derived.Lib.Builder
import Derived.Lib.UnsafeStr
import Derived.Laws.Externs
import Derived.Deep.RegionLaw
import Derived.Deep.AppendLies
import Derived.Test.YtbdfijgejkimnaaGreatDoorNB
import Derived.Laws.IdiomStrings
/-! strings.Builder inside a Writer: WriteByte, WriteString, String. -/
namespace Go.Proofs.YtbdfijgejkimnaaGreatDoor
open Go.Conc Go.RowKit

def bcells (l : List UInt8) : List Value := l.map fun b => .int .u8 b.toNat
theorem bcells_append (l m : List UInt8) : bcells (l ++ m) = bcells l ++ bcells m := List.map_append
theorem bcells_length (l : List UInt8) : (bcells l).length = l.length := List.length_map _
theorem bcells_one (l : List UInt8) : ∀ u ∈ bcells l, u.oneCell' = true := by
  intro u hu
  obtain ⟨b, _, rfl⟩ := List.mem_map.1 hu
  rfl
/-- A Writer: its block b, its bytes; S: the blocks that its calls may change. -/
def WrAt (w : World) (b base : Nat) (S : Nat → Prop) (l : List UInt8) : Prop :=
  ∃ p v, w.heap[b]? = some (.cells #[p, v] 168 (0, 0)) ∧ (p = .pointer none ∨ p = .pointer (some ⟨b, 0, none⟩)) ∧ w.ownsRow base 5 1 v l.length (bcells l) ∧ ∀ x, S x ↔ (x = b ∨ v.ownBlock = some x)
def WPost (w w' : World) (b base : Nat) (S : Nat → Prop) (l : List UInt8) : Prop :=
  ∃ S', Only S w w' ∧ WrAt w' b base S' l ∧ ∀ x, S' x → S x ∨ w.heap.size ≤ x
theorem WPost.refl {w : World} {b base : Nat} {S : Nat → Prop} {l : List UInt8} (h : WrAt w b base S l) : WPost w w b base S l := ⟨S, Only.refl _ _, h, fun _ h => .inl h⟩
theorem WrAt.lt {w : World} {b base : Nat} {S : Nat → Prop} {l : List UInt8} (h : WrAt w b base S l) : ∀ x, S x → x < w.heap.size := by
  obtain ⟨p, v, hb, _, hown, hS⟩ := h
  intro x hx
  rcases (hS x).1 hx with rfl | e
  · exact lt_of_block hb
  · exact (hown.lt x e).2
theorem WPost.trans {a w w' : World} {b base : Nat} {S : Nat → Prop} {l m : List UInt8} (h : WPost a w b base S l) (k : ∀ S', WrAt w b base S' l → WPost w w' b base S' m) : WPost a w' b base S m := by
  obtain ⟨S', h1, h2, h3⟩ := h
  obtain ⟨S2, k1, k2, k3⟩ := k S' h2
  refine ⟨S2, h1.tr k1 (fun i hi x => (h3 i x).elim id (fun y => absurd hi (by omega))), k2, fun x hx => ?_⟩
  rcases k3 x hx with y | y
  · exact h3 x y
  · exact .inr (Nat.le_trans h1.size y)
theorem sizeBuilder : (Tryz.prog.info? 166).map (·.size) = some 2 := by kernel_rfl
theorem liesBuilder : liesAt Tryz.prog Tryz.prog.depth 168 (2 / Tryz.prog.cellsOf 168) 0 166 1 = true := by kernel_rfl
theorem infoByte : (Tryz.prog.info? 5).map (fun i => (i.zero, i.size, i.bytes)) = some (some (.int .u8 0), 1, 1) := by kernel_rfl

set_option maxRecDepth 100000 in
theorem cc_any (w : World) (b : Nat) (p v : Value) (hb : w.heap[b]? = some (.cells #[p, v] 168 (0, 0))) (hp : p = .pointer none ∨ p = .pointer (some ⟨b, 0, none⟩)) :
    Calls Tryz.prog 127 #[.pointer (some ⟨b, 0, none⟩)] w fun e w' => e = .returned (.tuple #[]) ∧ Only (fun x => x = b) w w' ∧ w'.heap[b]? = some (.cells #[.pointer (some ⟨b, 0, none⟩), v] 168 (0, 0)) := by
  obtain ⟨j, hj, hjs⟩ := Option.map_eq_some_iff.1 sizeBuilder
  have h0 : w.cell? ⟨b, 0, none⟩ = some p := cell_at hb 0
  have hfz := free_at hb 0
  have hsh : w.shape? b = some (168, 2) := by simp [World.shape?, hb]
  rcases hp with rfl | rfl
  · go_enter Tryz.func127, Tryz.ntmps127
    go_wp2
    rw [Lib.run_to_unsafe w ⟨b, 0, none⟩ Tryz.underlying164 Tryz.underlying211 hj (by rw [hjs]; decide) hsh (Nat.zero_lt_succ 1)]
    simp only [Result.andThen]
    rw [Oper.upon_value]
    go_wp2
    rw [run_callFunc_extern Tryz.func141 (by kernel_rfl) (by kernel_rfl) (by kernel_rfl) (e := Extern.AbiNoEscape.same) (by kernel_rfl)]
    rw [Lib.run_noEscape]
    simp only [Result.andThen]
    rw [Oper.upon_value]
    go_wp2
    rw [Lib.run_from_unsafe w ⟨b, 0, none⟩ Tryz.underlying211 Tryz.underlying164 hj hsh liesBuilder]
    simp only [Result.andThen]
    rw [Oper.upon_value]
    go_wp2
    go_end0
    refine ⟨rfl, (Only.refl _ _).setCell (S := fun x => x = b) (p := ⟨b, 0, none⟩) (.inr rfl) _, ?_⟩
    exact set_at hb 0 _
  · go_enter Tryz.func127, Tryz.ntmps127
    go_wp2
    rw [Lib.run_neq_ptr_same w _ Tryz.underlying164 hj]
    go_wp2
    go_end0
    exact ⟨rfl, Only.refl _ _, hb⟩

theorem WrAt.kept {S T : Nat → Prop} {w w' : World} {b base : Nat} {l : List UInt8} (h : WrAt w b base S l) (ho : Only T w w') (hn : ∀ x, S x → ¬ T x) : WrAt w' b base S l := by
  obtain ⟨p, v, hb, hp, hown, hS⟩ := h
  exact ⟨p, v, ho.old hb (hn b ((hS b).2 (.inl rfl))), hp, owns_kept hown ho (fun k hk => hn k ((hS k).2 (.inr hk))), hS⟩
/-- Behind an append whose result is stored back. -/
theorem WPost.put {w w1 w2 : World} {b base : Nat} {S : Nat → Prop} {m : List UInt8} {v v' : Value} (ho1 : Only (fun x => x = b) w w1) (hb1 : w1.heap[b]? = some (.cells #[.pointer (some ⟨b, 0, none⟩), v] 168 (0, 0)))
    (hS : ∀ x, S x ↔ (x = b ∨ v.ownBlock = some x)) (hne : v.ownBlock ≠ some b) (hown' : w2.ownsRow base 5 1 v' m.length (bcells m)) (ho2 : Only (fun x => v.ownBlock = some x) w1 w2)
    (hv : ∀ k, v'.ownBlock = some k → v.ownBlock = some k ∨ w1.heap.size ≤ k) : WPost w (w2.setCell ⟨b, 1, none⟩ v') b base S m := by
  have hb2 := ho2.old hb1 hne
  have hne' : v'.ownBlock ≠ some b := fun e => by
    rcases hv b e with h | h
    · exact hne h
    · exact absurd (lt_of_block hb1) (by omega)
  refine ⟨fun x => x = b ∨ v'.ownBlock = some x, ?_, ⟨_, v', set_at hb2 1 _, .inr rfl, owns_kept hown' ((Only.refl _ _).setCell (S := fun x => x = b) (p := ⟨b, 1, none⟩) (.inr rfl) _) (fun k hk e => hne' (e ▸ hk)), fun x => Iff.rfl⟩, ?_⟩
  · have h1 : Only S w w1 := ho1.weaken (fun k _ e => (hS k).2 (.inl e))
    have h2 : Only S w1 w2 := ho2.weaken (fun k _ e => (hS k).2 (.inr e))
    exact (h1.trans h2).setCell (p := ⟨b, 1, none⟩) (.inr ((hS b).2 (.inl rfl))) _
  · rintro x (rfl | hx)
    · exact .inl ((hS x).2 (.inl rfl))
    · rcases hv x hx with h | h
      · exact .inl ((hS x).2 (.inr h))
      · exact .inr (Nat.le_trans ho1.size h)
theorem WrAt.ne {w : World} {b base n : Nat} {p v : Value} {xs : List Value} (hb : w.heap[b]? = some (.cells #[p, v] 168 (0, 0))) (hown : w.ownsRow base 5 1 v n xs) : v.ownBlock ≠ some b := by
  intro e
  rcases hown.2 with ⟨h2, _⟩ | ⟨g, cap, cur, rfl, _, hg, _⟩
  · subst h2; simp [Value.ownBlock] at e
  · simp [Value.ownBlock] at e
    subst e
    rw [hb] at hg
    simp at hg

set_option maxRecDepth 100000 in
set_option maxHeartbeats 1000000 in
theorem wb_any (w : World) (b base : Nat) (S : Nat → Prop) (l : List UInt8) (c : Int) (x : UInt8) (h : WrAt w b base S l) (hc : c = (x.toNat : Int)) (hl : l.length ≤ 100000) (hbase : base ≤ w.heap.size) :
    Calls Tryz.prog 95 #[.pointer (some ⟨b, 0, none⟩), .int .u8 c] w fun e w' => e = .returned .nilIface ∧ WPost w w' b base S (l ++ [x]) := by
  subst hc
  obtain ⟨i0, hi, hz0, hz1, hz2⟩ := info_parts infoByte
  obtain ⟨p, v, hb, hp, hown, hS⟩ := h
  have HB := Lib.hid hb
  have HP := Lib.hid hp
  have HS := Lib.hid hS
  clear hb hp hS
  go_enter Tryz.func95, Tryz.ntmps95
  go_wp2_with fail
  refine (cc_any _ b p v HB.out HP.out).mono ?_
  rintro e w1 ⟨rfl, ho1, hb1⟩
  have hne := WrAt.ne HB.out hown
  have hown1 := owns_kept hown ho1 (fun k hk e => hne (e ▸ hk))
  have c0 : w1.cell? ⟨b, 0, none⟩ = some (.pointer (some ⟨b, 0, none⟩)) := cell_at hb1 0
  have c1 : w1.cell? ⟨b, 1, none⟩ = some v := cell_at hb1 1
  have hsz := ho1.size
  have HNE := Lib.hid hne
  have HB1 := Lib.hid hb1
  clear hne hb1 hown
  go_wp2_with (at_builtin; refine Wait.mk ?_)
  refine Wait.go (wpList_append_src _ rfl (.tmp 11) (.tmp 13) 61 61 rfl base 5 i0 _ 1 1 Tryz.underlying61 hi hz0 hz1 hz2 rfl _ l.length (bcells l) rfl (hown1.alloc _) _ 1 (bcells [x]) rfl ?src ?m ?b ?base ?_)
  case src => exact Src.ofSlice _ Tryz.underlying61 _ _ _ _ rfl (news_new _ _ _) (bcells_one [x])
  case m => unfold maxLen; omega
  case b => omega
  case base => simp; omega
  intro v' w2 own2 gr2 hv2
  have ho2 : Only (fun x => v.ownBlock = some x) w1 w2 := ((Only.refl _ _).alloc _).grown gr2 (fun k e => .inr e)
  have hb2 := ho2.old HB1.out HNE.out
  have d0 : w2.cell? ⟨b, 0, none⟩ = some (.pointer (some ⟨b, 0, none⟩)) := cell_at hb2 0
  have d1 : w2.cell? ⟨b, 1, none⟩ = some v := cell_at hb2 1
  have f1 := free_at hb2 1
  obtain ⟨va, vc, rfl⟩ : ∃ a c, v' = .slice a (l.length + 1) c := by obtain ⟨_, a, c, h, _⟩ := Sl.of_owns own2; exact ⟨a, c, h⟩
  have own3 : w2.ownsRow base 5 1 (.slice va (l.length + 1) vc) (l ++ [x]).length (bcells (l ++ [x])) := by
    rw [bcells_append, List.length_append]
    exact own2
  have HV := Lib.hid hv2
  have OW3 := Lib.hid own3
  clear own2 gr2 hv2 hb2 own3 hown1
  go_wp2_with fail
  go_ret
  refine ⟨rfl, WPost.put ho1 HB1.out HS.out HNE.out OW3.out ho2 (fun k hk => ?_)⟩
  rcases HV.out k hk with h | h
  · exact .inl h
  · simp at h; exact .inr (by omega)

set_option maxRecDepth 100000 in
set_option maxHeartbeats 1000000 in
theorem ws_any (w : World) (b base : Nat) (S : Nat → Prop) (l : List UInt8) (s : ByteArray) (h : WrAt w b base S l) (hl : l.length ≤ 100000) (hs : s.size ≤ 100000) (hbase : base ≤ w.heap.size) :
    Calls Tryz.prog 94 #[.pointer (some ⟨b, 0, none⟩), .string s] w fun e w' => e = .returned (.tuple #[.int .i64 s.size, .nilIface]) ∧ WPost w w' b base S (l ++ s.data.toList) := by
  obtain ⟨i0, hi, hz0, hz1, hz2⟩ := info_parts infoByte
  obtain ⟨p, v, hb, hp, hown, hS⟩ := h
  have HB := Lib.hid hb
  have HP := Lib.hid hp
  have HS := Lib.hid hS
  clear hb hp hS
  go_enter Tryz.func94, Tryz.ntmps94
  go_wp2_with fail
  refine (cc_any _ b p v HB.out HP.out).mono ?_
  rintro e w1 ⟨rfl, ho1, hb1⟩
  have hne := WrAt.ne HB.out hown
  have hown1 := owns_kept hown ho1 (fun k hk e => hne (e ▸ hk))
  have c0 : w1.cell? ⟨b, 0, none⟩ = some (.pointer (some ⟨b, 0, none⟩)) := cell_at hb1 0
  have c1 : w1.cell? ⟨b, 1, none⟩ = some v := cell_at hb1 1
  have hsz := ho1.size
  have HNE := Lib.hid hne
  have HB1 := Lib.hid hb1
  clear hne hb1 hown
  go_wp2_with (at_builtin; refine Wait.mk ?_)
  refine Wait.go (wpList_append_src _ rfl (.tmp 12) (.tmp 13) 61 9 rfl base 5 i0 _ 1 1 Tryz.underlying61 hi hz0 hz1 hz2 rfl _ l.length (bcells l) rfl hown1 _ s.size (bcells s.data.toList) rfl ?src ?m ?b ?base ?_)
  case src => exact Src.ofString _ Tryz.underlying9 s
  case m => unfold maxLen; omega
  case b => omega
  case base => omega
  intro v' w2 own2 gr2 hv2
  have ho2 : Only (fun x => v.ownBlock = some x) w1 w2 := (Only.refl _ _).grown gr2 (fun k e => .inr e)
  have hb2 := ho2.old HB1.out HNE.out
  have d0 : w2.cell? ⟨b, 0, none⟩ = some (.pointer (some ⟨b, 0, none⟩)) := cell_at hb2 0
  have d1 : w2.cell? ⟨b, 1, none⟩ = some v := cell_at hb2 1
  have f1 := free_at hb2 1
  obtain ⟨va, vc, rfl⟩ : ∃ a c, v' = .slice a (l.length + s.size) c := by obtain ⟨_, a, c, h, _⟩ := Sl.of_owns own2; exact ⟨a, c, h⟩
  have own3 : w2.ownsRow base 5 1 (.slice va (l.length + s.size) vc) (l ++ s.data.toList).length (bcells (l ++ s.data.toList)) := by
    rw [bcells_append, List.length_append]
    exact own2
  have HV := Lib.hid hv2
  have OW3 := Lib.hid own3
  clear own2 gr2 hv2 hb2 own3 hown1
  go_wp2_with fail
  go_ret2
  exact ⟨rfl, WPost.put ho1 HB1.out HS.out HNE.out OW3.out ho2 HV.out⟩

theorem Only.freeze {S : Nat → Prop} {a w : World} (h : Only S a w) (g n : Nat) (hg : a.heap.size ≤ g ∨ S g) : Only S a (w.freeze ⟨g, 0, none⟩ n) := by
  unfold World.freeze
  split
  · exact h
  · refine ⟨h.os, h.tape, h.output, by simpa using h.size, fun k hk hn => ?_⟩
    have hk2 : g ≠ k := fun e => by subst e; rcases hg with h' | h'; exact absurd hk (by omega); exact hn h'
    rw [← h.block k hk hn]
    simp [Array.getElem?_modify, hk2]
set_option maxRecDepth 100000 in
set_option maxHeartbeats 1000000 in
theorem bs_any (w : World) (b base : Nat) (S : Nat → Prop) (l : List UInt8) (h : WrAt w b base S l) (h0 : l ≠ []) :
    Calls Tryz.prog 93 #[.pointer (some ⟨b, 0, none⟩)] w fun e w' => e = .returned (.string ⟨l.toArray⟩) ∧ Only S w w' := by
  obtain ⟨p, v, hbk, hp, hown, hS⟩ := h
  have hl0 : l.length ≠ 0 := by simpa using h0
  obtain ⟨g, cap, cur, rfl, hbg, hg, hnc, hcm, hcs, htake⟩ : ∃ g cap cur, v = .slice (some ⟨g, 0, none⟩) l.length cap ∧ base ≤ g ∧ w.heap[g]? = some (.cells cur 5 (0, 0)) ∧ l.length ≤ cap ∧ cap ≤ maxLen ∧ cur.size = cap * 1 ∧ cur.toList.take (l.length * 1) = bcells l := by
    rcases hown.2 with ⟨_, hz⟩ | ⟨g, cap, cur, hv, r⟩
    · exact absurd hz hl0
    · exact ⟨g, cap, cur, hv, r⟩
  have c1 : w.drew.cell? ⟨b, 1, none⟩ = some (.slice (some ⟨g, 0, none⟩) l.length cap) := by
    have : w.drew.heap[b]? = some (.cells #[p, .slice (some ⟨g, 0, none⟩) l.length cap] 168 (0, 0)) := hbk
    exact cell_at this 1
  have hSD : (Builtin.unsafeSliceData_ #[61] 192 #[.slice (some ⟨g, 0, none⟩) l.length cap]).run Tryz.prog w.drew = .ok (.pointer (some ⟨g, 0, none⟩)) w.drew :=
    Lib.run_unsafeSliceData_row _ _ _ _ _ _ (by omega)
  have hUS : (Builtin.unsafeString_ #[192, 3] 9 #[.pointer (some ⟨g, 0, none⟩), .int .i64 l.length]).run Tryz.prog w.drew = .ok (.string ⟨l.toArray⟩) (w.drew.freeze ⟨g, 0, none⟩ l.length) := by
    refine Lib.run_unsafeString_row w.drew 192 3 9 5 Tryz.underlying192 (by kernel_rfl) g cur.size (by have hg' : w.drew.heap[g]? = some (.cells cur 5 (0, 0)) := hg; simp [World.shape?, hg']) l h0 (by omega) (by unfold maxLen at hcm; omega) ?_
    intro j x hx
    have := hown.cells (g := g) rfl j (.int .u8 x.toNat) (by simp [bcells, hx])
    exact this
  have HS := Lib.hid hS
  clear hown hS htake hg hbk
  go_enter Tryz.func93, Tryz.ntmps93
  go_wp2
  go_region
  all_goals (go_wp2; go_ret; exact ⟨rfl, ((Only.refl _ _).drew).freeze g _ (.inr ((HS.out g).2 (.inr rfl)))⟩)
end Go.Proofs.YtbdfijgejkimnaaGreatDoor
/-! pack: Writer.Num, Writer.Raw, Write. -/
namespace Go.Proofs.YtbdfijgejkimnaaGreatDoor
open Go.Conc Go.RowKit

/-- A number's bytes, the greatest first. -/
def beL (n : Nat) : Nat → List UInt8
  | 0 => []
  | k + 1 => UInt8.ofNat (n / 256 ^ k) :: beL n k

theorem pow_256 (k : Nat) : (2 : Nat) ^ (8 * k) = 256 ^ k := by rw [Nat.pow_mul]
theorem shr_zero (n size : Nat) (h : n < 256 ^ size) : (n : Int) / 2 ^ (8 * size) = 0 := by
  have h1 : n / 2 ^ (8 * size) = 0 := Nat.div_eq_of_lt (by rw [pow_256]; exact h)
  rw [show (2 : Int) ^ (8 * size) = ((2 ^ (8 * size) : Nat) : Int) by rw [Int.natCast_pow]; rfl, ← Int.natCast_ediv, h1]
  rfl
theorem byte_at (n k : Nat) : (n : Int) / 2 ^ (8 * k) % 256 = ((UInt8.ofNat (n / 256 ^ k)).toNat : Int) := by
  rw [UInt8.toNat_ofNat']
  rw [show (2 : Int) ^ (8 * k) = ((2 ^ (8 * k) : Nat) : Int) by rw [Int.natCast_pow]; rfl, ← Int.natCast_ediv, pow_256]
  exact (Int.natCast_emod _ 256).symm
theorem WrAt.drew {w : World} {b base : Nat} {S : Nat → Prop} {l : List UInt8} (h : WrAt w b base S l) : WrAt w.drew b base S l := h.kept (T := fun _ => False) ((Only.refl _ _).drew) (fun _ _ => id)
theorem WPost.drew {a w : World} {b base : Nat} {S : Nat → Prop} {l : List UInt8} (h : WPost a w b base S l) : WPost a w.drew b base S l := by
  obtain ⟨S', h1, h2, h3⟩ := h
  exact ⟨S', h1.drew, h2.drew, h3⟩
theorem WPost.size {a w : World} {b base : Nat} {S : Nat → Prop} {l : List UInt8} (h : WPost a w b base S l) : a.heap.size ≤ w.heap.size := h.elim fun _ k => k.1.size

set_option maxRecDepth 100000 in
set_option maxHeartbeats 1000000 in
theorem num_ok (w : World) (b base : Nat) (S : Nat → Prop) (l : List UInt8) (n size : Nat) (h : WrAt w b base S l) (hs1 : 1 ≤ size) (hs2 : size ≤ 7) (hn : n < 256 ^ size) (hl : l.length ≤ 10000) (hbase : base ≤ w.heap.size) :
    Calls Tryz.prog 53 #[.pointer (some ⟨b, 0, none⟩), .int .u64 n, .int .i64 size] w fun e w' => e = .returned (.tuple #[]) ∧ WPost w w' b base S (l ++ beL n size) := by
  have HW := Lib.hid h
  have e0 : ((n : Int) / 2 ^ (8 * size) != 0) = false := by rw [shr_zero n size hn]; rfl
  have s1 : (1 : Int) ≤ size := by omega
  have s2 : (size : Int) ≤ 8 := by omega
  have s3 : (size : Int) < 8 := by omega
  clear h hn
  go_enter Tryz.func53, Tryz.ntmps53
  go_wp2_with fail
  go_loopg [6] size (fun g v6 wx => ∃ (j : Nat) (done : List UInt8), v6 = .int .i64 ((j : Int) - 1) ∧ j ≤ size ∧ done.length + j = size ∧ WPost w wx b base S (l ++ done) ∧ done ++ beL n j = beL n size ∧ g = j)
  case atStart => exact ⟨size, [], rfl, Nat.le_refl _, by simp, by rw [List.append_nil]; exact WPost.refl HW.out, rfl, rfl⟩
  case round =>
    obtain ⟨j, done, rfl, hj, hd, hp, hb, hg⟩ := hrel
    have HP := Lib.hid hp
    have HB := Lib.hid hb
    have Hg := Lib.hid hg
    clear hp hb hg e0
    cases j with
    | zero =>
      have q1 : ((0 : Nat) : Int) - 1 = -1 := rfl
      rw [q1]
      go_wp2_with fail
      go_end0
      exact ⟨rfl, by have := HB.out; rw [← this, show beL n 0 = [] from rfl, List.append_nil]; exact HP.out⟩
    | succ k =>
      have q1 : ((k + 1 : Nat) : Int) - 1 = (k : Int) := by omega
      rw [q1]
      have hk0 : (0 : Int) ≤ (k : Int) := by omega
      have hk1 : (k : Int) ≤ 8 := by omega
      obtain ⟨S', ho', hw', hs'⟩ := id HP.out
      have hsz := ho'.size
      have HW' := Lib.hid hw'
      have HO' := Lib.hid ho'
      have HS' := Lib.hid hs'
      clear ho' hw' hs'
      go_wp2_with fail
      have w1 : IntKind.i64.wrap (8 * (k : Int)) = 8 * (k : Int) := IntWalk.i64_in _ (by omega)
      have w2 : (0 : Int) ≤ 8 * (k : Int) := by omega
      have w3 : (8 * (k : Int)).toNat = 8 * k := by omega
      have w4 : ¬ (8 * (k : Int) < 0) := by omega
      go_region_law (first
        | (go_simp
           refine (wb_any _ b base S' (l ++ done) _ (UInt8.ofNat (n / 256 ^ k)) HW'.out.drew (byte_at n k) (by rw [List.length_append]; omega) (by simp; omega)).mono ?_
           rintro e w2 ⟨rfl, hp2⟩))
      all_goals (
        go_wp2_with fail
        go_roundg k
        case measure => rw [Hg.out]; omega
        case rel =>
          refine ⟨k, done ++ [UInt8.ofNat (n / 256 ^ k)], rfl, by omega, by simp; omega, ?_, by rw [← HB.out, List.append_assoc]; rfl, rfl⟩
          rw [← List.append_assoc]
          obtain ⟨S2, k1, k2, k3⟩ := hp2
          refine ⟨S2, (HO'.out.drew).tr k1 (fun i hi x => (HS'.out i x).elim id (fun y => absurd hi (by omega))), k2, fun x hx => ?_⟩
          rcases k3 x hx with y | y
          · exact HS'.out x y
          · exact .inr (Nat.le_trans hsz y))

theorem raw_ok (w : World) (b base : Nat) (S : Nat → Prop) (l : List UInt8) (s : ByteArray) (h : WrAt w b base S l) (hl : l.length ≤ 100000) (hs : s.size ≤ 100000) (hbase : base ≤ w.heap.size) :
    Calls Tryz.prog 52 #[.pointer (some ⟨b, 0, none⟩), .string s] w fun e w' => e = .returned (.tuple #[]) ∧ WPost w w' b base S (l ++ s.data.toList) := by
  go_enter Tryz.func52, Tryz.ntmps52
  go_wp2_with fail
  refine (ws_any _ b base S l s h hl hs hbase).mono ?_
  rintro e w1 ⟨rfl, hp⟩
  go_wp2_with fail
  go_end0
  exact ⟨rfl, hp⟩

theorem w1_any (w : World) (fb pb b k : Nat) (cap : Array Value) (R : Ending → World → Prop) (he : ∀ args w, (callFunc k args).run Tryz.prog w = .ok (.enter k args) w)
    (hf : w.heap[fb]? = some (.cells #[.func (.func k) #[] cap] 122 (0, 0))) (hp : w.heap[pb]? = some (.cells #[.pointer (some ⟨b, 0, none⟩)] 119 (0, 0)))
    (h : Calls Tryz.prog k (#[.pointer (some ⟨b, 0, none⟩)] ++ cap) w R) (hR : ∀ e w', R e w' → e = .returned (.tuple #[]) ∨ ∃ n, e = refused n) :
    Calls Tryz.prog 92 #[.pointer (some ⟨fb, 0, none⟩), .pointer (some ⟨pb, 0, none⟩)] w R := by
  have c1 : w.cell? ⟨fb, 0, none⟩ = some (.func (.func k) #[] cap) := cell_at hf 0
  have c2 : w.cell? ⟨pb, 0, none⟩ = some (.pointer (some ⟨b, 0, none⟩)) := cell_at hp 0
  go_enter Tryz.func92, Tryz.ntmps92
  go_wp2_with fail
  refine h.mono ?_
  intro e w' hr
  rcases hR e w' hr with rfl | ⟨n, rfl⟩
  · have HR := Lib.hid hr
    clear hr
    go_wp2_with fail
    go_end0
    exact HR.out
  · have HR := Lib.hid hr
    clear hr
    unfold refused at HR ⊢
    go_wp2_with fail
    exact ⟨rfl, HR.out⟩

/-- The blocks of a Write, ahead of its call. -/
theorem write_blocks (w : World) (o1 o2 o3 : Obj) (W W1 : World) (hW : W = ((w.alloc o1).alloc o2).alloc o3) (o4 : Obj) (hW1 : W1 = W.alloc o4) :
    W.heap.size = w.heap.size + 1 + 1 + 1 ∧ W1.heap[w.heap.size]? = some o1 ∧ W1.heap[w.heap.size + 1]? = some o2 ∧ W1.heap[w.heap.size + 1 + 1]? = some o3 ∧ W1.heap[W.heap.size]? = some o4 ∧ Only (fun _ => False) w W1 := by
  subst hW hW1
  refine ⟨by simp, ?_, ?_, ?_, heap_alloc_new _ _, (((((Only.refl _ _).alloc _).alloc _).alloc _).alloc _)⟩
  · rw [heap_alloc_old _ _ (by simp <;> omega), heap_alloc_old _ _ (by simp <;> omega), heap_alloc_old _ _ (by simp)]
    exact heap_alloc_new w o1
  · rw [heap_alloc_old _ _ (by simp <;> omega), heap_alloc_old _ _ (by simp)]
    have := heap_alloc_new (w.alloc o1) o2
    rwa [World.size_alloc] at this
  · rw [heap_alloc_old _ _ (by simp)]
    have := heap_alloc_new ((w.alloc o1).alloc o2) o3
    rwa [World.size_alloc, World.size_alloc] at this
set_option maxRecDepth 100000 in
set_option maxHeartbeats 1000000 in
/-- Write: what a call writes. -/
theorem write_ok (w : World) (k : Nat) (cap : Array Value) (l : List UInt8) (he : ∀ args w, (callFunc k args).run Tryz.prog w = .ok (.enter k args) w) (hl : l ≠ [])
    (h : ∀ (w1 : World) (b : Nat) (S : Nat → Prop), Only (fun _ => False) w w1 → WrAt w1 b w.heap.size S [] → (∀ x, S x → w.heap.size ≤ x) → w.heap.size ≤ w1.heap.size → Calls Tryz.prog k (#[.pointer (some ⟨b, 0, none⟩)] ++ cap) w1 fun e w' => e = .returned (.tuple #[]) ∧ WPost w1 w' b w.heap.size S l) :
    Calls Tryz.prog 50 #[.func (.func k) #[] cap] w fun e w' => e = .returned (.tuple #[.string ⟨l.toArray⟩, .int .i64 0]) ∧ Only (fun _ => False) w w' := by
  have hmf : ∀ (fn : Fn) (first cap : Array Value) (w : World), (Instr.makeFunc fn first cap).run Tryz.prog w = .ok (.func fn first cap) w := fun _ _ _ _ => rfl
  have H := Lib.hid h
  have HE := Lib.hid he
  clear h he
  go_enter Tryz.func50, Tryz.ntmps50
  go_wp2_with fail
  obtain ⟨W, hW⟩ : ∃ W, W = (((w.alloc (.cells #[.func (.func k) #[] cap] 122)).alloc (.cells #[.pointer none, .slice none 0 0] 168)).alloc (.cells #[.pointer (some ⟨w.heap.size + 1, 0, none⟩)] 119)) := ⟨_, rfl⟩
  rw [← hW]
  obtain ⟨W1, hW1⟩ : ∃ W1, W1 = W.alloc (.cells #[.int .i64 0] 56) := ⟨_, rfl⟩
  obtain ⟨z0, z1, z2, z3, z4, z5⟩ := write_blocks w _ _ _ W W1 hW _ hW1
  have hWr : WrAt W1 (w.heap.size + 1) w.heap.size (fun x => x = w.heap.size + 1) [] := ⟨_, _, z2, .inl rfl, World.ownsRow_nil _ _ _ _, fun x => by simp [Value.ownBlock]⟩
  have hcall := H.out W1 (w.heap.size + 1) _ z5 hWr (fun x e => by omega) z5.size
  have hw1 := w1_any W1 w.heap.size (w.heap.size + 1 + 1) (w.heap.size + 1) k cap _ HE.out z1 z3 hcall (fun e w' h => .inl h.1)
  rw [hW1] at hw1
  refine (run_ok W 92 _ _ (fun _ _ => by go_simp) hw1 (fun w' h => ?_)).mono ?_
  · obtain ⟨S', h1, _⟩ := h
    rw [← hW1] at h1
    exact h1.old z4 (by omega)
  rintro e wz ⟨rfl, w2, ⟨S', h1, h2, h3⟩, h4⟩
  rw [← hW1] at h1 h3
  have hz1 : W1.heap.size = W.heap.size + 1 := by rw [hW1]; simp
  have hz3 : wz.heap[w.heap.size + 1 + 1]? = _ := h4.old (h1.old z3 (by omega)) (by omega)
  have hwz := h2.kept h4 (fun x hx e => by rcases h3 x hx with y | y <;> omega)
  have hc : wz.cell? ⟨w.heap.size + 1 + 1, 0, none⟩ = some (.pointer (some ⟨w.heap.size + 1, 0, none⟩)) := cell_at hz3 0
  have ho : Only (fun _ => False) w wz := (z5.tr h1 (fun i hi e => by omega)).tr h4 (fun i hi e => by omega)
  have hS' : ∀ x, S' x → w.heap.size ≤ x := fun x hx => by rcases h3 x hx with y | y <;> omega
  have HWZ := Lib.hid hwz
  have HO := Lib.hid ho
  have HS := Lib.hid hS'
  clear z0 z1 z2 z3 z4 z5 hWr hcall hw1 h1 h2 h3 h4 hz1 hz3 hwz ho hS' hW hW1
  go_wp2_with fail
  refine (bs_any _ _ _ S' l HWZ.out hl).mono ?_
  rintro e w3 ⟨rfl, ho3⟩
  go_wp2_with fail
  go_ret2
  exact ⟨rfl, HO.out.tr ho3 (fun i hi e => by have := HS.out i e; omega)⟩
set_option maxRecDepth 100000 in
set_option maxHeartbeats 1000000 in
/-- Write: what a call is refused with. -/
theorem write_no (w : World) (k : Nat) (cap : Array Value) (n : Int) (hn : n ≠ 0) (he : ∀ args w, (callFunc k args).run Tryz.prog w = .ok (.enter k args) w)
    (h : ∀ (w1 : World) (b : Nat) (S : Nat → Prop), Only (fun _ => False) w w1 → WrAt w1 b w.heap.size S [] → (∀ x, S x → w.heap.size ≤ x) → w.heap.size ≤ w1.heap.size → Calls Tryz.prog k (#[.pointer (some ⟨b, 0, none⟩)] ++ cap) w1 fun e w' => e = refused n ∧ Only S w1 w') :
    Calls Tryz.prog 50 #[.func (.func k) #[] cap] w fun e w' => e = .returned (.tuple #[.string ⟨#[]⟩, .int .i64 n]) ∧ Only (fun _ => False) w w' := by
  have hmf : ∀ (fn : Fn) (first cap : Array Value) (w : World), (Instr.makeFunc fn first cap).run Tryz.prog w = .ok (.func fn first cap) w := fun _ _ _ _ => rfl
  have hn0 : (n != 0) = true := by simp; exact hn
  have H := Lib.hid h
  have HE := Lib.hid he
  clear h he
  go_enter Tryz.func50, Tryz.ntmps50
  go_wp2_with fail
  obtain ⟨W, hW⟩ : ∃ W, W = (((w.alloc (.cells #[.func (.func k) #[] cap] 122)).alloc (.cells #[.pointer none, .slice none 0 0] 168)).alloc (.cells #[.pointer (some ⟨w.heap.size + 1, 0, none⟩)] 119)) := ⟨_, rfl⟩
  rw [← hW]
  obtain ⟨W1, hW1⟩ : ∃ W1, W1 = W.alloc (.cells #[.int .i64 0] 56) := ⟨_, rfl⟩
  obtain ⟨z0, z1, z2, z3, z4, z5⟩ := write_blocks w _ _ _ W W1 hW _ hW1
  have hWr : WrAt W1 (w.heap.size + 1) w.heap.size (fun x => x = w.heap.size + 1) [] := ⟨_, _, z2, .inl rfl, World.ownsRow_nil _ _ _ _, fun x => by simp [Value.ownBlock]⟩
  have hcall := H.out W1 (w.heap.size + 1) _ z5 hWr (fun x e => by omega) z5.size
  have hw1 := w1_any W1 w.heap.size (w.heap.size + 1 + 1) (w.heap.size + 1) k cap _ HE.out z1 z3 hcall (fun e w' h => .inr ⟨n, h.1⟩)
  rw [hW1] at hw1
  refine (run_no W 92 _ n _ (fun _ _ => by go_simp) hw1 (fun w' h => ?_)).mono ?_
  · rw [← hW1] at h
    exact h.old z4 (by omega)
  rintro e wz ⟨rfl, w2, h1, h4⟩
  rw [← hW1] at h1
  have ho : Only (fun _ => False) w wz := (z5.tr h1 (fun i hi e => by omega)).tr h4 (fun i hi e => by omega)
  clear z0 z1 z2 z3 z4 z5 hWr hcall hw1 h1 h4 hW hW1
  go_wp2_with fail
  go_ret2
  exact ⟨rfl, ho⟩
end Go.Proofs.YtbdfijgejkimnaaGreatDoor
/-! pack: Reader.Raw, Num, Left; Read. -/
namespace Go.Proofs.YtbdfijgejkimnaaGreatDoor
open Go.Conc Go.RowKit

/-- A Reader: its block, what is left. -/
def RdAt (w : World) (b : Nat) (s : ByteArray) : Prop := w.heap[b]? = some (.cells #[.string s] 185 (0, 0))
theorem RdAt.kept {S : Nat → Prop} {w w' : World} {b : Nat} {s : ByteArray} (h : RdAt w b s) (ho : Only S w w') (hn : ¬ S b) : RdAt w' b s := ho.old h hn
def RPost (w w' : World) (b : Nat) (s : ByteArray) : Prop := Only (fun x => x = b) w w' ∧ RdAt w' b s

theorem left_any (w : World) (b : Nat) (s : ByteArray) (h : RdAt w b s) : Calls Tryz.prog 101 #[.pointer (some ⟨b, 0, none⟩)] w fun e w' => e = .returned (.int .i64 s.size) ∧ w = w' := by
  have hc : w.cell? ⟨b, 0, none⟩ = some (.string s) := cell_at h 0
  go_enter Tryz.func101, Tryz.ntmps101
  go_wp2_with fail
  go_ret
  exact ⟨rfl, rfl⟩

set_option maxRecDepth 100000 in
theorem rraw_ok (w : World) (b : Nat) (s : ByteArray) (n : Nat) (h : RdAt w b s) (hn : n ≤ s.size) :
    Calls Tryz.prog 100 #[.pointer (some ⟨b, 0, none⟩), .int .i64 n] w fun e w' => e = .returned (.string (s.extract 0 n)) ∧ RPost w w' b (s.extract n s.size) := by
  have hc : w.cell? ⟨b, 0, none⟩ = some (.string s) := cell_at h 0
  have hz := free_at h 0
  have q1 : decide ((n : Int) < 0) = false := by simp
  have q2 : decide ((s.size : Int) < (n : Int)) = false := by simp; omega
  have q3 : decide (s.size < n) = false := by simp; omega
  have hn2 : (n : Int) ≤ (s.size : Int) := by omega
  have HB := Lib.hid h
  clear h
  go_enter Tryz.func100, Tryz.ntmps100
  go_wp2_with fail
  go_ret
  exact ⟨rfl, (Only.refl _ _).setCell (S := fun x => x = b) (p := ⟨b, 0, none⟩) (.inr rfl) _, set_at HB.out 0 _⟩
set_option maxRecDepth 100000 in
theorem rraw_short (w : World) (b : Nat) (s : ByteArray) (n : Nat) (h : RdAt w b s) (hn : s.size < n) :
    Calls Tryz.prog 100 #[.pointer (some ⟨b, 0, none⟩), .int .i64 n] w fun e w' => e = refused 2 ∧ w = w' := by
  have hc : w.cell? ⟨b, 0, none⟩ = some (.string s) := cell_at h 0
  have q1 : decide ((n : Int) < 0) = false := by simp
  have q2 : decide ((s.size : Int) < (n : Int)) = true := by simp; omega
  have q3 : decide (s.size < n) = true := by simp; omega
  clear h
  go_enter Tryz.func100, Tryz.ntmps100
  go_wp2_with fail
  refine (refuse_any _ 2 (by decide)).mono ?_
  rintro e w' ⟨rfl, rfl⟩
  unfold refused
  go_wp2_with fail
  exact ⟨rfl, rfl, rfl⟩

/-- Bytes as a number, the greatest first. -/
def beN (l : List UInt8) (n : Nat) : Nat := l.foldl (fun n c => n * 256 + c.toNat) n
theorem beN_snoc (l : List UInt8) (n : Nat) (c : UInt8) : beN (l ++ [c]) n = beN l n * 256 + c.toNat := by simp [beN]
theorem beN_lt : ∀ (l : List UInt8), beN l 0 < 256 ^ l.length := by
  intro l
  rcases List.eq_nil_or_concat l with rfl | ⟨m, c, rfl⟩
  · decide
  · rw [List.concat_eq_append, beN_snoc, List.length_append]
    have := beN_lt m
    have hc := c.toNat_lt
    rw [show m.length + [c].length = m.length + 1 from rfl, Nat.pow_succ]
    have h2 : (beN m 0 + 1) * 256 ≤ 256 ^ m.length * 256 := Nat.mul_le_mul_right 256 this
    omega
termination_by l => l.length
theorem u64_or (a b : Nat) (ha : a < 2 ^ 56) (hb : b < 256) : bits .or .u64 ((a : Int) * 256) (b : Int) = ((a * 256 + b : Nat) : Int) := by
  have hx : a * 256 ||| b < 2 ^ 64 := Nat.or_lt_two_pow (by omega) (by omega)
  rw [show ((a : Int) * 256) = ((a * 256 : Nat) : Int) by omega]
  show IntKind.u64.wrap ((BitVec.ofInt 64 ((a * 256 : Nat) : Int) ||| BitVec.ofInt 64 (b : Int)).toNat : Int) = _
  rw [BitVec.toNat_or, BitVec.ofInt_natCast, BitVec.ofInt_natCast, BitVec.toNat_ofNat, BitVec.toNat_ofNat, Nat.mod_eq_of_lt (by omega), Nat.mod_eq_of_lt (by omega)]
  rw [show a * 256 = a <<< 8 by rw [Nat.shiftLeft_eq]] at hx ⊢
  rw [← Nat.shiftLeft_add_eq_or_of_lt (i := 8) (by omega) a, Nat.shiftLeft_eq] at hx ⊢
  exact IntWalk.u64_in _ (by omega)

set_option maxRecDepth 100000 in
set_option maxHeartbeats 1000000 in
theorem rnum_ok (w : World) (b : Nat) (s : ByteArray) (size : Nat) (h : RdAt w b s) (h1 : 1 ≤ size) (h8 : size ≤ 8) (hn : size ≤ s.size) :
    Calls Tryz.prog 82 #[.pointer (some ⟨b, 0, none⟩), .int .i64 size] w fun e w' => e = .returned (.int .u64 (beN (s.data.toList.take size) 0 : Nat)) ∧ RPost w w' b (s.extract size s.size) := by
  have s1 : (1 : Int) ≤ size := by omega
  have s2 : (size : Int) ≤ 8 := by omega
  go_enter Tryz.func82, Tryz.ntmps82
  go_wp2_with fail
  refine (rraw_ok _ b s size h hn).mono ?_
  rintro e w1 ⟨rfl, ho1, hr1⟩
  have hT : (s.extract 0 size).data.toList = s.data.toList.take size := by
    rw [ByteArray.data_extract, Array.toList_extract]
    simp
  have hTs : (s.extract 0 size).size = size := by rw [ByteArray.size_extract]; omega
  have hge := grownCap_ge w1 (s.extract 0 size).size 0 5
  have hle := grownCap_le_maxLen w1 (s.extract 0 size).size 0 5 (by unfold maxLen; omega)
  have hB := Byt.new w1 (s.extract 0 size) (grownCap w1 (s.extract 0 size).size 0 5)
  generalize s.extract 0 size = t at *
  have HT := Lib.hid hT
  have HB := Lib.hid hB
  have HO := Lib.hid ho1
  have HR := Lib.hid hr1
  have hlen : t.data.toList.length = size := hTs
  have HTS := Lib.hid hTs
  clear hB ho1 hr1 hT h hTs
  have hcv := run_bytes_of_string (P := Tryz.prog) w1 9 61 5 t Tryz.underlying9 Tryz.underlying61 Tryz.underlying5
  go_wp2_with fail
  generalize grownCap w1 t.size 0 5 = C at *
  generalize (bytesRow t C).size = N at *
  go_loopg [5, 7, 20] size (fun g v5 v7 v20 wx => ∃ j : Nat, v20 = .int .i64 j ∧ j ≤ size ∧ v5 = .int .u64 (beN (t.data.toList.take j) 0 : Nat) ∧ (w1.alloc (.cells (bytesRow t C) 5 (N, N + 1))).drew = wx ∧ g = size - j)
  case atStart => exact ⟨0, rfl, Nat.zero_le _, rfl, rfl, rfl⟩
  case round =>
    obtain ⟨j, rfl, hj, rfl, rfl, hg⟩ := hrel
    have Hg := Lib.hid hg
    clear hg
    by_cases hlt : j < size
    · have hjl : j < t.data.toList.length := by omega
      have hz := HB.out.cell (j := j) (u := .int .u8 (t.data.toList[j].toNat)) (by rw [byteVals, List.getElem?_map, List.getElem?_eq_getElem hjl]; rfl)
      have hsn : t.data.toList.take (j + 1) = t.data.toList.take j ++ [t.data.toList[j]] := by rw [List.take_succ_eq_append_getElem hjl]
      have hblt := beN_lt (t.data.toList.take j)
      have hc := t.data.toList[j].toNat_lt
      have hnx : beN (t.data.toList.take (j + 1)) 0 = beN (t.data.toList.take j) 0 * 256 + t.data.toList[j].toNat := by rw [hsn, beN_snoc]
      have hb56 : beN (t.data.toList.take j) 0 < 2 ^ 56 := by
        refine Nat.lt_of_lt_of_le hblt ?_
        rw [List.length_take]
        exact Nat.le_trans (Nat.pow_le_pow_right (by decide) (show min j t.data.toList.length ≤ 7 by omega)) (by decide)
      have hor := u64_or (beN (t.data.toList.take j) 0) (t.data.toList[j].toNat) hb56 (by omega)
      rw [← hnx] at hor
      have hnn : beN (t.data.toList.take (j + 1)) 0 < 2 ^ 64 := by rw [hnx]; omega
      generalize beN (t.data.toList.take j) 0 = x at *
      generalize hy : beN (t.data.toList.take (j + 1)) 0 = y at *
      have HY := Lib.hid hy
      clear hy
      generalize t.data.toList[j].toNat = c at *
      have hts : j < t.size := by rw [HTS.out]; exact hlt
      have hw1 : ∀ z : Int, z = (x : Int) * 256 → IntKind.u64.wrap z = (x : Int) * 256 := by
        rintro z rfl
        exact IntWalk.u64_in _ (by omega)
      have hb2 : (0 : Int) ≤ (x : Int) := by omega
      have hor2 : ∀ z : Int, z = (c : Int) → bits BinOp.or IntKind.u64 ((x : Int) * 256) z = (y : Int) := by rintro z rfl; exact hor
      clear hblt hsn hnx hb56 hnn hor
      go_wp2_with fail
      go_roundg (size - (j + 1))
      case measure => rw [Hg.out]; omega
      case rel => exact ⟨j + 1, by go_num, by omega, by rw [HY.out], rfl, rfl⟩
    · have hjs : j = size := by omega
      have HJ := Lib.hid hjs
      have hts : ¬ j < t.size := by rw [HTS.out]; exact hlt
      have q1 : decide ((j : Int) < (t.size : Int)) = false := by simp; omega
      clear hjs
      go_wp2_with fail
      go_ret
      rw [HJ.out, List.take_of_length_le (Nat.le_of_eq hlen), HT.out]
      exact ⟨rfl, (HO.out.alloc _).drew, HR.out.kept (S := fun _ => False) (((Only.refl _ _).alloc _).drew) id⟩
set_option maxRecDepth 100000 in
theorem rnum_short (w : World) (b : Nat) (s : ByteArray) (size : Nat) (h : RdAt w b s) (h1 : 1 ≤ size) (h8 : size ≤ 8) (hn : s.size < size) :
    Calls Tryz.prog 82 #[.pointer (some ⟨b, 0, none⟩), .int .i64 size] w fun e w' => e = refused 2 ∧ w = w' := by
  have s1 : (1 : Int) ≤ size := by omega
  have s2 : (size : Int) ≤ 8 := by omega
  go_enter Tryz.func82, Tryz.ntmps82
  go_wp2_with fail
  refine (rraw_short _ b s size h hn).mono ?_
  rintro e w1 ⟨rfl, rfl⟩
  unfold refused
  go_wp2_with fail
  exact ⟨rfl, rfl, rfl⟩

theorem r1_any (w : World) (fb pb b k : Nat) (cap : Array Value) (R : Ending → World → Prop) (he : ∀ args w, (callFunc k args).run Tryz.prog w = .ok (.enter k args) w)
    (hf : w.heap[fb]? = some (.cells #[.func (.func k) #[] cap] 154 (0, 0))) (hp : w.heap[pb]? = some (.cells #[.pointer (some ⟨b, 0, none⟩)] 151 (0, 0)))
    (h : Calls Tryz.prog k (#[.pointer (some ⟨b, 0, none⟩)] ++ cap) w R) (hR : ∀ e w', R e w' → e = .returned (.tuple #[]) ∨ ∃ n, e = refused n) :
    Calls Tryz.prog 120 #[.pointer (some ⟨fb, 0, none⟩), .pointer (some ⟨pb, 0, none⟩)] w R := by
  have c1 : w.cell? ⟨fb, 0, none⟩ = some (.func (.func k) #[] cap) := cell_at hf 0
  have c2 : w.cell? ⟨pb, 0, none⟩ = some (.pointer (some ⟨b, 0, none⟩)) := cell_at hp 0
  go_enter Tryz.func120, Tryz.ntmps120
  go_wp2_with fail
  refine h.mono ?_
  intro e w' hr
  rcases hR e w' hr with rfl | ⟨n, rfl⟩
  · have HR := Lib.hid hr
    clear hr
    go_wp2_with fail
    go_end0
    exact HR.out
  · have HR := Lib.hid hr
    clear hr
    unfold refused at HR ⊢
    go_wp2_with fail
    exact ⟨rfl, HR.out⟩
set_option maxRecDepth 100000 in
set_option maxHeartbeats 1000000 in
/-- Read: a call that returns. T: the blocks that it may have written besides. -/
theorem read_ok (w : World) (s : ByteArray) (k : Nat) (cap : Array Value) (T : Nat → Prop) (rest : ByteArray) (X : World → Prop) (he : ∀ args w, (callFunc k args).run Tryz.prog w = .ok (.enter k args) w)
    (hX : ∀ a c, X a → Only (fun x => w.heap.size ≤ x) a c → X c)
    (h : ∀ (w1 : World) (b : Nat), Only (fun _ => False) w w1 → RdAt w1 b s → w.heap.size ≤ b → Calls Tryz.prog k (#[.pointer (some ⟨b, 0, none⟩)] ++ cap) w1 fun e w' => e = .returned (.tuple #[]) ∧ Only (fun x => x = b ∨ (T x ∧ x < w.heap.size)) w1 w' ∧ RdAt w' b rest ∧ X w') :
    Calls Tryz.prog 80 #[.string s, .func (.func k) #[] cap] w fun e w' => e = .returned (.int .i64 (if rest.size = 0 then 0 else 3)) ∧ Only T w w' ∧ X w' := by
  have hmf : ∀ (fn : Fn) (first cap : Array Value) (w : World), (Instr.makeFunc fn first cap).run Tryz.prog w = .ok (.func fn first cap) w := fun _ _ _ _ => rfl
  obtain ⟨z, hz⟩ : ∃ z : Int, z = if rest.size = 0 then 0 else 3 := ⟨_, rfl⟩
  rw [← hz]
  have Hz := Lib.hid hz
  clear hz
  have H := Lib.hid h
  have HE := Lib.hid he
  have HX := Lib.hid hX
  clear h he hX
  go_enter Tryz.func80, Tryz.ntmps80
  go_wp2_with fail
  obtain ⟨W, hW⟩ : ∃ W, W = (((w.alloc (.cells #[.func (.func k) #[] cap] 154)).alloc (.cells #[.string s] 185)).alloc (.cells #[.pointer (some ⟨w.heap.size + 1, 0, none⟩)] 151)) := ⟨_, rfl⟩
  rw [← hW]
  obtain ⟨W1, hW1⟩ : ∃ W1, W1 = W.alloc (.cells #[.int .i64 0] 56) := ⟨_, rfl⟩
  obtain ⟨z0, z1, z2, z3, z4, z5⟩ := write_blocks w _ _ _ W W1 hW _ hW1
  have hcall := H.out W1 (w.heap.size + 1) z5 z2 (by omega)
  have hw1 := r1_any W1 w.heap.size (w.heap.size + 1 + 1) (w.heap.size + 1) k cap _ HE.out z1 z3 hcall (fun e w' h => .inl h.1)
  rw [hW1] at hw1
  refine (run_ok W 120 _ _ (fun _ _ => by go_simp) hw1 (fun w' h => ?_)).mono ?_
  · obtain ⟨h1, _⟩ := h
    rw [← hW1] at h1
    exact h1.old z4 (by omega)
  rintro e wz ⟨rfl, w2, ⟨h1, h2, h3⟩, h4⟩
  rw [← hW1] at h1
  have hz3 : wz.heap[w.heap.size + 1 + 1]? = _ := h4.old (h1.old z3 (by omega)) (by omega)
  have hwz := h2.kept h4 (by omega)
  have hc : wz.cell? ⟨w.heap.size + 1 + 1, 0, none⟩ = some (.pointer (some ⟨w.heap.size + 1, 0, none⟩)) := cell_at hz3 0
  have hc2 : wz.cell? ⟨w.heap.size + 1, 0, none⟩ = some (.string rest) := cell_at hwz 0
  have ho : Only T w wz := ((z5.weaken (fun _ _ h => h.elim)).tr h1 (fun i hi e => by rcases e with e | e; omega; exact e.1)).tr h4 (fun i hi e => by omega)
  have hx := HX.out _ _ h3 (h4.weaken (fun i _ e => by omega))
  have HXX := Lib.hid hx
  have HO := Lib.hid ho
  clear z0 z1 z2 z3 z4 z5 hcall hw1 h1 h2 h3 h4 hz3 hwz ho hx hW hW1
  by_cases hr : rest.size = 0
  · have e0 := empty_true hr
    have e1 : (!rest.toList.isEmpty) = false := by rw [e0]; rfl
    have HR := Lib.hid hr
    clear hr
    go_wp2_with fail
    go_ret
    exact ⟨ret_int (by rw [Hz.out, if_pos HR.out]), HO.out, HXX.out⟩
  · have e0 := empty_false hr
    have e1 : (!rest.toList.isEmpty) = true := by rw [e0]; rfl
    have HR := Lib.hid hr
    clear hr
    go_wp2_with fail
    go_ret
    exact ⟨ret_int (by rw [Hz.out, if_neg HR.out]), HO.out, HXX.out⟩
set_option maxRecDepth 100000 in
set_option maxHeartbeats 1000000 in
/-- Read: a call that is refused. -/
theorem read_no (w : World) (s : ByteArray) (k : Nat) (cap : Array Value) (T : Nat → Prop) (n : Int) (hn : n ≠ 0) (X : World → Prop) (he : ∀ args w, (callFunc k args).run Tryz.prog w = .ok (.enter k args) w)
    (hX : ∀ a c, X a → Only (fun x => w.heap.size ≤ x) a c → X c)
    (h : ∀ (w1 : World) (b : Nat), Only (fun _ => False) w w1 → RdAt w1 b s → w.heap.size ≤ b → Calls Tryz.prog k (#[.pointer (some ⟨b, 0, none⟩)] ++ cap) w1 fun e w' => e = refused n ∧ Only (fun x => x = b ∨ (T x ∧ x < w.heap.size)) w1 w' ∧ X w') :
    Calls Tryz.prog 80 #[.string s, .func (.func k) #[] cap] w fun e w' => e = .returned (.int .i64 n) ∧ Only T w w' ∧ X w' := by
  have hmf : ∀ (fn : Fn) (first cap : Array Value) (w : World), (Instr.makeFunc fn first cap).run Tryz.prog w = .ok (.func fn first cap) w := fun _ _ _ _ => rfl
  have hn0 : (n != 0) = true := by simp; exact hn
  have H := Lib.hid h
  have HE := Lib.hid he
  have HX := Lib.hid hX
  clear h he hX
  go_enter Tryz.func80, Tryz.ntmps80
  go_wp2_with fail
  obtain ⟨W, hW⟩ : ∃ W, W = (((w.alloc (.cells #[.func (.func k) #[] cap] 154)).alloc (.cells #[.string s] 185)).alloc (.cells #[.pointer (some ⟨w.heap.size + 1, 0, none⟩)] 151)) := ⟨_, rfl⟩
  rw [← hW]
  obtain ⟨W1, hW1⟩ : ∃ W1, W1 = W.alloc (.cells #[.int .i64 0] 56) := ⟨_, rfl⟩
  obtain ⟨z0, z1, z2, z3, z4, z5⟩ := write_blocks w _ _ _ W W1 hW _ hW1
  have hcall := H.out W1 (w.heap.size + 1) z5 z2 (by omega)
  have hw1 := r1_any W1 w.heap.size (w.heap.size + 1 + 1) (w.heap.size + 1) k cap _ HE.out z1 z3 hcall (fun e w' h => .inr ⟨n, h.1⟩)
  rw [hW1] at hw1
  refine (run_no W 120 _ n _ (fun _ _ => by go_simp) hw1 (fun w' h => ?_)).mono ?_
  · obtain ⟨h1, _⟩ := h
    rw [← hW1] at h1
    exact h1.old z4 (by omega)
  rintro e wz ⟨rfl, w2, ⟨h1, h3⟩, h4⟩
  rw [← hW1] at h1
  have ho : Only T w wz := ((z5.weaken (fun _ _ h => h.elim)).tr h1 (fun i hi e => by rcases e with e | e; omega; exact e.1)).tr h4 (fun i hi e => by omega)
  have hx := HX.out _ _ h3 (h4.weaken (fun i _ e => by omega))
  have HXX := Lib.hid hx
  have HO := Lib.hid ho
  clear z0 z1 z2 z3 z4 z5 hcall hw1 h1 h3 h4 ho hx hW hW1
  go_wp2_with fail
  go_ret
  exact ⟨rfl, HO.out, HXX.out⟩
end Go.Proofs.YtbdfijgejkimnaaGreatDoor
/-! record: Key, Split; the reference's Key, Origin. -/
namespace Go.Proofs.YtbdfijgejkimnaaGreatDoor
open Go.Conc Go.RowKit

theorem cv2 (w : World) (B : Nat) (x y : Int) (hB : B = w.heap.size) : (convert 61 9 (.slice (some ⟨B, 0, none⟩) 2 2)).run Tryz.prog (w.alloc (.cells #[.int .u8 x, .int .u8 y] 5)) = .ok (.string (bytesOf [x, y])) (w.alloc (.cells #[.int .u8 x, .int .u8 y] 5)) :=
  run_bytes_new Tryz.underlying61 Tryz.underlying5 Tryz.underlying9 w B [x, y] 2 hB rfl (by unfold maxLen; decide)
theorem cv2d (w : World) (B : Nat) (x y : Int) (hB : B = w.heap.size) : (convert 61 9 (.slice (some ⟨B, 0, none⟩) 2 2)).run Tryz.prog (w.alloc (.cells #[.int .u8 x, .int .u8 y] 5)).drew = .ok (.string (bytesOf [x, y])) (w.alloc (.cells #[.int .u8 x, .int .u8 y] 5)).drew :=
  run_bytes_new_drew Tryz.underlying61 Tryz.underlying5 Tryz.underlying9 w B [x, y] 2 hB rfl (by unfold maxLen; decide)
/-- A key in bytes. -/
def keyB (o : Int) (name : ByteArray) : ByteArray := bytesOf [o / 256, o % 256] ++ name
theorem keyB_size (o : Int) (name : ByteArray) : (keyB o name).size = 2 + name.size := ByteArray.size_append
theorem keyB_be (n : Nat) (name : ByteArray) (hn : n < 65536) : (⟨(beL n 2 ++ name.data.toList).toArray⟩ : ByteArray) = keyB n name := by
  apply str_ext
  unfold keyB
  rw [ByteArray.data_append, Array.toList_append]
  show beL n 2 ++ name.data.toList = _
  congr 1
  show [UInt8.ofNat (n / 256 ^ 1), UInt8.ofNat (n / 256 ^ 0)] = [UInt8.ofNat ((n : Int) / 256).toNat, UInt8.ofNat ((n : Int) % 256).toNat]
  have e1 : ((n : Int) / 256).toNat = n / 256 := by omega
  have e2 : ((n : Int) % 256).toNat = n % 256 := by omega
  rw [e1, e2]
  congr 2
  apply UInt8.toNat_inj.1
  rw [UInt8.toNat_ofNat', UInt8.toNat_ofNat']
  omega

set_option maxRecDepth 100000 in
theorem rkey_any (w : World) (o : Int) (name : ByteArray) (h0 : 0 ≤ o) (h1 : o ≤ 65535) (hs : name.size ≤ 1000) :
    Calls Tryz.prog 19 #[.int .i64 o, .string name] w fun e w' => e = .returned (.string (keyB o name)) ∧ Only (fun _ => False) w w' := by
  have hc2 := cv2
  have e2 : ∀ x y : Int, (bytesOf [x, y]).size = 2 := fun _ _ => rfl
  go_enter Tryz.func19, Tryz.ntmps19
  go_wp2_with fail
  go_ret
  exact ⟨rfl, (Only.refl _ _).alloc _⟩

def bA (m : ByteArray) (i : Nat) : Nat := (m.data.toList.getD i 0).toNat
theorem bA_get (m : ByteArray) (k : Nat) (h : k < m.size) : (m[k]'h).toNat = bA m k := by
  unfold bA
  have h2 : k < m.data.toList.length := h
  rw [List.getD_eq_getElem?_getD, List.getElem?_eq_getElem h2]
  rfl
theorem bA_lt (m : ByteArray) (k : Nat) : bA m k < 256 := UInt8.toNat_lt _
/-- Whose key it is; 0: it is none. -/
def originP (s : ByteArray) : Nat := if s.size < 2 then 0 else if namedP (s.extract 2 s.size) then 256 * bA s 0 + bA s 1 else 0

set_option maxRecDepth 100000 in
theorem rorigin_any (w : World) (s : ByteArray) (hs : s.size ≤ maxLen) :
    Calls Tryz.prog 97 #[.string s] w fun e w' => e = .returned (.int .i64 (originP s : Nat)) ∧ Only (fun _ => False) w w' := by
  unfold maxLen at hs
  by_cases h2 : s.size < 2
  · have q1 : decide ((s.size : Int) < 2) = true := by simp; omega
    have HO := Lib.hid (show originP s = 0 by rw [originP, if_pos h2])
    go_enter Tryz.func97, Tryz.ntmps97
    go_wp2_with fail
    go_ret
    exact ⟨ret_int (by rw [HO.out]; rfl), Only.refl _ _⟩
  · have q1 : decide ((s.size : Int) < 2) = false := by simp; omega
    have q2 : (2 : Int) ≤ (s.size : Int) := by omega
    have hex : (s.extract 2 s.size).size ≤ maxLen := by rw [ByteArray.size_extract]; unfold maxLen; omega
    have hbe : originP s = if namedP (s.extract 2 s.size) then 256 * bA s 0 + bA s 1 else 0 := by rw [originP, if_neg h2]
    have h0 := bA_get s 0 (by omega)
    have h1 := bA_get s 1 (by omega)
    have b0 := bA_lt s 0
    have b1 := bA_lt s 1
    generalize hx : s.extract 2 s.size = x at *
    have HBE := Lib.hid hbe
    clear hbe
    go_enter Tryz.func97, Tryz.ntmps97
    go_wp2_with fail
    refine (rnamed_any _ x hex).mono ?_
    rintro e w1 ⟨rfl, rfl⟩
    clear hx
    cases hn : namedP x with
    | false =>
      have HN := Lib.hid hn
      clear hn
      go_wp2_with fail
      go_ret
      exact ⟨ret_int (by rw [HBE.out, HN.out]; rfl), Only.refl _ _⟩
    | true =>
      have HN := Lib.hid hn
      clear hn
      have g0 : (0 : Int) < (s.size : Int) := by omega
      have g1 : (1 : Int) < (s.size : Int) := by omega
      have e0 : ((s[0]'(by omega)).toNat : Int) = (bA s 0 : Int) := congrArg _ h0
      have e1 : ((s[1]'(by omega)).toNat : Int) = (bA s 1 : Int) := congrArg _ h1
      generalize bA s 0 = x0 at *
      generalize bA s 1 = x1 at *
      have w1 : IntKind.i64.wrap (256 * (x0 : Int)) = 256 * (x0 : Int) := IntWalk.i64_in _ (by omega)
      have w2 : IntKind.i64.wrap (256 * (x0 : Int) + (x1 : Int)) = 256 * (x0 : Int) + (x1 : Int) := IntWalk.i64_in _ (by omega)
      clear h0 h1
      go_wp2_with fail
      go_region
      all_goals (
        go_wp2_with fail
        go_ret
        refine ⟨ret_int ?_, (Only.refl _ _).drew⟩
        rw [HBE.out, HN.out]
        simp)

theorem WrAt.at {w : World} {b base : Nat} {S : Nat → Prop} {l : List UInt8} (h : WrAt w b base S l) {e : TypeId} (he1 : e ≠ 168) (he2 : e ≠ 5) {x : Nat} {cs : Array Value} (hx : w.heap[x]? = some (.cells cs e (0, 0))) : ¬ S x := by
  obtain ⟨p, v, hb, hp, hown, hS⟩ := h
  intro hs
  rcases (hS x).1 hs with rfl | hk
  · rw [hb] at hx
    simp only [Option.some.injEq, Obj.cells.injEq] at hx
    exact he1 hx.2.1.symm
  · rcases hown.2 with ⟨h2, _⟩ | ⟨g, cap, cur, rfl, _, hg, _⟩
    · subst h2; simp [Value.ownBlock] at hk
    · simp [Value.ownBlock] at hk
      subst hk
      rw [hg] at hx
      simp only [Option.some.injEq, Obj.cells.injEq] at hx
      exact he2 hx.2.1.symm
theorem WPost.old {w w' : World} {b base : Nat} {S : Nat → Prop} {l : List UInt8} (h : WPost w w' b base S l) {x : Nat} {o : Obj} (hx : w.heap[x]? = some o) (hn : ¬ S x) : w'.heap[x]? = some o := h.elim fun _ k => k.1.old hx hn
theorem WPost.of_same {w w' : World} {b base : Nat} {S : Nat → Prop} {l : List UInt8} (h : WrAt w b base S l) (ho : Only (fun _ => False) w w') : WPost w w' b base S l :=
  ⟨S, ho.weaken (fun _ _ h => h.elim), h.kept ho (fun _ _ => id), fun _ h => .inl h⟩

theorem WPost.step {a w w' : World} {b base : Nat} {S S3 : Nat → Prop} {m : List UInt8} (k1 : Only S a w) (k3 : ∀ x, S3 x → S x ∨ a.heap.size ≤ x) (h : WPost w w' b base S3 m) : WPost a w' b base S m := by
  obtain ⟨S2, h1, h2, h3⟩ := h
  refine ⟨S2, k1.tr h1 (fun i hi x => (k3 i x).elim id (fun y => absurd hi (by omega))), h2, fun x hx => ?_⟩
  rcases h3 x hx with y | y
  · exact k3 x y
  · exact .inr (Nat.le_trans k1.size y)
theorem WPost.ahead {a w w' : World} {b base : Nat} {S : Nat → Prop} {m : List UInt8} (h : WPost w w' b base S m) (ho : Only (fun _ => False) a w) : WPost a w' b base S m := by
  obtain ⟨S2, h1, h2, h3⟩ := h
  refine ⟨S2, (ho.weaken (fun _ _ h => h.elim)).trans h1, h2, fun x hx => ?_⟩
  rcases h3 x hx with y | y
  · exact .inl y
  · exact .inr (Nat.le_trans ho.size y)
/-- What Key returns. -/
def keyE (o : Int) (name : ByteArray) : Int := if nodeB o = false then 1 else if namedP name = false then 9 else 0
def keyS (o : Int) (name : ByteArray) : ByteArray := if nodeB o && namedP name then keyB o name else ⟨#[]⟩
theorem two_blocks (w : World) (o1 o2 : Obj) {w1 : World} (ho : Only (fun _ => False) ((w.alloc o1).alloc o2) w1) : w1.heap[w.heap.size]? = some o1 ∧ w1.heap[w.heap.size + 1]? = some o2 := by
  constructor
  · refine ho.old ?_ id
    rw [heap_alloc_old _ _ (by simp)]
    exact heap_alloc_new w o1
  · refine ho.old ?_ id
    have := heap_alloc_new (w.alloc o1) o2
    rwa [World.size_alloc] at this
end Go.Proofs.YtbdfijgejkimnaaGreatDoor
/-! record: Split. -/
namespace Go.Proofs.YtbdfijgejkimnaaGreatDoor
open Go.Conc Go.RowKit

def nodeN (s : ByteArray) : Nat := 256 * bA s 0 + bA s 1
theorem beN_two (s : ByteArray) (h : 2 ≤ s.size) : beN (s.data.toList.take 2) 0 = nodeN s := by
  have h2 : 2 ≤ s.data.toList.length := h
  unfold nodeN bA
  match hl : s.data.toList, h2 with
  | a :: b :: r, _ =>
    simp [beN]
    omega
theorem extract_all (x : ByteArray) : (x.extract x.size x.size).size = 0 := by rw [ByteArray.size_extract]; omega

set_option maxRecDepth 100000 in
theorem split1_ok (w : World) (b p5 p6 : Nat) (s y : ByteArray) (x : Int) (h : RdAt w b s) (h5 : w.heap[p5]? = some (.cells #[.int .i64 x] 3 (0, 0))) (h6 : w.heap[p6]? = some (.cells #[.string y] 9 (0, 0))) (h2 : 2 ≤ s.size) (hs : s.size ≤ 1000000) :
    Calls Tryz.prog 117 #[.pointer (some ⟨b, 0, none⟩), .pointer (some ⟨p5, 0, none⟩), .pointer (some ⟨p6, 0, none⟩)] w fun e w' => e = .returned (.tuple #[]) ∧ Only (fun z => z = b ∨ z = p5 ∨ z = p6) w w' ∧
      RdAt w' b ((s.extract 2 s.size).extract (s.extract 2 s.size).size (s.extract 2 s.size).size) ∧ w'.heap[p5]? = some (.cells #[.int .i64 (nodeN s : Nat)] 3 (0, 0)) ∧ w'.heap[p6]? = some (.cells #[.string (s.extract 2 s.size)] 9 (0, 0)) := by
  have n5 : p5 ≠ b := by rintro rfl; rw [RdAt, h5] at h; simp at h
  have n6 : p6 ≠ b := by rintro rfl; rw [RdAt, h6] at h; simp at h
  have n56 : p5 ≠ p6 := by rintro rfl; rw [h5] at h6; simp at h6
  have hbt := beN_two s h2
  have hb0 := bA_lt s 0
  have hb1 := bA_lt s 1
  have hnl : nodeN s < 65536 := by unfold nodeN; omega
  have hex : (s.extract 2 s.size).size ≤ 1000000 := by rw [ByteArray.size_extract]; omega
  generalize hz : s.extract 2 s.size = z at *
  have HZ := Lib.hid hz
  clear hz
  generalize nodeN s = n at *
  have H := Lib.hid h
  have H5 := Lib.hid h5
  have H6 := Lib.hid h6
  clear h h5 h6
  go_enter Tryz.func117, Tryz.ntmps117
  go_wp2_with fail
  refine (rnum_ok _ b s 2 H.out (by decide) (by decide) h2).mono ?_
  rw [hbt]
  rintro e w1 ⟨rfl, ho1, hr1⟩
  rw [HZ.out] at hr1
  have g5 := ho1.old H5.out n5
  have c5 : w1.cell? ⟨p5, 0, none⟩ = some (.int .i64 x) := cell_at g5 0
  have f5 := free_at g5 0
  have hwr : IntKind.i64.wrap (n : Int) = n := IntWalk.i64_in _ (by omega)
  clear hbt
  go_wp2_with fail
  have o2 : Only (fun z => z = p5) w1 (w1.setCell ⟨p5, 0, none⟩ (.int .i64 n)) := (Only.refl _ _).setCell (S := fun z => z = p5) (p := ⟨p5, 0, none⟩) (.inr rfl) _
  have hr2 := hr1.kept o2 (fun e => n5 e.symm)
  refine (left_any _ b _ hr2).mono ?_
  rintro e w2 ⟨rfl, rfl⟩
  have e5 := set_at g5 0 (.int .i64 n)
  have O1 := Lib.hid ho1
  have O2 := Lib.hid o2
  have E5 := Lib.hid e5
  clear c5 f5 g5 ho1 o2 e5
  generalize w1.setCell ⟨p5, 0, none⟩ (.int .i64 n) = w2 at *
  go_wp2_with fail
  refine (rraw_ok _ b _ _ hr2 (Nat.le_refl _)).mono ?_
  rintro e w3 ⟨rfl, ho3, hr3⟩
  have g6 := ho3.old (O2.out.old (O1.out.old H6.out n6) (fun e => n56 e.symm)) n6
  have c6 : w3.cell? ⟨p6, 0, none⟩ = some (.string y) := cell_at g6 0
  have f6 := free_at g6 0
  have hxx : z.extract 0 z.size = z := by simp
  rw [hxx]
  have G5 := Lib.hid (ho3.old E5.out n5)
  have G6 := Lib.hid g6
  have HR3 := Lib.hid hr3
  clear g6 hr3 hr2 hr1 hxx
  go_wp2_with fail
  go_end0
  have o4 : Only (fun z => z = p6) w3 (w3.setCell ⟨p6, 0, none⟩ (.string z)) := (Only.refl _ _).setCell (S := fun z => z = p6) (p := ⟨p6, 0, none⟩) (.inr rfl) _
  exact ⟨rfl, (((O1.out.weaken (fun _ _ e => .inl e)).trans (O2.out.weaken (fun _ _ e => .inr (.inl e)))).trans (ho3.weaken (fun _ _ e => .inl e))).trans (o4.weaken (fun _ _ e => .inr (.inr e))), HR3.out.kept o4 (fun e => n6 e.symm), o4.old G5.out n56, set_at G6.out 0 _⟩
set_option maxRecDepth 100000 in
theorem split1_short (w : World) (b p5 p6 : Nat) (s : ByteArray) (h : RdAt w b s) (h2 : s.size < 2) :
    Calls Tryz.prog 117 #[.pointer (some ⟨b, 0, none⟩), .pointer (some ⟨p5, 0, none⟩), .pointer (some ⟨p6, 0, none⟩)] w fun e w' => e = refused 2 ∧ w = w' := by
  go_enter Tryz.func117, Tryz.ntmps117
  go_wp2_with fail
  refine (rnum_short _ b s 2 h (by decide) (by decide) h2).mono ?_
  rintro e w1 ⟨rfl, rfl⟩
  unfold refused
  go_wp2_with fail
  exact ⟨rfl, rfl, rfl⟩

/-- What Split returns. -/
def splitOk (s : ByteArray) : Bool := decide (2 ≤ s.size) && (nodeB (nodeN s : Nat) && namedP (s.extract 2 s.size))
def splitN (s : ByteArray) : Int := if splitOk s then (nodeN s : Nat) else 0
def splitS (s : ByteArray) : ByteArray := if splitOk s then s.extract 2 s.size else ⟨#[]⟩
def splitE (s : ByteArray) : Int := if splitOk s then 0 else 4
theorem split_bad {s : ByteArray} (h : splitOk s = false) : splitN s = 0 ∧ splitS s = ⟨#[]⟩ ∧ splitE s = 4 := by
  unfold splitN splitS splitE
  rw [h]
  exact ⟨rfl, rfl, rfl⟩
set_option maxRecDepth 100000 in
set_option maxHeartbeats 1000000 in
theorem split_any (w : World) (s : ByteArray) (m : Int) (hm : w.cell? ⟨0, 0, none⟩ = some (.int .i64 m)) (hs : s.size ≤ 1000000) :
    Calls Tryz.prog 77 #[.string s] w fun e w' => e = .returned (.tuple #[.int .i64 (splitN s), .string (splitS s), .int .i64 (splitE s)]) ∧ Only (fun _ => False) w w' := by
  have hmf : ∀ (fn : Fn) (first cap : Array Value) (w : World), (Instr.makeFunc fn first cap).run Tryz.prog w = .ok (.func fn first cap) w := fun _ _ _ _ => rfl
  have hen : ∀ args w, (callFunc 117 args).run Tryz.prog w = .ok (.enter 117 args) w := fun _ _ => by go_simp
  have HM := Lib.hid hm
  have HEN := Lib.hid hen
  clear hm hen
  by_cases h2 : s.size < 2
  · obtain ⟨r1, r2, r3⟩ := split_bad (s := s) (by unfold splitOk; rw [decide_eq_false (by omega)]; rfl)
    rw [r1, r2, r3]
    clear r1 r2 r3
    go_enter Tryz.func77, Tryz.ntmps77
    go_wp2_with fail
    refine (read_no _ s 117 _ (fun _ => False) 2 (by decide) (fun _ => True) HEN.out (fun _ _ _ _ => trivial) (fun w1 b ho hr hb => ?_)).mono ?_
    · refine (split1_short w1 b _ _ s hr h2).mono ?_
      rintro e w' ⟨rfl, rfl⟩
      exact ⟨rfl, Only.refl _ _, trivial⟩
    rintro e w' ⟨rfl, ho, -⟩
    go_wp2_with fail
    go_ret3
    exact ⟨rfl, ((((Only.refl _ _).alloc _).alloc _)).trans ho⟩
  · obtain ⟨W, hW⟩ : ∃ W, W = (w.alloc (.cells #[.int .i64 0] 3)).alloc (.cells #[.string ⟨#[]⟩] 9) := ⟨_, rfl⟩
    have hWs : W.heap.size = w.heap.size + 2 := by rw [hW]; simp
    have h00 : 0 < w.heap.size := World.block_lt_of_cell? _ _ HM.out
    have HNE := Lib.hid (show ¬ (0 = w.heap.size ∨ 0 = w.heap.size + 1) by omega)
    obtain ⟨z1, z2⟩ := two_blocks w _ _ (w1 := W) (by rw [← hW]; exact Only.refl _ _)
    have hWo : Only (fun _ => False) w W := by rw [hW]; exact ((Only.refl _ _).alloc _).alloc _
    have hclo : ∀ (w1 : World) (b : Nat), Only (fun _ => False) W w1 → RdAt w1 b s → W.heap.size ≤ b → Calls Tryz.prog 117 (#[.pointer (some ⟨b, 0, none⟩)] ++ #[.pointer (some ⟨w.heap.size, 0, none⟩), .pointer (some ⟨w.heap.size + 1, 0, none⟩)]) w1 fun e w' => e = .returned (.tuple #[]) ∧ Only (fun x => x = b ∨ ((x = w.heap.size ∨ x = w.heap.size + 1) ∧ x < W.heap.size)) w1 w' ∧
        RdAt w' b ((s.extract 2 s.size).extract (s.extract 2 s.size).size (s.extract 2 s.size).size) ∧ (w'.heap[w.heap.size]? = some (.cells #[.int .i64 (nodeN s : Nat)] 3 (0, 0)) ∧ w'.heap[w.heap.size + 1]? = some (.cells #[.string (s.extract 2 s.size)] 9 (0, 0))) := by
      intro w1 b ho hr hb
      refine (split1_ok w1 b w.heap.size (w.heap.size + 1) s _ _ hr (ho.old z1 id) (ho.old z2 id) (by omega) hs).mono ?_
      rintro e w' ⟨rfl, h1, h2, h3, h4⟩
      exact ⟨rfl, h1.weaken (fun x _ e => by rcases e with e | e | e; exact .inl e; exact .inr ⟨.inl e, by omega⟩; exact .inr ⟨.inr e, by omega⟩), h2, h3, h4⟩
    have hX : ∀ a c : World, (a.heap[w.heap.size]? = some (.cells #[.int .i64 (nodeN s : Nat)] 3 (0, 0)) ∧ a.heap[w.heap.size + 1]? = some (.cells #[.string (s.extract 2 s.size)] 9 (0, 0))) → Only (fun x => W.heap.size ≤ x) a c → (c.heap[w.heap.size]? = some (.cells #[.int .i64 (nodeN s : Nat)] 3 (0, 0)) ∧ c.heap[w.heap.size + 1]? = some (.cells #[.string (s.extract 2 s.size)] 9 (0, 0))) :=
      fun a c h ho => ⟨ho.old h.1 (by omega), ho.old h.2 (by omega)⟩
    have hcall := read_ok W s 117 _ _ _ _ HEN.out hX hclo
    rw [if_pos (extract_all _)] at hcall
    have HC := Lib.hid hcall
    clear hcall hclo hX z1 z2
    have HS := Lib.hid (show splitOk s = (nodeB (nodeN s : Nat) && namedP (s.extract 2 s.size)) by unfold splitOk; rw [decide_eq_true (by omega)]; rfl)
    have hex : (s.extract 2 s.size).size ≤ maxLen := by rw [ByteArray.size_extract]; unfold maxLen; omega
    have HP := Lib.hid (show splitN s = (if splitOk s then ((nodeN s : Nat) : Int) else 0) ∧ splitS s = (if splitOk s then s.extract 2 s.size else ⟨#[]⟩) ∧ splitE s = (if splitOk s then 0 else 4) from ⟨rfl, rfl, rfl⟩)
    generalize s.extract 2 s.size = z at *
    generalize nodeN s = n at *
    go_enter Tryz.func77, Tryz.ntmps77
    go_wp2_with fail
    rw [← hW]
    refine HC.out.mono ?_
    rintro e w' ⟨rfl, ho, x1, x2⟩
    have c1 : w'.cell? ⟨w.heap.size, 0, none⟩ = some (.int .i64 n) := cell_at x1 0
    have c2 : w'.cell? ⟨w.heap.size + 1, 0, none⟩ = some (.string z) := cell_at x2 0
    have hm' := (hWo.cell HM.out id)
    have hm2 := ho.cell hm' HNE.out
    have HO := Lib.hid ((hWo.tr (S := fun _ => False) ho (fun i hi e => by omega)))
    have HM2 := Lib.hid hm2
    have X1 := Lib.hid x1
    have X2 := Lib.hid x2
    cases hn : nodeB n with
    | false =>
      have hso : splitOk s = false := by rw [HS.out, hn]; rfl
      obtain ⟨r1, r2, r3⟩ := HP.out
      rw [hso] at r1 r2 r3
      have R := Lib.hid (And.intro r1 (And.intro r2 r3))
      have HN := Lib.hid hn
      clear r1 r2 r3 hso hn x1 x2 hm2
      go_wp2_with fail
      refine (node_any _ _).mono ?_
      rintro e w2 ⟨rfl, rfl⟩
      rw [HN.out]
      go_wp2_with fail
      go_ret3
      rw [R.out.1, R.out.2.1, R.out.2.2]
      exact ⟨rfl, HO.out⟩
    | true =>
      cases hz : namedP z with
      | false =>
        have hso : splitOk s = false := by rw [HS.out, hn, hz]; rfl
        obtain ⟨r1, r2, r3⟩ := HP.out
        rw [hso] at r1 r2 r3
        have R := Lib.hid (And.intro r1 (And.intro r2 r3))
        have HN := Lib.hid hn
        have HZ := Lib.hid hz
        clear r1 r2 r3 hso hn hz x1 x2 hm2
        go_wp2_with fail
        refine (node_any _ _).mono ?_
        rintro e w2 ⟨rfl, rfl⟩
        rw [HN.out]
        go_wp2_with fail
        refine (named_any _ z m HM2.out hex).mono ?_
        rintro e w3 ⟨rfl, ho3⟩
        rw [HZ.out]
        go_wp2_with fail
        go_ret3
        rw [R.out.1, R.out.2.1, R.out.2.2]
        exact ⟨rfl, HO.out.trans ho3⟩
      | true =>
        have hso : splitOk s = true := by rw [HS.out, hn, hz]; rfl
        obtain ⟨r1, r2, r3⟩ := HP.out
        rw [hso] at r1 r2 r3
        have R := Lib.hid (And.intro r1 (And.intro r2 r3))
        have HN := Lib.hid hn
        have HZ := Lib.hid hz
        clear r1 r2 r3 hso hn hz x1 x2 hm2
        go_wp2_with fail
        refine (node_any _ _).mono ?_
        rintro e w2 ⟨rfl, rfl⟩
        rw [HN.out]
        go_wp2_with fail
        refine (named_any _ z m HM2.out hex).mono ?_
        rintro e w3 ⟨rfl, ho3⟩
        rw [HZ.out]
        have d1 := ho3.cell c1 id
        have d2 := ho3.cell c2 id
        clear c1 c2
        go_wp2_with fail
        go_region
        all_goals (
          go_wp2_with fail
          go_ret3
          rw [R.out.1, R.out.2.1, R.out.2.2]
          exact ⟨rfl, (HO.out.trans ho3).drew⟩)
end Go.Proofs.YtbdfijgejkimnaaGreatDoor
/-! record: Life, begin, Good. -/
namespace Go.Proofs.YtbdfijgejkimnaaGreatDoor
open Go.Conc Go.RowKit

theorem ret_int2 {k1 k2 : IntKind} {a b c d : Int} (h : a = b) (g : c = d) : Ending.returned (.tuple #[.int k1 a, .int k2 c]) = .returned (.tuple #[.int k1 b, .int k2 d]) := by rw [h, g]
theorem life_any (w : World) (ver : Nat) (hv : ver < 2 ^ 64) : Calls Tryz.prog 89 #[.int .u64 ver] w fun e w' => e = .returned (.tuple #[.int .u32 (ver / 2 ^ 32 : Nat), .int .u32 (ver % 2 ^ 32 : Nat)]) ∧ w = w' := by
  have HV := Lib.hid hv
  have h0 : (0 : Int) ≤ (ver : Int) := by omega
  clear hv
  go_enter Tryz.func89, Tryz.ntmps89
  go_wp2_with fail
  go_ret2
  have := HV.out
  exact ⟨ret_int2 (by omega) (by omega), rfl⟩

theorem six_set {w : World} {b : Nat} {t : TypeId} {a0 a1 a2 a3 a4 a5 : Value} (h : w.heap[b]? = some (.cells #[a0, a1, a2, a3, a4, a5] t (0, 0))) (u0 u1 u2 u3 u4 u5 : Value) :
    ((((((w.setCell ⟨b, 0, none⟩ u0).setCell ⟨b, 1, none⟩ u1).setCell ⟨b, 2, none⟩ u2).setCell ⟨b, 3, none⟩ u3).setCell ⟨b, 4, none⟩ u4).setCell ⟨b, 5, none⟩ u5).heap[b]? = some (.cells #[u0, u1, u2, u3, u4, u5] t (0, 0)) ∧
      Only (fun x => x = b) w ((((((w.setCell ⟨b, 0, none⟩ u0).setCell ⟨b, 1, none⟩ u1).setCell ⟨b, 2, none⟩ u2).setCell ⟨b, 3, none⟩ u3).setCell ⟨b, 4, none⟩ u4).setCell ⟨b, 5, none⟩ u5) :=
  ⟨set_at (set_at (set_at (set_at (set_at (set_at h 0 u0) 1 u1) 2 u2) 3 u3) 4 u4) 5 u5,
    (((((((Only.refl (fun x => x = b) w).setCell (p := ⟨b, 0, none⟩) (.inr rfl) u0).setCell (p := ⟨b, 1, none⟩) (.inr rfl) u1).setCell (p := ⟨b, 2, none⟩) (.inr rfl) u2).setCell (p := ⟨b, 3, none⟩) (.inr rfl) u3).setCell (p := ⟨b, 4, none⟩) (.inr rfl) u4).setCell (p := ⟨b, 5, none⟩) (.inr rfl) u5)⟩
def beginE (o : Int) (name : ByteArray) (ver : Nat) : Int := if keyE o name ≠ 0 then keyE o name else if ver / 2 ^ 32 = 0 then 11 else 0
def recV (key : ByteArray) (ver : Nat) (o age : Int) (gone : Bool) (data : ByteArray) : Value := .agg #[.string key, .int .u64 ver, .int .i64 o, .int .i64 age, .bool gone, .string data]
def rec0 : Value := .agg #[.string ⟨#[]⟩, .int .u64 0, .int .i64 0, .int .i64 0, .bool false, .string ⟨#[]⟩]
def beginV (o : Int) (name : ByteArray) (ver : Nat) : Value := if beginE o name ver = 0 then recV (keyS o name) ver o 0 false ⟨#[]⟩ else rec0
end Go.Proofs.YtbdfijgejkimnaaGreatDoor
/-! record: Good. -/
namespace Go.Proofs.YtbdfijgejkimnaaGreatDoor
open Go.Conc Go.RowKit

def goodP (key : ByteArray) (ver : Nat) (o age : Int) (gone : Bool) (data : ByteArray) : Bool :=
  (splitE key == 0) && (splitN key == o) && decide (0 < ver / 2 ^ 32) && decide (0 ≤ age) && decide (age ≤ 65535) && decide (data.size = if gone then 0 else 10)
set_option maxRecDepth 100000 in
set_option maxHeartbeats 2000000 in
theorem good_any (w : World) (key : ByteArray) (ver : Nat) (o age : Int) (gone : Bool) (data : ByteArray) (m : Int) (hm : w.cell? ⟨0, 0, none⟩ = some (.int .i64 m)) (hv : ver < 2 ^ 64) (hk : key.size ≤ 1000000) :
    Calls Tryz.prog 47 #[.agg #[.string key, .int .u64 ver, .int .i64 o, .int .i64 age, .bool gone, .string data]] w fun e w' => e = .returned (.bool (goodP key ver o age gone data)) ∧ Only (fun _ => False) w w' := by
  have hB := heap_alloc_new w (.cells #[.string key, .int .u64 ver, .int .i64 o, .int .i64 age, .bool gone, .string data] 69)
  have HB := Lib.hid hB
  have HM := Lib.hid hm
  have HV := Lib.hid hv
  have HG := Lib.hid (show goodP key ver o age gone data = ((splitE key == 0) && (splitN key == o) && decide (0 < ver / 2 ^ 32) && decide (0 ≤ age) && decide (age ≤ 65535) && decide (data.size = if gone then 0 else 10)) from rfl)
  clear hB hm hv
  go_enter Tryz.func47, Tryz.ntmps47
  go_wp2_with fail
  refine (split_any _ key m (((Only.refl (fun _ => False) w).alloc _).cell HM.out id) hk).mono ?_
  rintro e w1 ⟨rfl, ho1⟩
  have hb1 := ho1.old HB.out id
  have HO := Lib.hid (((Only.refl (fun _ => False) w).alloc _).trans ho1)
  have c0 : w1.cell? ⟨w.heap.size, 0, none⟩ = some (.string key) := cell_at hb1 0
  have c1 : w1.cell? ⟨w.heap.size, 1, none⟩ = some (.int .u64 ver) := cell_at hb1 1
  have c2 : w1.cell? ⟨w.heap.size, 2, none⟩ = some (.int .i64 o) := cell_at hb1 2
  have c3 : w1.cell? ⟨w.heap.size, 3, none⟩ = some (.int .i64 age) := cell_at hb1 3
  have c4 : w1.cell? ⟨w.heap.size, 4, none⟩ = some (.bool gone) := cell_at hb1 4
  have c5 : w1.cell? ⟨w.heap.size, 5, none⟩ = some (.string data) := cell_at hb1 5
  clear ho1 hb1
  generalize splitE key = E at *
  generalize splitN key = Nn at *
  generalize splitS key = Ss at *
  go_wp2_with fail
  refine (life_any _ ver HV.out).mono ?_
  rintro e w2 ⟨rfl, rfl⟩
  generalize ver / 2 ^ 32 = L at *
  cases gone with
  | true =>
    go_wp2_with fail
    all_goals (
      go_ret
      refine ⟨ret_bool ?_, HO.out⟩
      rw [HG.out, Bool.eq_iff_iff]
      simp
      try omega)
  | false =>
    go_wp2_with fail
    all_goals (
      go_ret
      refine ⟨ret_bool ?_, HO.out⟩
      rw [HG.out, Bool.eq_iff_iff]
      simp
      try omega)
end Go.Proofs.YtbdfijgejkimnaaGreatDoor
