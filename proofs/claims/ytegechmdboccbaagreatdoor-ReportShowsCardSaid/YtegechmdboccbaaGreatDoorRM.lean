/- bellhoplaw29: config, speaks. -/
import Derived.Test.YtegechmdboccbaaGreatDoorRA
import Derived.Lib.Builder
import Derived.Lib.UnsafeStr
import Derived.Laws.Externs
import Derived.Lib.ItoaNum
import Derived.Test.YtegechmdboccbaaGreatDoorRB
import Derived.Test.YtegechmdboccbaaGreatDoorShelf
import Derived.Lib.ItoaLen
import Derived.Test.YtegechmdboccbaaGreatDoorRL
/-! strings.Builder that a call made: WriteString, String. -/
namespace Go.Proofs.YtegechmdboccbaaGreatDoor
open Go.Conc Go.RowKit

def bdcells (l : List UInt8) : List Value := l.map fun b => .int .u8 b.toNat
theorem bdcells_append (l m : List UInt8) : bdcells (l ++ m) = bdcells l ++ bdcells m := List.map_append
theorem bdcells_length (l : List UInt8) : (bdcells l).length = l.length := List.length_map _
theorem bdcells_one (l : List UInt8) : ∀ u ∈ bdcells l, u.oneCell' = true := by
  intro u hu
  obtain ⟨b, _, rfl⟩ := List.mem_map.1 hu
  rfl
/-- A Builder: its block b, its bytes; S: the blocks that its calls may change. -/
def BdAt (w : World) (b base : Nat) (S : Nat → Prop) (l : List UInt8) : Prop :=
  ∃ p v, w.heap[b]? = some (.cells #[p, v] 46 (0, 0)) ∧ (p = .pointer none ∨ p = .pointer (some ⟨b, 0, none⟩)) ∧ w.ownsRow base 5 1 v l.length (bdcells l) ∧ ∀ x, S x ↔ (x = b ∨ v.ownBlock = some x)
def BdPost (w w' : World) (b base : Nat) (S : Nat → Prop) (l : List UInt8) : Prop :=
  ∃ S', Only S w w' ∧ BdAt w' b base S' l ∧ ∀ x, S' x → S x ∨ w.heap.size ≤ x
theorem BdPost.refl {w : World} {b base : Nat} {S : Nat → Prop} {l : List UInt8} (h : BdAt w b base S l) : BdPost w w b base S l := ⟨S, Only.refl _ _, h, fun _ h => .inl h⟩
theorem BdAt.lt {w : World} {b base : Nat} {S : Nat → Prop} {l : List UInt8} (h : BdAt w b base S l) : ∀ x, S x → x < w.heap.size := by
  obtain ⟨p, v, hb, _, hown, hS⟩ := h
  intro x hx
  rcases (hS x).1 hx with rfl | e
  · exact lt_of_block hb
  · exact (hown.lt x e).2
theorem BdPost.trans {a w w' : World} {b base : Nat} {S : Nat → Prop} {l m : List UInt8} (h : BdPost a w b base S l) (k : ∀ S', BdAt w b base S' l → BdPost w w' b base S' m) : BdPost a w' b base S m := by
  obtain ⟨S', h1, h2, h3⟩ := h
  obtain ⟨S2, k1, k2, k3⟩ := k S' h2
  refine ⟨S2, h1.tr k1 (fun i hi x => (h3 i x).elim id (fun y => absurd hi (by omega))), k2, fun x hx => ?_⟩
  rcases k3 x hx with y | y
  · exact h3 x y
  · exact .inr (Nat.le_trans h1.size y)
theorem bsizeBuilder : (Tryz.prog.info? 46).map (·.size) = some 2 := by kernel_rfl
theorem bliesBuilder : liesAt Tryz.prog Tryz.prog.depth 46 (2 / Tryz.prog.cellsOf 46) 0 46 1 = true := by kernel_rfl
theorem binfoByte : (Tryz.prog.info? 5).map (fun i => (i.zero, i.size, i.bytes)) = some (some (.int .u8 0), 1, 1) := by kernel_rfl

set_option maxRecDepth 100000 in
theorem bcc_any (w : World) (b : Nat) (p v : Value) (hb : w.heap[b]? = some (.cells #[p, v] 46 (0, 0))) (hp : p = .pointer none ∨ p = .pointer (some ⟨b, 0, none⟩)) :
    Calls Tryz.prog 30 #[.pointer (some ⟨b, 0, none⟩)] w fun e w' => e = .returned (.tuple #[]) ∧ Only (fun x => x = b) w w' ∧ w'.heap[b]? = some (.cells #[.pointer (some ⟨b, 0, none⟩), v] 46 (0, 0)) := by
  obtain ⟨j, hj, hjs⟩ := Option.map_eq_some_iff.1 bsizeBuilder
  have h0 : w.cell? ⟨b, 0, none⟩ = some p := cell_at hb 0
  have hfz := free_at hb 0
  have hsh : w.shape? b = some (46, 2) := by simp [World.shape?, hb]
  rcases hp with rfl | rfl
  · go_enter Tryz.func30, Tryz.ntmps30
    go_wp2
    rw [Lib.run_to_unsafe w ⟨b, 0, none⟩ Tryz.underlying44 Tryz.underlying110 hj (by rw [hjs]; decide) hsh (Nat.zero_lt_succ 1)]
    simp only [Result.andThen]
    rw [Oper.upon_value]
    go_wp2
    rw [run_callFunc_extern Tryz.func47 (by kernel_rfl) (by kernel_rfl) (by kernel_rfl) (e := Extern.AbiNoEscape.same) (by kernel_rfl)]
    rw [Lib.run_noEscape]
    simp only [Result.andThen]
    rw [Oper.upon_value]
    go_wp2
    rw [Lib.run_from_unsafe w ⟨b, 0, none⟩ Tryz.underlying110 Tryz.underlying44 hj hsh bliesBuilder]
    simp only [Result.andThen]
    rw [Oper.upon_value]
    go_wp2
    go_end0
    refine ⟨rfl, (Only.refl _ _).setCell (S := fun x => x = b) (p := ⟨b, 0, none⟩) (.inr rfl) _, ?_⟩
    exact set_at hb 0 _
  · go_enter Tryz.func30, Tryz.ntmps30
    go_wp2
    rw [Lib.run_neq_ptr_same w _ Tryz.underlying44 hj]
    go_wp2
    go_end0
    exact ⟨rfl, Only.refl _ _, hb⟩

theorem BdAt.kept {S T : Nat → Prop} {w w' : World} {b base : Nat} {l : List UInt8} (h : BdAt w b base S l) (ho : Only T w w') (hn : ∀ x, S x → ¬ T x) : BdAt w' b base S l := by
  obtain ⟨p, v, hb, hp, hown, hS⟩ := h
  exact ⟨p, v, ho.old hb (hn b ((hS b).2 (.inl rfl))), hp, owns_kept hown ho (fun k hk => hn k ((hS k).2 (.inr hk))), hS⟩
/-- Behind an append whose result is stored back. -/
theorem BdPost.put {w w1 w2 : World} {b base : Nat} {S : Nat → Prop} {m : List UInt8} {v v' : Value} (ho1 : Only (fun x => x = b) w w1) (hb1 : w1.heap[b]? = some (.cells #[.pointer (some ⟨b, 0, none⟩), v] 46 (0, 0)))
    (hS : ∀ x, S x ↔ (x = b ∨ v.ownBlock = some x)) (hne : v.ownBlock ≠ some b) (hown' : w2.ownsRow base 5 1 v' m.length (bdcells m)) (ho2 : Only (fun x => v.ownBlock = some x) w1 w2)
    (hv : ∀ k, v'.ownBlock = some k → v.ownBlock = some k ∨ w1.heap.size ≤ k) : BdPost w (w2.setCell ⟨b, 1, none⟩ v') b base S m := by
  have hb2 := ho2.old hb1 hne
  have hne' : v'.ownBlock ≠ some b := fun e => by
    rcases hv b e with h | h
    · exact hne h
    · exact absurd (lt_of_block hb1) (by omega)
  refine ⟨fun x => x = b ∨ v'.ownBlock = some x, ?_, ⟨_, v', set_at hb2 1 _, .inr rfl, owns_kept hown' ((Only.refl _ _).setCell (S := fun x => x = b) (p := ⟨b, 1, none⟩) (.inr rfl) _) (fun k hk e => hne' (e ▸ hk)), fun x => Iff.rfl⟩, ?_⟩
  · have h1 : Only S w w1 := ho1.weaken (fun k _ e => (hS k).2 (.inl e))
    have h2 : Only S w1 w2 := ho2.weaken (fun k _ e => (hS k).2 (.inr e))
    exact (h1.trans h2).setCell (p := ⟨b, 1, none⟩) (.inr ((hS b).2 (.inl rfl))) _
  · rintro x (rfl | hx)
    · exact .inl ((hS x).2 (.inl rfl))
    · rcases hv x hx with h | h
      · exact .inl ((hS x).2 (.inr h))
      · exact .inr (Nat.le_trans ho1.size h)
theorem BdAt.ne {w : World} {b base n : Nat} {p v : Value} {xs : List Value} (hb : w.heap[b]? = some (.cells #[p, v] 46 (0, 0))) (hown : w.ownsRow base 5 1 v n xs) : v.ownBlock ≠ some b := by
  intro e
  rcases hown.2 with ⟨h2, _⟩ | ⟨g, cap, cur, rfl, _, hg, _⟩
  · subst h2; simp [Value.ownBlock] at e
  · simp [Value.ownBlock] at e
    subst e
    rw [hb] at hg
    simp at hg

set_option maxRecDepth 100000 in
set_option maxHeartbeats 1000000 in
theorem bws_any (w : World) (b base : Nat) (S : Nat → Prop) (l : List UInt8) (s : ByteArray) (h : BdAt w b base S l) (hl : l.length ≤ 1000000000) (hs : s.size ≤ 1000000000) (hbase : base ≤ w.heap.size) :
    Calls Tryz.prog 11 #[.pointer (some ⟨b, 0, none⟩), .string s] w fun e w' => e = .returned (.tuple #[.int .i64 s.size, .nilIface]) ∧ BdPost w w' b base S (l ++ s.data.toList) := by
  obtain ⟨i0, hi, hz0, hz1, hz2⟩ := info_parts binfoByte
  obtain ⟨p, v, hb, hp, hown, hS⟩ := h
  have HB := Lib.hid hb
  have HP := Lib.hid hp
  have HS := Lib.hid hS
  clear hb hp hS
  go_enter Tryz.func11, Tryz.ntmps11
  go_wp2_with fail
  refine (bcc_any _ b p v HB.out HP.out).mono ?_
  rintro e w1 ⟨rfl, ho1, hb1⟩
  have hne := BdAt.ne HB.out hown
  have hown1 := owns_kept hown ho1 (fun k hk e => hne (e ▸ hk))
  have c0 : w1.cell? ⟨b, 0, none⟩ = some (.pointer (some ⟨b, 0, none⟩)) := cell_at hb1 0
  have c1 : w1.cell? ⟨b, 1, none⟩ = some v := cell_at hb1 1
  have hsz := ho1.size
  have HNE := Lib.hid hne
  have HB1 := Lib.hid hb1
  clear hne hb1 hown
  go_wp2_with (at_builtin; refine Wait.mk ?_)
  refine Wait.go (wpList_append_src _ rfl (.tmp 12) (.tmp 13) 43 9 rfl base 5 i0 _ 1 1 Tryz.underlying43 hi hz0 hz1 hz2 rfl _ l.length (bdcells l) rfl hown1 _ s.size (bdcells s.data.toList) rfl ?src ?m ?b ?base ?_)
  case src => exact Src.ofString _ Tryz.underlying9 s
  case m => unfold maxLen; omega
  case b => omega
  case base => omega
  intro v' w2 own2 gr2 hv2
  have ho2 : Only (fun x => v.ownBlock = some x) w1 w2 := (Only.refl _ _).grown gr2 (fun k e => .inr e)
  have hb2 := ho2.old HB1.out HNE.out
  have d0 : w2.cell? ⟨b, 0, none⟩ = some (.pointer (some ⟨b, 0, none⟩)) := cell_at hb2 0
  have d1 : w2.cell? ⟨b, 1, none⟩ = some v := cell_at hb2 1
  have f1 := free_at hb2 1
  obtain ⟨va, vc, rfl⟩ : ∃ a c, v' = .slice a (l.length + s.size) c := by obtain ⟨_, a, c, h, _⟩ := Sl.of_owns own2; exact ⟨a, c, h⟩
  have own3 : w2.ownsRow base 5 1 (.slice va (l.length + s.size) vc) (l ++ s.data.toList).length (bdcells (l ++ s.data.toList)) := by
    rw [bdcells_append, List.length_append]
    exact own2
  have HV := Lib.hid hv2
  have OW3 := Lib.hid own3
  clear own2 gr2 hv2 hb2 own3 hown1
  go_wp2_with fail
  go_ret2
  exact ⟨rfl, BdPost.put ho1 HB1.out HS.out HNE.out OW3.out ho2 HV.out⟩

theorem Only.freezeB {S : Nat → Prop} {a w : World} (h : Only S a w) (g n : Nat) (hg : a.heap.size ≤ g ∨ S g) : Only S a (w.freeze ⟨g, 0, none⟩ n) := by
  unfold World.freeze
  split
  · exact h
  · refine ⟨h.os, h.tape, h.output, by simpa using h.size, fun k hk hn => ?_⟩
    have hk2 : g ≠ k := fun e => by subst e; rcases hg with h' | h'; exact absurd hk (by omega); exact hn h'
    rw [← h.block k hk hn]
    simp [Array.getElem?_modify, hk2]
set_option maxRecDepth 100000 in
set_option maxHeartbeats 1000000 in
theorem bbs_any (w : World) (b base : Nat) (S : Nat → Prop) (l : List UInt8) (h : BdAt w b base S l) (h0 : l ≠ []) :
    Calls Tryz.prog 13 #[.pointer (some ⟨b, 0, none⟩)] w fun e w' => e = .returned (.string ⟨l.toArray⟩) ∧ Only S w w' := by
  obtain ⟨p, v, hbk, hp, hown, hS⟩ := h
  have hl0 : l.length ≠ 0 := by simpa using h0
  obtain ⟨g, cap, cur, rfl, hbg, hg, hnc, hcm, hcs, htake⟩ : ∃ g cap cur, v = .slice (some ⟨g, 0, none⟩) l.length cap ∧ base ≤ g ∧ w.heap[g]? = some (.cells cur 5 (0, 0)) ∧ l.length ≤ cap ∧ cap ≤ maxLen ∧ cur.size = cap * 1 ∧ cur.toList.take (l.length * 1) = bdcells l := by
    rcases hown.2 with ⟨_, hz⟩ | ⟨g, cap, cur, hv, r⟩
    · exact absurd hz hl0
    · exact ⟨g, cap, cur, hv, r⟩
  have c1 : w.drew.cell? ⟨b, 1, none⟩ = some (.slice (some ⟨g, 0, none⟩) l.length cap) := by
    have : w.drew.heap[b]? = some (.cells #[p, .slice (some ⟨g, 0, none⟩) l.length cap] 46 (0, 0)) := hbk
    exact cell_at this 1
  have hSD : (Builtin.unsafeSliceData_ #[43] 78 #[.slice (some ⟨g, 0, none⟩) l.length cap]).run Tryz.prog w.drew = .ok (.pointer (some ⟨g, 0, none⟩)) w.drew :=
    Lib.run_unsafeSliceData_row _ _ _ _ _ _ (by omega)
  have hUS : (Builtin.unsafeString_ #[78, 3] 9 #[.pointer (some ⟨g, 0, none⟩), .int .i64 l.length]).run Tryz.prog w.drew = .ok (.string ⟨l.toArray⟩) (w.drew.freeze ⟨g, 0, none⟩ l.length) := by
    refine Lib.run_unsafeString_row w.drew 78 3 9 5 Tryz.underlying78 (by kernel_rfl) g cur.size (by have hg' : w.drew.heap[g]? = some (.cells cur 5 (0, 0)) := hg; simp [World.shape?, hg']) l h0 (by omega) (by unfold maxLen at hcm; omega) ?_
    intro j x hx
    have := hown.cells (g := g) rfl j (.int .u8 x.toNat) (by simp [bdcells, hx])
    exact this
  have HS := Lib.hid hS
  clear hown hS htake hg hbk
  go_enter Tryz.func13, Tryz.ntmps13
  go_wp2
  go_region
  all_goals (go_wp2; go_ret; exact ⟨rfl, ((Only.refl _ _).drew).freezeB g _ (.inr ((HS.out g).2 (.inr rfl)))⟩)
end Go.Proofs.YtegechmdboccbaaGreatDoor
/-! ReportShows: the plain facts of Digits (bellhopref29.Digits n is the numeral of n). -/
namespace Go.Proofs.YtegechmdboccbaaGreatDoor
open Go.Conc Go.RowKit Go.Maps Go.Lib

theorem dec29_small {u : Nat} (h : u < 10) : decDigits u = [UInt8.ofNat (48 + u)] := by rw [decDigits, dif_pos h]
theorem dec29_big {u : Nat} (h : ¬ u < 10) : decDigits u = decDigits (u / 10) ++ [UInt8.ofNat (48 + u % 10)] := by rw [decDigits, dif_neg h]
/-- The digits of what is left to write. -/
def restD (k : Int) : List UInt8 := if k = 0 then [] else decDigits k.natAbs
theorem restD_zero : restD 0 = [] := rfl
theorem restD_ne {k : Int} (h : k ≠ 0) : restD k = decDigits k.natAbs := by unfold restD; rw [if_neg h]
/-- One step of the loop: the last digit goes ahead of what was written. -/
theorem restD_step {k : Int} (hk : k ≠ 0) : restD k = restD (k.tdiv 10) ++ [UInt8.ofNat (48 + k.natAbs % 10)] := by
  have h1 : (k.tdiv 10).natAbs = k.natAbs / 10 := by rw [Int.natAbs_tdiv]; rfl
  rw [restD_ne hk]
  by_cases h : k.natAbs < 10
  · have h0 : k.tdiv 10 = 0 := by
      have : (k.tdiv 10).natAbs = 0 := by rw [h1]; omega
      omega
    rw [h0, restD_zero, dec29_small h, Nat.mod_eq_of_lt h]
    rfl
  · have h0 : k.tdiv 10 ≠ 0 := by
      intro e
      have h2 : (k.tdiv 10).natAbs = 0 := by rw [e]; rfl
      rw [h1] at h2
      omega
    rw [dec29_big h, restD_ne h0, h1]
/-- The digit that is written: the rest by ten, without its sign. -/
theorem digit_abs (k : Int) : (if k.tmod 10 < 0 then - (k.tmod 10) else k.tmod 10) = ((k.natAbs % 10 : Nat) : Int) := by
  have h : (k.tmod 10).natAbs = k.natAbs % 10 := by rw [Int.natAbs_tmod]; rfl
  rw [← h]
  split <;> omega
theorem tdiv_less {k : Int} (hk : k ≠ 0) : (k.tdiv 10).natAbs < k.natAbs := by
  have h1 : (k.tdiv 10).natAbs = k.natAbs / 10 := by rw [Int.natAbs_tdiv]; rfl
  rw [h1]
  omega
theorem itoa_rest {n : Int} (h : n ≠ 0) : itoa n = if n < 0 then 45 :: restD n else restD n := by
  rw [restD_ne h]
  unfold itoa
  by_cases h0 : n < 0
  · rw [if_pos h0, if_pos h0]
  · rw [if_neg h0, if_neg h0, show n.toNat = n.natAbs by omega]
end Go.Proofs.YtegechmdboccbaaGreatDoor
/-! report.Report.Show: any report's lines. -/
namespace Go.Proofs.YtegechmdboccbaaGreatDoor
open Go.Conc Go.RowKit Go.Lib

theorem varOnly {P : Program} {w w' : World} (ho : Only (fun _ => False) w w') {n : String} {cs : Array Value} (h : w.var? P n = some cs) : w'.var? P n = some cs := by
  unfold World.var? at h ⊢
  rw [Option.bind_eq_some_iff] at h ⊢
  obtain ⟨g, hg, h⟩ := h
  refine ⟨g, hg, ?_⟩
  split at h
  · rename_i cs' t f hb
    rw [ho.old hb id]
    exact h
  · cases h
theorem onlyGrowR (w : World) (k : Nat) (os : Array Obj) : Only (fun _ => False) w (Sort.grow (w.drewN k) os) :=
  ⟨rfl, rfl, rfl, by rw [Sort.size_grow]; exact Nat.le_add_right _ _, fun i hi _ => by
    show (w.heap ++ os)[i]? = w.heap[i]?
    rw [Array.getElem?_append_left hi]⟩
/-- The table that strconv reads. -/
def TabW (w : World) : Prop := Lib.TabIs Tryz.prog w "internal/strconv.uint64pow10" .u64 Lib.pow10Tab
theorem TabW.new {w w' : World} (h : TabW w) (ho : Only (fun _ => False) w w') : TabW w' := varOnly ho h
theorem itoaW_any (w : World) (n : Int) (h : TabW w) (h0 : -9223372036854775808 ≤ n) (h1 : n ≤ 9223372036854775807) : Calls Tryz.prog 12 #[.int .i64 n] w fun e w' => e = .returned (.string ⟨(Lib.itoa n).toArray⟩) ∧ Only (fun _ => False) w w' := by
  refine (Tryz.strconv_Itoa n h0 h1 w h).mono ?_
  rintro e w' ⟨rfl, k, os, rfl⟩
  exact ⟨rfl, onlyGrowR w k os⟩
def wordsR : List (List UInt8) := [[108, 105, 118, 101, 32], [108, 111, 110, 101, 108, 121, 32], [108, 111, 112, 115, 105, 100, 101, 100, 32], [112, 97, 114, 116, 115, 32], [107, 101, 121, 115, 32], [98, 101, 104, 105, 110, 100, 32], [111, 110, 119, 97, 121, 32], [114, 101, 102, 117, 115, 101, 100, 32]]
def lineR (ns : List Int) (k : Nat) : List UInt8 := wordsR.getD k [] ++ Lib.itoa (ns.getD k 0) ++ [10]
def showR (ns : List Int) : Nat → List UInt8
  | 0 => []
  | k + 1 => showR ns k ++ lineR ns k
theorem wordsR_len (k : Nat) : (wordsR.getD k []).length ≤ 9 := by
  by_cases hk : k < 8
  · rcases (by omega : k = 0 ∨ k = 1 ∨ k = 2 ∨ k = 3 ∨ k = 4 ∨ k = 5 ∨ k = 6 ∨ k = 7) with rfl | rfl | rfl | rfl | rfl | rfl | rfl | rfl <;> decide
  · rw [List.getD_eq_getElem?_getD, List.getElem?_eq_none (by simp [wordsR]; omega)]
    decide
theorem getD_range {ns : List Int} (h : ∀ x ∈ ns, -9223372036854775808 ≤ x ∧ x ≤ 9223372036854775807) (k : Nat) : -9223372036854775808 ≤ ns.getD k 0 ∧ ns.getD k 0 ≤ 9223372036854775807 := by
  rw [List.getD_eq_getElem?_getD]
  by_cases hk : k < ns.length
  · rw [List.getElem?_eq_getElem hk]
    exact h _ (List.getElem_mem _)
  · rw [List.getElem?_eq_none (by omega)]
    exact ⟨by decide, by decide⟩
theorem showR_len (ns : List Int) (h : ∀ x ∈ ns, -9223372036854775808 ≤ x ∧ x ≤ 9223372036854775807) : ∀ k, k ≤ 8 → (showR ns k).length ≤ 40 * k
  | 0, _ => Nat.zero_le _
  | k + 1, hk => by
    have h1 := showR_len ns h k (by omega)
    have h2 := wordsR_len k
    have h3 := itoa_length_le _ (getD_range h k).1 (getD_range h k).2
    simp only [showR, lineR, List.length_append, List.length_cons, List.length_nil]
    omega
theorem BdPost.step {V w1 w2 : World} {b base : Nat} {S : Nat → Prop} {l : List UInt8} (h : BdPost V w1 b base S l) (ho : Only (fun _ => False) w1 w2) : BdPost V w2 b base S l := by
  obtain ⟨S', h1, h2, h3⟩ := h
  exact ⟨S', h1.trans (ho.weaken (fun _ _ => False.elim)), h2.kept ho (fun _ _ => id), h3⟩
theorem bws_post {V w1 : World} {b base : Nat} {S : Nat → Prop} {l : List UInt8} (h : BdPost V w1 b base S l) (m : List UInt8) (hl : l.length ≤ 1000000000) (hs : m.length ≤ 1000000000) (hbase : base ≤ V.heap.size) :
    Calls Tryz.prog 11 #[.pointer (some ⟨b, 0, none⟩), .string ⟨m.toArray⟩] w1 fun e w' => e = .returned (.tuple #[.int .i64 m.length, .nilIface]) ∧ BdPost V w' b base S (l ++ m) := by
  obtain ⟨S', h1, h2, h3⟩ := h
  refine (bws_any w1 b base S' l ⟨m.toArray⟩ h2 hl (by show m.toArray.size ≤ _; simpa using hs) (Nat.le_trans hbase h1.size)).mono ?_
  rintro e w' ⟨rfl, hp⟩
  exact ⟨rfl, BdPost.trans ⟨S', h1, h2, h3⟩ (fun S2 h4 => by
    have e1 : S2 = S' := funext fun x => propext (by
      obtain ⟨p, v, hb, _, _, hS⟩ := h2
      obtain ⟨p', v', hb', _, _, hS'⟩ := h4
      rw [hb] at hb'
      injection hb' with hb'
      injection hb' with hb' _ _
      obtain ⟨-, rfl⟩ : p = p' ∧ v = v' := by simpa using hb'
      rw [hS, hS'])
    subst e1
    exact hp)⟩
theorem bbs_post {V w1 : World} {b base : Nat} {S : Nat → Prop} {l : List UInt8} (h : BdPost V w1 b base S l) (h0 : l ≠ []) :
    Calls Tryz.prog 13 #[.pointer (some ⟨b, 0, none⟩)] w1 fun e w' => e = .returned (.string ⟨l.toArray⟩) ∧ ∃ S', Only S' V w' ∧ ∀ x, S' x → S x ∨ V.heap.size ≤ x := by
  obtain ⟨S', h1, h2, h3⟩ := h
  refine (bbs_any w1 b base S' l h2 h0).mono ?_
  rintro e w' ⟨rfl, hp⟩
  exact ⟨rfl, fun x => S x ∨ S' x, (h1.weaken (fun _ _ => .inl)).trans (hp.weaken (fun _ _ => .inr)), fun x hx => hx.elim .inl (h3 x)⟩
def repA (ns : List Int) : Array Value := (ns.map (Value.int .i64)).toArray
set_option maxRecDepth 100000 in
set_option maxHeartbeats 4000000 in
theorem show_any (w : World) (n0 n1 n2 n3 n4 n5 n6 n7 : Int) (hr : ∀ x ∈ [n0, n1, n2, n3, n4, n5, n6, n7], -9223372036854775808 ≤ x ∧ x ≤ 9223372036854775807) (ht : TabW w) :
    Calls Tryz.prog 6 #[.agg #[.int .i64 n0, .int .i64 n1, .int .i64 n2, .int .i64 n3, .int .i64 n4, .int .i64 n5, .int .i64 n6, .int .i64 n7]] w fun e w' => e = .returned (.string ⟨(showR [n0, n1, n2, n3, n4, n5, n6, n7] 8).toArray⟩) ∧ Only (fun _ => False) w w' := by
  obtain ⟨ns, hNS⟩ : ∃ ns, ns = [n0, n1, n2, n3, n4, n5, n6, n7] := ⟨_, rfl⟩
  rw [← hNS]
  rw [← hNS] at hr
  have HNS := Lib.hid hNS
  clear hNS
  obtain ⟨W, hW⟩ : ∃ W, W = w.alloc (.cells #[.int .i64 n0, .int .i64 n1, .int .i64 n2, .int .i64 n3, .int .i64 n4, .int .i64 n5, .int .i64 n6, .int .i64 n7] 25) := ⟨_, rfl⟩
  have hbW : W.heap[w.heap.size]? = some (.cells #[.int .i64 n0, .int .i64 n1, .int .i64 n2, .int .i64 n3, .int .i64 n4, .int .i64 n5, .int .i64 n6, .int .i64 n7] 25 (0, 0)) := by rw [hW]; exact heap_alloc_new w _
  have hoW : Only (fun _ => False) w W := by rw [hW]; exact (Only.refl _ _).alloc _
  have hsW : W.heap.size = w.heap.size + 1 := by rw [hW]; simp
  obtain ⟨V, hV⟩ : ∃ V, V = W.alloc (.cells #[.pointer none, .slice none 0 0] 46) := ⟨_, rfl⟩
  have hbV : V.heap[W.heap.size]? = some (.cells #[.pointer none, .slice none 0 0] 46 (0, 0)) := by rw [hV]; exact heap_alloc_new W _
  have hoV : Only (fun _ => False) W V := by rw [hV]; exact (Only.refl _ _).alloc _
  have hsV : V.heap.size = W.heap.size + 1 := by rw [hV]; simp
  have hoA := hoW.trans hoV
  have hbX := hoV.old hbW id
  have z0 : V.cell? ⟨w.heap.size, 0, none⟩ = some (.int .i64 n0) := cell_at hbX 0
  have z1 : V.cell? ⟨w.heap.size, 1, none⟩ = some (.int .i64 n1) := cell_at hbX 1
  have z2 : V.cell? ⟨w.heap.size, 2, none⟩ = some (.int .i64 n2) := cell_at hbX 2
  have z3 : V.cell? ⟨w.heap.size, 3, none⟩ = some (.int .i64 n3) := cell_at hbX 3
  have z4 : V.cell? ⟨w.heap.size, 4, none⟩ = some (.int .i64 n4) := cell_at hbX 4
  have z5 : V.cell? ⟨w.heap.size, 5, none⟩ = some (.int .i64 n5) := cell_at hbX 5
  have z6 : V.cell? ⟨w.heap.size, 6, none⟩ = some (.int .i64 n6) := cell_at hbX 6
  have z7 : V.cell? ⟨w.heap.size, 7, none⟩ = some (.int .i64 n7) := cell_at hbX 7
  have hB0 : BdAt V W.heap.size 0 (fun x => x = W.heap.size) [] := ⟨_, _, hbV, .inl rfl, World.ownsRow_nil _ _ _ _, fun x => by simp [Value.ownBlock]⟩
  have hzV := hoV.size
  have hsz : W.heap.size < V.heap.size := by omega
  have HOA := Lib.hid hoA
  have HB0 := Lib.hid hB0
  have HT := Lib.hid ht
  have HR := Lib.hid hr
  have HSV := Lib.hid hsV
  have HSW := Lib.hid hsW
  clear hoA hB0 ht hr hsV hsW
  clear hbV hbW hoV hoW hbX hzV
  go_enter Tryz.func6, Tryz.ntmps6
  go_upto_region 1 with (fail)
  rw [← hW]
  clear hW
  go_upto_region 2 with (fail)
  rw [← hV]
  clear hV
  go_wp2_with fail
  generalize hB : W.heap.size = b at *
  have HSB := Lib.hid hB
  clear hB
  have hidx : ∀ (k : Nat), k < 8 → ∀ w, (Instr.index 22 (.agg #[.int .i64 n0, .int .i64 n1, .int .i64 n2, .int .i64 n3, .int .i64 n4, .int .i64 n5, .int .i64 n6, .int .i64 n7]) (.int .i64 k)).run Tryz.prog w = .ok (.int .i64 (ns.getD k 0)) w := by
    intro k hk w
    rw [HNS.out]
    rcases (by omega : k = 0 ∨ k = 1 ∨ k = 2 ∨ k = 3 ∨ k = 4 ∨ k = 5 ∨ k = 6 ∨ k = 7) with rfl | rfl | rfl | rfl | rfl | rfl | rfl | rfl <;> kernel_rfl
  have hshow := fun k (hk : k ≤ 8) => showR_len ns HR.out k hk
  have HIX := Lib.hid hidx
  have HSL := Lib.hid hshow
  clear hidx hshow
  clear z0 z1 z2 z3 z4 z5 z6 z7
  go_loopg [24] 8 (fun g v24 wr => ∃ (k : Nat), v24 = .int .i64 k ∧ k ≤ 8 ∧ BdPost V wr b 0 (fun x => x = b) (showR ns k) ∧ g = 8 - k)
  case atStart => exact ⟨0, rfl, Nat.zero_le _, BdPost.refl HB0.out, rfl⟩
  case round =>
    obtain ⟨k, rfl, hk, hbp, hg⟩ := hrel
    by_cases hlt : k < 8
    · have hlt' : (k : Int) < 8 := by omega
      have hx := HIX.out k hlt
      obtain ⟨nk, hnk⟩ : ∃ nk, nk = ns.getD k 0 := ⟨_, rfl⟩
      have hnr := getD_range HR.out k
      rw [← hnk] at hnr hx
      have hsl := HSL.out k hk
      have hst : showR ns (k + 1) = showR ns k ++ wordsR.getD k [] ++ Lib.itoa nk ++ [10] := by rw [hnk]; simp [showR, lineR]
      have hil := itoa_length_le nk hnr.1 hnr.2
      have HBP := Lib.hid hbp
      have Hg := Lib.hid hg
      have HST := Lib.hid hst
      have HNR := Lib.hid hnr
      have HIL := Lib.hid hil
      have HSLK := Lib.hid hsl
      clear hbp hg hst hnr hil hsl
      clear hnk
      go_upto_region 6 with (fail)
      obtain ⟨W6, hW6⟩ : ∃ W6, W6 = wr.alloc (.cells #[.string ⟨#[108, 105, 118, 101, 32]⟩, .string ⟨#[108, 111, 110, 101, 108, 121, 32]⟩, .string ⟨#[108, 111, 112, 115, 105, 100, 101, 100, 32]⟩, .string ⟨#[112, 97, 114, 116, 115, 32]⟩, .string ⟨#[107, 101, 121, 115, 32]⟩, .string ⟨#[98, 101, 104, 105, 110, 100, 32]⟩, .string ⟨#[111, 110, 119, 97, 121, 32]⟩, .string ⟨#[114, 101, 102, 117, 115, 101, 100, 32]⟩] 47) := ⟨_, rfl⟩
      have hbW6 : W6.heap[wr.heap.size]? = some (.cells #[.string ⟨#[108, 105, 118, 101, 32]⟩, .string ⟨#[108, 111, 110, 101, 108, 121, 32]⟩, .string ⟨#[108, 111, 112, 115, 105, 100, 101, 100, 32]⟩, .string ⟨#[112, 97, 114, 116, 115, 32]⟩, .string ⟨#[107, 101, 121, 115, 32]⟩, .string ⟨#[98, 101, 104, 105, 110, 100, 32]⟩, .string ⟨#[111, 110, 119, 97, 121, 32]⟩, .string ⟨#[114, 101, 102, 117, 115, 101, 100, 32]⟩] 47 (0, 0)) := by rw [hW6]; exact heap_alloc_new wr _
      have hoW6 : Only (fun _ => False) wr W6 := by rw [hW6]; exact (Only.refl _ _).alloc _
      have hsW6 : W6.heap.size = wr.heap.size + 1 := by rw [hW6]; simp
      rw [← hW6]
      have hwd : W6.cell? ⟨wr.heap.size, k, none⟩ = some (.string ⟨(wordsR.getD k []).toArray⟩) := by
        rw [cell_at hbW6 k]
        rcases (by omega : k = 0 ∨ k = 1 ∨ k = 2 ∨ k = 3 ∨ k = 4 ∨ k = 5 ∨ k = 6 ∨ k = 7) with rfl | rfl | rfl | rfl | rfl | rfl | rfl | rfl <;> rfl
      obtain ⟨wd, hwd2⟩ : ∃ wd, wd = wordsR.getD k [] := ⟨_, rfl⟩
      have hwdl : wd.length ≤ 9 := by rw [hwd2]; exact wordsR_len k
      rw [← hwd2] at hwd
      obtain ⟨sk, hsk⟩ : ∃ sk, sk = showR ns k := ⟨_, rfl⟩
      have hskl : sk.length ≤ 400 := by rw [hsk]; have := HSLK.out; omega
      have hbp6 := HBP.out.step hoW6
      rw [← hsk] at hbp6
      have h1 := bws_post hbp6 wd (by omega) (by omega) (Nat.zero_le _)
      have HW2 := Lib.hid hwd2
      have HSK := Lib.hid hsk
      have H1 := Lib.hid h1
      clear hwd2 hsk h1
      clear hbp6 hW6 hbW6 hoW6 hsW6
      go_wp2_with fail
      refine H1.out.mono ?_
      rintro e w7 ⟨rfl, hp7⟩
      have ht7 : TabW w7 := HT.out.new (HOA.out.tr (by obtain ⟨S', q1, _, _⟩ := hp7; exact q1) (fun i hi e => by have := HSW.out; have := HSB.out; omega))
      have h2 := itoaW_any w7 nk ht7 HNR.out.1 HNR.out.2
      have HP7 := Lib.hid hp7
      have H2 := Lib.hid h2
      clear hp7 h2
      clear ht7 hwd
      go_wp2_with fail
      refine H2.out.mono ?_
      rintro e w8 ⟨rfl, ho8⟩
      obtain ⟨it, hit⟩ : ∃ it, it = Lib.itoa nk := ⟨_, rfl⟩
      have hitl : it.length ≤ 21 := by rw [hit]; exact HIL.out
      rw [← hit]
      have h3 := bws_post (HP7.out.step ho8) it (by rw [List.length_append]; omega) (by omega) (Nat.zero_le _)
      have H3 := Lib.hid h3
      have HIT := Lib.hid hit
      clear h3 hit
      clear ho8
      go_wp2_with fail
      refine H3.out.mono ?_
      rintro e w9 ⟨rfl, hp9⟩
      have h4 := bws_post hp9 [10] (by rw [List.length_append, List.length_append]; omega) (by decide) (Nat.zero_le _)
      have H4 := Lib.hid h4
      clear h4
      clear hp9
      go_wp2_with fail
      refine H4.out.mono ?_
      rintro e w10 ⟨rfl, hp10⟩
      have hp11 : BdPost V w10 b 0 (fun x => x = b) (showR ns (k + 1)) := by
        rw [HST.out, ← HW2.out, ← HSK.out, ← HIT.out]
        exact hp10
      have HP11 := Lib.hid hp11
      clear hp11
      clear hp10
      go_wp2_with fail
      go_roundg (8 - (k + 1))
      case measure => rw [Hg.out]; omega
      case rel => exact ⟨k + 1, by go_num, by omega, HP11.out, rfl⟩
    · have hk8 : k = 8 := by omega
      subst hk8
      have h5 := bbs_post hbp (by simp [showR, lineR])
      have H5 := Lib.hid h5
      clear h5
      clear hbp hg
      go_wp2_with fail
      refine H5.out.mono ?_
      rintro e w5 ⟨rfl, S', q1, q2⟩
      have hq : Only (fun _ => False) w w5 := HOA.out.tr q1 (fun i hi e => by have := HSW.out; have := HSB.out; have := HSV.out; rcases q2 i e with h | h <;> omega)
      have HQ := Lib.hid hq
      clear hq
      clear q1 q2
      go_wp2_with fail
      go_ret
      exact ⟨rfl, HQ.out⟩
end Go.Proofs.YtegechmdboccbaaGreatDoor
/-! bellhopref29.Digits: the numeral of any int. -/
namespace Go.Proofs.YtegechmdboccbaaGreatDoor
open Go.Conc Go.RowKit Go.Maps Go.Lib

theorem dec_len : ∀ (k m : Nat), m < 10 ^ (k + 1) → (decDigits m).length ≤ k + 1
  | 0, m, h => by rw [dec29_small (by omega)]; exact Nat.le_refl _
  | k + 1, m, h => by
    by_cases h10 : m < 10
    · rw [dec29_small h10]; show 1 ≤ _; omega
    · rw [dec29_big h10, List.length_append]
      have := dec_len k (m / 10) (by rw [Nat.pow_succ] at h; omega)
      show _ + 1 ≤ _
      omega
theorem restD_len {k : Int} (h0 : -9223372036854775808 ≤ k) (h1 : k ≤ 9223372036854775807) : (restD k).length ≤ 19 := by
  unfold restD
  split
  · exact Nat.zero_le _
  · exact dec_len 18 _ (by omega)
theorem cv29 (W : World) (z : Int) : (convert 43 9 (.slice (some ⟨W.heap.size, 0, none⟩) 1 1)).run Tryz.prog (W.alloc (.cells #[.int .u8 z] 5)) = .ok (.string (bytesOf [z])) (W.alloc (.cells #[.int .u8 z] 5)) := by
  have h := Sl.fresh W ([z].map (.int .u8)) 5 1 1 rfl (by unfold maxLen; decide)
  exact run_bytes_str (P := Tryz.prog) (src := 43) (dst := 9) (e := 5) (ns := [z]) Tryz.underlying43 Tryz.underlying5 Tryz.underlying9 h
theorem digit_cat (d : Nat) (s : List UInt8) : bytesOf [48 + (d : Int)] ++ (⟨s.toArray⟩ : ByteArray) = ⟨(UInt8.ofNat (48 + d) :: s).toArray⟩ := by
  rw [show 48 + (d : Int) = ((48 + d : Nat) : Int) by omega]
  apply str_ext
  rw [ByteArray.data_append, Array.toList_append]
  rfl
set_option maxRecDepth 100000 in
set_option maxHeartbeats 2000000 in
theorem rdigits_any (w : World) (n : Int) (h0 : -9223372036854775808 ≤ n) (h1 : n ≤ 9223372036854775807) :
    Calls Tryz.prog 5 #[.int .i64 n] w fun e w' => e = .returned (.string ⟨(Lib.itoa n).toArray⟩) ∧ Only (fun _ => False) w w' := by
  have H0 := Lib.hid h0
  have H1 := Lib.hid h1
  by_cases hn : n = 0
  · subst hn
    go_enter Tryz.func5, Tryz.ntmps5
    go_wp2_with fail
    go_ret
    have hz : itoa 0 = [48] := by
      unfold itoa
      rw [if_neg (by decide)]
      exact dec29_small (by decide)
    exact ⟨by rw [hz]; rfl, Only.refl _ _⟩
  have HN := Lib.hid hn
  have e0 : (n == 0) = false := by simp; exact hn
  have HIT := Lib.hid (itoa_rest hn)
  have HRL := Lib.hid (restD_len h0 h1)
  clear hn
  go_enter Tryz.func5, Tryz.ntmps5
  go_wp2_with fail
  go_loopg [3, 4] n.natAbs (fun g v3 v4 wr => ∃ (k : Int) (s : List UInt8), v3 = .string ⟨s.toArray⟩ ∧ v4 = .int .i64 k ∧ restD n = restD k ++ s ∧ -9223372036854775808 ≤ k ∧ k ≤ 9223372036854775807 ∧ Only (fun _ => False) w wr ∧ g = k.natAbs)
  case atStart => exact ⟨n, [], rfl, rfl, by simp, H0.out, H1.out, Only.refl _ _, rfl⟩
  case round =>
    obtain ⟨k, s, rfl, rfl, hs, hk0, hk1, ho, hg⟩ := hrel
    have Hg := Lib.hid hg
    have HO := Lib.hid ho
    clear hg ho
    by_cases hk : k = 0
    · subst hk
      rw [restD_zero, List.nil_append] at hs
      have e1 : ((0 : Int) != 0) = false := by decide
      have HS := Lib.hid hs
      clear hs
      by_cases hneg : n < 0
      · have e2 : decide (n < 0) = true := by simp; exact hneg
        have HI := Lib.hid (show (⟨(Lib.itoa n).toArray⟩ : ByteArray) = ⟨#[45]⟩ ++ ⟨s.toArray⟩ by
          rw [HIT.out, if_pos hneg, HS.out]
          apply str_ext
          rw [ByteArray.data_append, Array.toList_append]
          rfl)
        have hsz : (⟨s.toArray⟩ : ByteArray).size ≤ 19 := by have h := HRL.out; rw [HS.out] at h; simpa [ByteArray.size] using h
        generalize (⟨s.toArray⟩ : ByteArray) = S at *
        have hbig : ¬ 9223372036854775807 < 1 + S.size := by omega
        clear hneg
        go_wp2_with fail
        go_ret
        exact ⟨by rw [HI.out]; rfl, HO.out⟩
      · have e2 : decide (n < 0) = false := by simp; omega
        have HI := Lib.hid (show (⟨(Lib.itoa n).toArray⟩ : ByteArray) = ⟨s.toArray⟩ by rw [HIT.out, if_neg hneg, HS.out])
        clear hneg
        go_wp2_with fail
        go_ret
        exact ⟨by rw [HI.out]; rfl, HO.out⟩
    · have e1 : (k != 0) = true := by simp; exact hk
      have hst := restD_step hk
      have hless := tdiv_less hk
      have hda := digit_abs k
      obtain ⟨q, hq⟩ : ∃ q, q = k.natAbs % 10 := ⟨_, rfl⟩
      have hq10 : q < 10 := by omega
      rw [← hq] at hst hda
      obtain ⟨d, hd⟩ : ∃ d, d = k.tmod 10 := ⟨_, rfl⟩
      rw [← hd] at hda
      have hdr : -10 < d ∧ d < 10 := by split at hda <;> omega
      have hd' : k.tmod 10 = d := hd.symm
      obtain ⟨k2, hk2⟩ : ∃ k2, k2 = k.tdiv 10 := ⟨_, rfl⟩
      rw [← hk2] at hst hless
      have hk2' : k.tdiv 10 = k2 := hk2.symm
      have hsz : (⟨s.toArray⟩ : ByteArray).size ≤ 19 := by
        have h := HRL.out
        rw [hs, List.length_append] at h
        have h3 : (⟨s.toArray⟩ : ByteArray).size = s.length := by simp [ByteArray.size]
        omega
      have HNEW := Lib.hid (show restD n = restD k2 ++ (UInt8.ofNat (48 + q) :: s) by rw [hs, hst]; simp)
      have HCAT := Lib.hid (digit_cat q s)
      have hu8 : IntKind.u8.wrap (48 + (q : Int)) = 48 + (q : Int) := by show (48 + (q : Int)) % 256 = _; omega
      have hw48 : IntKind.i64.wrap (48 + (q : Int)) = 48 + (q : Int) := IntWalk.i64_in _ (by omega)
      have hwk : IntKind.i64.wrap k2 = k2 := IntWalk.i64_in _ (by omega)
      have hwd : IntKind.i64.wrap d = d := IntWalk.i64_in _ (by omega)
      have HB := Lib.hid (show -9223372036854775808 ≤ k2 ∧ k2 ≤ 9223372036854775807 by omega)
      have HLESS := Lib.hid hless
      clear hless
      clear hs hst hq hd hk2
      have hcv := cv29 wr (48 + (q : Int))
      have hDs : (bytesOf [48 + (q : Int)]).size = 1 := rfl
      generalize bytesOf [48 + (q : Int)] = D at *
      generalize (⟨s.toArray⟩ : ByteArray) = S at *
      have hbig : ¬ 9223372036854775807 < D.size + S.size := by omega
      have HDA := Lib.hid hda
      clear hda
      go_upto_if 16 with (fail)
      go_cut [5] (fun v wx => v = .int .i64 (q : Nat) ∧ wr = wx)
      case first =>
        have hda := HDA.out
        by_cases hneg : d < 0
        · rw [if_pos hneg] at hda
          have hnd : IntKind.i64.wrap (-d) = (q : Int) := (IntWalk.i64_in _ (by omega)).trans hda
          clear hda
          go_wp2_with fail
          go_meet
          exact ⟨rfl, rfl⟩
        · rw [if_neg hneg] at hda
          subst hda
          go_wp2_with fail
          go_meet
          exact ⟨rfl, rfl⟩
      case rest =>
      obtain ⟨rfl, rfl⟩ := hcut
      go_wp2_with fail
      go_roundg k2.natAbs
      case measure => rw [Hg.out]; exact HLESS.out
      case rel => exact ⟨k2, UInt8.ofNat (48 + q) :: s, by rw [HCAT.out], rfl, HNEW.out, HB.out.1, HB.out.2, HO.out.alloc _, rfl⟩
end Go.Proofs.YtegechmdboccbaaGreatDoor
/-! bellhoplaw29: config, speaks. -/
namespace Go.Proofs.YtegechmdboccbaaGreatDoor
open Go.Conc Go.RowKit Go.Maps

def cfg29 : ACfgT := ⟨⟨2, 3, 2, 1, 2, 2, 3, [1, 2]⟩, 4, 40, 1, 2, 3, 4⟩
theorem ok29 : ∀ k, k < 2 → cfg29.ok (k + 1 : Nat) 1 = true := by
  intro k hk
  rcases (by omega : k = 0 ∨ k = 1) with rfl | rfl <;> decide
theorem cfg29C_one {v : Value} (h : v.oneCell' = true) : (cfg29.cells v).toArray.all (·.oneCell') = true := by
  rw [List.all_toArray]
  simp [ACfgT.cells, OCfgT.cells, h, one_int]
set_option maxRecDepth 100000 in
theorem config29_any (w : World) : Calls Tryz.prog 10 #[] w fun e w' => ∃ v, e = .returned (.agg (cfg29.cells v).toArray) ∧ IR w' v [1, 2] ∧ Only (fun _ => False) w w' := by
  obtain ⟨W, hW⟩ : ∃ W, W = w.alloc (.cells #[.int .i64 0, .int .i64 0, .int .i64 0, .int .i64 0, .int .i64 0, .int .i64 0, .int .i64 0, .slice none 0 0, .int .i64 0, .int .i64 0, .int .i64 0, .int .i64 0, .int .i64 0, .int .i64 0] 41) := ⟨_, rfl⟩
  have hbW : W.heap[w.heap.size]? = some (.cells #[.int .i64 0, .int .i64 0, .int .i64 0, .int .i64 0, .int .i64 0, .int .i64 0, .int .i64 0, .slice none 0 0, .int .i64 0, .int .i64 0, .int .i64 0, .int .i64 0, .int .i64 0, .int .i64 0] 41 (0, 0)) := by rw [hW]; exact heap_alloc_new w _
  have hoW : Only (fun _ => False) w W := by rw [hW]; exact (Only.refl _ _).alloc _
  have hsW : W.heap.size = w.heap.size + 1 := by rw [hW]; simp
  have HBW := Lib.hid hbW
  have HOW := Lib.hid hoW
  clear hbW hoW
  clear hsW
  go_enter Tryz.func10, Tryz.ntmps10
  go_upto_region 1 with (fail)
  rw [← hW]
  clear hW
  have hb1 : (W.alloc (.cells #[.int .i64 1, .int .i64 2] 3)).heap[w.heap.size]? = _ := ((Only.refl (fun _ => False) W).alloc _).old HBW.out id
  go_wp2_with ((with_reducible refine wpList_store_row (o := ⟨none, .store 41 (.tmp 0) (.tmp 3), _, _, _, none⟩) rfl _ _ _ rfl (w.heap.size) ((cfg29.cells (.slice (some ⟨W.heap.size, 0, none⟩) 2 2)).toArray) ?_ ?_ 41 _ hb1 (infoACfg _ _) ?_ (cfg29C_one rfl) ?_); (· rfl); (· rfl); (· rfl))
  have hb9 := row_set hb1 (cfg29.cells (.slice (some ⟨W.heap.size, 0, none⟩) 2 2)).toArray
  refine bodyPost_ret (results_row rfl _ _ w.heap.size 41 _ (0, 0) _ rfl hb9 Tryz.underlying41 rfl (infoACfg _ _)) rfl ?_
  refine ⟨_, rfl, ?_, (HOW.out.alloc _).setRow (.inl (Nat.le_refl _)) _⟩
  have hq : Only (fun i => i = w.heap.size) (W.alloc (.cells #[.int .i64 1, .int .i64 2] 3)) ((W.alloc (.cells #[.int .i64 1, .int .i64 2] 3)).setRow w.heap.size (cfg29.cells (.slice (some ⟨W.heap.size, 0, none⟩) 2 2)).toArray) := (Only.refl (fun i => i = w.heap.size) _).setRow (.inr rfl) _
  have hir : IR (W.alloc (.cells #[.int .i64 1, .int .i64 2] 3)) (.slice (some ⟨W.heap.size, 0, none⟩) 2 2) [1, 2] :=
    ⟨rfl, .inr ⟨W.heap.size, 2, _, rfl, Nat.zero_le _, heap_alloc_new W _, Nat.le_refl _, by unfold maxLen; omega, rfl, rfl⟩⟩
  exact hir.kept hq (cells_not hb1 (by decide))
theorem itoa29 : Lib.itoa 2 = [50] ∧ Lib.itoa 0 = [48] := by
  constructor
  · unfold Lib.itoa
    rw [if_neg (by decide)]
    exact dec29_small (by decide)
  · unfold Lib.itoa
    rw [if_neg (by decide)]
    exact dec29_small (by decide)
theorem show29 : showR [2, 2, 0, 2, 0, 0, 0, 0] 8 = [108, 105, 118, 101, 32, 50, 10, 108, 111, 110, 101, 108, 121, 32, 50, 10, 108, 111, 112, 115, 105, 100, 101, 100, 32, 48, 10, 112, 97, 114, 116, 115, 32, 50, 10, 107, 101, 121, 115, 32, 48, 10, 98, 101, 104, 105, 110, 100, 32, 48, 10, 111, 110, 119, 97, 121, 32, 48, 10, 114, 101, 102, 117, 115, 101, 100, 32, 48, 10] := by
  simp only [showR, lineR, wordsR, List.getD_cons_zero, List.getD_cons_succ, itoa29.1, itoa29.2]
  rfl
theorem eq29 : ∀ w, (binOp BinOp.eql 25 (.agg #[.int .i64 2, .int .i64 2, .int .i64 0, .int .i64 2, .int .i64 0, .int .i64 0, .int .i64 0, .int .i64 0]) (.agg #[.int .i64 2, .int .i64 2, .int .i64 0, .int .i64 2, .int .i64 0, .int .i64 0, .int .i64 0, .int .i64 0])).run Tryz.prog w = .ok (.bool true) w := fun _ => by kernel_rfl
theorem eq29z : ∀ w, (binOp BinOp.eql 25 (.agg #[.int .i64 0, .int .i64 0, .int .i64 0, .int .i64 0, .int .i64 0, .int .i64 0, .int .i64 0, .int .i64 0]) (.agg #[.int .i64 0, .int .i64 0, .int .i64 0, .int .i64 0, .int .i64 0, .int .i64 0, .int .i64 0, .int .i64 0])).run Tryz.prog w = .ok (.bool true) w := fun _ => by kernel_rfl
set_option maxRecDepth 100000 in
set_option maxHeartbeats 4000000 in
theorem speaks29_any (w : World) (ht : TabW w) : Calls Tryz.prog 4 #[] w fun e w' => e = .returned (.bool true) ∧ Only (fun _ => False) w w' := by
  have HT := Lib.hid ht
  clear ht
  go_enter Tryz.func4, Tryz.ntmps4
  go_wp2_with fail
  refine (config29_any w).mono ?_
  rintro e w1 ⟨v, rfl, hv, ho1⟩
  have hcn := cnew_ok w1 2 cfg29 v hv (by omega) (by omega) ok29
  rw [show ((2 : Nat) : Int) = 2 from rfl] at hcn
  unfold ClusNew at hcn
  have HCN := Lib.hid hcn
  have HO1 := Lib.hid ho1
  clear hcn ho1
  clear hv
  go_wp2_with fail
  refine HCN.out.mono ?_
  rintro e w2 ⟨x, m, nb, lb, pb, rfl, ho2, hck⟩
  obtain ⟨A, hqc⟩ := qc_new hck (by omega)
  have hof := rof_any w2 (some ⟨x, 0, none⟩) (lvUp 2) A (QC.qcr hqc) (by rw [lvUp_length]; omega)
  rw [lvUp_length, show ((2 : Nat) : Int) = 2 from rfl] at hof
  unfold reportC at hof
  have HO2 := Lib.hid (HO1.out.trans ho2)
  have HOF := Lib.hid hof
  clear hof
  clear hqc hck ho2
  go_wp2_with fail
  refine HOF.out.mono ?_
  rintro e w3 ⟨rfl, ho3⟩
  have HO3 := Lib.hid (HO2.out.trans ho3)
  clear ho3
  go_upto_region 3 with (fail)
  obtain ⟨W, hW⟩ : ∃ W, W = w3.alloc (.cells #[.int .i64 2, .int .i64 2, .int .i64 0, .int .i64 2, .int .i64 0, .int .i64 0, .int .i64 0, .int .i64 0] 25) := ⟨_, rfl⟩
  have hbW : W.heap[w3.heap.size]? = some (.cells #[.int .i64 2, .int .i64 2, .int .i64 0, .int .i64 2, .int .i64 0, .int .i64 0, .int .i64 0, .int .i64 0] 25 (0, 0)) := by rw [hW]; exact heap_alloc_new w3 _
  have hoW : Only (fun _ => False) w3 W := by rw [hW]; exact (Only.refl _ _).alloc _
  have hsW : W.heap.size = w3.heap.size + 1 := by rw [hW]; simp
  rw [← hW]
  have HO4 := Lib.hid (HO3.out.trans hoW)
  have z0 : W.cell? ⟨w3.heap.size, 0, none⟩ = some (.int .i64 2) := cell_at hbW 0
  have z1 : W.cell? ⟨w3.heap.size, 1, none⟩ = some (.int .i64 2) := cell_at hbW 1
  have z2 : W.cell? ⟨w3.heap.size, 2, none⟩ = some (.int .i64 0) := cell_at hbW 2
  have z3 : W.cell? ⟨w3.heap.size, 3, none⟩ = some (.int .i64 2) := cell_at hbW 3
  have z4 : W.cell? ⟨w3.heap.size, 4, none⟩ = some (.int .i64 0) := cell_at hbW 4
  have z5 : W.cell? ⟨w3.heap.size, 5, none⟩ = some (.int .i64 0) := cell_at hbW 5
  have z6 : W.cell? ⟨w3.heap.size, 6, none⟩ = some (.int .i64 0) := cell_at hbW 6
  have z7 : W.cell? ⟨w3.heap.size, 7, none⟩ = some (.int .i64 0) := cell_at hbW 7
  have hsh := show_any W 2 2 0 2 0 0 0 0 (by decide) (HT.out.new HO4.out)
  rw [show29] at hsh
  have he := eq29
  have HSH := Lib.hid hsh
  clear hsh
  clear hW hbW hoW hsW
  go_wp2_with fail
  refine HSH.out.mono ?_
  rintro e w5 ⟨rfl, ho5⟩
  have HO5 := Lib.hid (HO4.out.trans ho5)
  clear ho5 z0 z1 z2 z3 z4 z5 z6 z7 he
  go_wp2_with fail
  go_ret
  exact ⟨rfl, HO5.out⟩
end Go.Proofs.YtegechmdboccbaaGreatDoor
