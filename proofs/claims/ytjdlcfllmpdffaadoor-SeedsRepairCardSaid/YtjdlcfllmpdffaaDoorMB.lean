/- record: Key, Split; the reference's Key, Origin. -/
import Derived.Test.YtjdlcfllmpdffaaDoorMA
import Derived.Test.YtjdlcfllmpdffaaDoorShelf
import Derived.Lib.SplitLaws
import Derived.Defers
import Derived.Recover
import Derived.Lib.Builder
import Derived.Lib.UnsafeStr
import Derived.Laws.Externs
import Derived.Deep.RegionLaw
import Derived.Deep.AppendLies
import Derived.Laws.IdiomStrings
/-! strings.Split at the full stop, by the library's contract; in plain. -/
namespace Go.Proofs.YtjdlcfllmpdffaaDoor
open Go.Conc Go.RowKit

def dot : ByteArray := ⟨#[46]⟩
/-- What stands between the full stops. -/
def splitL (s : ByteArray) : List ByteArray := Lib.splitB dot 0 (Lib.countB s dot) s
theorem splitL_length (s : ByteArray) : (splitL s).length = Lib.countB s dot + 1 := Lib.splitB_all dot (by decide) 0 _ s rfl
theorem countB_small (s : ByteArray) : Lib.countB s dot ≤ s.size := Lib.countB_le dot (by decide) _ s (Nat.le_refl _)
theorem splitL_size (s : ByteArray) : ∀ x ∈ splitL s, x.size ≤ s.size := by
  unfold splitL
  generalize Lib.countB s dot = k
  induction k generalizing s with
  | zero => intro x hx; simp [Lib.splitB] at hx; subst hx; exact Nat.le_refl _
  | succ k ih =>
    intro x hx
    unfold Lib.splitB at hx
    split at hx
    · simp at hx; subst hx; exact Nat.le_refl _
    · rcases List.mem_cons.1 hx with rfl | hx
      · rw [ByteArray.size_extract]; omega
      · have := ih _ x hx
        rw [ByteArray.size_extract] at this
        omega

/-- The world behind strings.Split. -/
theorem lsplit_any (w : World) (s : ByteArray) (m : Int) (hs : s.size ≤ 1000) (hm : w.cell? ⟨0, 0, none⟩ = some (.int .i64 m)) :
    Calls Tryd.prog 97 #[.string s, .string ⟨#[46]⟩] w fun e w' => ∃ v, e = .returned v ∧ Only (fun _ => False) w w' ∧ Sl w' 1 v (splitL s).length ((splitL s).map .string) := by
  refine (Tryd.strings_Split s ⟨#[46]⟩ m w (by omega) hm (by decide)).mono ?_
  rintro e w' ⟨rfl, rfl⟩
  refine ⟨_, rfl, (Only.refl _ _).alloc _, ?_⟩
  have h1 := Sl.fresh w ((splitL s).map Value.string) 9 (splitL s).length 1 (by simp) (by rw [splitL_length]; have := countB_small s; unfold maxLen; omega)
  rw [splitL_length] at h1 ⊢
  exact h1

def spl : List UInt8 → List UInt8 → List (List UInt8)
  | cur, [] => [cur]
  | cur, b :: l => if b = 46 then cur :: spl [] l else spl (cur ++ [b]) l
def ph (c : List UInt8) : List (List UInt8) → List (List UInt8)
  | [] => [c]
  | x :: r => (c ++ x) :: r
theorem spl_app (c : List UInt8) : ∀ (l cur : List UInt8), spl (c ++ cur) l = ph c (spl cur l) := by
  intro l
  induction l with
  | nil => intro cur; rfl
  | cons b l ih =>
    intro cur
    unfold spl
    by_cases hb : b = 46
    · rw [if_pos hb, if_pos hb]; rfl
    · rw [if_neg hb, if_neg hb, List.append_assoc, ih]
theorem splitK_ne (b : UInt8) (hb : b ≠ 46) (l : List UInt8) : ∀ k, Lib.splitK [46] 0 k (b :: l) = ph [b] (Lib.splitK [46] 0 k l) := by
  intro k
  cases k with
  | zero => rfl
  | succ k =>
    have hi : Lib.index (b :: l) [46] = if Lib.index l [46] == -1 then -1 else Lib.index l [46] + 1 := by
      rw [Lib.index]
      have : ([46] : List UInt8).isPrefixOf (b :: l) = false := by simp [List.isPrefixOf]; exact fun e => hb e.symm
      rw [if_neg (by simp [this])]
    unfold Lib.splitK
    rw [hi]
    have hge := Lib.index_ge l [46]
    by_cases h : Lib.index l [46] = -1
    · rw [if_pos (by simp [h]), if_pos (by simp [h])]; rfl
    · obtain ⟨i, hi2⟩ := Int.eq_ofNat_of_zero_le (show 0 ≤ Lib.index l [46] by omega)
      rw [if_neg (by simp [hi2]; omega), hi2, if_neg (by simp), if_neg (by simp)]
      have e1 : ((i : Int) + 1).toNat = i + 1 := by omega
      rw [e1]
      simp [ph]
theorem splitK_spl : ∀ l : List UInt8, Lib.splitK [46] 0 (Lib.count l [46]) l = spl [] l := by
  intro l
  induction l with
  | nil => rfl
  | cons b l ih =>
    by_cases hb : b = 46
    · subst hb
      rw [Lib.count_cons_eq, Nat.add_comm]
      unfold Lib.splitK
      have hi : Lib.index (46 :: l) [46] = 0 := by
        rw [Lib.index]
        simp [List.isPrefixOf]
      rw [hi]
      simp only [spl]
      rw [if_neg (by decide)]
      simp [ih]
    · rw [Lib.count_cons_ne b 46 l hb, splitK_ne b hb, ih, spl, if_neg hb, show ([] : List UInt8) ++ [b] = [b] ++ [] by simp, spl_app]
theorem splitL_data (s : ByteArray) : (splitL s).map (·.data.toList) = spl [] s.data.toList := by
  unfold splitL
  rw [Lib.splitB_data]
  exact splitK_spl _
end Go.Proofs.YtjdlcfllmpdffaaDoor
/-! pack: Refuse, run: a call that returns, one that is refused. -/
namespace Go.Proofs.YtjdlcfllmpdffaaDoor
open Go.Conc Go.RowKit

/-- What a refused call ends with. -/
def refused (n : Int) : Ending := .panicked [{ v := .iface 215 (.agg #[.int .i64 n]), recovered := false }]
theorem refuse_any (w : World) (n : Int) (hn : n ≠ 0) : Calls Tryd.prog 110 #[.int .i64 n] w fun e w' => e = refused n ∧ w = w' := by
  have h0 : (n == 0) = false := by simp; exact hn
  go_enter Tryd.func110, Tryd.ntmps110
  go_wp2
  exact ⟨rfl, rfl, rfl⟩

set_option maxRecDepth 100000 in
theorem run1_idle (p : Addr) (w : World) :
    CallsD Tryd.prog 122 #[.pointer (some p)] .returning w fun e u' w' => e = .returned (.tuple #[]) ∧ u' = .returning ∧ w' = w := by
  refine callsD_of_wpS Tryd.func122 rfl fun c₀ cs hu => ?_
  apply wpS_seq
  apply wpS_region
  simp [wpOpsS, go_sem, recoverD, hu, Tryd.ntmps122, Exit.thenS]
  refine wpS_of_wp ?_
  go_wp2
  cases c₀
  simp_all [bodyPostS, results, Tryd.results122]

theorem assert_ref (W : World) (v : Value) : (Instr.typeAssert (.iface 215 v) 20 215 true).run Tryd.prog W = .ok (.tuple #[v, .bool true]) W := by kernel_rfl
set_option maxRecDepth 100000 in
theorem run1_refused (b : Nat) (n x : Int) (w : World) (hb : w.heap[b]? = some (.cells #[.int .i64 x] 25 (0, 0))) :
    CallsD Tryd.prog 122 #[.pointer (some ⟨b, 0, none⟩)] (.panicking ({ v := .iface 215 (.agg #[.int .i64 n]), recovered := false } :: [])) w fun e u' w' =>
      e = .returned (.tuple #[]) ∧ u' = .panicking ({ v := .iface 215 (.agg #[.int .i64 n]), recovered := true } :: []) ∧ w' = (w.setCell ⟨b, 0, none⟩ (.int .i64 n)).alloc (.cells #[.int .i64 n] 215) := by
  have hta := assert_ref
  have hc : w.cell? ⟨b, 0, none⟩ = some (.int .i64 x) := cell_at hb 0
  have hz := free_at hb 0
  have hlt := lt_of_block hb
  refine callsD_of_wpS Tryd.func122 rfl fun c₀ cs hu => ?_
  apply wpS_seq
  apply wpS_region
  simp [wpOpsS, go_sem, recoverD, hu, Tryd.ntmps122, Exit.thenS]
  rw [show (#[Value.pointer (some ⟨b, 0, none⟩)] ++ (Array.replicate 11 undef).setIfInBounds 3 (Value.iface 215 (Value.agg #[Value.int IntKind.i64 n]))) = #[.pointer (some ⟨b, 0, none⟩), undef, undef, undef, .iface 215 (.agg #[.int .i64 n]), undef, undef, undef, undef, undef, undef, undef] from rfl]
  refine wpS_of_wp ?_
  go_wp2_with fail
  cases c₀
  simp_all [bodyPostS, results, Tryd.results122]

theorem setCell_alloc_lt {w : World} {b : Nat} {o : Obj} {v : Value} (h : b < w.heap.size) : (w.alloc o).setCell ⟨b, 0, none⟩ v = (w.setCell ⟨b, 0, none⟩ v).alloc o := by
  go_simp
set_option maxRecDepth 100000 in
/-- A call of a function value by run: what it returns with. -/
theorem run_ok (w : World) (k : Nat) (cap : Array Value) (R : World → Prop) (he : ∀ args w, (callFunc k args).run Tryd.prog w = .ok (.enter k args) w)
    (h : Calls Tryd.prog k cap (w.alloc (.cells #[.int .i64 0] 25)) fun e w' => e = .returned (.tuple #[]) ∧ R w') (hR : ∀ w', R w' → w'.heap[w.heap.size]? = some (.cells #[.int .i64 0] 25 (0, 0))) :
    Calls Tryd.prog 108 #[.func (.func k) #[] cap] w fun e w' => e = .returned (.int .i64 0) ∧ ∃ w1, R w1 ∧ Only (fun x => x = w.heap.size) w1 w' := by
  have hmf : ∀ (fn : Fn) (first cap : Array Value) (w : World), (Instr.makeFunc fn first cap).run Tryd.prog w = .ok (.func fn first cap) w := fun _ _ _ _ => rfl
  go_enter_defers Tryd.func108, Tryd.ntmps108
  go_wp2
  refine h.mono ?_
  rintro e w1 ⟨rfl, hw1⟩
  have hb := hR _ hw1
  have hc : w1.cell? ⟨w.heap.size, 0, none⟩ = some (.int .i64 0) := cell_at hb 0
  have hz := free_at hb 0
  have HW := Lib.hid hw1
  clear hw1
  go_wp2
  refine leaves_cons (f := 122) (args := #[.pointer (some ⟨w.heap.size, 0, none⟩)]) (by simp) (by simp [go_sem]) ?_
  refine (run1_idle ⟨w.heap.size, 0, none⟩ _).mono ?_
  rintro e u' w'' ⟨rfl, rfl, rfl⟩
  have hs := set_at hb 0 (.int .i64 0)
  have hc2 : (w1.setCell ⟨w.heap.size, 0, none⟩ (.int .i64 0)).cell? ⟨w.heap.size, 0, none⟩ = some (.int .i64 0) := cell_at hs 0
  simp [Leaves, settle, results, Tryd.results108, go_sem, hc2]
  exact ⟨w1, HW.out, (Only.refl _ _).setCell (S := fun x => x = w.heap.size) (p := ⟨w.heap.size, 0, none⟩) (.inr rfl) _⟩
set_option maxRecDepth 100000 in
/-- A call of a function value by run: what it is refused with. -/
theorem run_no (w : World) (k : Nat) (cap : Array Value) (n : Int) (R : World → Prop) (he : ∀ args w, (callFunc k args).run Tryd.prog w = .ok (.enter k args) w)
    (h : Calls Tryd.prog k cap (w.alloc (.cells #[.int .i64 0] 25)) fun e w' => e = refused n ∧ R w') (hR : ∀ w', R w' → w'.heap[w.heap.size]? = some (.cells #[.int .i64 0] 25 (0, 0))) :
    Calls Tryd.prog 108 #[.func (.func k) #[] cap] w fun e w' => e = .returned (.int .i64 n) ∧ ∃ w1, R w1 ∧ Only (fun x => x = w.heap.size) w1 w' := by
  have hmf : ∀ (fn : Fn) (first cap : Array Value) (w : World), (Instr.makeFunc fn first cap).run Tryd.prog w = .ok (.func fn first cap) w := fun _ _ _ _ => rfl
  unfold refused at h
  go_enter_defers Tryd.func108, Tryd.ntmps108
  go_wp2
  refine h.mono ?_
  rintro e w1 ⟨rfl, hw1⟩
  have hb := hR _ hw1
  have HW := Lib.hid hw1
  clear hw1
  go_wp2
  refine leaves_cons (f := 122) (args := #[.pointer (some ⟨w.heap.size, 0, none⟩)]) (by simp) (by simp [go_sem]) ?_
  refine (run1_refused w.heap.size n 0 _ hb).mono ?_
  rintro e u' w'' ⟨rfl, rfl, rfl⟩
  have hs := set_at hb 0 (.int .i64 n)
  have hlt := lt_of_block hs
  have hc2 : ((w1.setCell ⟨w.heap.size, 0, none⟩ (.int .i64 n)).alloc (.cells #[.int .i64 n] 215)).cell? ⟨w.heap.size, 0, none⟩ = some (.int .i64 n) := by
    rw [World.cell?_alloc_past _ _ _ hlt]
    exact cell_at hs 0
  simp [Leaves, settle, results, Tryd.results108, go_sem, hc2]
  exact ⟨w1, HW.out, ((Only.refl _ _).setCell (S := fun x => x = w.heap.size) (p := ⟨w.heap.size, 0, none⟩) (.inr rfl) _).alloc _⟩
end Go.Proofs.YtjdlcfllmpdffaaDoor
/-! strings.Builder inside a Writer: WriteByte, WriteString, String. -/
namespace Go.Proofs.YtjdlcfllmpdffaaDoor
open Go.Conc Go.RowKit

def bcells (l : List UInt8) : List Value := l.map fun b => .int .u8 b.toNat
theorem bcells_append (l m : List UInt8) : bcells (l ++ m) = bcells l ++ bcells m := List.map_append
theorem bcells_length (l : List UInt8) : (bcells l).length = l.length := List.length_map _
theorem bcells_one (l : List UInt8) : ∀ u ∈ bcells l, u.oneCell' = true := by
  intro u hu
  obtain ⟨b, _, rfl⟩ := List.mem_map.1 hu
  rfl
/-- A Writer: its block b, its bytes; S: the blocks that its calls may change. -/
def WrAt (w : World) (b base : Nat) (S : Nat → Prop) (l : List UInt8) : Prop :=
  ∃ p v, w.heap[b]? = some (.cells #[p, v] 204 (0, 0)) ∧ (p = .pointer none ∨ p = .pointer (some ⟨b, 0, none⟩)) ∧ w.ownsRow base 5 1 v l.length (bcells l) ∧ ∀ x, S x ↔ (x = b ∨ v.ownBlock = some x)
def WPost (w w' : World) (b base : Nat) (S : Nat → Prop) (l : List UInt8) : Prop :=
  ∃ S', Only S w w' ∧ WrAt w' b base S' l ∧ ∀ x, S' x → S x ∨ w.heap.size ≤ x
theorem WPost.refl {w : World} {b base : Nat} {S : Nat → Prop} {l : List UInt8} (h : WrAt w b base S l) : WPost w w b base S l := ⟨S, Only.refl _ _, h, fun _ h => .inl h⟩
theorem WrAt.lt {w : World} {b base : Nat} {S : Nat → Prop} {l : List UInt8} (h : WrAt w b base S l) : ∀ x, S x → x < w.heap.size := by
  obtain ⟨p, v, hb, _, hown, hS⟩ := h
  intro x hx
  rcases (hS x).1 hx with rfl | e
  · exact lt_of_block hb
  · exact (hown.lt x e).2
theorem WPost.trans {a w w' : World} {b base : Nat} {S : Nat → Prop} {l m : List UInt8} (h : WPost a w b base S l) (k : ∀ S', WrAt w b base S' l → WPost w w' b base S' m) : WPost a w' b base S m := by
  obtain ⟨S', h1, h2, h3⟩ := h
  obtain ⟨S2, k1, k2, k3⟩ := k S' h2
  refine ⟨S2, h1.tr k1 (fun i hi x => (h3 i x).elim id (fun y => absurd hi (by omega))), k2, fun x hx => ?_⟩
  rcases k3 x hx with y | y
  · exact h3 x y
  · exact .inr (Nat.le_trans h1.size y)
theorem sizeBuilder : (Tryd.prog.info? 202).map (·.size) = some 2 := by kernel_rfl
theorem liesBuilder : liesAt Tryd.prog Tryd.prog.depth 204 (2 / Tryd.prog.cellsOf 204) 0 202 1 = true := by kernel_rfl
theorem infoByte : (Tryd.prog.info? 5).map (fun i => (i.zero, i.size, i.bytes)) = some (some (.int .u8 0), 1, 1) := by kernel_rfl

set_option maxRecDepth 100000 in
theorem cc_any (w : World) (b : Nat) (p v : Value) (hb : w.heap[b]? = some (.cells #[p, v] 204 (0, 0))) (hp : p = .pointer none ∨ p = .pointer (some ⟨b, 0, none⟩)) :
    Calls Tryd.prog 127 #[.pointer (some ⟨b, 0, none⟩)] w fun e w' => e = .returned (.tuple #[]) ∧ Only (fun x => x = b) w w' ∧ w'.heap[b]? = some (.cells #[.pointer (some ⟨b, 0, none⟩), v] 204 (0, 0)) := by
  obtain ⟨j, hj, hjs⟩ := Option.map_eq_some_iff.1 sizeBuilder
  have h0 : w.cell? ⟨b, 0, none⟩ = some p := cell_at hb 0
  have hfz := free_at hb 0
  have hsh : w.shape? b = some (204, 2) := by simp [World.shape?, hb]
  rcases hp with rfl | rfl
  · go_enter Tryd.func127, Tryd.ntmps127
    go_wp2
    rw [Lib.run_to_unsafe w ⟨b, 0, none⟩ Tryd.underlying200 Tryd.underlying233 hj (by rw [hjs]; decide) hsh (Nat.zero_lt_succ 1)]
    simp only [Result.andThen]
    rw [Oper.upon_value]
    go_wp2
    rw [run_callFunc_extern Tryd.func143 (by kernel_rfl) (by kernel_rfl) (by kernel_rfl) (e := Extern.AbiNoEscape.same) (by kernel_rfl)]
    rw [Lib.run_noEscape]
    simp only [Result.andThen]
    rw [Oper.upon_value]
    go_wp2
    rw [Lib.run_from_unsafe w ⟨b, 0, none⟩ Tryd.underlying233 Tryd.underlying200 hj hsh liesBuilder]
    simp only [Result.andThen]
    rw [Oper.upon_value]
    go_wp2
    go_end0
    refine ⟨rfl, (Only.refl _ _).setCell (S := fun x => x = b) (p := ⟨b, 0, none⟩) (.inr rfl) _, ?_⟩
    exact set_at hb 0 _
  · go_enter Tryd.func127, Tryd.ntmps127
    go_wp2
    rw [Lib.run_neq_ptr_same w _ Tryd.underlying200 hj]
    go_wp2
    go_end0
    exact ⟨rfl, Only.refl _ _, hb⟩

theorem WrAt.kept {S T : Nat → Prop} {w w' : World} {b base : Nat} {l : List UInt8} (h : WrAt w b base S l) (ho : Only T w w') (hn : ∀ x, S x → ¬ T x) : WrAt w' b base S l := by
  obtain ⟨p, v, hb, hp, hown, hS⟩ := h
  exact ⟨p, v, ho.old hb (hn b ((hS b).2 (.inl rfl))), hp, owns_kept hown ho (fun k hk => hn k ((hS k).2 (.inr hk))), hS⟩
/-- Behind an append whose result is stored back. -/
theorem WPost.put {w w1 w2 : World} {b base : Nat} {S : Nat → Prop} {m : List UInt8} {v v' : Value} (ho1 : Only (fun x => x = b) w w1) (hb1 : w1.heap[b]? = some (.cells #[.pointer (some ⟨b, 0, none⟩), v] 204 (0, 0)))
    (hS : ∀ x, S x ↔ (x = b ∨ v.ownBlock = some x)) (hne : v.ownBlock ≠ some b) (hown' : w2.ownsRow base 5 1 v' m.length (bcells m)) (ho2 : Only (fun x => v.ownBlock = some x) w1 w2)
    (hv : ∀ k, v'.ownBlock = some k → v.ownBlock = some k ∨ w1.heap.size ≤ k) : WPost w (w2.setCell ⟨b, 1, none⟩ v') b base S m := by
  have hb2 := ho2.old hb1 hne
  have hne' : v'.ownBlock ≠ some b := fun e => by
    rcases hv b e with h | h
    · exact hne h
    · exact absurd (lt_of_block hb1) (by omega)
  refine ⟨fun x => x = b ∨ v'.ownBlock = some x, ?_, ⟨_, v', set_at hb2 1 _, .inr rfl, owns_kept hown' ((Only.refl _ _).setCell (S := fun x => x = b) (p := ⟨b, 1, none⟩) (.inr rfl) _) (fun k hk e => hne' (e ▸ hk)), fun x => Iff.rfl⟩, ?_⟩
  · have h1 : Only S w w1 := ho1.weaken (fun k _ e => (hS k).2 (.inl e))
    have h2 : Only S w1 w2 := ho2.weaken (fun k _ e => (hS k).2 (.inr e))
    exact (h1.trans h2).setCell (p := ⟨b, 1, none⟩) (.inr ((hS b).2 (.inl rfl))) _
  · rintro x (rfl | hx)
    · exact .inl ((hS x).2 (.inl rfl))
    · rcases hv x hx with h | h
      · exact .inl ((hS x).2 (.inr h))
      · exact .inr (Nat.le_trans ho1.size h)
theorem WrAt.ne {w : World} {b base n : Nat} {p v : Value} {xs : List Value} (hb : w.heap[b]? = some (.cells #[p, v] 204 (0, 0))) (hown : w.ownsRow base 5 1 v n xs) : v.ownBlock ≠ some b := by
  intro e
  rcases hown.2 with ⟨h2, _⟩ | ⟨g, cap, cur, rfl, _, hg, _⟩
  · subst h2; simp [Value.ownBlock] at e
  · simp [Value.ownBlock] at e
    subst e
    rw [hb] at hg
    simp at hg

set_option maxRecDepth 100000 in
set_option maxHeartbeats 1000000 in
theorem wb_any (w : World) (b base : Nat) (S : Nat → Prop) (l : List UInt8) (c : Int) (x : UInt8) (h : WrAt w b base S l) (hc : c = (x.toNat : Int)) (hl : l.length ≤ 100000) (hbase : base ≤ w.heap.size) :
    Calls Tryd.prog 118 #[.pointer (some ⟨b, 0, none⟩), .int .u8 c] w fun e w' => e = .returned .nilIface ∧ WPost w w' b base S (l ++ [x]) := by
  subst hc
  obtain ⟨i0, hi, hz0, hz1, hz2⟩ := info_parts infoByte
  obtain ⟨p, v, hb, hp, hown, hS⟩ := h
  have HB := Lib.hid hb
  have HP := Lib.hid hp
  have HS := Lib.hid hS
  clear hb hp hS
  go_enter Tryd.func118, Tryd.ntmps118
  go_wp2_with fail
  refine (cc_any _ b p v HB.out HP.out).mono ?_
  rintro e w1 ⟨rfl, ho1, hb1⟩
  have hne := WrAt.ne HB.out hown
  have hown1 := owns_kept hown ho1 (fun k hk e => hne (e ▸ hk))
  have c0 : w1.cell? ⟨b, 0, none⟩ = some (.pointer (some ⟨b, 0, none⟩)) := cell_at hb1 0
  have c1 : w1.cell? ⟨b, 1, none⟩ = some v := cell_at hb1 1
  have hsz := ho1.size
  have HNE := Lib.hid hne
  have HB1 := Lib.hid hb1
  clear hne hb1 hown
  go_wp2_with (at_builtin; refine Wait.mk ?_)
  refine Wait.go (wpList_append_src _ rfl (.tmp 11) (.tmp 13) 116 116 rfl base 5 i0 _ 1 1 Tryd.underlying116 hi hz0 hz1 hz2 rfl _ l.length (bcells l) rfl (hown1.alloc _) _ 1 (bcells [x]) rfl ?src ?m ?b ?base ?_)
  case src => exact Src.ofSlice _ Tryd.underlying116 _ _ _ _ rfl (news_new _ _ _) (bcells_one [x])
  case m => unfold maxLen; omega
  case b => omega
  case base => simp; omega
  intro v' w2 own2 gr2 hv2
  have ho2 : Only (fun x => v.ownBlock = some x) w1 w2 := ((Only.refl _ _).alloc _).grown gr2 (fun k e => .inr e)
  have hb2 := ho2.old HB1.out HNE.out
  have d0 : w2.cell? ⟨b, 0, none⟩ = some (.pointer (some ⟨b, 0, none⟩)) := cell_at hb2 0
  have d1 : w2.cell? ⟨b, 1, none⟩ = some v := cell_at hb2 1
  have f1 := free_at hb2 1
  obtain ⟨va, vc, rfl⟩ : ∃ a c, v' = .slice a (l.length + 1) c := by obtain ⟨_, a, c, h, _⟩ := Sl.of_owns own2; exact ⟨a, c, h⟩
  have own3 : w2.ownsRow base 5 1 (.slice va (l.length + 1) vc) (l ++ [x]).length (bcells (l ++ [x])) := by
    rw [bcells_append, List.length_append]
    exact own2
  have HV := Lib.hid hv2
  have OW3 := Lib.hid own3
  clear own2 gr2 hv2 hb2 own3 hown1
  go_wp2_with fail
  go_ret
  refine ⟨rfl, WPost.put ho1 HB1.out HS.out HNE.out OW3.out ho2 (fun k hk => ?_)⟩
  rcases HV.out k hk with h | h
  · exact .inl h
  · simp at h; exact .inr (by omega)

set_option maxRecDepth 100000 in
set_option maxHeartbeats 1000000 in
theorem ws_any (w : World) (b base : Nat) (S : Nat → Prop) (l : List UInt8) (s : ByteArray) (h : WrAt w b base S l) (hl : l.length ≤ 100000) (hs : s.size ≤ 100000) (hbase : base ≤ w.heap.size) :
    Calls Tryd.prog 117 #[.pointer (some ⟨b, 0, none⟩), .string s] w fun e w' => e = .returned (.tuple #[.int .i64 s.size, .nilIface]) ∧ WPost w w' b base S (l ++ s.data.toList) := by
  obtain ⟨i0, hi, hz0, hz1, hz2⟩ := info_parts infoByte
  obtain ⟨p, v, hb, hp, hown, hS⟩ := h
  have HB := Lib.hid hb
  have HP := Lib.hid hp
  have HS := Lib.hid hS
  clear hb hp hS
  go_enter Tryd.func117, Tryd.ntmps117
  go_wp2_with fail
  refine (cc_any _ b p v HB.out HP.out).mono ?_
  rintro e w1 ⟨rfl, ho1, hb1⟩
  have hne := WrAt.ne HB.out hown
  have hown1 := owns_kept hown ho1 (fun k hk e => hne (e ▸ hk))
  have c0 : w1.cell? ⟨b, 0, none⟩ = some (.pointer (some ⟨b, 0, none⟩)) := cell_at hb1 0
  have c1 : w1.cell? ⟨b, 1, none⟩ = some v := cell_at hb1 1
  have hsz := ho1.size
  have HNE := Lib.hid hne
  have HB1 := Lib.hid hb1
  clear hne hb1 hown
  go_wp2_with (at_builtin; refine Wait.mk ?_)
  refine Wait.go (wpList_append_src _ rfl (.tmp 12) (.tmp 13) 116 9 rfl base 5 i0 _ 1 1 Tryd.underlying116 hi hz0 hz1 hz2 rfl _ l.length (bcells l) rfl hown1 _ s.size (bcells s.data.toList) rfl ?src ?m ?b ?base ?_)
  case src => exact Src.ofString _ Tryd.underlying9 s
  case m => unfold maxLen; omega
  case b => omega
  case base => omega
  intro v' w2 own2 gr2 hv2
  have ho2 : Only (fun x => v.ownBlock = some x) w1 w2 := (Only.refl _ _).grown gr2 (fun k e => .inr e)
  have hb2 := ho2.old HB1.out HNE.out
  have d0 : w2.cell? ⟨b, 0, none⟩ = some (.pointer (some ⟨b, 0, none⟩)) := cell_at hb2 0
  have d1 : w2.cell? ⟨b, 1, none⟩ = some v := cell_at hb2 1
  have f1 := free_at hb2 1
  obtain ⟨va, vc, rfl⟩ : ∃ a c, v' = .slice a (l.length + s.size) c := by obtain ⟨_, a, c, h, _⟩ := Sl.of_owns own2; exact ⟨a, c, h⟩
  have own3 : w2.ownsRow base 5 1 (.slice va (l.length + s.size) vc) (l ++ s.data.toList).length (bcells (l ++ s.data.toList)) := by
    rw [bcells_append, List.length_append]
    exact own2
  have HV := Lib.hid hv2
  have OW3 := Lib.hid own3
  clear own2 gr2 hv2 hb2 own3 hown1
  go_wp2_with fail
  go_ret2
  exact ⟨rfl, WPost.put ho1 HB1.out HS.out HNE.out OW3.out ho2 HV.out⟩

theorem Only.freeze {S : Nat → Prop} {a w : World} (h : Only S a w) (g n : Nat) (hg : a.heap.size ≤ g ∨ S g) : Only S a (w.freeze ⟨g, 0, none⟩ n) := by
  unfold World.freeze
  split
  · exact h
  · refine ⟨h.os, h.tape, h.output, by simpa using h.size, fun k hk hn => ?_⟩
    have hk2 : g ≠ k := fun e => by subst e; rcases hg with h' | h'; exact absurd hk (by omega); exact hn h'
    rw [← h.block k hk hn]
    simp [Array.getElem?_modify, hk2]
set_option maxRecDepth 100000 in
set_option maxHeartbeats 1000000 in
theorem bs_any (w : World) (b base : Nat) (S : Nat → Prop) (l : List UInt8) (h : WrAt w b base S l) (h0 : l ≠ []) :
    Calls Tryd.prog 116 #[.pointer (some ⟨b, 0, none⟩)] w fun e w' => e = .returned (.string ⟨l.toArray⟩) ∧ Only S w w' := by
  obtain ⟨p, v, hbk, hp, hown, hS⟩ := h
  have hl0 : l.length ≠ 0 := by simpa using h0
  obtain ⟨g, cap, cur, rfl, hbg, hg, hnc, hcm, hcs, htake⟩ : ∃ g cap cur, v = .slice (some ⟨g, 0, none⟩) l.length cap ∧ base ≤ g ∧ w.heap[g]? = some (.cells cur 5 (0, 0)) ∧ l.length ≤ cap ∧ cap ≤ maxLen ∧ cur.size = cap * 1 ∧ cur.toList.take (l.length * 1) = bcells l := by
    rcases hown.2 with ⟨_, hz⟩ | ⟨g, cap, cur, hv, r⟩
    · exact absurd hz hl0
    · exact ⟨g, cap, cur, hv, r⟩
  have c1 : w.drew.cell? ⟨b, 1, none⟩ = some (.slice (some ⟨g, 0, none⟩) l.length cap) := by
    have : w.drew.heap[b]? = some (.cells #[p, .slice (some ⟨g, 0, none⟩) l.length cap] 204 (0, 0)) := hbk
    exact cell_at this 1
  have hSD : (Builtin.unsafeSliceData_ #[116] 218 #[.slice (some ⟨g, 0, none⟩) l.length cap]).run Tryd.prog w.drew = .ok (.pointer (some ⟨g, 0, none⟩)) w.drew :=
    Lib.run_unsafeSliceData_row _ _ _ _ _ _ (by omega)
  have hUS : (Builtin.unsafeString_ #[218, 3] 9 #[.pointer (some ⟨g, 0, none⟩), .int .i64 l.length]).run Tryd.prog w.drew = .ok (.string ⟨l.toArray⟩) (w.drew.freeze ⟨g, 0, none⟩ l.length) := by
    refine Lib.run_unsafeString_row w.drew 218 3 9 5 Tryd.underlying218 (by kernel_rfl) g cur.size (by have hg' : w.drew.heap[g]? = some (.cells cur 5 (0, 0)) := hg; simp [World.shape?, hg']) l h0 (by omega) (by unfold maxLen at hcm; omega) ?_
    intro j x hx
    have := hown.cells (g := g) rfl j (.int .u8 x.toNat) (by simp [bcells, hx])
    exact this
  have HS := Lib.hid hS
  clear hown hS htake hg hbk
  go_enter Tryd.func116, Tryd.ntmps116
  go_wp2
  go_region
  all_goals (go_wp2; go_ret; exact ⟨rfl, ((Only.refl _ _).drew).freeze g _ (.inr ((HS.out g).2 (.inr rfl)))⟩)
end Go.Proofs.YtjdlcfllmpdffaaDoor
/-! pack: Writer.Num, Writer.Raw, Write. -/
namespace Go.Proofs.YtjdlcfllmpdffaaDoor
open Go.Conc Go.RowKit

/-- A number's bytes, the greatest first. -/
def beL (n : Nat) : Nat → List UInt8
  | 0 => []
  | k + 1 => UInt8.ofNat (n / 256 ^ k) :: beL n k

theorem pow_256 (k : Nat) : (2 : Nat) ^ (8 * k) = 256 ^ k := by rw [Nat.pow_mul]
theorem shr_zero (n size : Nat) (h : n < 256 ^ size) : (n : Int) / 2 ^ (8 * size) = 0 := by
  have h1 : n / 2 ^ (8 * size) = 0 := Nat.div_eq_of_lt (by rw [pow_256]; exact h)
  rw [show (2 : Int) ^ (8 * size) = ((2 ^ (8 * size) : Nat) : Int) by rw [Int.natCast_pow]; rfl, ← Int.natCast_ediv, h1]
  rfl
theorem byte_at (n k : Nat) : (n : Int) / 2 ^ (8 * k) % 256 = ((UInt8.ofNat (n / 256 ^ k)).toNat : Int) := by
  rw [UInt8.toNat_ofNat']
  rw [show (2 : Int) ^ (8 * k) = ((2 ^ (8 * k) : Nat) : Int) by rw [Int.natCast_pow]; rfl, ← Int.natCast_ediv, pow_256]
  exact (Int.natCast_emod _ 256).symm
theorem WrAt.drew {w : World} {b base : Nat} {S : Nat → Prop} {l : List UInt8} (h : WrAt w b base S l) : WrAt w.drew b base S l := h.kept (T := fun _ => False) ((Only.refl _ _).drew) (fun _ _ => id)
theorem WPost.drew {a w : World} {b base : Nat} {S : Nat → Prop} {l : List UInt8} (h : WPost a w b base S l) : WPost a w.drew b base S l := by
  obtain ⟨S', h1, h2, h3⟩ := h
  exact ⟨S', h1.drew, h2.drew, h3⟩
theorem WPost.size {a w : World} {b base : Nat} {S : Nat → Prop} {l : List UInt8} (h : WPost a w b base S l) : a.heap.size ≤ w.heap.size := h.elim fun _ k => k.1.size

set_option maxRecDepth 100000 in
set_option maxHeartbeats 1000000 in
theorem num_ok (w : World) (b base : Nat) (S : Nat → Prop) (l : List UInt8) (n size : Nat) (h : WrAt w b base S l) (hs1 : 1 ≤ size) (hs2 : size ≤ 7) (hn : n < 256 ^ size) (hl : l.length ≤ 10000) (hbase : base ≤ w.heap.size) :
    Calls Tryd.prog 104 #[.pointer (some ⟨b, 0, none⟩), .int .u64 n, .int .i64 size] w fun e w' => e = .returned (.tuple #[]) ∧ WPost w w' b base S (l ++ beL n size) := by
  have HW := Lib.hid h
  have e0 : ((n : Int) / 2 ^ (8 * size) != 0) = false := by rw [shr_zero n size hn]; rfl
  have s1 : (1 : Int) ≤ size := by omega
  have s2 : (size : Int) ≤ 8 := by omega
  have s3 : (size : Int) < 8 := by omega
  clear h hn
  go_enter Tryd.func104, Tryd.ntmps104
  go_wp2_with fail
  go_loopg [6] size (fun g v6 wx => ∃ (j : Nat) (done : List UInt8), v6 = .int .i64 ((j : Int) - 1) ∧ j ≤ size ∧ done.length + j = size ∧ WPost w wx b base S (l ++ done) ∧ done ++ beL n j = beL n size ∧ g = j)
  case atStart => exact ⟨size, [], rfl, Nat.le_refl _, by simp, by rw [List.append_nil]; exact WPost.refl HW.out, rfl, rfl⟩
  case round =>
    obtain ⟨j, done, rfl, hj, hd, hp, hb, hg⟩ := hrel
    have HP := Lib.hid hp
    have HB := Lib.hid hb
    have Hg := Lib.hid hg
    clear hp hb hg e0
    cases j with
    | zero =>
      have q1 : ((0 : Nat) : Int) - 1 = -1 := rfl
      rw [q1]
      go_wp2_with fail
      go_end0
      exact ⟨rfl, by have := HB.out; rw [← this, show beL n 0 = [] from rfl, List.append_nil]; exact HP.out⟩
    | succ k =>
      have q1 : ((k + 1 : Nat) : Int) - 1 = (k : Int) := by omega
      rw [q1]
      have hk0 : (0 : Int) ≤ (k : Int) := by omega
      have hk1 : (k : Int) ≤ 8 := by omega
      obtain ⟨S', ho', hw', hs'⟩ := id HP.out
      have hsz := ho'.size
      have HW' := Lib.hid hw'
      have HO' := Lib.hid ho'
      have HS' := Lib.hid hs'
      clear ho' hw' hs'
      go_wp2_with fail
      have w1 : IntKind.i64.wrap (8 * (k : Int)) = 8 * (k : Int) := IntWalk.i64_in _ (by omega)
      have w2 : (0 : Int) ≤ 8 * (k : Int) := by omega
      have w3 : (8 * (k : Int)).toNat = 8 * k := by omega
      have w4 : ¬ (8 * (k : Int) < 0) := by omega
      go_region_law (first
        | (go_simp
           refine (wb_any _ b base S' (l ++ done) _ (UInt8.ofNat (n / 256 ^ k)) HW'.out.drew (byte_at n k) (by rw [List.length_append]; omega) (by simp; omega)).mono ?_
           rintro e w2 ⟨rfl, hp2⟩))
      all_goals (
        go_wp2_with fail
        go_roundg k
        case measure => rw [Hg.out]; omega
        case rel =>
          refine ⟨k, done ++ [UInt8.ofNat (n / 256 ^ k)], rfl, by omega, by simp; omega, ?_, by rw [← HB.out, List.append_assoc]; rfl, rfl⟩
          rw [← List.append_assoc]
          obtain ⟨S2, k1, k2, k3⟩ := hp2
          refine ⟨S2, (HO'.out.drew).tr k1 (fun i hi x => (HS'.out i x).elim id (fun y => absurd hi (by omega))), k2, fun x hx => ?_⟩
          rcases k3 x hx with y | y
          · exact HS'.out x y
          · exact .inr (Nat.le_trans hsz y))

theorem raw_ok (w : World) (b base : Nat) (S : Nat → Prop) (l : List UInt8) (s : ByteArray) (h : WrAt w b base S l) (hl : l.length ≤ 100000) (hs : s.size ≤ 100000) (hbase : base ≤ w.heap.size) :
    Calls Tryd.prog 103 #[.pointer (some ⟨b, 0, none⟩), .string s] w fun e w' => e = .returned (.tuple #[]) ∧ WPost w w' b base S (l ++ s.data.toList) := by
  go_enter Tryd.func103, Tryd.ntmps103
  go_wp2_with fail
  refine (ws_any _ b base S l s h hl hs hbase).mono ?_
  rintro e w1 ⟨rfl, hp⟩
  go_wp2_with fail
  go_end0
  exact ⟨rfl, hp⟩

theorem w1_any (w : World) (fb pb b k : Nat) (cap : Array Value) (R : Ending → World → Prop) (he : ∀ args w, (callFunc k args).run Tryd.prog w = .ok (.enter k args) w)
    (hf : w.heap[fb]? = some (.cells #[.func (.func k) #[] cap] 192 (0, 0))) (hp : w.heap[pb]? = some (.cells #[.pointer (some ⟨b, 0, none⟩)] 188 (0, 0)))
    (h : Calls Tryd.prog k (#[.pointer (some ⟨b, 0, none⟩)] ++ cap) w R) (hR : ∀ e w', R e w' → e = .returned (.tuple #[]) ∨ ∃ n, e = refused n) :
    Calls Tryd.prog 115 #[.pointer (some ⟨fb, 0, none⟩), .pointer (some ⟨pb, 0, none⟩)] w R := by
  have c1 : w.cell? ⟨fb, 0, none⟩ = some (.func (.func k) #[] cap) := cell_at hf 0
  have c2 : w.cell? ⟨pb, 0, none⟩ = some (.pointer (some ⟨b, 0, none⟩)) := cell_at hp 0
  go_enter Tryd.func115, Tryd.ntmps115
  go_wp2_with fail
  refine h.mono ?_
  intro e w' hr
  rcases hR e w' hr with rfl | ⟨n, rfl⟩
  · have HR := Lib.hid hr
    clear hr
    go_wp2_with fail
    go_end0
    exact HR.out
  · have HR := Lib.hid hr
    clear hr
    unfold refused at HR ⊢
    go_wp2_with fail
    exact ⟨rfl, HR.out⟩

/-- The blocks of a Write, ahead of its call. -/
theorem write_blocks (w : World) (o1 o2 o3 : Obj) (W W1 : World) (hW : W = ((w.alloc o1).alloc o2).alloc o3) (o4 : Obj) (hW1 : W1 = W.alloc o4) :
    W.heap.size = w.heap.size + 1 + 1 + 1 ∧ W1.heap[w.heap.size]? = some o1 ∧ W1.heap[w.heap.size + 1]? = some o2 ∧ W1.heap[w.heap.size + 1 + 1]? = some o3 ∧ W1.heap[W.heap.size]? = some o4 ∧ Only (fun _ => False) w W1 := by
  subst hW hW1
  refine ⟨by simp, ?_, ?_, ?_, heap_alloc_new _ _, (((((Only.refl _ _).alloc _).alloc _).alloc _).alloc _)⟩
  · rw [heap_alloc_old _ _ (by simp <;> omega), heap_alloc_old _ _ (by simp <;> omega), heap_alloc_old _ _ (by simp)]
    exact heap_alloc_new w o1
  · rw [heap_alloc_old _ _ (by simp <;> omega), heap_alloc_old _ _ (by simp)]
    have := heap_alloc_new (w.alloc o1) o2
    rwa [World.size_alloc] at this
  · rw [heap_alloc_old _ _ (by simp)]
    have := heap_alloc_new ((w.alloc o1).alloc o2) o3
    rwa [World.size_alloc, World.size_alloc] at this
set_option maxRecDepth 100000 in
set_option maxHeartbeats 1000000 in
/-- Write: what a call writes. -/
theorem write_ok (w : World) (k : Nat) (cap : Array Value) (l : List UInt8) (he : ∀ args w, (callFunc k args).run Tryd.prog w = .ok (.enter k args) w) (hl : l ≠ [])
    (h : ∀ (w1 : World) (b : Nat) (S : Nat → Prop), Only (fun _ => False) w w1 → WrAt w1 b w.heap.size S [] → (∀ x, S x → w.heap.size ≤ x) → w.heap.size ≤ w1.heap.size → Calls Tryd.prog k (#[.pointer (some ⟨b, 0, none⟩)] ++ cap) w1 fun e w' => e = .returned (.tuple #[]) ∧ WPost w1 w' b w.heap.size S l) :
    Calls Tryd.prog 101 #[.func (.func k) #[] cap] w fun e w' => e = .returned (.tuple #[.string ⟨l.toArray⟩, .int .i64 0]) ∧ Only (fun _ => False) w w' := by
  have hmf : ∀ (fn : Fn) (first cap : Array Value) (w : World), (Instr.makeFunc fn first cap).run Tryd.prog w = .ok (.func fn first cap) w := fun _ _ _ _ => rfl
  have H := Lib.hid h
  have HE := Lib.hid he
  clear h he
  go_enter Tryd.func101, Tryd.ntmps101
  go_wp2_with fail
  obtain ⟨W, hW⟩ : ∃ W, W = (((w.alloc (.cells #[.func (.func k) #[] cap] 192)).alloc (.cells #[.pointer none, .slice none 0 0] 204)).alloc (.cells #[.pointer (some ⟨w.heap.size + 1, 0, none⟩)] 188)) := ⟨_, rfl⟩
  rw [← hW]
  obtain ⟨W1, hW1⟩ : ∃ W1, W1 = W.alloc (.cells #[.int .i64 0] 25) := ⟨_, rfl⟩
  obtain ⟨z0, z1, z2, z3, z4, z5⟩ := write_blocks w _ _ _ W W1 hW _ hW1
  have hWr : WrAt W1 (w.heap.size + 1) w.heap.size (fun x => x = w.heap.size + 1) [] := ⟨_, _, z2, .inl rfl, World.ownsRow_nil _ _ _ _, fun x => by simp [Value.ownBlock]⟩
  have hcall := H.out W1 (w.heap.size + 1) _ z5 hWr (fun x e => by omega) z5.size
  have hw1 := w1_any W1 w.heap.size (w.heap.size + 1 + 1) (w.heap.size + 1) k cap _ HE.out z1 z3 hcall (fun e w' h => .inl h.1)
  rw [hW1] at hw1
  refine (run_ok W 115 _ _ (fun _ _ => by go_simp) hw1 (fun w' h => ?_)).mono ?_
  · obtain ⟨S', h1, _⟩ := h
    rw [← hW1] at h1
    exact h1.old z4 (by omega)
  rintro e wz ⟨rfl, w2, ⟨S', h1, h2, h3⟩, h4⟩
  rw [← hW1] at h1 h3
  have hz1 : W1.heap.size = W.heap.size + 1 := by rw [hW1]; simp
  have hz3 : wz.heap[w.heap.size + 1 + 1]? = _ := h4.old (h1.old z3 (by omega)) (by omega)
  have hwz := h2.kept h4 (fun x hx e => by rcases h3 x hx with y | y <;> omega)
  have hc : wz.cell? ⟨w.heap.size + 1 + 1, 0, none⟩ = some (.pointer (some ⟨w.heap.size + 1, 0, none⟩)) := cell_at hz3 0
  have ho : Only (fun _ => False) w wz := (z5.tr h1 (fun i hi e => by omega)).tr h4 (fun i hi e => by omega)
  have hS' : ∀ x, S' x → w.heap.size ≤ x := fun x hx => by rcases h3 x hx with y | y <;> omega
  have HWZ := Lib.hid hwz
  have HO := Lib.hid ho
  have HS := Lib.hid hS'
  clear z0 z1 z2 z3 z4 z5 hWr hcall hw1 h1 h2 h3 h4 hz1 hz3 hwz ho hS' hW hW1
  go_wp2_with fail
  refine (bs_any _ _ _ S' l HWZ.out hl).mono ?_
  rintro e w3 ⟨rfl, ho3⟩
  go_wp2_with fail
  go_ret2
  exact ⟨rfl, HO.out.tr ho3 (fun i hi e => by have := HS.out i e; omega)⟩
set_option maxRecDepth 100000 in
set_option maxHeartbeats 1000000 in
/-- Write: what a call is refused with. -/
theorem write_no (w : World) (k : Nat) (cap : Array Value) (n : Int) (hn : n ≠ 0) (he : ∀ args w, (callFunc k args).run Tryd.prog w = .ok (.enter k args) w)
    (h : ∀ (w1 : World) (b : Nat) (S : Nat → Prop), Only (fun _ => False) w w1 → WrAt w1 b w.heap.size S [] → (∀ x, S x → w.heap.size ≤ x) → w.heap.size ≤ w1.heap.size → Calls Tryd.prog k (#[.pointer (some ⟨b, 0, none⟩)] ++ cap) w1 fun e w' => e = refused n ∧ Only S w1 w') :
    Calls Tryd.prog 101 #[.func (.func k) #[] cap] w fun e w' => e = .returned (.tuple #[.string ⟨#[]⟩, .int .i64 n]) ∧ Only (fun _ => False) w w' := by
  have hmf : ∀ (fn : Fn) (first cap : Array Value) (w : World), (Instr.makeFunc fn first cap).run Tryd.prog w = .ok (.func fn first cap) w := fun _ _ _ _ => rfl
  have hn0 : (n != 0) = true := by simp; exact hn
  have H := Lib.hid h
  have HE := Lib.hid he
  clear h he
  go_enter Tryd.func101, Tryd.ntmps101
  go_wp2_with fail
  obtain ⟨W, hW⟩ : ∃ W, W = (((w.alloc (.cells #[.func (.func k) #[] cap] 192)).alloc (.cells #[.pointer none, .slice none 0 0] 204)).alloc (.cells #[.pointer (some ⟨w.heap.size + 1, 0, none⟩)] 188)) := ⟨_, rfl⟩
  rw [← hW]
  obtain ⟨W1, hW1⟩ : ∃ W1, W1 = W.alloc (.cells #[.int .i64 0] 25) := ⟨_, rfl⟩
  obtain ⟨z0, z1, z2, z3, z4, z5⟩ := write_blocks w _ _ _ W W1 hW _ hW1
  have hWr : WrAt W1 (w.heap.size + 1) w.heap.size (fun x => x = w.heap.size + 1) [] := ⟨_, _, z2, .inl rfl, World.ownsRow_nil _ _ _ _, fun x => by simp [Value.ownBlock]⟩
  have hcall := H.out W1 (w.heap.size + 1) _ z5 hWr (fun x e => by omega) z5.size
  have hw1 := w1_any W1 w.heap.size (w.heap.size + 1 + 1) (w.heap.size + 1) k cap _ HE.out z1 z3 hcall (fun e w' h => .inr ⟨n, h.1⟩)
  rw [hW1] at hw1
  refine (run_no W 115 _ n _ (fun _ _ => by go_simp) hw1 (fun w' h => ?_)).mono ?_
  · rw [← hW1] at h
    exact h.old z4 (by omega)
  rintro e wz ⟨rfl, w2, h1, h4⟩
  rw [← hW1] at h1
  have ho : Only (fun _ => False) w wz := (z5.tr h1 (fun i hi e => by omega)).tr h4 (fun i hi e => by omega)
  clear z0 z1 z2 z3 z4 z5 hWr hcall hw1 h1 h4 hW hW1
  go_wp2_with fail
  go_ret2
  exact ⟨rfl, ho⟩
end Go.Proofs.YtjdlcfllmpdffaaDoor
/-! pack: Reader.Raw, Num, Left; Read. -/
namespace Go.Proofs.YtjdlcfllmpdffaaDoor
open Go.Conc Go.RowKit

/-- A Reader: its block, what is left. -/
def RdAt (w : World) (b : Nat) (s : ByteArray) : Prop := w.heap[b]? = some (.cells #[.string s] 195 (0, 0))
theorem RdAt.kept {S : Nat → Prop} {w w' : World} {b : Nat} {s : ByteArray} (h : RdAt w b s) (ho : Only S w w') (hn : ¬ S b) : RdAt w' b s := ho.old h hn
def RPost (w w' : World) (b : Nat) (s : ByteArray) : Prop := Only (fun x => x = b) w w' ∧ RdAt w' b s

theorem left_any (w : World) (b : Nat) (s : ByteArray) (h : RdAt w b s) : Calls Tryd.prog 94 #[.pointer (some ⟨b, 0, none⟩)] w fun e w' => e = .returned (.int .i64 s.size) ∧ w = w' := by
  have hc : w.cell? ⟨b, 0, none⟩ = some (.string s) := cell_at h 0
  go_enter Tryd.func94, Tryd.ntmps94
  go_wp2_with fail
  go_ret
  exact ⟨rfl, rfl⟩

set_option maxRecDepth 100000 in
theorem rraw_ok (w : World) (b : Nat) (s : ByteArray) (n : Nat) (h : RdAt w b s) (hn : n ≤ s.size) :
    Calls Tryd.prog 89 #[.pointer (some ⟨b, 0, none⟩), .int .i64 n] w fun e w' => e = .returned (.string (s.extract 0 n)) ∧ RPost w w' b (s.extract n s.size) := by
  have hc : w.cell? ⟨b, 0, none⟩ = some (.string s) := cell_at h 0
  have hz := free_at h 0
  have q1 : decide ((n : Int) < 0) = false := by simp
  have q2 : decide ((s.size : Int) < (n : Int)) = false := by simp; omega
  have q3 : decide (s.size < n) = false := by simp; omega
  have hn2 : (n : Int) ≤ (s.size : Int) := by omega
  have HB := Lib.hid h
  clear h
  go_enter Tryd.func89, Tryd.ntmps89
  go_wp2_with fail
  go_ret
  exact ⟨rfl, (Only.refl _ _).setCell (S := fun x => x = b) (p := ⟨b, 0, none⟩) (.inr rfl) _, set_at HB.out 0 _⟩
set_option maxRecDepth 100000 in
theorem rraw_short (w : World) (b : Nat) (s : ByteArray) (n : Nat) (h : RdAt w b s) (hn : s.size < n) :
    Calls Tryd.prog 89 #[.pointer (some ⟨b, 0, none⟩), .int .i64 n] w fun e w' => e = refused 2 ∧ w = w' := by
  have hc : w.cell? ⟨b, 0, none⟩ = some (.string s) := cell_at h 0
  have q1 : decide ((n : Int) < 0) = false := by simp
  have q2 : decide ((s.size : Int) < (n : Int)) = true := by simp; omega
  have q3 : decide (s.size < n) = true := by simp; omega
  clear h
  go_enter Tryd.func89, Tryd.ntmps89
  go_wp2_with fail
  refine (refuse_any _ 2 (by decide)).mono ?_
  rintro e w' ⟨rfl, rfl⟩
  unfold refused
  go_wp2_with fail
  exact ⟨rfl, rfl, rfl⟩

/-- Bytes as a number, the greatest first. -/
def beN (l : List UInt8) (n : Nat) : Nat := l.foldl (fun n c => n * 256 + c.toNat) n
theorem beN_snoc (l : List UInt8) (n : Nat) (c : UInt8) : beN (l ++ [c]) n = beN l n * 256 + c.toNat := by simp [beN]
theorem beN_lt : ∀ (l : List UInt8), beN l 0 < 256 ^ l.length := by
  intro l
  rcases List.eq_nil_or_concat l with rfl | ⟨m, c, rfl⟩
  · decide
  · rw [List.concat_eq_append, beN_snoc, List.length_append]
    have := beN_lt m
    have hc := c.toNat_lt
    rw [show m.length + [c].length = m.length + 1 from rfl, Nat.pow_succ]
    have h2 : (beN m 0 + 1) * 256 ≤ 256 ^ m.length * 256 := Nat.mul_le_mul_right 256 this
    omega
termination_by l => l.length
theorem u64_or (a b : Nat) (ha : a < 2 ^ 56) (hb : b < 256) : bits .or .u64 ((a : Int) * 256) (b : Int) = ((a * 256 + b : Nat) : Int) := by
  have hx : a * 256 ||| b < 2 ^ 64 := Nat.or_lt_two_pow (by omega) (by omega)
  rw [show ((a : Int) * 256) = ((a * 256 : Nat) : Int) by omega]
  show IntKind.u64.wrap ((BitVec.ofInt 64 ((a * 256 : Nat) : Int) ||| BitVec.ofInt 64 (b : Int)).toNat : Int) = _
  rw [BitVec.toNat_or, BitVec.ofInt_natCast, BitVec.ofInt_natCast, BitVec.toNat_ofNat, BitVec.toNat_ofNat, Nat.mod_eq_of_lt (by omega), Nat.mod_eq_of_lt (by omega)]
  rw [show a * 256 = a <<< 8 by rw [Nat.shiftLeft_eq]] at hx ⊢
  rw [← Nat.shiftLeft_add_eq_or_of_lt (i := 8) (by omega) a, Nat.shiftLeft_eq] at hx ⊢
  exact IntWalk.u64_in _ (by omega)

set_option maxRecDepth 100000 in
set_option maxHeartbeats 1000000 in
theorem rnum_ok (w : World) (b : Nat) (s : ByteArray) (size : Nat) (h : RdAt w b s) (h1 : 1 ≤ size) (h8 : size ≤ 8) (hn : size ≤ s.size) :
    Calls Tryd.prog 90 #[.pointer (some ⟨b, 0, none⟩), .int .i64 size] w fun e w' => e = .returned (.int .u64 (beN (s.data.toList.take size) 0 : Nat)) ∧ RPost w w' b (s.extract size s.size) := by
  have s1 : (1 : Int) ≤ size := by omega
  have s2 : (size : Int) ≤ 8 := by omega
  go_enter Tryd.func90, Tryd.ntmps90
  go_wp2_with fail
  refine (rraw_ok _ b s size h hn).mono ?_
  rintro e w1 ⟨rfl, ho1, hr1⟩
  have hT : (s.extract 0 size).data.toList = s.data.toList.take size := by
    rw [ByteArray.data_extract, Array.toList_extract]
    simp
  have hTs : (s.extract 0 size).size = size := by rw [ByteArray.size_extract]; omega
  have hge := grownCap_ge w1 (s.extract 0 size).size 0 5
  have hle := grownCap_le_maxLen w1 (s.extract 0 size).size 0 5 (by unfold maxLen; omega)
  have hB := Byt.new w1 (s.extract 0 size) (grownCap w1 (s.extract 0 size).size 0 5)
  generalize s.extract 0 size = t at *
  have HT := Lib.hid hT
  have HB := Lib.hid hB
  have HO := Lib.hid ho1
  have HR := Lib.hid hr1
  have hlen : t.data.toList.length = size := hTs
  have HTS := Lib.hid hTs
  clear hB ho1 hr1 hT h hTs
  have hcv := run_bytes_of_string (P := Tryd.prog) w1 9 116 5 t Tryd.underlying9 Tryd.underlying116 Tryd.underlying5
  go_wp2_with fail
  generalize grownCap w1 t.size 0 5 = C at *
  generalize (bytesRow t C).size = N at *
  go_loopg [5, 7, 20] size (fun g v5 v7 v20 wx => ∃ j : Nat, v20 = .int .i64 j ∧ j ≤ size ∧ v5 = .int .u64 (beN (t.data.toList.take j) 0 : Nat) ∧ (w1.alloc (.cells (bytesRow t C) 5 (N, N + 1))).drew = wx ∧ g = size - j)
  case atStart => exact ⟨0, rfl, Nat.zero_le _, rfl, rfl, rfl⟩
  case round =>
    obtain ⟨j, rfl, hj, rfl, rfl, hg⟩ := hrel
    have Hg := Lib.hid hg
    clear hg
    by_cases hlt : j < size
    · have hjl : j < t.data.toList.length := by omega
      have hz := HB.out.cell (j := j) (u := .int .u8 (t.data.toList[j].toNat)) (by rw [byteVals, List.getElem?_map, List.getElem?_eq_getElem hjl]; rfl)
      have hsn : t.data.toList.take (j + 1) = t.data.toList.take j ++ [t.data.toList[j]] := by rw [List.take_succ_eq_append_getElem hjl]
      have hblt := beN_lt (t.data.toList.take j)
      have hc := t.data.toList[j].toNat_lt
      have hnx : beN (t.data.toList.take (j + 1)) 0 = beN (t.data.toList.take j) 0 * 256 + t.data.toList[j].toNat := by rw [hsn, beN_snoc]
      have hb56 : beN (t.data.toList.take j) 0 < 2 ^ 56 := by
        refine Nat.lt_of_lt_of_le hblt ?_
        rw [List.length_take]
        exact Nat.le_trans (Nat.pow_le_pow_right (by decide) (show min j t.data.toList.length ≤ 7 by omega)) (by decide)
      have hor := u64_or (beN (t.data.toList.take j) 0) (t.data.toList[j].toNat) hb56 (by omega)
      rw [← hnx] at hor
      have hnn : beN (t.data.toList.take (j + 1)) 0 < 2 ^ 64 := by rw [hnx]; omega
      generalize beN (t.data.toList.take j) 0 = x at *
      generalize hy : beN (t.data.toList.take (j + 1)) 0 = y at *
      have HY := Lib.hid hy
      clear hy
      generalize t.data.toList[j].toNat = c at *
      have hts : j < t.size := by rw [HTS.out]; exact hlt
      have hw1 : ∀ z : Int, z = (x : Int) * 256 → IntKind.u64.wrap z = (x : Int) * 256 := by
        rintro z rfl
        exact IntWalk.u64_in _ (by omega)
      have hb2 : (0 : Int) ≤ (x : Int) := by omega
      have hor2 : ∀ z : Int, z = (c : Int) → bits BinOp.or IntKind.u64 ((x : Int) * 256) z = (y : Int) := by rintro z rfl; exact hor
      clear hblt hsn hnx hb56 hnn hor
      go_wp2_with fail
      go_roundg (size - (j + 1))
      case measure => rw [Hg.out]; omega
      case rel => exact ⟨j + 1, by go_num, by omega, by rw [HY.out], rfl, rfl⟩
    · have hjs : j = size := by omega
      have HJ := Lib.hid hjs
      have hts : ¬ j < t.size := by rw [HTS.out]; exact hlt
      have q1 : decide ((j : Int) < (t.size : Int)) = false := by simp; omega
      clear hjs
      go_wp2_with fail
      go_ret
      rw [HJ.out, List.take_of_length_le (Nat.le_of_eq hlen), HT.out]
      exact ⟨rfl, (HO.out.alloc _).drew, HR.out.kept (S := fun _ => False) (((Only.refl _ _).alloc _).drew) id⟩
set_option maxRecDepth 100000 in
theorem rnum_short (w : World) (b : Nat) (s : ByteArray) (size : Nat) (h : RdAt w b s) (h1 : 1 ≤ size) (h8 : size ≤ 8) (hn : s.size < size) :
    Calls Tryd.prog 90 #[.pointer (some ⟨b, 0, none⟩), .int .i64 size] w fun e w' => e = refused 2 ∧ w = w' := by
  have s1 : (1 : Int) ≤ size := by omega
  have s2 : (size : Int) ≤ 8 := by omega
  go_enter Tryd.func90, Tryd.ntmps90
  go_wp2_with fail
  refine (rraw_short _ b s size h hn).mono ?_
  rintro e w1 ⟨rfl, rfl⟩
  unfold refused
  go_wp2_with fail
  exact ⟨rfl, rfl, rfl⟩

theorem r1_any (w : World) (fb pb b k : Nat) (cap : Array Value) (R : Ending → World → Prop) (he : ∀ args w, (callFunc k args).run Tryd.prog w = .ok (.enter k args) w)
    (hf : w.heap[fb]? = some (.cells #[.func (.func k) #[] cap] 179 (0, 0))) (hp : w.heap[pb]? = some (.cells #[.pointer (some ⟨b, 0, none⟩)] 176 (0, 0)))
    (h : Calls Tryd.prog k (#[.pointer (some ⟨b, 0, none⟩)] ++ cap) w R) (hR : ∀ e w', R e w' → e = .returned (.tuple #[]) ∨ ∃ n, e = refused n) :
    Calls Tryd.prog 109 #[.pointer (some ⟨fb, 0, none⟩), .pointer (some ⟨pb, 0, none⟩)] w R := by
  have c1 : w.cell? ⟨fb, 0, none⟩ = some (.func (.func k) #[] cap) := cell_at hf 0
  have c2 : w.cell? ⟨pb, 0, none⟩ = some (.pointer (some ⟨b, 0, none⟩)) := cell_at hp 0
  go_enter Tryd.func109, Tryd.ntmps109
  go_wp2_with fail
  refine h.mono ?_
  intro e w' hr
  rcases hR e w' hr with rfl | ⟨n, rfl⟩
  · have HR := Lib.hid hr
    clear hr
    go_wp2_with fail
    go_end0
    exact HR.out
  · have HR := Lib.hid hr
    clear hr
    unfold refused at HR ⊢
    go_wp2_with fail
    exact ⟨rfl, HR.out⟩
set_option maxRecDepth 100000 in
set_option maxHeartbeats 1000000 in
/-- Read: a call that returns. T: the blocks that it may have written besides. -/
theorem read_ok (w : World) (s : ByteArray) (k : Nat) (cap : Array Value) (T : Nat → Prop) (rest : ByteArray) (X : World → Prop) (he : ∀ args w, (callFunc k args).run Tryd.prog w = .ok (.enter k args) w)
    (hX : ∀ a c, X a → Only (fun x => w.heap.size ≤ x) a c → X c)
    (h : ∀ (w1 : World) (b : Nat), Only (fun _ => False) w w1 → RdAt w1 b s → w.heap.size ≤ b → Calls Tryd.prog k (#[.pointer (some ⟨b, 0, none⟩)] ++ cap) w1 fun e w' => e = .returned (.tuple #[]) ∧ Only (fun x => x = b ∨ (T x ∧ x < w.heap.size)) w1 w' ∧ RdAt w' b rest ∧ X w') :
    Calls Tryd.prog 87 #[.string s, .func (.func k) #[] cap] w fun e w' => e = .returned (.int .i64 (if rest.size = 0 then 0 else 3)) ∧ Only T w w' ∧ X w' := by
  have hmf : ∀ (fn : Fn) (first cap : Array Value) (w : World), (Instr.makeFunc fn first cap).run Tryd.prog w = .ok (.func fn first cap) w := fun _ _ _ _ => rfl
  obtain ⟨z, hz⟩ : ∃ z : Int, z = if rest.size = 0 then 0 else 3 := ⟨_, rfl⟩
  rw [← hz]
  have Hz := Lib.hid hz
  clear hz
  have H := Lib.hid h
  have HE := Lib.hid he
  have HX := Lib.hid hX
  clear h he hX
  go_enter Tryd.func87, Tryd.ntmps87
  go_wp2_with fail
  obtain ⟨W, hW⟩ : ∃ W, W = (((w.alloc (.cells #[.func (.func k) #[] cap] 179)).alloc (.cells #[.string s] 195)).alloc (.cells #[.pointer (some ⟨w.heap.size + 1, 0, none⟩)] 176)) := ⟨_, rfl⟩
  rw [← hW]
  obtain ⟨W1, hW1⟩ : ∃ W1, W1 = W.alloc (.cells #[.int .i64 0] 25) := ⟨_, rfl⟩
  obtain ⟨z0, z1, z2, z3, z4, z5⟩ := write_blocks w _ _ _ W W1 hW _ hW1
  have hcall := H.out W1 (w.heap.size + 1) z5 z2 (by omega)
  have hw1 := r1_any W1 w.heap.size (w.heap.size + 1 + 1) (w.heap.size + 1) k cap _ HE.out z1 z3 hcall (fun e w' h => .inl h.1)
  rw [hW1] at hw1
  refine (run_ok W 109 _ _ (fun _ _ => by go_simp) hw1 (fun w' h => ?_)).mono ?_
  · obtain ⟨h1, _⟩ := h
    rw [← hW1] at h1
    exact h1.old z4 (by omega)
  rintro e wz ⟨rfl, w2, ⟨h1, h2, h3⟩, h4⟩
  rw [← hW1] at h1
  have hz3 : wz.heap[w.heap.size + 1 + 1]? = _ := h4.old (h1.old z3 (by omega)) (by omega)
  have hwz := h2.kept h4 (by omega)
  have hc : wz.cell? ⟨w.heap.size + 1 + 1, 0, none⟩ = some (.pointer (some ⟨w.heap.size + 1, 0, none⟩)) := cell_at hz3 0
  have hc2 : wz.cell? ⟨w.heap.size + 1, 0, none⟩ = some (.string rest) := cell_at hwz 0
  have ho : Only T w wz := ((z5.weaken (fun _ _ h => h.elim)).tr h1 (fun i hi e => by rcases e with e | e; omega; exact e.1)).tr h4 (fun i hi e => by omega)
  have hx := HX.out _ _ h3 (h4.weaken (fun i _ e => by omega))
  have HXX := Lib.hid hx
  have HO := Lib.hid ho
  clear z0 z1 z2 z3 z4 z5 hcall hw1 h1 h2 h3 h4 hz3 hwz ho hx hW hW1
  by_cases hr : rest.size = 0
  · have e0 := empty_true hr
    have e1 : (!rest.toList.isEmpty) = false := by rw [e0]; rfl
    have HR := Lib.hid hr
    clear hr
    go_wp2_with fail
    go_ret
    exact ⟨ret_int (by rw [Hz.out, if_pos HR.out]), HO.out, HXX.out⟩
  · have e0 := empty_false hr
    have e1 : (!rest.toList.isEmpty) = true := by rw [e0]; rfl
    have HR := Lib.hid hr
    clear hr
    go_wp2_with fail
    go_ret
    exact ⟨ret_int (by rw [Hz.out, if_neg HR.out]), HO.out, HXX.out⟩
set_option maxRecDepth 100000 in
set_option maxHeartbeats 1000000 in
/-- Read: a call that is refused. -/
theorem read_no (w : World) (s : ByteArray) (k : Nat) (cap : Array Value) (T : Nat → Prop) (n : Int) (hn : n ≠ 0) (X : World → Prop) (he : ∀ args w, (callFunc k args).run Tryd.prog w = .ok (.enter k args) w)
    (hX : ∀ a c, X a → Only (fun x => w.heap.size ≤ x) a c → X c)
    (h : ∀ (w1 : World) (b : Nat), Only (fun _ => False) w w1 → RdAt w1 b s → w.heap.size ≤ b → Calls Tryd.prog k (#[.pointer (some ⟨b, 0, none⟩)] ++ cap) w1 fun e w' => e = refused n ∧ Only (fun x => x = b ∨ (T x ∧ x < w.heap.size)) w1 w' ∧ X w') :
    Calls Tryd.prog 87 #[.string s, .func (.func k) #[] cap] w fun e w' => e = .returned (.int .i64 n) ∧ Only T w w' ∧ X w' := by
  have hmf : ∀ (fn : Fn) (first cap : Array Value) (w : World), (Instr.makeFunc fn first cap).run Tryd.prog w = .ok (.func fn first cap) w := fun _ _ _ _ => rfl
  have hn0 : (n != 0) = true := by simp; exact hn
  have H := Lib.hid h
  have HE := Lib.hid he
  have HX := Lib.hid hX
  clear h he hX
  go_enter Tryd.func87, Tryd.ntmps87
  go_wp2_with fail
  obtain ⟨W, hW⟩ : ∃ W, W = (((w.alloc (.cells #[.func (.func k) #[] cap] 179)).alloc (.cells #[.string s] 195)).alloc (.cells #[.pointer (some ⟨w.heap.size + 1, 0, none⟩)] 176)) := ⟨_, rfl⟩
  rw [← hW]
  obtain ⟨W1, hW1⟩ : ∃ W1, W1 = W.alloc (.cells #[.int .i64 0] 25) := ⟨_, rfl⟩
  obtain ⟨z0, z1, z2, z3, z4, z5⟩ := write_blocks w _ _ _ W W1 hW _ hW1
  have hcall := H.out W1 (w.heap.size + 1) z5 z2 (by omega)
  have hw1 := r1_any W1 w.heap.size (w.heap.size + 1 + 1) (w.heap.size + 1) k cap _ HE.out z1 z3 hcall (fun e w' h => .inr ⟨n, h.1⟩)
  rw [hW1] at hw1
  refine (run_no W 109 _ n _ (fun _ _ => by go_simp) hw1 (fun w' h => ?_)).mono ?_
  · obtain ⟨h1, _⟩ := h
    rw [← hW1] at h1
    exact h1.old z4 (by omega)
  rintro e wz ⟨rfl, w2, ⟨h1, h3⟩, h4⟩
  rw [← hW1] at h1
  have ho : Only T w wz := ((z5.weaken (fun _ _ h => h.elim)).tr h1 (fun i hi e => by rcases e with e | e; omega; exact e.1)).tr h4 (fun i hi e => by omega)
  have hx := HX.out _ _ h3 (h4.weaken (fun i _ e => by omega))
  have HXX := Lib.hid hx
  have HO := Lib.hid ho
  clear z0 z1 z2 z3 z4 z5 hcall hw1 h1 h3 h4 ho hx hW hW1
  go_wp2_with fail
  go_ret
  exact ⟨rfl, HO.out, HXX.out⟩
end Go.Proofs.YtjdlcfllmpdffaaDoor
/-! Names of services in plain: what the reference scans is what stands between the full stops. -/
namespace Go.Proofs.YtjdlcfllmpdffaaDoor
open Go.Conc Go.RowKit

/-- May a byte stand in a label? -/
def letterB (c : UInt8) : Bool := (decide (97 ≤ c.toNat) && decide (c.toNat ≤ 122)) || (decide (48 ≤ c.toNat) && decide (c.toNat ≤ 57)) || decide (c.toNat = 45) || decide (c.toNat = 95)
def labelOk (x : List UInt8) : Bool := !x.isEmpty && x.all letterB
/-- A text whose byte ahead was (or was taken for) a full stop or was none. -/
def good : Bool → List UInt8 → Bool
  | p, [] => !p
  | p, b :: l => if b = 46 then !p && good true l else letterB b && good false l
theorem spl_good : ∀ (l cur : List UInt8), (spl cur l).all labelOk = (cur.all letterB && good cur.isEmpty l) := by
  intro l
  induction l with
  | nil => intro cur; simp [spl, labelOk, good, Bool.and_comm]
  | cons b l ih =>
    intro cur
    rw [spl, good]
    by_cases hb : b = 46
    · rw [if_pos hb, if_pos hb, List.all_cons, ih]
      simp only [labelOk, List.all_nil, List.isEmpty_nil]
      cases cur.all letterB <;> cases cur.isEmpty <;> simp
    · rw [if_neg hb, if_neg hb, ih]
      have e : (cur ++ [b]).isEmpty = false := by cases cur <;> rfl
      rw [e, List.all_append]
      simp [Bool.and_assoc]
/-- Is a text a name? -/
def namedP (s : ByteArray) : Bool := decide (1 ≤ s.size) && decide (s.size ≤ 62) && good true s.data.toList
theorem named_split (s : ByteArray) : good true s.data.toList = (splitL s).all fun x => labelOk x.data.toList := by
  have h := spl_good s.data.toList []
  rw [← splitL_data, List.all_map] at h
  have h2 := h.symm
  simp only [List.all_nil, Bool.true_and, List.isEmpty_nil] at h2
  exact h2
end Go.Proofs.YtjdlcfllmpdffaaDoor
/-! record: letter, node, Named; the reference's Named. -/
namespace Go.Proofs.YtjdlcfllmpdffaaDoor
open Go.Conc Go.RowKit

theorem letter_any (w : World) (c : Int) (b : UInt8) (hc : c = (b.toNat : Int)) : Calls Tryd.prog 98 #[.int .u8 c] w fun e w' => e = .returned (.bool (letterB b)) ∧ w = w' := by
  subst hc
  have hb := b.toNat_lt
  unfold letterB
  generalize b.toNat = n at *
  go_enter Tryd.func98, Tryd.ntmps98
  go_wp2_with fail
  all_goals (
    go_ret
    refine ⟨ret_bool ?_, rfl⟩
    rw [Bool.eq_iff_iff]
    simp
    omega)
def nodeB (n : Int) : Bool := decide (1 ≤ n) && decide (n ≤ 65535)
theorem node_any (w : World) (n : Int) : Calls Tryd.prog 95 #[.int .i64 n] w fun e w' => e = .returned (.bool (nodeB n)) ∧ w = w' := by
  unfold nodeB
  go_enter Tryd.func95, Tryd.ntmps95
  go_wp2_with fail
  all_goals (
    go_ret
    refine ⟨ret_bool ?_, rfl⟩
    rw [Bool.eq_iff_iff]
    simp
    omega)

def okS (x : ByteArray) : Bool := labelOk x.data.toList
theorem strs_cell {w : World} {b off k : Nat} {l : List ByteArray} (hc : ∀ j u, (l.map Value.string)[j]? = some u → w.cell? ⟨b, off + j, none⟩ = some u) (hk : k < l.length) : w.cell? ⟨b, off + k, none⟩ = some (.string l[k]) := hc k _ (by simp [hk])
theorem namedP_bad {s : ByteArray} (h : s.size = 0 ∨ 62 < s.size) : namedP s = false := by
  unfold namedP
  rcases h with h | h
  · have : decide (1 ≤ s.size) = false := decide_eq_false (by omega)
    rw [this]
    rfl
  · have : decide (s.size ≤ 62) = false := decide_eq_false (by omega)
    rw [this]
    simp
theorem namedP_ok {s : ByteArray} (h1 : s.size ≠ 0) (h2 : ¬ 62 < s.size) : namedP s = (splitL s).all okS := by
  unfold namedP
  have e1 : decide (1 ≤ s.size) = true := decide_eq_true (by omega)
  have e2 : decide (s.size ≤ 62) = true := decide_eq_true (by omega)
  rw [e1, e2, named_split]
  rfl
theorem byte_get (x : ByteArray) (j : Nat) (h : j < x.size) : (x[j]'h) = x.data.toList[j]'h := rfl

set_option maxRecDepth 100000 in
set_option maxHeartbeats 1000000 in
theorem named_any (w : World) (s : ByteArray) (m : Int) (hm : w.cell? ⟨0, 0, none⟩ = some (.int .i64 m)) (hs : s.size ≤ maxLen) :
    Calls Tryd.prog 80 #[.string s] w fun e w' => e = .returned (.bool (namedP s)) ∧ Only (fun _ => False) w w' := by
  have HM := Lib.hid hm
  unfold maxLen at hs
  clear hm
  by_cases h0 : s.size = 0
  · have e0 := empty_true h0
    have HB := Lib.hid (namedP_bad (.inl h0))
    clear h0
    go_enter Tryd.func80, Tryd.ntmps80
    go_wp2_with fail
    go_ret
    exact ⟨ret_bool HB.out.symm, Only.refl _ _⟩
  · have e0 := empty_false h0
    by_cases h6 : 62 < s.size
    · have e1 : decide ((62 : Int) < (s.size : Int)) = true := by simp; omega
      have HB := Lib.hid (namedP_bad (.inr h6))
      clear h0
      go_enter Tryd.func80, Tryd.ntmps80
      go_wp2_with fail
      go_ret
      exact ⟨ret_bool HB.out.symm, Only.refl _ _⟩
    · have e1 : decide ((62 : Int) < (s.size : Int)) = false := by simp; omega
      have HB := Lib.hid (namedP_ok h0 h6)
      clear h0
      go_enter Tryd.func80, Tryd.ntmps80
      go_wp2_with fail
      refine (lsplit_any _ s m (by omega) HM.out).mono ?_
      rintro e w1 ⟨v, rfl, ho1, hsl⟩
      have hsz := splitL_size s
      generalize splitL s = l at *
      obtain ⟨hh, a, cap, rfl, h3, h4, h5⟩ := hsl
      unfold maxLen at h4
      have H5 := Lib.hid h5
      have HSZ := Lib.hid hsz
      clear hh h5 hsz
      go_wp2_with fail
      go_loopg [4, 5, 16, 22, 23, 24] l.length (fun g v4 v5 v16 v22 v23 v24 wx => ∃ k : Nat, v16 = .int .i64 k ∧ k ≤ l.length ∧ w1 = wx ∧ l.all okS = (l.drop k).all okS ∧ g = l.length - k)
      case atStart => exact ⟨0, rfl, Nat.zero_le _, rfl, rfl, rfl⟩
      case round =>
        obtain ⟨k, rfl, hk, rfl, hall, hg⟩ := hrel
        have Hg := Lib.hid hg
        have HA := Lib.hid hall
        clear hg hall
        by_cases hlt : k < l.length
        · obtain ⟨b, off, ha, hc⟩ := H5.out.resolve_left (by omega)
          subst ha
          have hz := strs_cell hc hlt
          have hd : l.drop k = l[k] :: l.drop (k + 1) := List.drop_eq_getElem_cons hlt
          have hxs : l[k].size ≤ 62 := by have := HSZ.out _ (List.getElem_mem hlt); omega
          generalize l[k] = x at *
          have HD := Lib.hid hd
          clear hd hc
          by_cases hx0 : x.size = 0
          · have f0 := empty_true hx0
            have HX := Lib.hid (show okS x = false by
              have : x.data.toList = [] := List.eq_nil_of_length_eq_zero hx0
              unfold okS labelOk
              rw [this]
              rfl)
            clear hx0
            go_wp2_with fail
            go_ret
            exact ⟨ret_bool (by rw [HB.out, HA.out, HD.out, List.all_cons, HX.out]; rfl), ho1⟩
          · have f0 := empty_false hx0
            have HX := Lib.hid (show okS x = x.data.toList.all letterB by
              have : x.data.toList.isEmpty = false := by
                cases hl : x.data.toList with
                | nil => exact absurd (by show x.data.toList.length = 0; rw [hl]; rfl) hx0
                | cons => rfl
              unfold okS labelOk
              rw [this]
              rfl)
            clear hx0
            go_wp2_with fail
            go_loopg [5, 24] x.size (fun g v5 v24 wy => ∃ j : Nat, v24 = .int .i64 j ∧ j ≤ x.size ∧ w1 = wy ∧ x.data.toList.all letterB = (x.data.toList.drop j).all letterB ∧ g = x.size - j)
            case atStart => exact ⟨0, rfl, Nat.zero_le _, rfl, rfl, rfl⟩
            case round =>
              obtain ⟨j, rfl, hj, rfl, hxa, hgj⟩ := hrel
              have Hgj := Lib.hid hgj
              have HXA := Lib.hid hxa
              clear hgj hxa
              by_cases hjl : j < x.size
              · have hdj : x.data.toList.drop j = x.data.toList[j]'hjl :: x.data.toList.drop (j + 1) := List.drop_eq_getElem_cons hjl
                have hbg := byte_get x j hjl
                generalize hc0 : x.data.toList[j]'hjl = c at *
                have HDJ := Lib.hid hdj
                clear hdj hc0
                go_wp2_with fail
                refine (letter_any _ _ c (by rw [← hbg])).mono ?_
                rintro e w2 ⟨rfl, rfl⟩
                cases hlc : letterB c with
                | true =>
                  have HLC := Lib.hid hlc
                  clear hlc
                  go_wp2_with fail
                  go_roundg (x.size - (j + 1))
                  case measure => rw [Hgj.out]; omega
                  case rel => exact ⟨j + 1, by go_num, by omega, rfl, by rw [HXA.out, HDJ.out, List.all_cons, HLC.out]; rfl, rfl⟩
                | false =>
                  have HLC := Lib.hid hlc
                  clear hlc
                  go_wp2_with fail
                  go_ret
                  exact ⟨ret_bool (by rw [HB.out, HA.out, HD.out, List.all_cons, HX.out, HXA.out, HDJ.out, List.all_cons, HLC.out]; rfl), ho1⟩
              · have HXT := Lib.hid (show x.data.toList.all letterB = true by
                  rw [HXA.out, List.drop_eq_nil_of_le (by show x.size ≤ j; omega)]
                  rfl)
                go_wp2_with fail
                go_roundg (l.length - (k + 1))
                case measure => rw [Hg.out]; omega
                case rel => exact ⟨k + 1, by go_num, by omega, rfl, by rw [HA.out, HD.out, List.all_cons, HX.out, HXT.out]; rfl, rfl⟩
        · have HN := Lib.hid (show l.all okS = true by
            rw [HA.out, List.drop_eq_nil_of_le (by omega)]
            rfl)
          go_wp2_with fail
          go_ret
          exact ⟨ret_bool (by rw [HB.out, HN.out]), ho1⟩
end Go.Proofs.YtjdlcfllmpdffaaDoor
/-! The reference's Named, Key, Origin. -/
namespace Go.Proofs.YtjdlcfllmpdffaaDoor
open Go.Conc Go.RowKit

/-- Is there no label's byte ahead of place k? -/
def pd (l : List UInt8) : Nat → Bool
  | 0 => true
  | j + 1 => decide (l.getD j 0 = 46)
theorem namedP_go {s : ByteArray} (h1 : s.size ≠ 0) (h2 : ¬ 62 < s.size) : namedP s = good true s.data.toList := by
  rw [namedP_ok h1 h2, named_split]
  rfl

set_option maxRecDepth 100000 in
set_option maxHeartbeats 1000000 in
theorem rnamed_any (w : World) (s : ByteArray) (hs : s.size ≤ maxLen) :
    Calls Tryd.prog 112 #[.string s] w fun e w' => e = .returned (.bool (namedP s)) ∧ w = w' := by
  unfold maxLen at hs
  by_cases h0 : s.size = 0
  · have HB := Lib.hid (namedP_bad (.inl h0))
    have q1 : decide ((s.size : Int) < 1) = true := by simp; omega
    clear h0
    go_enter Tryd.func112, Tryd.ntmps112
    go_wp2_with fail
    go_ret
    exact ⟨ret_bool HB.out.symm, rfl⟩
  · have q1 : decide ((s.size : Int) < 1) = false := by simp; omega
    by_cases h6 : 62 < s.size
    · have e1 : decide ((62 : Int) < (s.size : Int)) = true := by simp; omega
      have HB := Lib.hid (namedP_bad (.inr h6))
      clear h0
      go_enter Tryd.func112, Tryd.ntmps112
      go_wp2_with fail
      go_ret
      exact ⟨ret_bool HB.out.symm, rfl⟩
    · have e1 : decide ((62 : Int) < (s.size : Int)) = false := by simp; omega
      have HB := Lib.hid (namedP_go h0 h6)
      have H0 := Lib.hid h0
      clear h0
      go_enter Tryd.func112, Tryd.ntmps112
      go_wp2_with fail
      clear q1
      go_loopg [3, 4] s.size (fun g v3 v4 wx => ∃ k : Nat, v3 = .int .i64 k ∧ k ≤ s.size ∧ w = wx ∧ good true s.data.toList = good (pd s.data.toList k) (s.data.toList.drop k) ∧ (k = s.size → pd s.data.toList k = false) ∧ g = s.size - k)
      case atStart => exact ⟨0, rfl, Nat.zero_le _, rfl, rfl, fun e => absurd e.symm H0.out, rfl⟩
      case round =>
        obtain ⟨k, rfl, hk, rfl, hg0, hend, hg⟩ := hrel
        have Hg := Lib.hid hg
        have HG0 := Lib.hid hg0
        have HE := Lib.hid hend
        clear hg hg0 hend
        by_cases hlt : k < s.size
        · have hd : s.data.toList.drop k = s.data.toList[k]'hlt :: s.data.toList.drop (k + 1) := List.drop_eq_getElem_cons hlt
          have hbg := byte_get s k hlt
          have hpd : pd s.data.toList (k + 1) = decide (s.data.toList[k]'hlt = 46) := by
            show decide (s.data.toList.getD k 0 = 46) = _
            rw [List.getD_eq_getElem?_getD, List.getElem?_eq_getElem hlt]
            rfl
          generalize hc0 : s.data.toList[k]'hlt = c at *
          have HC := Lib.hid hc0
          have HD := Lib.hid hd
          have HPD := Lib.hid hpd
          clear hd hc0 hpd
          by_cases hdot : c = 46
          · have HP2 := Lib.hid (show pd s.data.toList (k + 1) = true by rw [HPD.out]; exact decide_eq_true hdot)
            have HGD := Lib.hid (show good true s.data.toList = (!pd s.data.toList k && good true (s.data.toList.drop (k + 1))) by rw [HG0.out, HD.out, good, if_pos hdot])
            have d1 : ((c.toNat : Int) == 46) = true := by subst hdot; rfl
            clear hdot
            by_cases hk0 : k = 0
            · have d2 : ((k : Int) == 0) = true := by simp; omega
              have HF := Lib.hid (show namedP s = false by rw [HB.out, HGD.out, hk0]; rfl)
              clear hk0
              go_wp2_with fail
              go_ret
              exact ⟨ret_bool HF.out.symm, rfl⟩
            · have d2 : ((k : Int) == 0) = false := by simp; omega
              by_cases hkl : k + 1 = s.size
              · have d3 : ((k : Int) == (s.size : Int) - 1) = true := by simp; omega
                have HF := Lib.hid (show namedP s = false by
                  rw [HB.out, HGD.out, List.drop_eq_nil_of_le (by show s.size ≤ k + 1; omega)]
                  simp [good])
                clear hkl hk0
                go_wp2_with fail
                go_ret
                exact ⟨ret_bool HF.out.symm, rfl⟩
              · have d3 : ((k : Int) == (s.size : Int) - 1) = false := by simp; omega
                obtain ⟨j, rfl⟩ : ∃ j, k = j + 1 := ⟨k - 1, by omega⟩
                have d5 : ((j : Int) + 1 == 0) = false := by simp; omega
                have d6 : ((j : Int) + 1 == (s.size : Int) - 1) = false := by simp; omega
                clear d2 d3
                have hjl : j < s.size := by omega
                have hbj := byte_get s j hjl
                have hpj : pd s.data.toList (j + 1) = decide (s.data.toList[j]'hjl = 46) := by
                  show decide (s.data.toList.getD j 0 = 46) = _
                  rw [List.getD_eq_getElem?_getD, List.getElem?_eq_getElem hjl]
                  rfl
                generalize hcj : s.data.toList[j]'hjl = cj at *
                have HPJ := Lib.hid hpj
                clear hcj hpj
                have hj1 : ((j + 1 : Nat) : Int) - 1 = (j : Int) := by omega
                by_cases hdj : cj = 46
                · have d4 : ((cj.toNat : Int) == 46) = true := by subst hdj; rfl
                  have HF := Lib.hid (show namedP s = false by rw [HB.out, HGD.out, HPJ.out, hdj]; rfl)
                  clear hdj hkl hk0
                  go_wp2_with fail
                  go_ret
                  exact ⟨ret_bool HF.out.symm, rfl⟩
                · have d4 : ((cj.toNat : Int) == 46) = false := by
                    simp
                    intro e
                    exact hdj (UInt8.toNat_inj.1 (by simpa using (show cj.toNat = 46 by omega)))
                  have HF := Lib.hid (show good true s.data.toList = good (pd s.data.toList (j + 1 + 1)) (s.data.toList.drop (j + 1 + 1)) by
                    rw [HGD.out, HPJ.out, HP2.out, decide_eq_false hdj]
                    rfl)
                  have HKL := Lib.hid hkl
                  clear hdj hkl hk0
                  go_wp2_with fail
                  go_roundg (s.size - (j + 1 + 1))
                  case measure => rw [Hg.out]; omega
                  case rel => exact ⟨j + 1 + 1, by go_num, by omega, rfl, HF.out, fun e => absurd e HKL.out, rfl⟩
          · have d1 : ((c.toNat : Int) == 46) = false := by
              simp
              intro e
              exact hdot (UInt8.toNat_inj.1 (by simpa using (show c.toNat = 46 by omega)))
            have HP2 := Lib.hid (show pd s.data.toList (k + 1) = false by rw [HPD.out]; exact decide_eq_false hdot)
            have HGD := Lib.hid (show good true s.data.toList = (letterB c && good false (s.data.toList.drop (k + 1))) by rw [HG0.out, HD.out, good, if_neg hdot])
            have HL := Lib.hid (show letterB c = ((decide (97 ≤ c.toNat) && decide (c.toNat ≤ 122)) || (decide (48 ≤ c.toNat) && decide (c.toNat ≤ 57)) || decide (c.toNat = 45) || decide (c.toNat = 95)) from rfl)
            clear hdot
            have hcl := c.toNat_lt
            cases hlb : letterB c with
            | true =>
              have hcase : ((97 : Int) ≤ c.toNat ∧ (c.toNat : Int) ≤ 122) ∨ ((48 : Int) ≤ c.toNat ∧ (c.toNat : Int) ≤ 57) ∨ ((45 : Int) ≤ c.toNat ∧ (c.toNat : Int) ≤ 45 ∧ ((c.toNat : Int) == 45) = true ∧ ((c.toNat : Int) != 45) = false) ∨
                  ((95 : Int) ≤ c.toNat ∧ (c.toNat : Int) ≤ 95 ∧ ((c.toNat : Int) == 45) = false ∧ ((c.toNat : Int) != 45) = true ∧ ((c.toNat : Int) == 95) = true ∧ ((c.toNat : Int) != 95) = false) := by
                rw [HL.out] at hlb
                simp at hlb ⊢
                omega
              have HLB := Lib.hid hlb
              clear hlb
              rcases hcase with ⟨h1, h2⟩ | ⟨h1, h2⟩ | ⟨h1, h2, h3, h4⟩ | ⟨h1, h2, h3, h4, h5, h6⟩
              all_goals (
                go_wp2_with fail
                go_roundg (s.size - (k + 1))
                case measure => rw [Hg.out]; omega
                case rel =>
                  refine ⟨k + 1, by go_num, by omega, rfl, ?_, fun _ => HP2.out, rfl⟩
                  rw [HGD.out, HP2.out, HLB.out]
                  rfl)
            | false =>
              have hcase : (((c.toNat : Int) == 45) = false ∧ ((c.toNat : Int) != 45) = true ∧ ((c.toNat : Int) == 95) = false ∧ ((c.toNat : Int) != 95) = true) ∧ ((c.toNat : Int) < 48 ∨ (decide ((c.toNat : Int) ≤ 57) = false ∧ (57 : Int) < c.toNat ∧ (c.toNat : Int) < 97) ∨ (decide ((c.toNat : Int) ≤ 57) = false ∧ decide ((c.toNat : Int) ≤ 122) = false ∧ (122 : Int) < c.toNat)) := by
                rw [HL.out] at hlb
                simp at hlb ⊢
                omega
              have HLB := Lib.hid hlb
              clear hlb
              obtain ⟨⟨h1, h2, h3, h4⟩, hcase⟩ := hcase
              rcases hcase with h5 | ⟨h5, h6, h7⟩ | ⟨h5, h6, h7⟩
              all_goals (
                go_wp2_with fail
                go_ret
                exact ⟨ret_bool (by rw [HB.out, HGD.out, HLB.out]; rfl), rfl⟩)
        · have hke : k = s.size := by omega
          have HF := Lib.hid (show namedP s = true by
            rw [HB.out, HG0.out, List.drop_eq_nil_of_le (by show s.size ≤ k; omega), HE.out hke]
            rfl)
          clear hke
          go_wp2_with fail
          go_ret
          exact ⟨ret_bool HF.out.symm, rfl⟩
end Go.Proofs.YtjdlcfllmpdffaaDoor
/-! record: Key, Split; the reference's Key, Origin. -/
namespace Go.Proofs.YtjdlcfllmpdffaaDoor
open Go.Conc Go.RowKit

theorem cv2 (w : World) (B : Nat) (x y : Int) (hB : B = w.heap.size) : (convert 116 9 (.slice (some ⟨B, 0, none⟩) 2 2)).run Tryd.prog (w.alloc (.cells #[.int .u8 x, .int .u8 y] 5)) = .ok (.string (bytesOf [x, y])) (w.alloc (.cells #[.int .u8 x, .int .u8 y] 5)) :=
  run_bytes_new Tryd.underlying116 Tryd.underlying5 Tryd.underlying9 w B [x, y] 2 hB rfl (by unfold maxLen; decide)
theorem cv2d (w : World) (B : Nat) (x y : Int) (hB : B = w.heap.size) : (convert 116 9 (.slice (some ⟨B, 0, none⟩) 2 2)).run Tryd.prog (w.alloc (.cells #[.int .u8 x, .int .u8 y] 5)).drew = .ok (.string (bytesOf [x, y])) (w.alloc (.cells #[.int .u8 x, .int .u8 y] 5)).drew :=
  run_bytes_new_drew Tryd.underlying116 Tryd.underlying5 Tryd.underlying9 w B [x, y] 2 hB rfl (by unfold maxLen; decide)
/-- A key in bytes. -/
def keyB (o : Int) (name : ByteArray) : ByteArray := bytesOf [o / 256, o % 256] ++ name
theorem keyB_size (o : Int) (name : ByteArray) : (keyB o name).size = 2 + name.size := ByteArray.size_append
theorem keyB_be (n : Nat) (name : ByteArray) (hn : n < 65536) : (⟨(beL n 2 ++ name.data.toList).toArray⟩ : ByteArray) = keyB n name := by
  apply str_ext
  unfold keyB
  rw [ByteArray.data_append, Array.toList_append]
  show beL n 2 ++ name.data.toList = _
  congr 1
  show [UInt8.ofNat (n / 256 ^ 1), UInt8.ofNat (n / 256 ^ 0)] = [UInt8.ofNat ((n : Int) / 256).toNat, UInt8.ofNat ((n : Int) % 256).toNat]
  have e1 : ((n : Int) / 256).toNat = n / 256 := by omega
  have e2 : ((n : Int) % 256).toNat = n % 256 := by omega
  rw [e1, e2]
  congr 2
  apply UInt8.toNat_inj.1
  rw [UInt8.toNat_ofNat', UInt8.toNat_ofNat']
  omega

set_option maxRecDepth 100000 in
theorem rkey_any (w : World) (o : Int) (name : ByteArray) (h0 : 0 ≤ o) (h1 : o ≤ 65535) (hs : name.size ≤ 1000) :
    Calls Tryd.prog 62 #[.int .i64 o, .string name] w fun e w' => e = .returned (.string (keyB o name)) ∧ Only (fun _ => False) w w' := by
  have hc2 := cv2
  have e2 : ∀ x y : Int, (bytesOf [x, y]).size = 2 := fun _ _ => rfl
  go_enter Tryd.func62, Tryd.ntmps62
  go_wp2_with fail
  go_ret
  exact ⟨rfl, (Only.refl _ _).alloc _⟩

def bA (m : ByteArray) (i : Nat) : Nat := (m.data.toList.getD i 0).toNat
theorem bA_get (m : ByteArray) (k : Nat) (h : k < m.size) : (m[k]'h).toNat = bA m k := by
  unfold bA
  have h2 : k < m.data.toList.length := h
  rw [List.getD_eq_getElem?_getD, List.getElem?_eq_getElem h2]
  rfl
theorem bA_lt (m : ByteArray) (k : Nat) : bA m k < 256 := UInt8.toNat_lt _
/-- Whose key it is; 0: it is none. -/
def originP (s : ByteArray) : Nat := if s.size < 2 then 0 else if namedP (s.extract 2 s.size) then 256 * bA s 0 + bA s 1 else 0

set_option maxRecDepth 100000 in
theorem rorigin_any (w : World) (s : ByteArray) (hs : s.size ≤ maxLen) :
    Calls Tryd.prog 96 #[.string s] w fun e w' => e = .returned (.int .i64 (originP s : Nat)) ∧ Only (fun _ => False) w w' := by
  unfold maxLen at hs
  by_cases h2 : s.size < 2
  · have q1 : decide ((s.size : Int) < 2) = true := by simp; omega
    have HO := Lib.hid (show originP s = 0 by rw [originP, if_pos h2])
    go_enter Tryd.func96, Tryd.ntmps96
    go_wp2_with fail
    go_ret
    exact ⟨ret_int (by rw [HO.out]; rfl), Only.refl _ _⟩
  · have q1 : decide ((s.size : Int) < 2) = false := by simp; omega
    have q2 : (2 : Int) ≤ (s.size : Int) := by omega
    have hex : (s.extract 2 s.size).size ≤ maxLen := by rw [ByteArray.size_extract]; unfold maxLen; omega
    have hbe : originP s = if namedP (s.extract 2 s.size) then 256 * bA s 0 + bA s 1 else 0 := by rw [originP, if_neg h2]
    have h0 := bA_get s 0 (by omega)
    have h1 := bA_get s 1 (by omega)
    have b0 := bA_lt s 0
    have b1 := bA_lt s 1
    generalize hx : s.extract 2 s.size = x at *
    have HBE := Lib.hid hbe
    clear hbe
    go_enter Tryd.func96, Tryd.ntmps96
    go_wp2_with fail
    refine (rnamed_any _ x hex).mono ?_
    rintro e w1 ⟨rfl, rfl⟩
    clear hx
    cases hn : namedP x with
    | false =>
      have HN := Lib.hid hn
      clear hn
      go_wp2_with fail
      go_ret
      exact ⟨ret_int (by rw [HBE.out, HN.out]; rfl), Only.refl _ _⟩
    | true =>
      have HN := Lib.hid hn
      clear hn
      have g0 : (0 : Int) < (s.size : Int) := by omega
      have g1 : (1 : Int) < (s.size : Int) := by omega
      have e0 : ((s[0]'(by omega)).toNat : Int) = (bA s 0 : Int) := congrArg _ h0
      have e1 : ((s[1]'(by omega)).toNat : Int) = (bA s 1 : Int) := congrArg _ h1
      generalize bA s 0 = x0 at *
      generalize bA s 1 = x1 at *
      have w1 : IntKind.i64.wrap (256 * (x0 : Int)) = 256 * (x0 : Int) := IntWalk.i64_in _ (by omega)
      have w2 : IntKind.i64.wrap (256 * (x0 : Int) + (x1 : Int)) = 256 * (x0 : Int) + (x1 : Int) := IntWalk.i64_in _ (by omega)
      clear h0 h1
      go_wp2_with fail
      go_region
      all_goals (
        go_wp2_with fail
        go_ret
        refine ⟨ret_int ?_, (Only.refl _ _).drew⟩
        rw [HBE.out, HN.out]
        simp)

theorem WrAt.at {w : World} {b base : Nat} {S : Nat → Prop} {l : List UInt8} (h : WrAt w b base S l) {e : TypeId} (he1 : e ≠ 204) (he2 : e ≠ 5) {x : Nat} {cs : Array Value} (hx : w.heap[x]? = some (.cells cs e (0, 0))) : ¬ S x := by
  obtain ⟨p, v, hb, hp, hown, hS⟩ := h
  intro hs
  rcases (hS x).1 hs with rfl | hk
  · rw [hb] at hx
    simp only [Option.some.injEq, Obj.cells.injEq] at hx
    exact he1 hx.2.1.symm
  · rcases hown.2 with ⟨h2, _⟩ | ⟨g, cap, cur, rfl, _, hg, _⟩
    · subst h2; simp [Value.ownBlock] at hk
    · simp [Value.ownBlock] at hk
      subst hk
      rw [hg] at hx
      simp only [Option.some.injEq, Obj.cells.injEq] at hx
      exact he2 hx.2.1.symm
theorem WPost.old {w w' : World} {b base : Nat} {S : Nat → Prop} {l : List UInt8} (h : WPost w w' b base S l) {x : Nat} {o : Obj} (hx : w.heap[x]? = some o) (hn : ¬ S x) : w'.heap[x]? = some o := h.elim fun _ k => k.1.old hx hn
theorem WPost.of_same {w w' : World} {b base : Nat} {S : Nat → Prop} {l : List UInt8} (h : WrAt w b base S l) (ho : Only (fun _ => False) w w') : WPost w w' b base S l :=
  ⟨S, ho.weaken (fun _ _ h => h.elim), h.kept ho (fun _ _ => id), fun _ h => .inl h⟩

theorem WPost.step {a w w' : World} {b base : Nat} {S S3 : Nat → Prop} {m : List UInt8} (k1 : Only S a w) (k3 : ∀ x, S3 x → S x ∨ a.heap.size ≤ x) (h : WPost w w' b base S3 m) : WPost a w' b base S m := by
  obtain ⟨S2, h1, h2, h3⟩ := h
  refine ⟨S2, k1.tr h1 (fun i hi x => (k3 i x).elim id (fun y => absurd hi (by omega))), h2, fun x hx => ?_⟩
  rcases h3 x hx with y | y
  · exact k3 x y
  · exact .inr (Nat.le_trans k1.size y)
theorem WPost.ahead {a w w' : World} {b base : Nat} {S : Nat → Prop} {m : List UInt8} (h : WPost w w' b base S m) (ho : Only (fun _ => False) a w) : WPost a w' b base S m := by
  obtain ⟨S2, h1, h2, h3⟩ := h
  refine ⟨S2, (ho.weaken (fun _ _ h => h.elim)).trans h1, h2, fun x hx => ?_⟩
  rcases h3 x hx with y | y
  · exact .inl y
  · exact .inr (Nat.le_trans ho.size y)
set_option maxRecDepth 100000 in
theorem key1_ok (w : World) (b base : Nat) (S : Nat → Prop) (po pn n : Nat) (name : ByteArray) (m : Int) (h : WrAt w b base S []) (hp : w.heap[po]? = some (.cells #[.int .i64 n] 3 (0, 0))) (hn : w.heap[pn]? = some (.cells #[.string name] 9 (0, 0)))
    (hm : w.cell? ⟨0, 0, none⟩ = some (.int .i64 m)) (h1 : nodeB n = true) (h2 : namedP name = true) (hsz : name.size ≤ 62) (hbase : base ≤ w.heap.size) :
    Calls Tryd.prog 126 #[.pointer (some ⟨b, 0, none⟩), .pointer (some ⟨po, 0, none⟩), .pointer (some ⟨pn, 0, none⟩)] w fun e w' => e = .returned (.tuple #[]) ∧ WPost w w' b base S (beL n 2 ++ name.data.toList) := by
  have c1 : w.cell? ⟨po, 0, none⟩ = some (.int .i64 n) := cell_at hp 0
  have c2 : w.cell? ⟨pn, 0, none⟩ = some (.string name) := cell_at hn 0
  have H := Lib.hid h
  have HP := Lib.hid hp
  have HN := Lib.hid hn
  have HM := Lib.hid hm
  have H1 := Lib.hid h1
  have H2 := Lib.hid h2
  have hn16 : n < 65536 := by unfold nodeB at h1; simp at h1; omega
  clear h hp hn hm h1 h2
  go_enter Tryd.func126, Tryd.ntmps126
  go_wp2_with fail
  refine (node_any _ _).mono ?_
  rintro e w1 ⟨rfl, rfl⟩
  rw [H1.out]
  go_wp2_with fail
  refine (named_any _ name m HM.out (by unfold maxLen; omega)).mono ?_
  rintro e w2 ⟨rfl, ho2⟩
  rw [H2.out]
  have d1 := ho2.cell c1 id
  have d2 := ho2.cell c2 id
  have hsz2 := ho2.size
  go_wp2_with fail
  refine (num_ok _ b base S [] n 2 (H.out.kept ho2 (fun _ _ => id)) (by decide) (by decide) (by omega) (by decide) (by omega)).mono ?_
  rintro e w3 ⟨rfl, hp3⟩
  have hpn := hp3.old (ho2.old HN.out id) (H.out.at (by decide) (by decide) HN.out)
  have d3 : w3.cell? ⟨pn, 0, none⟩ = some (.string name) := cell_at hpn 0
  have HP3 := Lib.hid hp3
  have hsz3 := hp3.size
  clear hp3 hpn c1 c2 d1 d2
  obtain ⟨S3, k1, k2, k3⟩ := id HP3.out
  have K1 := Lib.hid k1
  have K2 := Lib.hid k2
  have K3 := Lib.hid k3
  clear k1 k2 k3
  go_wp2_with fail
  refine (raw_ok _ b base S3 _ name K2.out (by simp [beL]) (by omega) (by omega)).mono ?_
  rintro e w4 ⟨rfl, hp4⟩
  go_wp2_with fail
  go_end0
  exact ⟨rfl, (WPost.step K1.out K3.out hp4).ahead ho2⟩

set_option maxRecDepth 100000 in
theorem key1_arg (w : World) (b : Nat) (po pn : Nat) (o : Int) (hp : w.heap[po]? = some (.cells #[.int .i64 o] 3 (0, 0))) (h1 : nodeB o = false) :
    Calls Tryd.prog 126 #[.pointer (some ⟨b, 0, none⟩), .pointer (some ⟨po, 0, none⟩), .pointer (some ⟨pn, 0, none⟩)] w fun e w' => e = refused 1 ∧ Only (fun _ => False) w w' := by
  have c1 : w.cell? ⟨po, 0, none⟩ = some (.int .i64 o) := cell_at hp 0
  have H1 := Lib.hid h1
  clear hp h1
  go_enter Tryd.func126, Tryd.ntmps126
  go_wp2_with fail
  refine (node_any _ _).mono ?_
  rintro e w1 ⟨rfl, rfl⟩
  rw [H1.out]
  go_wp2_with fail
  refine (refuse_any _ 1 (by decide)).mono ?_
  rintro e w' ⟨rfl, rfl⟩
  unfold refused
  go_wp2_with fail
  exact ⟨rfl, rfl, Only.refl _ _⟩
set_option maxRecDepth 100000 in
theorem key1_name (w : World) (b : Nat) (po pn : Nat) (o : Int) (name : ByteArray) (m : Int) (hp : w.heap[po]? = some (.cells #[.int .i64 o] 3 (0, 0))) (hn : w.heap[pn]? = some (.cells #[.string name] 9 (0, 0)))
    (hm : w.cell? ⟨0, 0, none⟩ = some (.int .i64 m)) (h1 : nodeB o = true) (h2 : namedP name = false) (hsz : name.size ≤ maxLen) :
    Calls Tryd.prog 126 #[.pointer (some ⟨b, 0, none⟩), .pointer (some ⟨po, 0, none⟩), .pointer (some ⟨pn, 0, none⟩)] w fun e w' => e = refused 9 ∧ Only (fun _ => False) w w' := by
  have c1 : w.cell? ⟨po, 0, none⟩ = some (.int .i64 o) := cell_at hp 0
  have c2 : w.cell? ⟨pn, 0, none⟩ = some (.string name) := cell_at hn 0
  have H1 := Lib.hid h1
  have H2 := Lib.hid h2
  have HM := Lib.hid hm
  clear hp h1 h2 hn hm
  go_enter Tryd.func126, Tryd.ntmps126
  go_wp2_with fail
  refine (node_any _ _).mono ?_
  rintro e w1 ⟨rfl, rfl⟩
  rw [H1.out]
  go_wp2_with fail
  refine (named_any _ name m HM.out hsz).mono ?_
  rintro e w2 ⟨rfl, ho2⟩
  rw [H2.out]
  go_wp2_with fail
  refine (refuse_any _ 9 (by decide)).mono ?_
  rintro e w' ⟨rfl, rfl⟩
  unfold refused
  go_wp2_with fail
  exact ⟨rfl, rfl, ho2⟩

/-- What Key returns. -/
def keyE (o : Int) (name : ByteArray) : Int := if nodeB o = false then 1 else if namedP name = false then 9 else 0
def keyS (o : Int) (name : ByteArray) : ByteArray := if nodeB o && namedP name then keyB o name else ⟨#[]⟩
theorem two_blocks (w : World) (o1 o2 : Obj) {w1 : World} (ho : Only (fun _ => False) ((w.alloc o1).alloc o2) w1) : w1.heap[w.heap.size]? = some o1 ∧ w1.heap[w.heap.size + 1]? = some o2 := by
  constructor
  · refine ho.old ?_ id
    rw [heap_alloc_old _ _ (by simp)]
    exact heap_alloc_new w o1
  · refine ho.old ?_ id
    have := heap_alloc_new (w.alloc o1) o2
    rwa [World.size_alloc] at this
set_option maxRecDepth 100000 in
theorem key_any (w : World) (o : Int) (name : ByteArray) (m : Int) (hm : w.cell? ⟨0, 0, none⟩ = some (.int .i64 m)) (hsz : name.size ≤ maxLen) :
    Calls Tryd.prog 114 #[.int .i64 o, .string name] w fun e w' => e = .returned (.tuple #[.string (keyS o name), .int .i64 (keyE o name)]) ∧ Only (fun _ => False) w w' := by
  have hmf : ∀ (fn : Fn) (first cap : Array Value) (w : World), (Instr.makeFunc fn first cap).run Tryd.prog w = .ok (.func fn first cap) w := fun _ _ _ _ => rfl
  have hen : ∀ args w, (callFunc 126 args).run Tryd.prog w = .ok (.enter 126 args) w := fun _ _ => by go_simp
  have HM := Lib.hid hm
  have HEN := Lib.hid hen
  clear hm hen
  cases h1 : nodeB o with
  | false =>
    have hE : keyE o name = 1 := by unfold keyE; rw [if_pos h1]
    have hS : keyS o name = ⟨#[]⟩ := by unfold keyS; rw [h1]; rfl
    rw [hE, hS]
    have H1 := Lib.hid h1
    clear h1 hE hS
    go_enter Tryd.func114, Tryd.ntmps114
    go_wp2_with fail
    refine (write_no _ 126 _ 1 (by decide) HEN.out (fun w1 b S ho hw hS hs => ?_)).mono ?_
    · obtain ⟨z1, z2⟩ := two_blocks _ _ _ ho
      refine (key1_arg w1 b w.heap.size (w.heap.size + 1) o z1 H1.out).mono ?_
      rintro e w' ⟨rfl, h⟩
      exact ⟨rfl, h.weaken (fun _ _ h => h.elim)⟩
    rintro e w' ⟨rfl, ho⟩
    go_wp2_with fail
    go_ret2
    exact ⟨rfl, ((((Only.refl _ _).alloc _).alloc _)).trans ho⟩
  | true =>
    cases h2 : namedP name with
    | false =>
      have hE : keyE o name = 9 := by unfold keyE; rw [if_neg (by simp [h1]), if_pos h2]
      have hS : keyS o name = ⟨#[]⟩ := by unfold keyS; rw [h1, h2]; rfl
      rw [hE, hS]
      have H1 := Lib.hid h1
      have H2 := Lib.hid h2
      clear h1 h2 hE hS
      go_enter Tryd.func114, Tryd.ntmps114
      go_wp2_with fail
      refine (write_no _ 126 _ 9 (by decide) HEN.out (fun w1 b S ho hw hS hs => ?_)).mono ?_
      · obtain ⟨z1, z2⟩ := two_blocks _ _ _ ho
        refine (key1_name w1 b w.heap.size (w.heap.size + 1) o name m z1 z2 (((((Only.refl _ _).alloc _).alloc _)).trans ho |>.cell HM.out id) H1.out H2.out hsz).mono ?_
        rintro e w' ⟨rfl, h⟩
        exact ⟨rfl, h.weaken (fun _ _ h => h.elim)⟩
      rintro e w' ⟨rfl, ho⟩
      go_wp2_with fail
      go_ret2
      exact ⟨rfl, ((((Only.refl _ _).alloc _).alloc _)).trans ho⟩
    | true =>
      obtain ⟨n, rfl⟩ : ∃ n : Nat, o = (n : Int) := ⟨o.toNat, by unfold nodeB at h1; simp at h1; omega⟩
      have hE : keyE n name = 0 := by unfold keyE; rw [if_neg (by simp [h1]), if_neg (by simp [h2])]
      have hS : keyS n name = keyB n name := by unfold keyS; rw [h1, h2]; rfl
      have h62 : name.size ≤ 62 := by unfold namedP at h2; simp at h2; omega
      have hn16 : n < 65536 := by unfold nodeB at h1; simp at h1; omega
      rw [hE, hS, ← keyB_be n name hn16]
      have H1 := Lib.hid h1
      have H2 := Lib.hid h2
      clear h1 h2 hE hS
      go_enter Tryd.func114, Tryd.ntmps114
      go_wp2_with fail
      refine (write_ok _ 126 _ (beL n 2 ++ name.data.toList) HEN.out (by simp [beL]) (fun w1 b S ho hw hS hs => ?_)).mono ?_
      · obtain ⟨z1, z2⟩ := two_blocks _ _ _ ho
        exact key1_ok w1 b _ S w.heap.size (w.heap.size + 1) n name m hw z1 z2 (((((Only.refl _ _).alloc _).alloc _)).trans ho |>.cell HM.out id) H1.out H2.out h62 hs
      rintro e w' ⟨rfl, ho⟩
      go_wp2_with fail
      go_ret2
      exact ⟨rfl, ((((Only.refl _ _).alloc _).alloc _)).trans ho⟩
end Go.Proofs.YtjdlcfllmpdffaaDoor
