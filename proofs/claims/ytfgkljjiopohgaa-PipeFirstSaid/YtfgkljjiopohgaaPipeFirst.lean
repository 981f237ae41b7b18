/- pipe.First, and the walk of bellhoplaw07.PipeFirst. -/
import Derived.Test.YtfgkljjiopohgaaPipeLaw1
import Derived.Test.YtfgkljjiopohgaaSlices
namespace Go.Proofs.Ytfgkljjiopohgaa
open Go.Conc Go.RowKit

/-- What lies in a pipe that has something, or nothing. -/
def bufOf (b : Bool) : List Value := cond b [.agg #[.bool false, .string ⟨#[120]⟩]] []
def ptrs (ps : List (Nat × Nat)) : List Value := ps.map fun x => .pointer (some ⟨x.1, 0, none⟩)
/-- Pipes, of which some have something. -/
def PipesAt (w : World) (ps : List (Nat × Nat)) (hs : List Bool) : Prop := ∀ i p c, ps[i]? = some (p, c) → PipeAt w p c (bufOf (hs.getD i false))
theorem PipesAt.kept {w w' : World} {S : Nat → Prop} {ps : List (Nat × Nat)} {hs : List Bool} (h : PipesAt w ps hs) (ho : Only S w w') (hn : ∀ p c, (p, c) ∈ ps → ¬ S p ∧ ¬ S c) : PipesAt w' ps hs := by
  intro i p c hi
  obtain ⟨h1, h2⟩ := hn p c (List.mem_of_getElem? hi)
  exact (h i p c hi).kept ho h1 h2
theorem PipesAt.own_kept {w w' : World} {ps : List (Nat × Nat)} {hs : List Bool} (h : PipesAt w ps hs) {base : Nat} {e : TypeId} {size n : Nat} {v : Value} {xs : List Value} (ho : w.ownsRow base e size v n xs) (he : e ≠ 46) (hg : w.grownBy w' v.ownBlock) : PipesAt w' ps hs :=
  h.kept (S := fun k => v.ownBlock = some k) ((Only.refl _ w).grown hg (fun _ e => .inr e)) (fun p c hm => by
    obtain ⟨i, hi⟩ := List.getElem?_of_mem hm
    exact (h i p c hi).ne_own ho he)
theorem PipeAt.app_kept {w w' : World} {p c : Nat} {buf : List Value} (h : PipeAt w p c buf) {o : Obj} {base : Nat} {e : TypeId} {size n : Nat} {v : Value} {xs : List Value} (ho : (w.alloc o).ownsRow base e size v n xs) (he : e ≠ 46) (hg : (w.alloc o).grownBy w' v.ownBlock) : PipeAt w' p c buf := by
  have h1 := h.kept (S := fun _ => False) ((Only.refl _ w).alloc o) id id
  have h2 := h1.ne_own ho he
  exact h1.kept (S := fun k => v.ownBlock = some k) ((Only.refl _ _).grown hg (fun _ e => .inr e)) h2.1 h2.2
theorem PipesAt.lt {w : World} {ps : List (Nat × Nat)} {hs : List Bool} (h : PipesAt w ps hs) {p c : Nat} (hm : (p, c) ∈ ps) : p < w.heap.size ∧ c < w.heap.size := by
  obtain ⟨i, hi⟩ := List.getElem?_of_mem hm
  exact (h i p c hi).lt
theorem PipesAt.snoc {w : World} {ps : List (Nat × Nat)} {hs : List Bool} {p c : Nat} (h : PipesAt w ps hs) (hp : PipeAt w p c (bufOf (hs.getD ps.length false))) : PipesAt w (ps ++ [(p, c)]) hs := by
  intro i p' c' hi
  rw [List.getElem?_append] at hi
  split at hi
  · exact h i p' c' hi
  · rename_i hlt
    have h0 : i - ps.length = 0 := by
      have := (List.getElem?_eq_some_iff.1 hi).1
      simp at this
      omega
    rw [h0] at hi
    simp at hi
    obtain ⟨rfl, rfl⟩ := hi
    have : i = ps.length := by omega
    rw [this]
    exact hp

/-- The first one that has something, from a place on, round; what lies before it has nothing. -/
def Before (hs : List Bool) (s k : Nat) : Prop := ∀ j, j < k → hs.getD ((s + j) % hs.length) false = false
def Found (hs : List Bool) (s i : Nat) (ok : Bool) : Prop :=
  (ok = false ∧ i = 0 ∧ Before hs s hs.length) ∨ (ok = true ∧ ∃ k, k < hs.length ∧ i = (s + k) % hs.length ∧ hs.getD i false = true ∧ Before hs s k)

theorem len_buf (w : World) (p c : Nat) (b : Bool) (h : PipeAt w p c (bufOf b)) :
    Calls Try.prog 13 #[.pointer (some ⟨p, 0, none⟩)] w fun e w' => e = .returned (.int .i64 (cond b 1 0)) ∧ w = w' := by
  refine (len_any w p c _ h).mono ?_
  rintro e w' ⟨rfl, h2⟩
  exact ⟨by cases b <;> rfl, h2⟩

/-- Where the search begins: from%n, brought up. -/
def startAt (f : Int) (n : Nat) : Int := (wrap64 (f.tmod (n : Int) + (n : Int))).tmod (n : Int)
theorem startAt_nat (f : Int) (n : Nat) (h0 : 0 < n) (h1 : n ≤ 10) : ∃ s : Nat, startAt f n = (s : Int) ∧ s < n := by
  unfold startAt
  have h2 : f.tmod n < n := Int.tmod_lt_of_pos f (by omega)
  have h3 : -(n : Int) < f.tmod n := by
    have := Int.lt_tmod_of_pos f (b := (n : Int)) (by omega)
    omega
  generalize f.tmod (n : Int) = q at *
  rw [IntWalk.wrap64_in _ (by omega), Int.tmod_eq_emod_of_nonneg (by omega)]
  have h4 := Int.emod_nonneg (q + n) (b := (n : Int)) (by omega)
  have h5 := Int.emod_lt_of_pos (q + n) (b := (n : Int)) (by omega)
  exact ⟨((q + n) % (n : Int)).toNat, by omega, by omega⟩
theorem round_nat (s k n : Nat) (h1 : n ≤ 10) (hs : s < n) (hk : k < n) : (wrap64 ((s : Int) + (k : Int))).tmod (n : Int) = (((s + k) % n : Nat) : Int) := by
  rw [IntWalk.wrap64_in _ (by omega), Int.tmod_eq_emod_of_nonneg (by omega)]
  simp
theorem ptrs_get (ps : List (Nat × Nat)) (i : Nat) (p c : Nat) (h : ps[i]? = some (p, c)) : (ptrs ps)[i]? = some (.pointer (some ⟨p, 0, none⟩)) := by simp [ptrs, h]

set_option maxRecDepth 100000 in
set_option maxHeartbeats 1000000 in
theorem first_any (w : World) (from_ : Int) (v : Value) (ps : List (Nat × Nat)) (hs : List Bool) (s : Nat) (hv : Sl w 1 v ps.length (ptrs ps)) (hp : PipesAt w ps hs) (hl : hs.length = ps.length) (hn : ps.length ≤ 10)
    (hs0 : 0 < ps.length → startAt from_ ps.length = (s : Int) ∧ s < ps.length) :
    Calls Try.prog 14 #[.int .i64 from_, v] w fun e w' => ∃ i ok, e = .returned (.tuple #[.int .i64 (i : Nat), .bool ok]) ∧ w = w' ∧ Found hs s i ok := by
  obtain ⟨_, a, cap, rfl, h3, h4, h5⟩ := hv
  have HL := Lib.hid hl
  clear hl
  go_enter Try.func14, Try.ntmps14
  go_wp2_with fail
  go_loopg [7, 8, 12] ps.length (fun g v7 v8 v12 wx => ∃ k : Nat, v12 = .int .i64 k ∧ k ≤ ps.length ∧ w = wx ∧ Before hs s k ∧ g = ps.length - k)
  case atStart => exact ⟨0, rfl, Nat.zero_le _, rfl, fun j hj => absurd hj (by omega), rfl⟩
  case round =>
    obtain ⟨k, rfl, hk, rfl, hb, hg⟩ := hrel
    have Hb := Lib.hid hb
    have Hg := Lib.hid hg
    clear hb hg
    by_cases hlt : k < ps.length
    · obtain ⟨hs1, hs2⟩ := hs0 (by omega)
      obtain ⟨b, off, ha, hc⟩ := h5.resolve_left (by omega)
      subst ha
      have hi : (s + k) % ps.length < ps.length := Nat.mod_lt _ (by omega)
      have hI : (wrap64 ((wrap64 (from_.tmod ↑ps.length + ↑ps.length)).tmod ↑ps.length + ↑k)).tmod ↑ps.length = (((s + k) % ps.length : Nat) : Int) := by
        rw [show (wrap64 (from_.tmod ↑ps.length + ↑ps.length)).tmod ↑ps.length = (s : Int) from hs1]
        exact round_nat s k ps.length hn hs2 hlt
      obtain ⟨p, c, hpc⟩ : ∃ p c, ps[(s + k) % ps.length]? = some (p, c) := ⟨_, _, List.getElem?_eq_getElem hi⟩
      have hcell := hc _ _ (ptrs_get ps _ p c hpc)
      have hpa := hp _ p c hpc
      have Hi := Lib.hid (show (s + k) % ps.length = (s + k) % ps.length from rfl)
      obtain ⟨i, hie⟩ : ∃ i, i = (s + k) % ps.length := ⟨_, rfl⟩
      rw [← hie] at hi hI hcell hpa
      have Hie := Lib.hid hie
      clear hie hs1 hs0 hc hp Hi hpc h5
      cases hbv : hs.getD i false with
      | true =>
        have Hbv := Lib.hid hbv
        rw [hbv] at hpa
        clear hbv
        go_wp2_with fail
        refine (len_buf _ p c _ hpa).mono ?_
        rintro e w' ⟨rfl, rfl⟩
        go_wp2_with fail
        go_ret2
        refine ⟨i, true, rfl, rfl, .inr ⟨rfl, k, by rw [HL.out]; omega, by rw [HL.out]; exact Hie.out, Hbv.out, Hb.out⟩⟩
      | false =>
        have Hbv := Lib.hid hbv
        rw [hbv] at hpa
        clear hbv
        go_wp2_with fail
        refine (len_buf _ p c _ hpa).mono ?_
        rintro e w' ⟨rfl, rfl⟩
        go_wp2_with fail
        go_roundg (ps.length - (k + 1))
        case measure => rw [Hg.out]; omega
        case rel =>
          refine ⟨k + 1, by go_num, by omega, rfl, ?_, rfl⟩
          intro j hj
          by_cases hjk : j = k
          · rw [hjk, HL.out, ← Hie.out]
            exact Hbv.out
          · exact Hb.out j (by omega)
    · clear h5 hs0
      have hk' : k = ps.length := by omega
      have Hk := Lib.hid hk'
      clear hk'
      go_wp2_with fail
      go_ret2
      refine ⟨0, false, rfl, rfl, .inl ⟨rfl, rfl, ?_⟩⟩
      rw [HL.out, ← Hk.out]
      exact Hb.out
end Go.Proofs.Ytfgkljjiopohgaa
