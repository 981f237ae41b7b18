/- bellhoplaw20: a tick of the seeds beside the reference; the record that the store holds. -/
import Derived.Test.YtianboachknfmaaDoorSds6
import Derived.Test.YtianboachknfmaaDoorSto10
namespace Go.Proofs.YtianboachknfmaaDoor
open Go.Conc Go.RowKit Go.Maps

theorem key20_x : keyB 1 (bytesOf [97]) = ⟨#[0, 1, 97]⟩ := by decide +kernel
theorem rec20_x : rec20 1 0 0 = spX := by
  unfold rec20 spX
  rw [show (97 + ((0 % 4 : Nat) : Int)) = 97 from rfl, key20_x]
theorem rec20_100 (w : World) : Calls Tryd.prog 21 #[.int .i64 1, .int .u8 0, .int .u8 0] w fun e w' => e = .returned (.agg #[.string ⟨#[0, 1, 97]⟩, .int .u64 4294967296, .int .i64 1, .int .i64 0, .bool false, .string ⟨#[97, 98, 99, 100, 101, 102, 103, 104, 105, 106]⟩]) ∧ Only (fun _ => False) w w' := by
  have h := rec20_any w 1 0 0 (by omega) (by omega) (by omega) (by omega)
  rw [rec20_x] at h
  exact h
theorem sp20 : putE 4 100 [] spX = 0 := by decide +kernel
theorem sp20b : putS 4 100 [] spX = [spX] ∧ putR 4 100 [] spX 0 = 0 := by
  unfold putS putR
  rw [sp20]
  exact ⟨rfl, rfl⟩
theorem sput_20 (w : World) (s b : Nat) (m : Int) (h : StoreAt w s b 4 100 0 []) (hm : w.cell? ⟨0, 0, none⟩ = some (.int .i64 m)) :
    Calls Tryd.prog 15 #[.pointer (some ⟨s, 0, none⟩), .agg #[.string ⟨#[0, 1, 97]⟩, .int .u64 4294967296, .int .i64 1, .int .i64 0, .bool false, .string ⟨#[97, 98, 99, 100, 101, 102, 103, 104, 105, 106]⟩]] w fun e w' => e = .returned (.int .i64 0) ∧ Only (fun i => i = s ∨ i = b) w w' ∧ StoreAt w' s b 4 100 0 [spX] := by
  have h1 := sput_any w s b 4 100 0 [] h spX m hm (by decide) (by decide) (by omega) (by omega)
  refine h1.mono ?_
  rintro e w' ⟨rfl, h2, h3⟩
  rw [sp20b.1, sp20b.2] at h3
  exact ⟨by rw [sp20], h2, h3⟩
/-- Same of the letter's message and one that the law made. -/
theorem same20 (W w : World) (va : Value) (G : Nat) (hm : MsgIs W va (askMsg [spX])) (ho : Only (fun _ => False) W w) (hG : w.heap[G]? = some (.cells #[.string ⟨#[0, 1, 97]⟩, .int .u64 4294967296] 31 (0, 0))) :
    Calls Tryd.prog 26 #[va, .agg #[.int .i64 13, .int .i64 0, .int .i64 0, .bool false, .slice none 0 0, .slice (some ⟨G, 0, none⟩) 1 1, .slice none 0 0]] w fun e w' => e = .returned (.bool true) ∧ Only (fun _ => False) w w' := by
  refine msame_any w _ _ (askMsg [spX]) (hm.new ho) ⟨⟨_, _, _, rfl, Sl.nil _ _, ?_, Sl.nil _ _⟩⟩
  refine ⟨rfl, _, _, rfl, Nat.le_refl _, by unfold maxLen; decide, .inr ⟨G, 0, rfl, fun j u hu => ?_⟩⟩
  rw [cell_at hG]
  simpa [askMsg, toId, idT, spX] using hu
/-- The seeds and their store behind so many ticks. -/
structure TickAt (w : World) (x : Nat) (every : Int) (l : List Int) (s b : Nat) (k : Nat) : Prop where
  seeds : SeedsAt w x every (sdT every k) (sdN every l.length k) l s
  store : StoreAt w s b 4 100 0 [spX]
theorem TickAt.new {w w' : World} {x : Nat} {every : Int} {l : List Int} {s b k : Nat} (h : TickAt w x every l s b k) (ho : Only (fun _ => False) w w') : TickAt w' x every l s b k := ⟨h.seeds.new ho, h.store.new ho⟩
theorem TickAt.row {w w' : World} {x : Nat} {every : Int} {l : List Int} {s b k base n : Nat} {v : Value} {xs : List Value} (h : TickAt w x every l s b k) (hr : w.ownsRow base 3 1 v n xs) (ho : Only (fun i => i = x) w w') : w'.ownsRow base 3 1 v n xs := by
  obtain ⟨_, _, h1, _⟩ := h.seeds.out
  exact owns_ty hr h1 (by decide) ho
/-- No seed is asked at the tick behind so many. -/
def idle (every : Int) (n k : Nat) : Prop := every < 1 ∨ ((k + 1 : Nat) : Int) % every ≠ 0 ∨ n = 0
theorem idle_tick (w : World) (x : Nat) (every : Int) (l : List Int) (s b k : Nat) (h : TickAt w x every l s b k) (he0 : 0 ≤ every) (he : every ≤ 1000) (hi : idle every l.length k) :
    Calls Tryd.prog 24 #[.pointer (some ⟨x, 0, none⟩)] w fun e w' => e = .returned (.slice none 0 0) ∧ Only (fun i => i = x) w w' ∧ TickAt w' x every l s b (k + 1) := by
  by_cases c : every = 0
  · subst c
    have h1 := h.seeds
    rw [sdT_zero, sdN_zero] at h1
    refine (sdtick_zero w x 0 0 l s h1).mono ?_
    rintro e w' ⟨rfl, rfl⟩
    refine ⟨rfl, Only.refl _ _, ?_, h.store⟩
    rw [sdT_zero, sdN_zero]
    exact h1
  · have e1 : 1 ≤ every := by omega
    obtain ⟨r1, r2⟩ := sdT_range e1 k
    have hi2 := hi.resolve_left (by omega)
    have hn : (sdT every k + 1) % every ≠ 0 ∨ l.length = 0 := by
      rw [sdT_succ e1, sdT_is e1]
      exact hi2
    refine (sdtick_no w x every _ _ l s h.seeds e1 he r1 r2 hn).mono ?_
    rintro e w' ⟨rfl, ho, h2⟩
    rw [sdT_succ e1, ← sdN_no e1 l.length k hi2] at h2
    exact ⟨rfl, ho, h2, h.store.kept ho (h.seeds.ne h.store).symm (h.seeds.nem h.store)⟩
theorem idle_asked (w : World) (v : Value) (every : Int) (l : List Int) (k : Nat) (h : Sl w 1 v l.length (l.flatMap intC)) (he : every ≤ 1000) (hk : k ≤ 100) (hi : idle every l.length k) (q : Int) (hq : q = ((k + 1 : Nat) : Int)) :
    Calls Tryd.prog 25 #[v, .int .i64 every, .int .i64 q] w fun e w' => e = .returned (.int .i64 0) ∧ w = w' := by
  subst hq
  exact rasked_no w v l every _ h hi (by omega) (by omega) he
theorem ask_tick (w : World) (x : Nat) (every : Int) (l : List Int) (s b k : Nat) (h : TickAt w x every l s b k) (hl : l.length ≤ 1000) (he0 : 0 ≤ every) (he : every ≤ 1000) (hk : k ≤ 100) (hi : ¬ idle every l.length k) :
    ∃ n, n ∈ l ∧ (Calls Tryd.prog 24 #[.pointer (some ⟨x, 0, none⟩)] w fun e w' => ∃ g, e = .returned (.slice (some ⟨g, 0, none⟩) 1 1) ∧ Only (fun i => i = x) w w' ∧ TickAt w' x every l s b (k + 1) ∧ OutIs w' g x n (askMsg [spX])) ∧
      ∀ w' v, Sl w' 1 v l.length (l.flatMap intC) → ∀ q, q = ((k + 1 : Nat) : Int) → Calls Tryd.prog 25 #[v, .int .i64 every, .int .i64 q] w' fun e w2 => e = .returned (.int .i64 n) ∧ w' = w2 := by
  unfold idle at hi
  have e1 : 1 ≤ every := by omega
  have h2 : ((k : Int) + 1) % every = 0 := by
    by_cases c : ((k : Int) + 1) % every = 0
    · exact c
    · exact absurd (.inr (.inl c)) hi
  have hn : 0 < l.length := by omega
  obtain ⟨r1, r2⟩ := sdT_range e1 k
  obtain ⟨i, hil, hie⟩ := sdN_nat (every := every) l.length k hn
  obtain ⟨a1, a2⟩ := sdN_ask e1 l.length k h2 hn
  refine ⟨l[i], List.getElem_mem hil, ?_, fun w' v hv q hq => ?_⟩
  · refine (tick_yes w x every _ _ l s b 4 100 0 [spX] h.seeds h.store e1 he r1 r2 (by rw [sdT_succ e1, sdT_is e1]; exact h2) i hil hie hl).mono ?_
    rintro e w' ⟨g, rfl, ho, h3, h4, h5⟩
    refine ⟨g, rfl, ho, ⟨?_, h4⟩, h5⟩
    rw [sdN_yes e1 l.length k h2 hn, sdT_is e1, h2]
    exact h3
  · subst hq
    refine rasked_yes w' v l every _ hv i hil e1 h2 a2 ?_ (by rw [← hie]; exact a1) (by omega) (by omega) he
    have := Int.ediv_le_self every (show 0 ≤ (k : Int) + 1 by omega)
    show ((k : Int) + 1) / every ≤ 1000
    omega
end Go.Proofs.YtianboachknfmaaDoor
