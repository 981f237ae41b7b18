/- Contracts of Send, Clear, Break. -/
import Derived.Test.YtjgcbcahikemdaaPipe1
namespace Go.Proofs.Ytjgcbcahikemdaa
open Go.Conc Go.RowKit

theorem send_room (w : World) (p c : Nat) (buf : List Value) (s : ByteArray) (h : PipeAt w p c buf) (hroom : buf.length < 64) :
    Calls Try.prog 59 #[.pointer (some ⟨p, 0, none⟩), .string s] w fun e w' => e = .returned (.bool true) ∧ Only (· = c) w w' ∧ PipeAt w' p c (buf ++ [.agg #[.bool false, .string s]]) := by
  go_enter Try.func59, Try.ntmps59
  go_wp2_with (go_at_call 76; refine (put_room _ p c buf _ _ h hroom).mono ?_; rintro e w' ⟨rfl, h1, h2⟩)
  go_ret
  exact ⟨rfl, h1, h2⟩
theorem send_full (w : World) (p c : Nat) (buf : List Value) (s : ByteArray) (h : PipeAt w p c buf) (hroom : 64 ≤ buf.length) :
    Calls Try.prog 59 #[.pointer (some ⟨p, 0, none⟩), .string s] w fun e w' => e = .returned (.bool false) ∧ Only (· = c) w w' ∧ PipeAt w' p c buf := by
  go_enter Try.func59, Try.ntmps59
  go_wp2_with (go_at_call 76; refine (put_full _ p c buf _ _ h hroom).mono ?_; rintro e w' ⟨rfl, h1, h2⟩)
  go_ret
  exact ⟨rfl, h1, h2⟩
theorem send_nil (w : World) (s : ByteArray) :
    Calls Try.prog 59 #[.pointer none, .string s] w fun e w' => e = .returned (.bool false) ∧ w = w' := by
  go_enter Try.func59, Try.ntmps59
  go_wp2
  go_ret
  exact ⟨rfl, rfl⟩

/-- What lies in a pipe: breaks and texts. -/
def items (l : List (Bool × ByteArray)) : List Value := l.map fun x => .agg #[.bool x.1, .string x.2]

theorem len_n (w : World) (p c : Nat) (buf : List Value) (n : Int) (h : PipeAt w p c buf) (hn : (buf.length : Int) = n) :
    Calls Try.prog 62 #[.pointer (some ⟨p, 0, none⟩)] w fun e w' => e = .returned (.int .i64 n) ∧ w = w' := by
  subst hn
  exact len_any w p c buf h

/-- What Take finds. -/
def Took (l : List (Bool × ByteArray)) (a : Bool) (b : ByteArray) (ok : Bool) (rest : List (Bool × ByteArray)) : Prop :=
  (ok = true ∧ l = (a, b) :: rest) ∨ (ok = false ∧ l = [] ∧ rest = [] ∧ a = false ∧ b = ⟨#[]⟩)

theorem take_any (w : World) (p c : Nat) (l : List (Bool × ByteArray)) (h : PipeAt w p c (items l)) :
    Calls Try.prog 53 #[.pointer (some ⟨p, 0, none⟩)] w fun e w' => ∃ a b ok rest, e = .returned (.tuple #[.agg #[.bool a, .string b], .bool ok]) ∧ Only (· = c) w w' ∧ PipeAt w' p c (items rest) ∧ Took l a b ok rest := by
  rcases l with _ | ⟨⟨a, b⟩, l⟩
  · refine (take_none w p c h).mono ?_
    rintro e w' ⟨rfl, h1⟩
    exact ⟨false, ⟨#[]⟩, false, [], rfl, h1.weaken (fun _ _ x => x.elim), h.kept h1 id id, .inr ⟨rfl, rfl, rfl, rfl, rfl⟩⟩
  · refine (take_some w p c a b (items l) h).mono ?_
    rintro e w' ⟨rfl, h1, h2⟩
    exact ⟨a, b, true, l, rfl, h1, h2, .inl ⟨rfl, rfl⟩⟩

def bn (b : Bool) : Nat := cond b 1 0

theorem clear_nil (w : World) : Calls Try.prog 56 #[.pointer none] w fun e w' => e = .returned (.tuple #[]) ∧ Only (fun _ => False) w w' := by
  go_enter Try.func56, Try.ntmps56
  go_wp2_with (go_at_call 53; refine (take_nil _).mono ?_; rintro e w' ⟨rfl, h1⟩)
  refine wp_loop_rounds 1 ?_
  rw [rounds_succ]
  go_wp2
  go_end0
  exact ⟨rfl, h1.alloc _⟩

theorem clear_any (w : World) (p c : Nat) (l : List (Bool × ByteArray)) (h : PipeAt w p c (items l)) :
    Calls Try.prog 56 #[.pointer (some ⟨p, 0, none⟩)] w fun e w' => e = .returned (.tuple #[]) ∧ Only (· = c) w w' ∧ PipeAt w' p c [] := by
  go_enter Try.func56, Try.ntmps56
  go_wp2_with (go_at_call 53; refine (take_any _ p c l h).mono ?_; rintro e w1 ⟨a, b, ok, rest, rfl, h1, h2, h3⟩)
  go_loopg [2, 3] (rest.length + bn ok) (fun k v2 v3 wr => ∃ q ok rest, v2 = .pointer (some ⟨q, 0, none⟩) ∧ v3 = .bool ok ∧ PipeAt wr p c (items rest) ∧ Only (· = c) w wr ∧
    (∃ a b, wr.heap[q]? = some (.cells #[.bool a, .string b] 58 (0, 0))) ∧ (ok = false → rest = []) ∧ k = rest.length + bn ok)
  case atStart =>
    refine ⟨_, ok, rest, rfl, rfl, h2.kept (S := fun _ => False) ((Only.refl _ _).alloc _) id id, h1.alloc _, ⟨a, b, heap_alloc_new _ _⟩, ?_, rfl⟩
    rcases h3 with ⟨rfl, _⟩ | ⟨_, _, hr, _⟩
    · intro e; cases e
    · intro _; exact hr
  case round =>
    obtain ⟨q, ok, rest, rfl, rfl, g1, g2, ⟨a, b, g3⟩, g4, g5⟩ := hrel
    cases ok with
    | false =>
      obtain rfl := g4 rfl
      clear g4 g5 h3
      go_wp2
      go_end0
      exact ⟨rfl, g2, g1⟩
    | true =>
      have hk0 : wr.cell? ⟨q, 0, none⟩ = some (.bool a) := by simp [World.cell?, g3]
      have hk1 : wr.cell? ⟨q, 1, none⟩ = some (.string b) := by simp [World.cell?, g3]
      have hq : q < wr.heap.size := lt_of_block g3
      have G5 := Lib.hid g5
      clear g3 g4 g5 h3
      go_wp2_with (go_at_call 53; refine (take_any _ p c rest (g1.kept (S := fun _ => False) ((Only.refl _ _).alloc _) id id)).mono ?_; rintro e w2 ⟨a2, b2, ok2, rest2, rfl, k1, k2, k3⟩)
      go_roundg (rest2.length + bn ok2)
      case measure =>
        rw [G5.out]
        rcases k3 with ⟨rfl, rfl⟩ | ⟨rfl, rfl, rfl, _⟩ <;> simp [bn]
      case rel =>
        refine ⟨_, ok2, rest2, rfl, rfl, k2, g2.trans ((Only.refl (· = c) wr).alloc _ |>.trans k1), ⟨a, b, ?_⟩, ?_, rfl⟩
        · rw [k1.block _ (by simp) (by show ¬ (_ = c); have := g1.lt.2; omega)]
          exact heap_alloc_new _ _
        · rcases k3 with ⟨rfl, _⟩ | ⟨_, _, hr, _⟩
          · intro e; cases e
          · intro _; exact hr

theorem break_nil (w : World) : Calls Try.prog 55 #[.pointer none] w fun e w' => e = .returned (.tuple #[]) ∧ Only (fun _ => False) w w' := by
  go_enter Try.func55, Try.ntmps55
  go_wp2_with (go_at_call 56; refine (clear_nil _).mono ?_; rintro e w' ⟨rfl, h1⟩)
  go_end0
  exact ⟨rfl, h1⟩

theorem break_any (w : World) (p c : Nat) (l : List (Bool × ByteArray)) (h : PipeAt w p c (items l)) :
    Calls Try.prog 55 #[.pointer (some ⟨p, 0, none⟩)] w fun e w' => e = .returned (.tuple #[]) ∧ Only (· = c) w w' ∧ PipeAt w' p c (items [(true, ⟨#[]⟩)]) := by
  go_enter Try.func55, Try.ntmps55
  go_wp2_with (first | (go_at_call 56; refine (clear_any _ p c l h).mono ?_; rintro e w' ⟨rfl, h1, h2⟩) | (go_at_call 76; refine (put_room _ p c [] _ _ h2 (by decide)).mono ?_; rintro e w2 ⟨rfl, h3, h4⟩))
  go_end0
  exact ⟨rfl, h1.trans h3, h4⟩
end Go.Proofs.Ytjgcbcahikemdaa
