/- Read: the program's and the reference's. -/
import Derived.Test.YtfgkljjiopohgaaDoorName5
import Derived.Laws.BitsAllLaws
namespace Go.Proofs.YtfgkljjiopohgaaDoor
open Go.Conc Go.RowKit

def bAt (m : ByteArray) (i : Nat) : Nat := (m.data.toList.getD i 0).toNat
structure Rd where
  ls : List ByteArray
  stop : Int
  err : Nat
def Rd.bad (e : Nat) : Rd := ⟨[], 0, e⟩
def Rd.fin (r : Rd) (e : Int) : Rd := if r.err = 0 ∧ 0 ≤ e then ⟨r.ls, e, 0⟩ else r
/-- What stands at a place of a message. -/
def rdP (m : ByteArray) (i bound : Nat) (l : List ByteArray) : Rd :=
  if mayGo 0 l = false then .bad 9
  else if m.size ≤ i then .bad 2
  else if bAt m i = 0 then ⟨l, i + 1, 0⟩
  else if 192 ≤ bAt m i then
    if m.size ≤ i + 1 then .bad 2
    else if bound ≤ 256 * (bAt m i - 192) + bAt m (i + 1) then .bad 10
    else (rdP m (256 * (bAt m i - 192) + bAt m (i + 1)) (256 * (bAt m i - 192) + bAt m (i + 1)) l).fin (i + 2)
  else if 63 < bAt m i then .bad 4
  else if m.size < i + 1 + bAt m i then .bad 2
  else rdP m (i + 1 + bAt m i) bound (l ++ [m.extract (i + 1) (i + 1 + bAt m i)])
termination_by (bound, m.size - i)
decreasing_by
  · apply Prod.Lex.left; omega
  · apply Prod.Lex.right; omega

set_option maxRecDepth 100000 in
theorem read_range (w : World) (m : ByteArray) (i : Int) (h : i < 0 ∨ (m.size : Int) < i) :
    Calls Tryd.prog 15 #[.string m, .int .i64 i] w fun e w' => e = .returned (.tuple #[.slice none 0 0, .int .i64 0, .int .i64 11]) ∧ w = w' := by
  by_cases h0 : i < 0
  · have e0 : decide (i < 0) = true := by simp; omega
    clear h
    go_enter Tryd.func15, Tryd.ntmps15
    go_wp2_with fail
    go_ret3
    exact ⟨rfl, rfl⟩
  · have e0 : decide (i < 0) = false := by simp; omega
    have e1 : decide ((m.size : Int) < i) = true := by simp; omega
    clear h
    go_enter Tryd.func15, Tryd.ntmps15
    go_wp2_with fail
    go_ret3
    exact ⟨rfl, rfl⟩

section
variable {m : ByteArray} {k bd : Nat} {l : List ByteArray} (hm : mayGo 0 l = true)
include hm
theorem rdP_short (h : m.size ≤ k) : rdP m k bd l = .bad 2 := by
  rw [rdP, if_neg (by simp [hm]), if_pos h]
theorem rdP_zero (h : ¬ m.size ≤ k) (h0 : bAt m k = 0) : rdP m k bd l = ⟨l, k + 1, 0⟩ := by
  rw [rdP, if_neg (by simp [hm]), if_neg h, if_pos h0]
theorem rdP_short2 (h : ¬ m.size ≤ k) (h1 : 192 ≤ bAt m k) (h2 : m.size ≤ k + 1) : rdP m k bd l = .bad 2 := by
  rw [rdP, if_neg (by simp [hm]), if_neg h, if_neg (by omega), if_pos h1, if_pos h2]
theorem rdP_loop (h : ¬ m.size ≤ k) (h1 : 192 ≤ bAt m k) (h2 : ¬ m.size ≤ k + 1) (h3 : bd ≤ 256 * (bAt m k - 192) + bAt m (k + 1)) : rdP m k bd l = .bad 10 := by
  rw [rdP, if_neg (by simp [hm]), if_neg h, if_neg (by omega), if_pos h1, if_neg h2, if_pos h3]
theorem rdP_ptr (h : ¬ m.size ≤ k) (h1 : 192 ≤ bAt m k) (h2 : ¬ m.size ≤ k + 1) (h3 : ¬ bd ≤ 256 * (bAt m k - 192) + bAt m (k + 1)) :
    rdP m k bd l = (rdP m (256 * (bAt m k - 192) + bAt m (k + 1)) (256 * (bAt m k - 192) + bAt m (k + 1)) l).fin (k + 2) := by
  rw [rdP, if_neg (by simp [hm]), if_neg h, if_neg (by omega), if_pos h1, if_neg h2, if_neg h3]
theorem rdP_form (h : ¬ m.size ≤ k) (h1 : ¬ 192 ≤ bAt m k) (h2 : 63 < bAt m k) : rdP m k bd l = .bad 4 := by
  rw [rdP, if_neg (by simp [hm]), if_neg h, if_neg (by omega), if_neg h1, if_pos h2]
theorem rdP_short3 (h : ¬ m.size ≤ k) (h0 : bAt m k ≠ 0) (h2 : ¬ 63 < bAt m k) (h3 : m.size < k + 1 + bAt m k) : rdP m k bd l = .bad 2 := by
  rw [rdP, if_neg (by simp [hm]), if_neg h, if_neg h0, if_neg (by omega), if_neg h2, if_pos h3]
theorem rdP_step (h : ¬ m.size ≤ k) (h0 : bAt m k ≠ 0) (h2 : ¬ 63 < bAt m k) (h3 : ¬ m.size < k + 1 + bAt m k) : rdP m k bd l = rdP m (k + 1 + bAt m k) bd (l ++ [m.extract (k + 1) (k + 1 + bAt m k)]) := by
  rw [rdP, if_neg (by simp [hm]), if_neg h, if_neg h0, if_neg (by omega), if_neg h2, if_neg h3]
end
theorem rdP_name {m : ByteArray} {k bd : Nat} {l : List ByteArray} (hm : mayGo 0 l = false) : rdP m k bd l = .bad 9 := by
  rw [rdP, if_pos hm]
theorem bAt_get (m : ByteArray) (k : Nat) (h : k < m.size) : (m[k]'h).toNat = bAt m k := by
  unfold bAt
  have h2 : k < m.data.toList.length := h
  rw [List.getD_eq_getElem?_getD, List.getElem?_eq_getElem h2]
  rfl
theorem bAt_lt (m : ByteArray) (k : Nat) : bAt m k < 256 := UInt8.toNat_lt _
theorem i64_or_nat (a b : Nat) (ha : a < 65536) (hb : b < 65536) : bits .or .i64 (a : Int) (b : Int) = ((a ||| b : Nat) : Int) := by
  have hx : a ||| b < 2 ^ 16 := Nat.or_lt_two_pow (by omega) (by omega)
  show IntKind.i64.wrap ((BitVec.ofInt 64 (a : Int) ||| BitVec.ofInt 64 (b : Int)).toNat : Int) = _
  rw [BitVec.toNat_or, BitVec.ofInt_natCast, BitVec.ofInt_natCast, BitVec.toNat_ofNat, BitVec.toNat_ofNat, Nat.mod_eq_of_lt (by omega), Nat.mod_eq_of_lt (by omega), IntKind.wrap_i64]
  omega
theorem to_ptr (a b : Nat) (ha : a < 64) (hb : b < 256) : bits .or .i64 ((a : Int) * 256) (b : Int) = ((256 * a + b : Nat) : Int) := by
  have : ((a : Int) * 256) = ((a * 256 : Nat) : Int) := by omega
  rw [this, i64_or_nat _ _ (by omega) (by omega), show a * 256 = a <<< 8 by rw [Nat.shiftLeft_eq], ← Nat.shiftLeft_add_eq_or_of_lt (i := 8) (by omega) a, Nat.shiftLeft_eq]
  omega
theorem fin_bad {e : Nat} (h : e ≠ 0) (x : Int) : (Rd.bad e).fin x = .bad e := by simp [Rd.fin, Rd.bad, h]
theorem fin_low {r : Rd} {x : Int} (h : x < 0) : r.fin x = r := by rw [Rd.fin, if_neg (by omega)]
theorem fin_fin {r : Rd} {x y : Int} (hx : 0 ≤ x) (hy : 0 ≤ y) : (r.fin x).fin y = r.fin y := by
  unfold Rd.fin
  by_cases h : r.err = 0
  · simp [h, hx, hy]
  · simp [h]
theorem infoStr : (Tryd.prog.info? 9).map (fun i => (i.zero, i.size, i.bytes)) = some (some (.string ⟨#[]⟩), 1, 16) := by kernel_rfl
theorem str_one (l : List ByteArray) : ∀ u ∈ l.map Value.string, u.oneCell' = true := by
  intro u hu
  obtain ⟨s, _, rfl⟩ := List.mem_map.1 hu
  rfl
/-- What Read returns. -/
def ReadPost (w : World) (r : Rd) (e : Ending) (w' : World) : Prop :=
  ∃ v, e = .returned (.tuple #[v, .int .i64 r.stop, .int .i64 r.err]) ∧ Only (fun _ => False) w w' ∧ Sl w' 1 v r.ls.length (r.ls.map .string)
theorem ReadPost.of_bad {w w' : World} {r : Rd} {n : Nat} (hr : r = .bad n) (ho : Only (fun _ => False) w w') : ReadPost w r (.returned (.tuple #[.slice none 0 0, .int .i64 0, .int .i64 n])) w' := by
  subst hr
  exact ⟨_, rfl, ho, Sl.nil _ _⟩
theorem measure_ptr {S bd q k : Nat} (h : q < bd) (hk : k ≤ S) : q * (S + 2) + (S + 1 - q) < bd * (S + 2) + (S + 1 - k) := by
  have := Nat.mul_le_mul_right (S + 2) (show q + 1 ≤ bd from h)
  rw [Nat.add_mul] at this
  omega

set_option maxRecDepth 100000 in
set_option maxHeartbeats 400000 in
theorem read_any (w : World) (m : ByteArray) (i : Nat) (hm : m.size ≤ 100000) (hi : i ≤ m.size) :
    Calls Tryd.prog 15 #[.string m, .int .i64 i] w fun e w' => ReadPost w (rdP m i i []) e w' := by
  obtain ⟨i0, hi0, hz0, hz1, hz2⟩ := info_parts infoStr
  have hgt : decide ((m.size : Int) < (i : Int)) = false := by simp; omega
  have hgt0 : decide ((i : Int) < 0) = false := by simp
  have hgtN : decide (m.size < i) = false := by simp; omega
  go_enter Tryd.func15, Tryd.ntmps15
  go_wp2_with fail
  go_loopg [1, 7, 8, 9, 10, 11] (i * (m.size + 2) + (m.size + 1 - i)) (fun g v1 v7 v8 v9 v10 v11 wx => ∃ (k bd : Nat) (l : List ByteArray) (e : Int), v1 = .int .i64 k ∧ v9 = .int .i64 bd ∧ v8 = .int .i64 e ∧ k ≤ m.size ∧ bd ≤ m.size ∧ Only (fun _ => False) w wx ∧ wx.ownsRow w.heap.size 9 1 v7 l.length (l.map .string) ∧ mayGo 0 l = true ∧ -1 ≤ e ∧ e ≤ 200000 ∧ rdP m i i [] = (rdP m k bd l).fin e ∧ g = bd * (m.size + 2) + (m.size + 1 - k))
  case atStart => exact ⟨i, i, [], -1, rfl, rfl, rfl, hi, hi, Only.refl _ _, World.ownsRow_nil _ _ _ _, rfl, by omega, by omega, (fin_low (by omega)).symm, rfl⟩
  case round =>
    obtain ⟨k, bd, l, e, rfl, rfl, rfl, hk, hbd, ho, hown, hmay, he1, he2, hR, hg⟩ := hrel
    have Hg := Lib.hid hg
    have HR := Lib.hid hR
    have Hm := Lib.hid hmay
    clear hg hR hmay
    by_cases hlt : m.size ≤ k
    · have e0 : decide ((m.size : Int) ≤ (k : Int)) = true := by simp; omega
      go_wp2_with fail
      go_ret3
      exact ReadPost.of_bad (by rw [HR.out, rdP_short Hm.out hlt, fin_bad (by decide)]) ho
    · have e0 : decide ((m.size : Int) ≤ (k : Int)) = false := by simp; omega
      have hn : ((m[k]'(by omega)).toNat : Int) = (bAt m k : Int) := congrArg _ (bAt_get m k (by omega))
      have hnl := bAt_lt m k
      by_cases c0 : bAt m k = 0
      · have HZ := Lib.hid (rdP_zero (bd := bd) Hm.out hlt c0)
        have e1 : (((bAt m k : Nat) : Int) == 0) = true := by simp; omega
        clear c0
        by_cases he : e < 0
        · have e3 : decide (e < 0) = true := by simp; omega
          go_wp2_with fail
          go_ret3
          have hr : rdP m i i [] = ⟨l, k + 1, 0⟩ := by rw [HR.out, HZ.out, fin_low he]
          rw [hr]
          exact ⟨_, rfl, ho, Sl.of_owns hown⟩
        · have e3 : decide (e < 0) = false := by simp; omega
          go_wp2_with fail
          go_ret3
          have hr : rdP m i i [] = ⟨l, e, 0⟩ := by
            rw [HR.out, HZ.out, Rd.fin, if_pos ⟨rfl, by omega⟩]
          rw [hr]
          exact ⟨_, rfl, ho, Sl.of_owns hown⟩
      · have e1 : (((bAt m k : Nat) : Int) == 0) = false := by simp; omega
        by_cases c1 : 192 ≤ bAt m k
        · have e2 : decide (192 ≤ ((bAt m k : Nat) : Int)) = true := by simp; omega
          by_cases c2 : m.size ≤ k + 1
          · have e3 : decide ((m.size : Int) ≤ (k : Int) + 1) = true := by simp; omega
            go_wp2_with fail
            go_ret3
            exact ReadPost.of_bad (by rw [HR.out, rdP_short2 Hm.out hlt c1 c2, fin_bad (by decide)]) ho
          · have e3 : decide ((m.size : Int) ≤ (k : Int) + 1) = false := by simp; omega
            have hn2 : ((m[k + 1]'(by omega)).toNat : Int) = (bAt m (k + 1) : Int) := congrArg _ (bAt_get m (k + 1) (by omega))
            have hnl2 := bAt_lt m (k + 1)
            have hto : ∀ y : Int, y = ((bAt m (k + 1) : Nat) : Int) → bits BinOp.or IntKind.i64 ((((bAt m k : Nat) : Int) - 192) * 256) y = ((256 * (bAt m k - 192) + bAt m (k + 1) : Nat) : Int) := by
              rintro y rfl
              have := to_ptr (bAt m k - 192) (bAt m (k + 1)) (by omega) (by omega)
              rwa [show (((bAt m k - 192 : Nat) : Nat) : Int) = ((bAt m k : Nat) : Int) - 192 by omega] at this
            have HL := Lib.hid (rdP_loop (bd := bd) Hm.out hlt c1 c2)
            have HP := Lib.hid (rdP_ptr (bd := bd) Hm.out hlt c1 c2)
            generalize 256 * (bAt m k - 192) + bAt m (k + 1) = q at *
            by_cases c3 : bd ≤ q
            · have e5 : decide ((bd : Int) ≤ (q : Int)) = true := by simp; omega
              go_wp2_with fail
              go_ret3
              exact ReadPost.of_bad (by rw [HR.out, HL.out c3, fin_bad (by decide)]) ho
            · have e5 : decide ((bd : Int) ≤ (q : Int)) = false := by simp; omega
              by_cases he : e < 0
              · have e6 : decide (e < 0) = true := by simp; omega
                have He := Lib.hid he
                clear he
                go_wp2_with fail
                go_roundg (q * (m.size + 2) + (m.size + 1 - q))
                case measure => rw [Hg.out]; exact measure_ptr (by omega) hk
                case rel => exact ⟨q, q, l, k + 1 + 1, rfl, rfl, rfl, by omega, by omega, ho, hown, Hm.out, by omega, by omega, by rw [HR.out, HP.out c3, fin_low He.out]; exact congrArg _ (by omega), rfl⟩
              · have e6 : decide (e < 0) = false := by simp; omega
                have He := Lib.hid he
                clear he
                go_wp2_with fail
                go_roundg (q * (m.size + 2) + (m.size + 1 - q))
                case measure => rw [Hg.out]; exact measure_ptr (by omega) hk
                case rel => exact ⟨q, q, l, e, rfl, rfl, rfl, by omega, by omega, ho, hown, Hm.out, by omega, by omega, by rw [HR.out, HP.out c3, fin_fin (by omega) (by have := He.out; omega)], rfl⟩
        · have e2 : decide (192 ≤ ((bAt m k : Nat) : Int)) = false := by simp; omega
          by_cases c2 : 63 < bAt m k
          · have e3 : decide (63 < ((bAt m k : Nat) : Int)) = true := by simp; omega
            go_wp2_with fail
            go_ret3
            exact ReadPost.of_bad (by rw [HR.out, rdP_form Hm.out hlt c1 c2, fin_bad (by decide)]) ho
          · have e3 : decide (63 < ((bAt m k : Nat) : Int)) = false := by simp; omega
            by_cases c3 : m.size < k + 1 + bAt m k
            · have e4 : decide ((m.size : Int) - ((k : Int) + 1) < ((bAt m k : Nat) : Int)) = true := by simp; omega
              have e5 : ((m.size : Int) < (k : Int) + 1 + ((bAt m k : Nat) : Int)) := by omega
              go_wp2_with fail
              go_ret3
              exact ReadPost.of_bad (by rw [HR.out, rdP_short3 Hm.out hlt c0 c2 c3, fin_bad (by decide)]) ho
            · have e4 : decide ((m.size : Int) - ((k : Int) + 1) < ((bAt m k : Nat) : Int)) = false := by simp; omega
              have e5 : ¬ ((m.size : Int) < (k : Int) + 1 + ((bAt m k : Nat) : Int)) := by omega
              go_wp2_with (at_builtin; refine Wait.mk ?_)
              have hsm : (m.extract (k + 1) (k + 1 + bAt m k)).size ≤ 63 := by rw [ByteArray.size_extract]; omega
              have HS := Lib.hid (rdP_step (bd := bd) Hm.out hlt c0 c2 c3)
              have hll := (mayGo_all l 0 Hm.out).2
              generalize m.extract (k + 1) (k + 1 + bAt m k) = s at *
              refine Wait.go (wpList_append_src _ rfl (.tmp 31) (.tmp 38) 23 23 rfl w.heap.size 9 i0 _ 1 16 Tryd.underlying23 hi0 hz0 hz1 hz2 rfl u7 l.length (l.map .string) rfl (hown.alloc _) _ 1 [.string s] rfl ?src ?m ?b ?base ?_)
              case src => exact Src.ofSlice _ Tryd.underlying23 _ _ _ _ rfl (news_new _ _ _) (str_one [s])
              case m => unfold maxLen; omega
              case b => omega
              case base => have := ho.size; simp; omega
              intro v1 w5 own1 gr1 hv1
              have ho5 : Only (fun _ => False) w w5 := ho.tr (T := fun x => u7.ownBlock = some x) (((Only.refl _ _).alloc _).grown gr1 (fun k e => .inr e)) (fun j hj e => by have := (hown.lt _ e).1; omega)
              have own2 : w5.ownsRow w.heap.size 9 1 v1 (l ++ [s]).length ((l ++ [s]).map .string) := by simpa using own1
              clear own1 hown
              go_wp2_with fail
              refine (may_any _ v1 (l ++ [s]) (Sl.of_owns own2) ?_).mono ?_
              · intro x hx
                rcases List.mem_append.1 hx with hx | hx
                · have := (mayGo_all l 0 Hm.out).1 x hx
                  unfold maxLen; omega
                · rw [List.mem_singleton] at hx
                  subst hx
                  unfold maxLen; omega
              rintro e' w6 ⟨rfl, rfl⟩
              generalize hma : mayGo 0 (l ++ [s]) = b at *
              have Hma := Lib.hid hma
              clear hma
              cases b with
              | false =>
                go_wp2_with fail
                go_ret3
                exact ReadPost.of_bad (by rw [HR.out, HS.out, rdP_name Hma.out, fin_bad (by decide)]) ho5
              | true =>
                go_wp2_with fail
                go_roundg (bd * (m.size + 2) + (m.size + 1 - (k + 1 + bAt m k)))
                case measure => rw [Hg.out]; omega
                case rel => exact ⟨k + 1 + bAt m k, bd, l ++ [s], e, by go_num, rfl, rfl, by omega, hbd, ho5, own2, Hma.out, he1, he2, by rw [HR.out, HS.out], rfl⟩
end Go.Proofs.YtfgkljjiopohgaaDoor
