/- Names of services in plain: what the reference scans is what stands between the full stops. -/
import Derived.Test.YtianboachknfmaaDoorStr
import Derived.Test.YtianboachknfmaaDoorSplit1
namespace Go.Proofs.YtianboachknfmaaDoor
open Go.Conc Go.RowKit

/-- May a byte stand in a label? -/
def letterB (c : UInt8) : Bool := (decide (97 ≤ c.toNat) && decide (c.toNat ≤ 122)) || (decide (48 ≤ c.toNat) && decide (c.toNat ≤ 57)) || decide (c.toNat = 45) || decide (c.toNat = 95)
def labelOk (x : List UInt8) : Bool := !x.isEmpty && x.all letterB
/-- A text whose byte ahead was (or was taken for) a full stop or was none. -/
def good : Bool → List UInt8 → Bool
  | p, [] => !p
  | p, b :: l => if b = 46 then !p && good true l else letterB b && good false l
theorem spl_good : ∀ (l cur : List UInt8), (spl cur l).all labelOk = (cur.all letterB && good cur.isEmpty l) := by
  intro l
  induction l with
  | nil => intro cur; simp [spl, labelOk, good, Bool.and_comm]
  | cons b l ih =>
    intro cur
    rw [spl, good]
    by_cases hb : b = 46
    · rw [if_pos hb, if_pos hb, List.all_cons, ih]
      simp only [labelOk, List.all_nil, List.isEmpty_nil]
      cases cur.all letterB <;> cases cur.isEmpty <;> simp
    · rw [if_neg hb, if_neg hb, ih]
      have e : (cur ++ [b]).isEmpty = false := by cases cur <;> rfl
      rw [e, List.all_append]
      simp [Bool.and_assoc]
/-- Is a text a name? -/
def namedP (s : ByteArray) : Bool := decide (1 ≤ s.size) && decide (s.size ≤ 62) && good true s.data.toList
theorem named_split (s : ByteArray) : good true s.data.toList = (splitL s).all fun x => labelOk x.data.toList := by
  have h := spl_good s.data.toList []
  rw [← splitL_data, List.all_map] at h
  have h2 := h.symm
  simp only [List.all_nil, Bool.true_and, List.isEmpty_nil] at h2
  exact h2
end Go.Proofs.YtianboachknfmaaDoor
