/- head.Decode: a text that is too short; Decode. -/
import Derived.Test.YtbdfijgejkimnaaGreatDoorNA
import Derived.Deep.RegionHeld3
import Derived.StillTail
import Derived.Test.YtbdfijgejkimnaaGreatDoorND
import Derived.Test.YtbdfijgejkimnaaGreatDoorNE
/-! Heads of DNS messages: the plain law. -/
namespace Go.Proofs.YtbdfijgejkimnaaGreatDoor

/-- One bit more, where it is not set. -/
theorem or_bit (hi lo k : Nat) (h : lo < 2 ^ k) : (hi * 2 ^ (k + 1) + lo) ||| 2 ^ k = hi * 2 ^ (k + 1) + 2 ^ k + lo := by
  have h1 : lo < 2 ^ (k + 1) := Nat.lt_of_lt_of_le h (Nat.pow_le_pow_right (by decide) (by omega))
  have h2 : 2 ^ k + lo < 2 ^ (k + 1) := by rw [Nat.pow_succ]; omega
  have e1 : hi * 2 ^ (k + 1) + lo = 2 ^ (k + 1) * hi ||| lo := by rw [Nat.mul_comm, Nat.two_pow_add_eq_or_of_lt h1]
  have e2 : 2 ^ k + lo = 2 ^ k ||| lo := by have := Nat.two_pow_add_eq_or_of_lt h 1; rwa [Nat.mul_one] at this
  rw [e1, Nat.or_assoc, Nat.or_comm lo, ← e2, ← Nat.two_pow_add_eq_or_of_lt h2, Nat.mul_comm]
  omega
/-- A number in front of another. -/
theorem or_front (hi lo k : Nat) (h : lo < 2 ^ k) : hi * 2 ^ k ||| lo = hi * 2 ^ k + lo := by
  rw [Nat.mul_comm, Nat.two_pow_add_eq_or_of_lt h]
/-- The head of a message. -/
structure HeadT where
  id : Nat
  resp : Bool
  op : Nat
  auth : Bool
  trunc : Bool
  des : Bool
  avail : Bool
  zero : Nat
  code : Nat
  cts : Nat × Nat × Nat × Nat
/-- The flags, as a number: opcode, zero and code within their widths. -/
def flagN (h : HeadT) : Nat := h.resp.toNat * 2 ^ 15 + h.op * 2 ^ 11 + h.auth.toNat * 2 ^ 10 + h.trunc.toNat * 2 ^ 9 + h.des.toNat * 2 ^ 8 + h.avail.toNat * 2 ^ 7 + h.zero * 2 ^ 4 + h.code
theorem flagN_lt (h : HeadT) (h1 : h.op ≤ 15) (h2 : h.zero ≤ 7) (h3 : h.code ≤ 15) : flagN h < 65536 := by
  have b (x : Bool) : x.toNat ≤ 1 := Bool.toNat_le x
  have := b h.resp; have := b h.auth; have := b h.trunc; have := b h.des; have := b h.avail
  unfold flagN
  omega
end Go.Proofs.YtbdfijgejkimnaaGreatDoor
/-! A drawn region in two parts: one condition on the world till the first of its last operations, another behind it. -/
namespace Go.Proofs.YtbdfijgejkimnaaGreatDoor
open Go

section
variable {P : Program} {ops : Array Oper} {Q : Exit → Act → World → Prop} {md : Region.Mode} {S T : World → Prop} {n : Nat}

/-- T behind operation n, S till then. -/
def Gn (n : Nat) (S T : World → Prop) (l : Array Bool) (w : World) : Prop := if l.getD n false = true then T w else S w
theorem Gn.start {l : Array Bool} {w : World} (h : l.getD n false = false) (hs : S w) : Gn n S T l w := by unfold Gn; rw [h]; exact hs
theorem Gn.tail {l : Array Bool} {w : World} (h : l.getD n false = true) (hs : T w) : Gn n S T l w := by unfold Gn; rw [if_pos h]; exact hs
theorem Gn.outS {l : Array Bool} {w : World} (h : l.getD n false = false) (hs : Gn n S T l w) : S w := by unfold Gn at hs; rw [h] at hs; exact hs
theorem Gn.congr {l l' : Array Bool} {w : World} (h : l.getD n false = l'.getD n false) (hs : Gn n S T l w) : Gn n S T l' w := by unfold Gn at *; rw [← h]; exact hs
def wpAnyG (P : Program) (md : Region.Mode) (ops : Array Oper) (Q : Exit → Act → World → Prop) (S T : World → Prop) (n : Nat) : Nat → Array Bool → Act → World → Prop
  | 0, listed, a, w => Region.ready md ops listed = [] ∧ Q .normal a w
  | fuel + 1, listed, a, w =>
    (Region.ready md ops listed = [] → Q .normal a w) ∧
    ∀ i ∈ Region.ready md ops listed, wpOp P ops Q i (fun a' w' => Gn n S T (listed.setIfInBounds i true) w' ∧ wpAnyG P md ops Q S T n fuel (listed.setIfInBounds i true) a' w') a w
theorem wpAny_of_G : ∀ (fuel : Nat) (listed : Array Bool) (a : Act) (w : World), wpAnyG P md ops Q S T n fuel listed a w → wpAny P md ops Q fuel listed a w
  | 0, _, _, _, h => h
  | fuel + 1, _, _, _, h => ⟨h.1, fun i hi => wpOp_mono (fun a' w' h' => wpAny_of_G fuel _ a' w' h'.2) (h.2 i hi)⟩
theorem wpAnyG_first {i : Nat} {oi : Oper} {v : Value} (hi : ops[i]? = some oi) (hsel : ∀ (j : Nat) (o : Oper) cs b, ops[j]? = some o → o.op ≠ .select cs b)
    (hQ : ∀ c a w, Q (.panic c) (a.put oi.dst v) w → Q (.panic c) a w) (hn : Region.waitsFor md ops n i = true) (hin : i ≠ n) :
    ∀ (fuel : Nat) (listed : Array Bool) (a : Act) (w : World),
      (∀ j oj, ops[j]? = some oj → j ≠ i → listed.getD j true = false → (∀ e ∈ oj.after, Region.binds md e = true → e.on ≠ i) → oi.apart ops oj = true) →
      i ∈ Region.ready md ops listed → listed.getD n false = false → YieldsIf P ops S oi v a → S w →
      wpAnyG P md ops Q S T n fuel (listed.setIfInBounds i true) (a.put oi.dst v) w → wpAnyG P md ops Q S T n (fuel + 1) listed a w := by
  intro fuel
  induction fuel with
  | zero =>
    intro listed a w _ hr hln hy hS H
    refine ⟨fun h => (by rw [h] at hr; cases hr), fun j hj => ?_⟩
    by_cases hji : j = i
    · subst hji; exact hy.wpOp hi hS ⟨Gn.start (by rw [getD_set_ne false hin]; exact hln) hS, H⟩
    · have := ready_mono hj hji
      rw [H.1] at this
      cases this
  | succ fuel ih =>
    intro listed a w hfree hr hln hy hS H
    refine ⟨fun h => (by rw [h] at hr; cases hr), fun j hj => ?_⟩
    by_cases hji : j = i
    · subst hji; exact hy.wpOp hi hS ⟨Gn.start (by rw [getD_set_ne false hin]; exact hln) hS, H⟩
    · have h1 := H.2 j (ready_mono hj hji)
      obtain ⟨hjun, oj, hoj, hall⟩ := mem_ready.1 hj
      have hun := (mem_ready.1 hr).1
      have hnot : ∀ e ∈ oj.after, Region.binds md e = true → e.on ≠ i := fun e he hb heq => by
        have h1 := hall e he hb
        rw [heq, getD_both hun] at h1
        cases h1
      have hjn : j ≠ n := fun e => by
        subst e
        obtain ⟨o', ho', e', he', hb', hon⟩ := Region.waitsFor_spec hn
        have : o' = oj := Option.some.inj (ho'.symm.trans hoj)
        subst this
        exact hnot e' he' hb' hon
      have h2 := wpOp_putIf hoj (hfree j oj hoj hji hjun hnot) (fun cs b => hsel i oi cs b hi) (fun cs b => hsel j oj cs b hoj) hQ hy h1
      have hfree' : ∀ k ok, ops[k]? = some ok → k ≠ i → (listed.setIfInBounds j true).getD k true = false →
          (∀ e ∈ ok.after, Region.binds md e = true → e.on ≠ i) → oi.apart ops ok = true := fun k ok hk hki hun hno => by
        refine hfree k ok hk hki ?_ hno
        by_cases hjk : j = k
        · subst hjk; exact hjun
        · rw [getD_set_ne true hjk] at hun; exact hun
      have e1 : (listed.setIfInBounds j true).getD n false = false := by rw [getD_set_ne false hjn]; exact hln
      have e2 : ((listed.setIfInBounds i true).setIfInBounds j true).getD n false = false := by rw [getD_set_ne false hjn, getD_set_ne false hin]; exact hln
      refine wpOp_mono (fun a' w' h3 => ⟨h3.2.1.congr (e2.trans e1.symm), ih (listed.setIfInBounds j true) a' w' hfree' (ready_mono hr (Ne.symm hji)) e1 h3.1 (h3.2.1.outS e2) ?_⟩) h2
      rw [Array.setIfInBounds_comm _ _ hji]
      exact h3.2.2
theorem wpAnyG_take {i : Nat} {oi : Oper} {v : Value} {fuel : Nat} {listed : Array Bool} {a : Act} {w : World} (hi : ops[i]? = some oi)
    (hs : Region.noSelect ops = true) (hf : Region.free md ops listed i = true) (hr : (Region.ready md ops listed).contains i = true) (hn : Region.waitsFor md ops n i = true) (hin : (i != n) = true) (hln : listed.getD n false = false)
    (hQ : ∀ c a w, Q (.panic c) (a.put oi.dst v) w → Q (.panic c) a w) (hy : YieldsIf P ops S oi v a) (hS : S w)
    (h : wpAnyG P md ops Q S T n fuel (listed.setIfInBounds i true) (a.put oi.dst v) w) : wpAnyG P md ops Q S T n (fuel + 1) listed a w :=
  wpAnyG_first hi (Region.noSelect_spec hs) hQ hn (by simpa using hin) fuel listed a w (Region.free_spec hi hf) (by simpa using hr) hln hy hS h
theorem wpAnyG_firstW {i : Nat} {oi : Oper} {v : Value} (hi : ops[i]? = some oi) (hsel : ∀ (j : Nat) (o : Oper) cs b, ops[j]? = some o → o.op ≠ .select cs b)
    (hQ : ∀ c a w, Q (.panic c) (a.put oi.dst v) w → Q (.panic c) a w) (hin : i ≠ n) :
    ∀ (fuel : Nat) (listed : Array Bool) (a : Act) (w : World),
      (∀ j oj, ops[j]? = some oj → j ≠ i → listed.getD j true = false → (∀ e ∈ oj.after, Region.binds md e = true → e.on ≠ i) → oi.apart ops oj = true) →
      i ∈ Region.ready md ops listed → YieldsIf P ops (fun _ => True) oi v a → Gn n S T listed w →
      wpAnyG P md ops Q S T n fuel (listed.setIfInBounds i true) (a.put oi.dst v) w → wpAnyG P md ops Q S T n (fuel + 1) listed a w := by
  intro fuel
  induction fuel with
  | zero =>
    intro listed a w _ hr hy hS H
    refine ⟨fun h => (by rw [h] at hr; cases hr), fun j hj => ?_⟩
    by_cases hji : j = i
    · subst hji; exact hy.wpOp hi trivial ⟨hS.congr (by rw [getD_set_ne false hin]), H⟩
    · have := ready_mono hj hji
      rw [H.1] at this
      cases this
  | succ fuel ih =>
    intro listed a w hfree hr hy hS H
    refine ⟨fun h => (by rw [h] at hr; cases hr), fun j hj => ?_⟩
    by_cases hji : j = i
    · subst hji; exact hy.wpOp hi trivial ⟨hS.congr (by rw [getD_set_ne false hin]), H⟩
    · have h1 := H.2 j (ready_mono hj hji)
      obtain ⟨hjun, oj, hoj, hall⟩ := mem_ready.1 hj
      have hun := (mem_ready.1 hr).1
      have hnot : ∀ e ∈ oj.after, Region.binds md e = true → e.on ≠ i := fun e he hb heq => by
        have h1 := hall e he hb
        rw [heq, getD_both hun] at h1
        cases h1
      have h2 := wpOp_putIf hoj (hfree j oj hoj hji hjun hnot) (fun cs b => hsel i oi cs b hi) (fun cs b => hsel j oj cs b hoj) hQ hy h1
      have hfree' : ∀ k ok, ops[k]? = some ok → k ≠ i → (listed.setIfInBounds j true).getD k true = false →
          (∀ e ∈ ok.after, Region.binds md e = true → e.on ≠ i) → oi.apart ops ok = true := fun k ok hk hki hun hno => by
        refine hfree k ok hk hki ?_ hno
        by_cases hjk : j = k
        · subst hjk; exact hjun
        · rw [getD_set_ne true hjk] at hun; exact hun
      refine wpOp_mono (fun a' w' h3 => ?_) h2
      have e1 : Gn n S T (listed.setIfInBounds j true) w' := h3.2.1.congr (by rw [Array.setIfInBounds_comm _ _ (Ne.symm hji), getD_set_ne false hin])
      refine ⟨e1, ih (listed.setIfInBounds j true) a' w' hfree' (ready_mono hr (Ne.symm hji)) h3.1 e1 ?_⟩
      rw [Array.setIfInBounds_comm _ _ hji]
      exact h3.2.2
/-- What yields in whatever world may be taken first, too. -/
theorem wpAnyG_takeW {i : Nat} {oi : Oper} {v : Value} {fuel : Nat} {listed : Array Bool} {a : Act} {w : World} (hi : ops[i]? = some oi)
    (hs : Region.noSelect ops = true) (hf : Region.free md ops listed i = true) (hr : (Region.ready md ops listed).contains i = true) (hin : (i != n) = true)
    (hQ : ∀ c a w, Q (.panic c) (a.put oi.dst v) w → Q (.panic c) a w) (hy : YieldsIf P ops (fun _ => True) oi v a) (hS : Gn n S T listed w)
    (h : wpAnyG P md ops Q S T n fuel (listed.setIfInBounds i true) (a.put oi.dst v) w) : wpAnyG P md ops Q S T n (fuel + 1) listed a w :=
  wpAnyG_firstW hi (Region.noSelect_spec hs) hQ (by simpa using hin) fuel listed a w (Region.free_spec hi hf) (by simpa using hr) hy hS h
theorem wpAnyG_done {listed : Array Bool} {a : Act} {w : World} (hr : Region.ready md ops listed = []) (h : Q .normal a w) :
    ∀ fuel, wpAnyG P md ops Q S T n fuel listed a w
  | 0 => ⟨hr, h⟩
  | _ + 1 => ⟨fun _ => h, by rw [hr]; simp⟩
def AllReadyG (P : Program) (md : Region.Mode) (ops : Array Oper) (Q : Exit → Act → World → Prop) (S T : World → Prop) (n fuel : Nat) (listed : Array Bool) (a : Act) (w : World) (rs : List Nat) : Prop :=
  ∀ i ∈ rs, wpOp P ops Q i (fun a' w' => Gn n S T (listed.setIfInBounds i true) w' ∧ wpAnyG P md ops Q S T n fuel (listed.setIfInBounds i true) a' w') a w
theorem AllReadyG.nil {fuel : Nat} {listed : Array Bool} {a : Act} {w : World} : AllReadyG P md ops Q S T n fuel listed a w [] := fun _ h => by cases h
theorem AllReadyG.cons {fuel : Nat} {listed : Array Bool} {a : Act} {w : World} {i : Nat} {o : Oper} {rs : List Nat} (ho : ops[i]? = some o)
    (h : ∀ K' : Act → World → Prop, Shut (∀ a w, Gn n S T (listed.setIfInBounds i true) w → (Gn n S T (listed.setIfInBounds i true) w → wpAnyG P md ops Q S T n fuel (listed.setIfInBounds i true) a w) → K' a w) → if Region.wanted o (yielded ops a.tmps) = true then Oper.wp P o a w K' Q else K' (a.put o.dst undef) w)
    (hs : AllReadyG P md ops Q S T n fuel listed a w rs) : AllReadyG P md ops Q S T n fuel listed a w (i :: rs) := fun j hj => by
  rcases List.mem_cons.1 hj with rfl | hj
  · exact wpOp_step ho (fun K' hK => h K' (fun a w hS hW => hK a w ⟨hS, hW hS⟩))
  · exact hs j hj
theorem wpAnyG_ready {rs : List Nat} {fuel : Nat} {listed : Array Bool} {a : Act} {w : World} (hr : Region.ready md ops listed = rs) (hne : rs ≠ [])
    (h : AllReadyG P md ops Q S T n fuel listed a w rs) : wpAnyG P md ops Q S T n (fuel + 1) listed a w := ⟨fun h0 => absurd (hr ▸ h0) hne, hr ▸ h⟩
theorem wp_region_G_drew {id : Nat} {a : Act} {w : World} (S T : World → Prop) (n : Nat) (hm : P.follows .mixedOrders = true) (hS : S w.drew)
    (h : S w.drew → wpAnyG P .any ops Q S T n ops.size (Array.replicate ops.size false) a w.drew) : (Code.region id ops true).wp P Q a w :=
  wp_region_any hm (wpAny_of_G _ _ _ _ (h hS))
/-- The same, the slot's number apart. -/
theorem wpAnyG_takeD {i : Nat} {oi : Oper} {v : Value} {d : Option Tmp} {fuel : Nat} {listed : Array Bool} {a : Act} {w : World} (hi : ops[i]? = some oi) (hd : oi.dst = d)
    (hs : Region.noSelect ops = true) (hf : Region.free md ops listed i = true) (hr : (Region.ready md ops listed).contains i = true) (hn : Region.waitsFor md ops n i = true) (hin : (i != n) = true) (hln : listed.getD n false = false)
    (hQ : ∀ c a w, Q (.panic c) (a.put d v) w → Q (.panic c) a w) (hy : YieldsIf P ops S oi v a) (hS : S w)
    (h : wpAnyG P md ops Q S T n fuel (listed.setIfInBounds i true) (a.put d v) w) : wpAnyG P md ops Q S T n (fuel + 1) listed a w := by subst hd; exact wpAnyG_take hi hs hf hr hn hin hln hQ hy hS h
theorem wpAnyG_takeWD {i : Nat} {oi : Oper} {v : Value} {d : Option Tmp} {fuel : Nat} {listed : Array Bool} {a : Act} {w : World} (hi : ops[i]? = some oi) (hd : oi.dst = d)
    (hs : Region.noSelect ops = true) (hf : Region.free md ops listed i = true) (hr : (Region.ready md ops listed).contains i = true) (hin : (i != n) = true)
    (hQ : ∀ c a w, Q (.panic c) (a.put d v) w → Q (.panic c) a w) (hy : YieldsIf P ops (fun _ => True) oi v a) (hS : Gn n S T listed w)
    (h : wpAnyG P md ops Q S T n fuel (listed.setIfInBounds i true) (a.put d v) w) : wpAnyG P md ops Q S T n (fuel + 1) listed a w := by subst hd; exact wpAnyG_takeW hi hs hf hr hin hQ hy hS h
/-- The frame, written out. -/
theorem wpAnyG_act {fuel : Nat} {listed : Array Bool} {a a' : Act} {w : World} (e : a = a') (h : wpAnyG P md ops Q S T n fuel listed a' w) : wpAnyG P md ops Q S T n fuel listed a w := by subst e; exact h
/-- The orders' lists and fuel, in one form. -/
theorem wpAnyG_at {fuel fuel' : Nat} {listed listed' : Array Bool} {a : Act} {w : World} (hf : fuel = fuel') (hl : listed = listed') (h : wpAnyG P md ops Q S T n fuel' listed' a w) : wpAnyG P md ops Q S T n fuel listed a w := by subst hf; subst hl; exact h
/-- What may be shown first at any world with R. -/
theorem wpAnyG_joinW {fuel : Nat} {listed : Array Bool} {a : Act} {w : World} (R : World → Prop) (hR : R w) (h : ∀ w', R w' → wpAnyG P md ops Q S T n fuel listed a w') : wpAnyG P md ops Q S T n fuel listed a w := h w hR
theorem wpAnyH_takeD {i : Nat} {oi : Oper} {v : Value} {d : Option Tmp} {fuel : Nat} {listed : Array Bool} {a : Act} {w : World} (hi : ops[i]? = some oi) (hd : oi.dst = d)
    (hs : Region.noSelect ops = true) (hf : Region.free md ops listed i = true) (hr : (Region.ready md ops listed).contains i = true)
    (hQ : ∀ c a w, Q (.panic c) (a.put d v) w → Q (.panic c) a w) (hy : YieldsIf P ops S oi v a) (hS : S w)
    (h : wpAnyH P md ops Q S fuel (listed.setIfInBounds i true) (a.put d v) w) : wpAnyH P md ops Q S (fuel + 1) listed a w := by subst hd; exact wpAnyH_take hi hs hf hr hQ hy hS h
theorem wpAnyH_act {fuel : Nat} {listed : Array Bool} {a a' : Act} {w : World} (e : a = a') (h : wpAnyH P md ops Q S fuel listed a' w) : wpAnyH P md ops Q S fuel listed a w := by subst e; exact h
end
/-- One end for all orders: J is found at the first of them. -/
theorem join_by2 {A B : Type} {F J : A → B → World → Prop} {G : Prop} (main : (∀ a b w, F a b w → J a b w) → G) (hj : ∀ a b w, F a b w → J a b w) : G := main hj
theorem join_by3 {A B C : Type} {F J : A → B → C → World → Prop} {G : Prop} (main : (∀ a b c w, F a b c w → J a b c w) → G) (hj : ∀ a b c w, F a b c w → J a b c w) : G := main hj
theorem join_by4 {A B C D : Type} {F J : A → B → C → D → World → Prop} {G : Prop} (main : (∀ a b c d w, F a b c d w → J a b c d w) → G) (hj : ∀ a b c d w, F a b c d w → J a b c d w) : G := main hj
theorem join_by5 {A B C D E : Type} {F J : A → B → C → D → E → World → Prop} {G : Prop} (main : (∀ a b c d e w, F a b c d e w → J a b c d e w) → G) (hj : ∀ a b c d e w, F a b c d e w → J a b c d e w) : G := main hj
theorem join_by6 {A B C D E I : Type} {F J : A → B → C → D → E → I → World → Prop} {G : Prop} (main : (∀ a b c d e f w, F a b c d e f w → J a b c d e f w) → G) (hj : ∀ a b c d e f w, F a b c d e f w → J a b c d e f w) : G := main hj
end Go.Proofs.YtbdfijgejkimnaaGreatDoor
/-! head.flags, walked. -/
namespace Go.Proofs.YtbdfijgejkimnaaGreatDoor
open Go.Conc Go.RowKit

theorem u64_orN (a b : Nat) (ha : a < 2 ^ 64) (hb : b < 2 ^ 64) : bits .or .u64 (a : Int) (b : Int) = ((a ||| b : Nat) : Int) := by
  have hx : a ||| b < 2 ^ 64 := Nat.or_lt_two_pow ha hb
  show IntKind.u64.wrap ((BitVec.ofInt 64 (a : Int) ||| BitVec.ofInt 64 (b : Int)).toNat : Int) = _
  rw [BitVec.toNat_or, BitVec.ofInt_natCast, BitVec.ofInt_natCast, BitVec.toNat_ofNat, BitVec.toNat_ofNat, Nat.mod_eq_of_lt ha, Nat.mod_eq_of_lt hb]
  exact IntWalk.u64_in _ (by omega)
def headC (h : HeadT) : List Value := [.int .u16 h.id, .bool h.resp, .int .u8 h.op, .bool h.auth, .bool h.trunc, .bool h.des, .bool h.avail, .int .u8 h.zero, .int .u8 h.code, .int .u16 h.cts.1, .int .u16 h.cts.2.1, .int .u16 h.cts.2.2.1, .int .u16 h.cts.2.2.2]
theorem flags_e1 (op zr code : Nat) (h1 : op ≤ 15) (h2 : zr ≤ 7) (h3 : code ≤ 15) : bits .or .u64 (bits .or .u64 ((op : Int) * 2048) ((zr : Int) * 16)) (code : Int) = ((op * 2048 + zr * 16 + code : Nat) : Int) := by
  have a1 : op * 2048 ||| zr * 16 = op * 2048 + zr * 16 := or_front op (zr * 16) 11 (by omega)
  have a2 : (op * 128 + zr) * 16 ||| code = (op * 128 + zr) * 16 + code := or_front (op * 128 + zr) code 4 (by omega)
  have a3 : (op * 128 + zr) * 16 = op * 2048 + zr * 16 := by omega
  rw [a3] at a2
  rw [show ((op : Int) * 2048) = ((op * 2048 : Nat) : Int) by omega, show ((zr : Int) * 16) = ((zr * 16 : Nat) : Int) by omega, u64_orN _ _ (by omega) (by omega), a1, u64_orN _ _ (by omega) (by omega), a2]
theorem flags_e2 (n : Nat) (h : n < 32768) : bits .or .u64 (n : Int) 32768 = ((1 * 32768 + n : Nat) : Int) := by
  have a : (32768 : Nat) ||| n = 32768 + n := by have := or_front 1 n 15 (by omega); simpa using this
  rw [show (32768 : Int) = ((32768 : Nat) : Int) from rfl, u64_orN _ _ (by omega) (by omega), Nat.or_comm, a, Nat.one_mul]
/-- Bit k is set where it was not. -/
theorem flags_e3 (hi lo k : Nat) (h : lo < 2 ^ k) (hn : hi * 2 ^ (k + 1) + 2 ^ k + lo < 2 ^ 64) : bits .or .u64 ((hi * 2 ^ (k + 1) + lo : Nat) : Int) ((2 ^ k : Nat) : Int) = ((hi * 2 ^ (k + 1) + 2 ^ k + lo : Nat) : Int) := by
  rw [u64_orN _ _ (by omega) (by omega), or_bit _ _ _ h]
theorem bools_0 (w : World) (a d t u : Bool) : (Instr.index 188 (.agg #[.bool a, .bool d, .bool t, .bool u]) (.int .i64 0)).run Tryz.prog w = .ok (.bool a) w := by kernel_rfl
theorem bools_1 (w : World) (a d t u : Bool) : (Instr.index 188 (.agg #[.bool a, .bool d, .bool t, .bool u]) (.int .i64 1)).run Tryz.prog w = .ok (.bool d) w := by kernel_rfl
theorem bools_2 (w : World) (a d t u : Bool) : (Instr.index 188 (.agg #[.bool a, .bool d, .bool t, .bool u]) (.int .i64 2)).run Tryz.prog w = .ok (.bool t) w := by kernel_rfl
theorem bools_3 (w : World) (a d t u : Bool) : (Instr.index 188 (.agg #[.bool a, .bool d, .bool t, .bool u]) (.int .i64 3)).run Tryz.prog w = .ok (.bool u) w := by kernel_rfl
theorem flags_e4 (n m hi lo k : Nat) (p : Int) (hn : n = hi * 2 ^ (k + 1) + lo) (hm : m = hi * 2 ^ (k + 1) + 2 ^ k + lo) (h : lo < 2 ^ k) (hb : m < 2 ^ 64) (hp : p = ((2 ^ k : Nat) : Int)) : bits .or .u64 (n : Int) p = (m : Int) := by
  subst hn hm hp
  exact flags_e3 hi lo k h hb
def fgN (n0 : Nat) (a d t u : Bool) : Nat → Nat
  | 0 => n0
  | 1 => n0 + a.toNat * 128
  | 2 => n0 + a.toNat * 128 + d.toNat * 256
  | 3 => n0 + a.toNat * 128 + d.toNat * 256 + t.toNat * 512
  | _ => n0 + a.toNat * 128 + d.toNat * 256 + t.toNat * 512 + u.toNat * 1024
set_option maxRecDepth 100000 in
set_option maxHeartbeats 2000000 in
theorem flags_any (w : World) (h : HeadT) (h1 : h.op ≤ 15) (h2 : h.zero ≤ 7) (h3 : h.code ≤ 15) : Calls Tryz.prog 88 #[.agg (headC h).toArray] w fun e w' => e = .returned (.int .u64 (flagN h)) ∧ Only (fun _ => False) w w' := by
  obtain ⟨id, resp, op, auth, trunc, des, avail, zr, code, c0, c1, c2, c3⟩ := h
  show Calls Tryz.prog 88 #[.agg #[.int .u16 id, .bool resp, .int .u8 op, .bool auth, .bool trunc, .bool des, .bool avail, .int .u8 zr, .int .u8 code, .int .u16 c0, .int .u16 c1, .int .u16 c2, .int .u16 c3]] w _
  dsimp only at h1 h2 h3
  go_enter Tryz.func88, Tryz.ntmps88
  obtain ⟨W1, hW1⟩ : ∃ W1, W1 = w.alloc (.cells #[.int .u16 id, .bool resp, .int .u8 op, .bool auth, .bool trunc, .bool des, .bool avail, .int .u8 zr, .int .u8 code, .int .u16 c0, .int .u16 c1, .int .u16 c2, .int .u16 c3] 53) := ⟨_, rfl⟩
  have hbW1 : W1.heap[w.heap.size]? = some (.cells #[.int .u16 id, .bool resp, .int .u8 op, .bool auth, .bool trunc, .bool des, .bool avail, .int .u8 zr, .int .u8 code, .int .u16 c0, .int .u16 c1, .int .u16 c2, .int .u16 c3] 53 (0, 0)) := by rw [hW1]; exact heap_alloc_new w _
  have hoW1 : Only (fun _ => False) w W1 := by rw [hW1]; exact (Only.refl _ _).alloc _
  have hsW1 : W1.heap.size = w.heap.size + 1 := by rw [hW1]; simp
  have x0 : W1.cell? ⟨w.heap.size, 0, none⟩ = some (.int .u16 id) := cell_at hbW1 0
  have x1 : W1.cell? ⟨w.heap.size, 1, none⟩ = some (.bool resp) := cell_at hbW1 1
  have x2 : W1.cell? ⟨w.heap.size, 2, none⟩ = some (.int .u8 op) := cell_at hbW1 2
  have x3 : W1.cell? ⟨w.heap.size, 3, none⟩ = some (.bool auth) := cell_at hbW1 3
  have x4 : W1.cell? ⟨w.heap.size, 4, none⟩ = some (.bool trunc) := cell_at hbW1 4
  have x5 : W1.cell? ⟨w.heap.size, 5, none⟩ = some (.bool des) := cell_at hbW1 5
  have x6 : W1.cell? ⟨w.heap.size, 6, none⟩ = some (.bool avail) := cell_at hbW1 6
  have x7 : W1.cell? ⟨w.heap.size, 7, none⟩ = some (.int .u8 zr) := cell_at hbW1 7
  have x8 : W1.cell? ⟨w.heap.size, 8, none⟩ = some (.int .u8 code) := cell_at hbW1 8
  have x9 : W1.cell? ⟨w.heap.size, 9, none⟩ = some (.int .u16 c0) := cell_at hbW1 9
  have x10 : W1.cell? ⟨w.heap.size, 10, none⟩ = some (.int .u16 c1) := cell_at hbW1 10
  have x11 : W1.cell? ⟨w.heap.size, 11, none⟩ = some (.int .u16 c2) := cell_at hbW1 11
  have x12 : W1.cell? ⟨w.heap.size, 12, none⟩ = some (.int .u16 c3) := cell_at hbW1 12
  go_upto_region 1 with (fail)
  rw [← hW1]
  have HE := Lib.hid (flags_e1 op zr code h1 h2 h3)
  go_upto_region 2 with (fail)
  rw [HE.out]
  have HB := Lib.hid (And.intro h1 (And.intro h2 h3))
  clear h1 h2 h3
  obtain ⟨H, hH⟩ : ∃ H, H = resp.toNat * 16 + op := ⟨_, rfl⟩
  cases resp
  · go_wp2_with fail
    go_loopg [3, 32] 4 (fun g v3 v32 wl => ∃ j : Nat, j ≤ 4 ∧ v32 = .int .i64 j ∧ v3 = .int .u64 (fgN (op * 2048 + zr * 16 + code) avail des trunc auth j) ∧ Only (fun _ => False) w wl ∧ g = 4 - j)
    case atStart => exact ⟨0, by omega, rfl, rfl, (Only.refl _ _).alloc _, rfl⟩
    case round =>
      obtain ⟨j, hj, rfl, rfl, hol, hgl⟩ := hrel
      have hj5 : j = 0 ∨ j = 1 ∨ j = 2 ∨ j = 3 ∨ j = 4 := by omega
      have HOL := Lib.hid hol
      have Hgl := Lib.hid hgl
      clear hol hgl
      have b0 := fun w a d t u => bools_0 w a d t u
      have b1 := fun w a d t u => bools_1 w a d t u
      have b2 := fun w a d t u => bools_2 w a d t u
      have b3 := fun w a d t u => bools_3 w a d t u
      rcases hj5 with rfl | rfl | rfl | rfl | rfl
      · cases avail
        · go_wp2_with fail
          go_roundg (4 - 1)
          case measure => rw [Hgl.out]; decide
          case rel => exact ⟨1, by omega, rfl, by (have e : fgN (op * 2048 + zr * 16 + code) false des trunc auth 0 = fgN (op * 2048 + zr * 16 + code) false des trunc auth 1 := by (simp only [fgN, Bool.toNat_false]; omega)); rw [e], HOL.out, rfl⟩
        · have HF := Lib.hid (show bits .or .u64 ((fgN (op * 2048 + zr * 16 + code) true des trunc auth 0 : Nat) : Int) 128 = ((fgN (op * 2048 + zr * 16 + code) true des trunc auth 1 : Nat) : Int) by
            obtain ⟨h1, h2, h3⟩ := HB.out
            exact flags_e4 _ _ (op * 8) (zr * 16 + code) 7 _ (by simp only [fgN]; omega) (by simp only [fgN, Bool.toNat_true]; omega) (by omega) (by simp only [fgN, Bool.toNat_true]; omega) (by decide))
          go_wp2_with fail
          go_roundg (4 - 1)
          case measure => rw [Hgl.out]; decide
          case rel => exact ⟨1, by omega, rfl, by rw [HF.out], HOL.out, rfl⟩
      · cases des
        · go_wp2_with fail
          go_roundg (4 - 2)
          case measure => rw [Hgl.out]; decide
          case rel => exact ⟨2, by omega, rfl, by (have e : fgN (op * 2048 + zr * 16 + code) avail false trunc auth 1 = fgN (op * 2048 + zr * 16 + code) avail false trunc auth 2 := by (simp only [fgN, Bool.toNat_false]; omega)); rw [e], HOL.out, rfl⟩
        · have HF := Lib.hid (show bits .or .u64 ((fgN (op * 2048 + zr * 16 + code) avail true trunc auth 1 : Nat) : Int) 256 = ((fgN (op * 2048 + zr * 16 + code) avail true trunc auth 2 : Nat) : Int) by
            obtain ⟨h1, h2, h3⟩ := HB.out
            have := Bool.toNat_le avail; exact flags_e4 _ _ (op * 4) (zr * 16 + code + avail.toNat * 128) 8 _ (by simp only [fgN]; omega) (by simp only [fgN, Bool.toNat_true]; omega) (by omega) (by simp only [fgN, Bool.toNat_true]; omega) (by decide))
          go_wp2_with fail
          go_roundg (4 - 2)
          case measure => rw [Hgl.out]; decide
          case rel => exact ⟨2, by omega, rfl, by rw [HF.out], HOL.out, rfl⟩
      · cases trunc
        · go_wp2_with fail
          go_roundg (4 - 3)
          case measure => rw [Hgl.out]; decide
          case rel => exact ⟨3, by omega, rfl, by (have e : fgN (op * 2048 + zr * 16 + code) avail des false auth 2 = fgN (op * 2048 + zr * 16 + code) avail des false auth 3 := by (simp only [fgN, Bool.toNat_false]; omega)); rw [e], HOL.out, rfl⟩
        · have HF := Lib.hid (show bits .or .u64 ((fgN (op * 2048 + zr * 16 + code) avail des true auth 2 : Nat) : Int) 512 = ((fgN (op * 2048 + zr * 16 + code) avail des true auth 3 : Nat) : Int) by
            obtain ⟨h1, h2, h3⟩ := HB.out
            have := Bool.toNat_le avail; have := Bool.toNat_le des; exact flags_e4 _ _ (op * 2) (zr * 16 + code + avail.toNat * 128 + des.toNat * 256) 9 _ (by simp only [fgN]; omega) (by simp only [fgN, Bool.toNat_true]; omega) (by omega) (by simp only [fgN, Bool.toNat_true]; omega) (by decide))
          go_wp2_with fail
          go_roundg (4 - 3)
          case measure => rw [Hgl.out]; decide
          case rel => exact ⟨3, by omega, rfl, by rw [HF.out], HOL.out, rfl⟩
      · cases auth
        · go_wp2_with fail
          go_roundg (4 - 4)
          case measure => rw [Hgl.out]; decide
          case rel => exact ⟨4, by omega, rfl, by (have e : fgN (op * 2048 + zr * 16 + code) avail des trunc false 3 = fgN (op * 2048 + zr * 16 + code) avail des trunc false 4 := by (simp only [fgN, Bool.toNat_false]; omega)); rw [e], HOL.out, rfl⟩
        · have HF := Lib.hid (show bits .or .u64 ((fgN (op * 2048 + zr * 16 + code) avail des trunc true 3 : Nat) : Int) 1024 = ((fgN (op * 2048 + zr * 16 + code) avail des trunc true 4 : Nat) : Int) by
            obtain ⟨h1, h2, h3⟩ := HB.out
            have := Bool.toNat_le avail; have := Bool.toNat_le des; have := Bool.toNat_le trunc; exact flags_e4 _ _ (op * 1) (zr * 16 + code + avail.toNat * 128 + des.toNat * 256 + trunc.toNat * 512) 10 _ (by simp only [fgN]; omega) (by simp only [fgN, Bool.toNat_true]; omega) (by omega) (by simp only [fgN, Bool.toNat_true]; omega) (by decide))
          go_wp2_with fail
          go_roundg (4 - 4)
          case measure => rw [Hgl.out]; decide
          case rel => exact ⟨4, by omega, rfl, by rw [HF.out], HOL.out, rfl⟩
      · go_wp2_with fail
        go_ret
        have hf : fgN (op * 2048 + zr * 16 + code) avail des trunc auth 4 = flagN ⟨id, false, op, auth, trunc, des, avail, zr, code, (c0, c1, c2, c3)⟩ := by
          simp only [fgN, flagN, Bool.toNat_false]
          omega
        exact ⟨congrArg (fun n : Nat => Ending.returned (.int .u64 (n : Int))) hf, HOL.out⟩
  · have HE2 := Lib.hid (show bits .or .u64 ((op : Int) * 2048 + (zr : Int) * 16 + (code : Int)) 32768 = ((1 * 32768 + (op * 2048 + zr * 16 + code) : Nat) : Int) by
      obtain ⟨h1, h2, h3⟩ := HB.out
      rw [show ((op : Int) * 2048 + (zr : Int) * 16 + (code : Int)) = ((op * 2048 + zr * 16 + code : Nat) : Int) by omega]
      exact flags_e2 _ (by omega))
    go_upto_region 4 with (fail)
    rw [HE2.out]
    go_wp2_with fail
    go_loopg [3, 32] 4 (fun g v3 v32 wl => ∃ j : Nat, j ≤ 4 ∧ v32 = .int .i64 j ∧ v3 = .int .u64 (fgN (1 * 32768 + (op * 2048 + zr * 16 + code)) avail des trunc auth j) ∧ Only (fun _ => False) w wl ∧ g = 4 - j)
    case atStart => exact ⟨0, by omega, rfl, rfl, (Only.refl _ _).alloc _, rfl⟩
    case round =>
      obtain ⟨j, hj, rfl, rfl, hol, hgl⟩ := hrel
      have hj5 : j = 0 ∨ j = 1 ∨ j = 2 ∨ j = 3 ∨ j = 4 := by omega
      have HOL := Lib.hid hol
      have Hgl := Lib.hid hgl
      clear hol hgl
      have b0 := fun w a d t u => bools_0 w a d t u
      have b1 := fun w a d t u => bools_1 w a d t u
      have b2 := fun w a d t u => bools_2 w a d t u
      have b3 := fun w a d t u => bools_3 w a d t u
      rcases hj5 with rfl | rfl | rfl | rfl | rfl
      · cases avail
        · go_wp2_with fail
          go_roundg (4 - 1)
          case measure => rw [Hgl.out]; decide
          case rel => exact ⟨1, by omega, rfl, by (have e : fgN (1 * 32768 + (op * 2048 + zr * 16 + code)) false des trunc auth 0 = fgN (1 * 32768 + (op * 2048 + zr * 16 + code)) false des trunc auth 1 := by (simp only [fgN, Bool.toNat_false]; omega)); rw [e], HOL.out, rfl⟩
        · have HF := Lib.hid (show bits .or .u64 ((fgN (1 * 32768 + (op * 2048 + zr * 16 + code)) true des trunc auth 0 : Nat) : Int) 128 = ((fgN (1 * 32768 + (op * 2048 + zr * 16 + code)) true des trunc auth 1 : Nat) : Int) by
            obtain ⟨h1, h2, h3⟩ := HB.out
            exact flags_e4 _ _ ((16 + op) * 8) (zr * 16 + code) 7 _ (by simp only [fgN]; omega) (by simp only [fgN, Bool.toNat_true]; omega) (by omega) (by simp only [fgN, Bool.toNat_true]; omega) (by decide))
          go_wp2_with fail
          go_roundg (4 - 1)
          case measure => rw [Hgl.out]; decide
          case rel => exact ⟨1, by omega, rfl, by rw [HF.out], HOL.out, rfl⟩
      · cases des
        · go_wp2_with fail
          go_roundg (4 - 2)
          case measure => rw [Hgl.out]; decide
          case rel => exact ⟨2, by omega, rfl, by (have e : fgN (1 * 32768 + (op * 2048 + zr * 16 + code)) avail false trunc auth 1 = fgN (1 * 32768 + (op * 2048 + zr * 16 + code)) avail false trunc auth 2 := by (simp only [fgN, Bool.toNat_false]; omega)); rw [e], HOL.out, rfl⟩
        · have HF := Lib.hid (show bits .or .u64 ((fgN (1 * 32768 + (op * 2048 + zr * 16 + code)) avail true trunc auth 1 : Nat) : Int) 256 = ((fgN (1 * 32768 + (op * 2048 + zr * 16 + code)) avail true trunc auth 2 : Nat) : Int) by
            obtain ⟨h1, h2, h3⟩ := HB.out
            have := Bool.toNat_le avail; exact flags_e4 _ _ ((16 + op) * 4) (zr * 16 + code + avail.toNat * 128) 8 _ (by simp only [fgN]; omega) (by simp only [fgN, Bool.toNat_true]; omega) (by omega) (by simp only [fgN, Bool.toNat_true]; omega) (by decide))
          go_wp2_with fail
          go_roundg (4 - 2)
          case measure => rw [Hgl.out]; decide
          case rel => exact ⟨2, by omega, rfl, by rw [HF.out], HOL.out, rfl⟩
      · cases trunc
        · go_wp2_with fail
          go_roundg (4 - 3)
          case measure => rw [Hgl.out]; decide
          case rel => exact ⟨3, by omega, rfl, by (have e : fgN (1 * 32768 + (op * 2048 + zr * 16 + code)) avail des false auth 2 = fgN (1 * 32768 + (op * 2048 + zr * 16 + code)) avail des false auth 3 := by (simp only [fgN, Bool.toNat_false]; omega)); rw [e], HOL.out, rfl⟩
        · have HF := Lib.hid (show bits .or .u64 ((fgN (1 * 32768 + (op * 2048 + zr * 16 + code)) avail des true auth 2 : Nat) : Int) 512 = ((fgN (1 * 32768 + (op * 2048 + zr * 16 + code)) avail des true auth 3 : Nat) : Int) by
            obtain ⟨h1, h2, h3⟩ := HB.out
            have := Bool.toNat_le avail; have := Bool.toNat_le des; exact flags_e4 _ _ ((16 + op) * 2) (zr * 16 + code + avail.toNat * 128 + des.toNat * 256) 9 _ (by simp only [fgN]; omega) (by simp only [fgN, Bool.toNat_true]; omega) (by omega) (by simp only [fgN, Bool.toNat_true]; omega) (by decide))
          go_wp2_with fail
          go_roundg (4 - 3)
          case measure => rw [Hgl.out]; decide
          case rel => exact ⟨3, by omega, rfl, by rw [HF.out], HOL.out, rfl⟩
      · cases auth
        · go_wp2_with fail
          go_roundg (4 - 4)
          case measure => rw [Hgl.out]; decide
          case rel => exact ⟨4, by omega, rfl, by (have e : fgN (1 * 32768 + (op * 2048 + zr * 16 + code)) avail des trunc false 3 = fgN (1 * 32768 + (op * 2048 + zr * 16 + code)) avail des trunc false 4 := by (simp only [fgN, Bool.toNat_false]; omega)); rw [e], HOL.out, rfl⟩
        · have HF := Lib.hid (show bits .or .u64 ((fgN (1 * 32768 + (op * 2048 + zr * 16 + code)) avail des trunc true 3 : Nat) : Int) 1024 = ((fgN (1 * 32768 + (op * 2048 + zr * 16 + code)) avail des trunc true 4 : Nat) : Int) by
            obtain ⟨h1, h2, h3⟩ := HB.out
            have := Bool.toNat_le avail; have := Bool.toNat_le des; have := Bool.toNat_le trunc; exact flags_e4 _ _ ((16 + op) * 1) (zr * 16 + code + avail.toNat * 128 + des.toNat * 256 + trunc.toNat * 512) 10 _ (by simp only [fgN]; omega) (by simp only [fgN, Bool.toNat_true]; omega) (by omega) (by simp only [fgN, Bool.toNat_true]; omega) (by decide))
          go_wp2_with fail
          go_roundg (4 - 4)
          case measure => rw [Hgl.out]; decide
          case rel => exact ⟨4, by omega, rfl, by rw [HF.out], HOL.out, rfl⟩
      · go_wp2_with fail
        go_ret
        have hf : fgN (1 * 32768 + (op * 2048 + zr * 16 + code)) avail des trunc auth 4 = flagN ⟨id, true, op, auth, trunc, des, avail, zr, code, (c0, c1, c2, c3)⟩ := by
          simp only [fgN, flagN, Bool.toNat_true]
          omega
        exact ⟨congrArg (fun n : Nat => Ending.returned (.int .u64 (n : Int))) hf, HOL.out⟩
end Go.Proofs.YtbdfijgejkimnaaGreatDoor
/-! Heads of messages in bytes: the plain law. -/
namespace Go.Proofs.YtbdfijgejkimnaaGreatDoor
open Go.Conc Go.RowKit

theorem and_u64 (a m : Nat) (ha : a < 2 ^ 64) (hm : m < 60) : bits .and .u64 (a : Int) ((2 ^ m - 1 : Nat) : Int) = ((a % 2 ^ m : Nat) : Int) := by
  show IntKind.u64.wrap ((BitVec.ofInt 64 (a : Int) &&& BitVec.ofInt 64 ((2 ^ m - 1 : Nat) : Int)).toNat : Int) = _
  have hp : 2 ^ m ≤ 2 ^ 60 := Nat.pow_le_pow_right (by omega) (by omega)
  have hp0 : 0 < 2 ^ m := Nat.two_pow_pos m
  rw [BitVec.toNat_and, BitVec.ofInt_natCast, BitVec.ofInt_natCast, BitVec.toNat_ofNat, BitVec.toNat_ofNat, Nat.mod_eq_of_lt ha, Nat.mod_eq_of_lt (show 2 ^ m - 1 < 2 ^ 64 by omega), Nat.and_two_pow_sub_one_eq_mod]
  have h1 : a % 2 ^ m < 2 ^ 60 := Nat.lt_of_lt_of_le (Nat.mod_lt _ hp0) hp
  exact IntWalk.u64_in _ (by omega)
/-- The widths of a head's fields. -/
structure HeadOk (h : HeadT) : Prop where
  id : h.id < 65536
  op : h.op ≤ 15
  zero : h.zero ≤ 7
  code : h.code ≤ 15
  c0 : h.cts.1 < 65536
  c1 : h.cts.2.1 < 65536
  c2 : h.cts.2.2.1 < 65536
  c3 : h.cts.2.2.2 < 65536
/-- A head's bytes. -/
def headB (h : HeadT) : List UInt8 := beL h.id 2 ++ (beL (flagN h) 2 ++ (beL h.cts.1 2 ++ (beL h.cts.2.1 2 ++ (beL h.cts.2.2.1 2 ++ beL h.cts.2.2.2 2))))
theorem headB_length (h : HeadT) : (headB h).length = 12 := rfl
/-- A head out of its numbers. -/
def headN (i f a b c d : Nat) : HeadT :=
  ⟨i, decide (f / 32768 % 2 = 1), f / 2048 % 16, decide (f / 1024 % 2 = 1), decide (f / 512 % 2 = 1), decide (f / 256 % 2 = 1), decide (f / 128 % 2 = 1), f / 16 % 8, f % 16, (a, b, c, d)⟩
/-- Two bytes of a message, as a number. -/
def gA (m : ByteArray) (i : Nat) : Nat := bA m i * 256 + bA m (i + 1)
theorem gA_lt (m : ByteArray) (i : Nat) : gA m i < 65536 := by
  have := bA_lt m i; have := bA_lt m (i + 1); unfold gA; omega
/-- A message's head. -/
def headD (m : ByteArray) : HeadT := headN (gA m 0) (gA m 2) (gA m 4) (gA m 6) (gA m 8) (gA m 10)
theorem headD_ok (m : ByteArray) : HeadOk (headD m) :=
  ⟨gA_lt m 0, by show gA m 2 / 2048 % 16 ≤ 15; omega, by show gA m 2 / 16 % 8 ≤ 7; omega, by show gA m 2 % 16 ≤ 15; omega, gA_lt m 4, gA_lt m 6, gA_lt m 8, gA_lt m 10⟩
theorem bit_of (b : Bool) (n : Nat) (h : n = b.toNat) : decide (n = 1) = b := by subst h; cases b <;> rfl
theorem headN_flag (h : HeadT) (k : HeadOk h) : headN h.id (flagN h) h.cts.1 h.cts.2.1 h.cts.2.2.1 h.cts.2.2.2 = h := by
  obtain ⟨id, resp, op, auth, trunc, des, avail, zr, code, c0, c1, c2, c3⟩ := h
  have h2 := k.op; have h3 := k.zero; have h4 := k.code
  have hf : flagN ⟨id, resp, op, auth, trunc, des, avail, zr, code, (c0, c1, c2, c3)⟩ = resp.toNat * 32768 + op * 2048 + auth.toNat * 1024 + trunc.toNat * 512 + des.toNat * 256 + avail.toNat * 128 + zr * 16 + code := rfl
  have b (x : Bool) : x.toNat ≤ 1 := Bool.toNat_le x
  have b1 := b resp; have b2 := b auth; have b3 := b trunc; have b4 := b des; have b5 := b avail
  rw [hf]
  unfold headN
  dsimp only at h2 h3 h4 ⊢
  rw [bit_of resp _ (by omega), bit_of auth _ (by omega), bit_of trunc _ (by omega), bit_of des _ (by omega), bit_of avail _ (by omega)]
  congr 1 <;> omega
theorem be2_bytes (n : Nat) (h : n < 65536) (l r : List UInt8) : (((l ++ (beL n 2 ++ r)).getD l.length 0).toNat * 256 + ((l ++ (beL n 2 ++ r)).getD (l.length + 1) 0).toNat) = n := by
  have g (k : Nat) : (l ++ (beL n 2 ++ r)).getD (l.length + k) 0 = (beL n 2 ++ r).getD k 0 := by
    rw [List.getD_eq_getElem?_getD, List.getElem?_append_right (by omega), List.getD_eq_getElem?_getD, Nat.add_sub_cancel_left]
  have g0 := g 0
  rw [Nat.add_zero] at g0
  rw [g0, g 1]
  show (UInt8.ofNat (n / 256)).toNat * 256 + (UInt8.ofNat (n / 1)).toNat = n
  rw [UInt8.toNat_ofNat', UInt8.toNat_ofNat']
  omega
theorem gA_of (l r : List UInt8) (n i : Nat) (h : n < 65536) (hi : i = l.length) : gA ⟨(l ++ (beL n 2 ++ r)).toArray⟩ i = n := by
  subst hi
  exact be2_bytes n h l r
/-- What is written is read. -/
theorem headD_of (h : HeadT) (k : HeadOk h) (rest : List UInt8) : headD ⟨(headB h ++ rest).toArray⟩ = h := by
  have hf := flagN_lt h k.op k.zero k.code
  have e : headB h ++ rest = beL h.id 2 ++ (beL (flagN h) 2 ++ (beL h.cts.1 2 ++ (beL h.cts.2.1 2 ++ (beL h.cts.2.2.1 2 ++ (beL h.cts.2.2.2 2 ++ rest))))) := by simp [headB]
  have g0 : gA ⟨(headB h ++ rest).toArray⟩ 0 = h.id := by rw [e]; exact gA_of [] _ _ _ k.id rfl
  have g1 : gA ⟨(headB h ++ rest).toArray⟩ 2 = flagN h := by rw [e]; exact gA_of (beL h.id 2) _ _ _ hf rfl
  have g2 : gA ⟨(headB h ++ rest).toArray⟩ 4 = h.cts.1 := by rw [e, ← List.append_assoc]; exact gA_of (beL h.id 2 ++ beL (flagN h) 2) _ _ _ k.c0 rfl
  have g3 : gA ⟨(headB h ++ rest).toArray⟩ 6 = h.cts.2.1 := by rw [e, ← List.append_assoc, ← List.append_assoc]; exact gA_of (beL h.id 2 ++ beL (flagN h) 2 ++ beL h.cts.1 2) _ _ _ k.c1 rfl
  have g4 : gA ⟨(headB h ++ rest).toArray⟩ 8 = h.cts.2.2.1 := by rw [e, ← List.append_assoc, ← List.append_assoc, ← List.append_assoc]; exact gA_of (beL h.id 2 ++ beL (flagN h) 2 ++ beL h.cts.1 2 ++ beL h.cts.2.1 2) _ _ _ k.c2 rfl
  have g5 : gA ⟨(headB h ++ rest).toArray⟩ 10 = h.cts.2.2.2 := by rw [e, ← List.append_assoc, ← List.append_assoc, ← List.append_assoc, ← List.append_assoc]; exact gA_of (beL h.id 2 ++ beL (flagN h) 2 ++ beL h.cts.1 2 ++ beL h.cts.2.1 2 ++ beL h.cts.2.2.1 2) _ _ _ k.c3 rfl
  unfold headD
  rw [g0, g1, g2, g3, g4, g5]
  exact headN_flag h k
end Go.Proofs.YtbdfijgejkimnaaGreatDoor
/-! head.Encode, walked. -/
namespace Go.Proofs.YtbdfijgejkimnaaGreatDoor
open Go.Conc Go.RowKit

theorem cts_0 (w : World) (a b c d : Value) : (Instr.index 51 (.agg #[a, b, c, d]) (.int .i64 0)).run Tryz.prog w = .ok a w := by kernel_rfl
theorem cts_1 (w : World) (a b c d : Value) : (Instr.index 51 (.agg #[a, b, c, d]) (.int .i64 1)).run Tryz.prog w = .ok b w := by kernel_rfl
theorem cts_2 (w : World) (a b c d : Value) : (Instr.index 51 (.agg #[a, b, c, d]) (.int .i64 2)).run Tryz.prog w = .ok c w := by kernel_rfl
theorem cts_3 (w : World) (a b c d : Value) : (Instr.index 51 (.agg #[a, b, c, d]) (.int .i64 3)).run Tryz.prog w = .ok d w := by kernel_rfl
set_option maxRecDepth 100000 in
set_option maxHeartbeats 4000000 in
theorem henc1_any (w : World) (b base : Nat) (S : Nat → Prop) (ph : Nat) (h : HeadT) (hk : HeadOk h) (hw : WrAt w b base S []) (hs : w.heap[ph]? = some (.cells (headC h).toArray 53 (0, 0))) (hbase : base ≤ w.heap.size) :
    Calls Tryz.prog 86 #[.pointer (some ⟨b, 0, none⟩), .pointer (some ⟨ph, 0, none⟩)] w fun e w' => e = .returned (.tuple #[]) ∧ WPost w w' b base S (headB h) := by
  have hfl : ∀ W, Calls Tryz.prog 88 #[.agg (headC h).toArray] W fun e w' => e = .returned (.int .u64 (flagN h)) ∧ Only (fun _ => False) W w' := fun W => flags_any W h hk.op hk.zero hk.code
  have hfn := flagN_lt h hk.op hk.zero hk.code
  have HBB := Lib.hid (show headB h = beL h.id 2 ++ (beL (flagN h) 2 ++ (beL h.cts.1 2 ++ (beL h.cts.2.1 2 ++ (beL h.cts.2.2.1 2 ++ beL h.cts.2.2.2 2)))) from rfl)
  generalize headB h = BB at *
  generalize flagN h = fn at *
  have k1 := hk.op; have k2 := hk.zero; have k3 := hk.code
  have KC := Lib.hid (And.intro hk.id (And.intro hfn (And.intro hk.c0 (And.intro hk.c1 (And.intro hk.c2 hk.c3)))))
  have hns := hw.at (e := 53) (by decide) (by decide) hs
  obtain ⟨ix, resp, op, auth, trunc, des, avail, zr, code, c0, c1, c2, c3⟩ := h
  unfold headC at hfl hs
  dsimp only at hfl hs KC HBB k1 k2 k3
  have q1 : decide ((15 : Int) < (op : Int)) = false := by simp; omega
  have q2 : decide ((7 : Int) < (zr : Int)) = false := by simp; omega
  have q3 : decide ((15 : Int) < (code : Int)) = false := by simp; omega
  have kix : ix < 65536 := hk.id
  clear k1 k2 k3 hk hfn
  have HW := Lib.hid hw
  have HS := Lib.hid hs
  have HNS := Lib.hid hns
  have HFL := Lib.hid hfl
  clear hw hs hns hfl
  have x0 : w.cell? ⟨ph, 0, none⟩ = some (.int .u16 ix) := cell_at HS.out 0
  have x1 : w.cell? ⟨ph, 1, none⟩ = some (.bool resp) := cell_at HS.out 1
  have x2 : w.cell? ⟨ph, 2, none⟩ = some (.int .u8 op) := cell_at HS.out 2
  have x3 : w.cell? ⟨ph, 3, none⟩ = some (.bool auth) := cell_at HS.out 3
  have x4 : w.cell? ⟨ph, 4, none⟩ = some (.bool trunc) := cell_at HS.out 4
  have x5 : w.cell? ⟨ph, 5, none⟩ = some (.bool des) := cell_at HS.out 5
  have x6 : w.cell? ⟨ph, 6, none⟩ = some (.bool avail) := cell_at HS.out 6
  have x7 : w.cell? ⟨ph, 7, none⟩ = some (.int .u8 zr) := cell_at HS.out 7
  have x8 : w.cell? ⟨ph, 8, none⟩ = some (.int .u8 code) := cell_at HS.out 8
  go_enter Tryz.func86, Tryz.ntmps86
  go_wp2_with fail
  refine (num_ok _ b base S [] ix 2 HW.out (by decide) (by decide) (by have := KC.out; omega) (by decide) hbase).mono ?_
  rintro e w1 ⟨rfl, hp1⟩
  have hs1 := hp1.old HS.out HNS.out
  have hsz1 := hp1.size
  clear x0 x1 x2 x3 x4 x5 x6 x7 x8 q1 q2 q3
  obtain ⟨S1, j1, j2, j3⟩ := id hp1
  have HS1 := Lib.hid hs1
  have y0 : w1.cell? ⟨ph, 0, none⟩ = some (.int .u16 ix) := cell_at HS1.out 0
  have y1 : w1.cell? ⟨ph, 1, none⟩ = some (.bool resp) := cell_at HS1.out 1
  have y2 : w1.cell? ⟨ph, 2, none⟩ = some (.int .u8 op) := cell_at HS1.out 2
  have y3 : w1.cell? ⟨ph, 3, none⟩ = some (.bool auth) := cell_at HS1.out 3
  have y4 : w1.cell? ⟨ph, 4, none⟩ = some (.bool trunc) := cell_at HS1.out 4
  have y5 : w1.cell? ⟨ph, 5, none⟩ = some (.bool des) := cell_at HS1.out 5
  have y6 : w1.cell? ⟨ph, 6, none⟩ = some (.bool avail) := cell_at HS1.out 6
  have y7 : w1.cell? ⟨ph, 7, none⟩ = some (.int .u8 zr) := cell_at HS1.out 7
  have y8 : w1.cell? ⟨ph, 8, none⟩ = some (.int .u8 code) := cell_at HS1.out 8
  have y9 : w1.cell? ⟨ph, 9, none⟩ = some (.int .u16 c0) := cell_at HS1.out 9
  have y10 : w1.cell? ⟨ph, 10, none⟩ = some (.int .u16 c1) := cell_at HS1.out 10
  have y11 : w1.cell? ⟨ph, 11, none⟩ = some (.int .u16 c2) := cell_at HS1.out 11
  have y12 : w1.cell? ⟨ph, 12, none⟩ = some (.int .u16 c3) := cell_at HS1.out 12
  have J1 := Lib.hid j1
  have J2 := Lib.hid j2
  have J3 := Lib.hid j3
  clear j1 j2 j3
  clear hs1 hp1
  go_wp2_with fail
  refine (HFL.out _).mono ?_
  rintro e w2 ⟨rfl, ho2⟩
  have hsz2 := ho2.size
  have HW2 := Lib.hid (J2.out.kept ho2 (fun _ _ => id))
  have HS2 := Lib.hid (ho2.old HS1.out id)
  have HO2 := Lib.hid ho2
  clear ho2 y0 y1 y2 y3 y4 y5 y6 y7 y8 y9 y10 y11 y12
  go_wp2_with fail
  refine (num_ok _ b base S1 _ fn 2 HW2.out (by decide) (by decide) (by have := KC.out; omega) (by rw [List.nil_append]; show 2 ≤ _; decide) (by omega)).mono ?_
  rintro e w3 ⟨rfl, hp3⟩
  have hp3' := WPost.step (J1.out.tr HO2.out (fun i _ x => x.elim)) (fun x hx => J3.out x hx) hp3
  have hs3 := hp3'.old HS.out HNS.out
  have hsz3 := hp3'.size
  have z0 : w3.cell? ⟨ph, 0, none⟩ = some (.int .u16 ix) := cell_at hs3 0
  have z1 : w3.cell? ⟨ph, 1, none⟩ = some (.bool resp) := cell_at hs3 1
  have z2 : w3.cell? ⟨ph, 2, none⟩ = some (.int .u8 op) := cell_at hs3 2
  have z3 : w3.cell? ⟨ph, 3, none⟩ = some (.bool auth) := cell_at hs3 3
  have z4 : w3.cell? ⟨ph, 4, none⟩ = some (.bool trunc) := cell_at hs3 4
  have z5 : w3.cell? ⟨ph, 5, none⟩ = some (.bool des) := cell_at hs3 5
  have z6 : w3.cell? ⟨ph, 6, none⟩ = some (.bool avail) := cell_at hs3 6
  have z7 : w3.cell? ⟨ph, 7, none⟩ = some (.int .u8 zr) := cell_at hs3 7
  have z8 : w3.cell? ⟨ph, 8, none⟩ = some (.int .u8 code) := cell_at hs3 8
  have z9 : w3.cell? ⟨ph, 9, none⟩ = some (.int .u16 c0) := cell_at hs3 9
  have z10 : w3.cell? ⟨ph, 10, none⟩ = some (.int .u16 c1) := cell_at hs3 10
  have z11 : w3.cell? ⟨ph, 11, none⟩ = some (.int .u16 c2) := cell_at hs3 11
  have z12 : w3.cell? ⟨ph, 12, none⟩ = some (.int .u16 c3) := cell_at hs3 12
  have HP3 := Lib.hid hp3'
  clear hp3'
  clear hp3 hs3 J1 J2 J3 HS1 HS2 HO2 HW2 hsz1 hsz2
  have hx0 := cts_0
  have hx1 := cts_1
  have hx2 := cts_2
  have hx3 := cts_3
  go_wp2_with fail
  clear z0 z1 z2 z3 z4 z5 z6 z7 z8 z9 z10 z11 z12
  go_loopg [4, 30] 4 (fun g v4 v30 wx => ∃ (k : Nat) (l : List UInt8), v30 = .int .i64 k ∧ k ≤ 4 ∧ w.heap.size ≤ wx.heap.size ∧ WPost w wx b base S l ∧ l = beL ix 2 ++ (beL fn 2 ++ (([c0, c1, c2, c3].take k).flatMap fun n => beL n 2)) ∧ g = 4 - k)
  case atStart => exact ⟨0, _, rfl, by decide, hsz3, HP3.out, by simp, rfl⟩
  case round =>
    clear hsz3 HP3
    obtain ⟨k, l, rfl, hk, hsz, hpo, hl, hg⟩ := hrel
    have HLL := Lib.hid (show l.length ≤ 100 by
      rw [hl, List.length_append, List.length_append]
      have : ((([c0, c1, c2, c3].take k).flatMap fun n => beL n 2)).length ≤ 8 := by
        match k, hk with
        | 0, _ => simp
        | 1, _ => simp [beL]
        | 2, _ => simp [beL]
        | 3, _ => simp [beL]
        | 4, _ => simp [beL]
      have h4 : ∀ n, (beL n 2).length = 2 := fun _ => rfl
      rw [h4, h4]
      omega)
    obtain ⟨S3, k1, k2, k3⟩ := id hpo
    have Hg := Lib.hid hg
    have HL := Lib.hid hl
    have HPO := Lib.hid hpo
    have K1 := Lib.hid k1
    have K2 := Lib.hid k2
    have K3 := Lib.hid k3
    clear hg hl hpo k1 k2 k3
    match k, hk with
    | 4, _ =>
      go_wp2_with fail
      go_end0
      have e : BB = l := by rw [HL.out, HBB.out]; simp
      rw [e]
      exact ⟨rfl, HPO.out⟩
    | 0, _ =>
      have kn : c0 < 65536 := by have := KC.out; omega
      go_wp2_with fail
      refine (num_ok _ b base S3 l c0 2 K2.out (by decide) (by decide) (by have := KC.out; omega) (by have := HLL.out; omega) (by omega)).mono ?_
      rintro e w2 ⟨rfl, hp2⟩
      have hs2 := hp2.size
      have HP2 := Lib.hid hp2
      clear hp2
      go_wp2_with fail
      go_roundg 3
      case measure => rw [Hg.out]; decide
      case rel => exact ⟨1, _, rfl, by decide, by omega, WPost.step K1.out K3.out HP2.out, by rw [HL.out]; simp, rfl⟩
    | 1, _ =>
      have kn : c1 < 65536 := by have := KC.out; omega
      go_wp2_with fail
      refine (num_ok _ b base S3 l c1 2 K2.out (by decide) (by decide) (by have := KC.out; omega) (by have := HLL.out; omega) (by omega)).mono ?_
      rintro e w2 ⟨rfl, hp2⟩
      have hs2 := hp2.size
      have HP2 := Lib.hid hp2
      clear hp2
      go_wp2_with fail
      go_roundg 2
      case measure => rw [Hg.out]; decide
      case rel => exact ⟨2, _, rfl, by decide, by omega, WPost.step K1.out K3.out HP2.out, by rw [HL.out]; simp, rfl⟩
    | 2, _ =>
      have kn : c2 < 65536 := by have := KC.out; omega
      go_wp2_with fail
      refine (num_ok _ b base S3 l c2 2 K2.out (by decide) (by decide) (by have := KC.out; omega) (by have := HLL.out; omega) (by omega)).mono ?_
      rintro e w2 ⟨rfl, hp2⟩
      have hs2 := hp2.size
      have HP2 := Lib.hid hp2
      clear hp2
      go_wp2_with fail
      go_roundg 1
      case measure => rw [Hg.out]; decide
      case rel => exact ⟨3, _, rfl, by decide, by omega, WPost.step K1.out K3.out HP2.out, by rw [HL.out]; simp, rfl⟩
    | 3, _ =>
      have kn : c3 < 65536 := by have := KC.out; omega
      go_wp2_with fail
      refine (num_ok _ b base S3 l c3 2 K2.out (by decide) (by decide) (by have := KC.out; omega) (by have := HLL.out; omega) (by omega)).mono ?_
      rintro e w2 ⟨rfl, hp2⟩
      have hs2 := hp2.size
      have HP2 := Lib.hid hp2
      clear hp2
      go_wp2_with fail
      go_roundg 0
      case measure => rw [Hg.out]; decide
      case rel => exact ⟨4, _, rfl, by decide, by omega, WPost.step K1.out K3.out HP2.out, by rw [HL.out]; simp, rfl⟩

set_option maxRecDepth 100000 in
set_option maxHeartbeats 2000000 in
theorem henc_any (w : World) (h : HeadT) (hk : HeadOk h) :
    Calls Tryz.prog 46 #[.agg (headC h).toArray] w fun e w' => e = .returned (.tuple #[.string ⟨(headB h).toArray⟩, .int .i64 0]) ∧ Only (fun _ => False) w w' := by
  have hmf : ∀ (fn : Fn) (first cap : Array Value) (w : World), (Instr.makeFunc fn first cap).run Tryz.prog w = .ok (.func fn first cap) w := fun _ _ _ _ => rfl
  have hen : ∀ args w, (callFunc 86 args).run Tryz.prog w = .ok (.enter 86 args) w := fun _ _ => by go_simp
  obtain ⟨hc, hhc⟩ : ∃ hc, hc = headC h := ⟨_, rfl⟩
  obtain ⟨W, hW⟩ : ∃ W, W = w.alloc (.cells hc.toArray 53) := ⟨_, rfl⟩
  have hb : W.heap[w.heap.size]? = some (.cells (headC h).toArray 53 (0, 0)) := by rw [hW, hhc]; exact heap_alloc_new w _
  have hWo : Only (fun _ => False) w W := by rw [hW]; exact (Only.refl _ _).alloc _
  have hwr := write_ok W 86 #[.pointer (some ⟨w.heap.size, 0, none⟩)] (headB h) hen (by rw [← List.length_pos_iff, headB_length]; decide) (fun w2 b S ho hw hS hs => henc1_any w2 b _ S w.heap.size h hk hw (ho.old hb id) hs)
  have HW := Lib.hid hwr
  have HO := Lib.hid hWo
  clear hwr hWo hen
  obtain ⟨ix, resp, op, auth, trunc, des, avail, zr, code, c0, c1, c2, c3⟩ := h
  show Calls Tryz.prog 46 #[.agg #[.int .u16 ix, .bool resp, .int .u8 op, .bool auth, .bool trunc, .bool des, .bool avail, .int .u8 zr, .int .u8 code, .int .u16 c0, .int .u16 c1, .int .u16 c2, .int .u16 c3]] w _
  obtain ⟨BB, hBB⟩ : ∃ BB, BB = headB ⟨ix, resp, op, auth, trunc, des, avail, zr, code, (c0, c1, c2, c3)⟩ := ⟨_, rfl⟩
  rw [← hBB] at HW ⊢
  have hW2 : w.alloc (.cells #[.int .u16 ix, .bool resp, .int .u8 op, .bool auth, .bool trunc, .bool des, .bool avail, .int .u8 zr, .int .u8 code, .int .u16 c0, .int .u16 c1, .int .u16 c2, .int .u16 c3] 53) = W := by rw [hW, hhc]; rfl
  have HW2 := Lib.hid hW2
  clear hW2 hW hhc hBB hb hk
  go_enter Tryz.func46, Tryz.ntmps46
  go_upto_region 1 with (fail)
  rw [HW2.out]
  go_wp2_with fail
  refine HW.out.mono ?_
  rintro e w4 ⟨rfl, ho4⟩
  have HO4 := Lib.hid (HO.out.trans ho4)
  clear ho4
  go_wp2_with fail
  go_ret2
  exact ⟨rfl, HO4.out⟩
end Go.Proofs.YtbdfijgejkimnaaGreatDoor
/-! pack: a Reader of what was written. -/
namespace Go.Proofs.YtbdfijgejkimnaaGreatDoor
open Go.Conc Go.RowKit

theorem ext_front (a b : List UInt8) (n : Nat) (h : a.length = n) : (⟨(a ++ b).toArray⟩ : ByteArray).extract 0 n = ⟨a.toArray⟩ := by
  subst h
  apply str_ext
  rw [ByteArray.data_extract, Array.toList_extract]
  simp
theorem ext_back (a b : List UInt8) (n m : Nat) (h : a.length = n) (hm : m = (a ++ b).length) : (⟨(a ++ b).toArray⟩ : ByteArray).extract n m = ⟨b.toArray⟩ := by
  subst h hm
  apply str_ext
  rw [ByteArray.data_extract, Array.toList_extract]
  simp
theorem beL_length (n k : Nat) : (beL n k).length = k := by
  induction k with
  | zero => rfl
  | succ k ih => simp [beL, ih]
theorem beN_from : ∀ (k n a : Nat), beN (beL n k) a = a * 256 ^ k + n % 256 ^ k
  | 0, n, a => by simp [beN, beL, Nat.mod_one]
  | k + 1, n, a => by
    have ih := beN_from k n (a * 256 + (UInt8.ofNat (n / 256 ^ k)).toNat)
    have e : beN (beL n (k + 1)) a = beN (beL n k) (a * 256 + (UInt8.ofNat (n / 256 ^ k)).toNat) := rfl
    have h8 : (UInt8.ofNat (n / 256 ^ k)).toNat = n / 256 ^ k % 256 := UInt8.toNat_ofNat'
    have hp : n % 256 ^ (k + 1) = n % 256 ^ k + 256 ^ k * (n / 256 ^ k % 256) := Nat.mod_pow_succ
    rw [e, ih, h8, hp, Nat.add_mul, Nat.mul_assoc, Nat.mul_comm 256 (256 ^ k), Nat.pow_succ, Nat.mul_comm (n / 256 ^ k % 256)]
    omega
theorem beN_beL {n k : Nat} (h : n < 256 ^ k) : beN (beL n k) 0 = n := by
  rw [beN_from, Nat.mod_eq_of_lt h]
  omega
theorem rnumB (w : World) (b n k : Nat) (rest : List UInt8) (h : RdAt w b ⟨(beL n k ++ rest).toArray⟩) (h1 : 1 ≤ k) (h8 : k ≤ 8) (hn : n < 256 ^ k) :
    Calls Tryz.prog 82 #[.pointer (some ⟨b, 0, none⟩), .int .i64 k] w fun e w' => e = .returned (.int .u64 n) ∧ RPost w w' b ⟨rest.toArray⟩ := by
  have hs : (⟨(beL n k ++ rest).toArray⟩ : ByteArray).size = (beL n k ++ rest).length := by simp [ByteArray.size]
  have hc := rnum_ok w b _ k h h1 h8 (by rw [hs, List.length_append, beL_length]; omega)
  rw [ext_back _ _ k _ (beL_length n k) hs] at hc
  have e : (⟨(beL n k ++ rest).toArray⟩ : ByteArray).data.toList.take k = beL n k := by
    show (beL n k ++ rest).take k = _
    rw [List.take_append_of_le_length (by rw [beL_length]; omega), List.take_of_length_le (by rw [beL_length]; omega)]
  rw [e, beN_beL hn] at hc
  exact hc
theorem rrawB (w : World) (b n : Nat) (a rest : List UInt8) (h : RdAt w b ⟨(a ++ rest).toArray⟩) (hn : a.length = n) :
    Calls Tryz.prog 100 #[.pointer (some ⟨b, 0, none⟩), .int .i64 n] w fun e w' => e = .returned (.string ⟨a.toArray⟩) ∧ RPost w w' b ⟨rest.toArray⟩ := by
  have hs : (⟨(a ++ rest).toArray⟩ : ByteArray).size = (a ++ rest).length := by simp [ByteArray.size]
  have hc := rraw_ok w b _ n h (by rw [hs, List.length_append]; omega)
  rw [ext_back _ _ n _ hn hs, ext_front _ _ n hn] at hc
  exact hc
end Go.Proofs.YtbdfijgejkimnaaGreatDoor
/-! head.Decode, walked. -/
namespace Go.Proofs.YtbdfijgejkimnaaGreatDoor
open Go.Conc Go.RowKit

def ctJ (a b c d : Nat) : Nat → Nat × Nat × Nat × Nat
  | 0 => (0, 0, 0, 0)
  | 1 => (a, 0, 0, 0)
  | 2 => (a, b, 0, 0)
  | 3 => (a, b, c, 0)
  | _ => (a, b, c, d)
def hdZ : HeadT := ⟨0, false, 0, false, false, false, false, 0, 0, (0, 0, 0, 0)⟩
/-- A head whose counts are not read yet. -/
def hdJ (i f a b c d j : Nat) : HeadT := { headN i f a b c d with cts := ctJ a b c d j }
theorem hdJ_4 (i f a b c d : Nat) : hdJ i f a b c d 4 = headN i f a b c d := rfl
theorem bitsE (f k m M : Nat) (x : Int) (hf : f < 65536) (hm : m < 8) (hM : M = 2 ^ m - 1) (hx : x = ((f / 2 ^ k : Nat) : Int)) : bits .and .u64 x (M : Int) % 256 = ((f / 2 ^ k % 2 ^ m : Nat) : Int) := by
  subst hM hx
  rw [and_u64 (f / 2 ^ k) m (Nat.lt_of_le_of_lt (Nat.div_le_self _ _) (by omega)) (by omega)]
  have h1 : f / 2 ^ k % 2 ^ m < 2 ^ m := Nat.mod_lt _ (Nat.two_pow_pos m)
  have h2 : 2 ^ m ≤ 2 ^ 7 := Nat.pow_le_pow_right (by decide) (by omega)
  generalize f / 2 ^ k % 2 ^ m = z at *
  omega
theorem boolE (f k D : Nat) (x : Int) (hf : f < 65536) (hD : D = 2 ^ k) (hx : x = ((f / D : Nat) : Int)) : (bits BinOp.and IntKind.u64 x 1 == 1) = decide (f / D % 2 = 1) := by
  subst hx hD
  have h := and_u64 (f / 2 ^ k) 1 (Nat.lt_of_le_of_lt (Nat.div_le_self _ _) (by omega)) (by omega)
  rw [show ((2 ^ 1 - 1 : Nat) : Int) = 1 from rfl] at h
  rw [h]
  generalize f / 2 ^ k = z
  rw [Nat.pow_one, Bool.eq_iff_iff, beq_iff_eq, decide_eq_true_iff]
  omega
theorem hd_cells (i f a b c d : Nat) (hf : f < 65536) :
    (#[.int .u16 i, .bool (bits BinOp.and IntKind.u64 ((f : Int) / 32768) 1 == 1), .int .u8 (bits .and .u64 ((f : Int) / 2048) 15 % 256), .bool (bits BinOp.and IntKind.u64 ((f : Int) / 1024) 1 == 1), .bool (bits BinOp.and IntKind.u64 ((f : Int) / 512) 1 == 1), .bool (bits BinOp.and IntKind.u64 ((f : Int) / 256) 1 == 1), .bool (bits BinOp.and IntKind.u64 ((f : Int) / 128) 1 == 1), .int .u8 (bits .and .u64 ((f : Int) / 16) 7 % 256), .int .u8 (bits .and .u64 (f : Int) 15 % 256), .int .u16 0, .int .u16 0, .int .u16 0, .int .u16 0] : Array Value) = (headC (hdJ i f a b c d 0)).toArray := by
  have e1 := bitsE f 11 4 15 ((f : Int) / 2048) hf (by decide) (by decide) (by omega)
  have e2 := bitsE f 4 3 7 ((f : Int) / 16) hf (by decide) (by decide) (by omega)
  have e3 := bitsE f 0 4 15 (f : Int) hf (by decide) (by decide) (by omega)
  rw [show ((15 : Nat) : Int) = 15 from rfl] at e1 e3
  rw [show ((7 : Nat) : Int) = 7 from rfl] at e2
  rw [Nat.pow_zero, Nat.div_one] at e3
  rw [boolE f 15 32768 _ hf rfl (by omega), boolE f 10 1024 _ hf rfl (by omega), boolE f 9 512 _ hf rfl (by omega), boolE f 8 256 _ hf rfl (by omega), boolE f 7 128 _ hf rfl (by omega), e1, e2, e3]
  rfl
theorem eight_cells {w : World} {b : Nat} {t : TypeId} {a0 a1 a2 a3 a4 a5 a6 a7 a8 a9 a10 a11 a12 : Value} (h : w.heap[b]? = some (.cells #[a0, a1, a2, a3, a4, a5, a6, a7, a8, a9, a10, a11, a12] t (0, 0))) (v1 v2 v3 v4 v5 v6 v7 v8 : Value) :
    ((((((((w.setCell ⟨b, 1, none⟩ v1).setCell ⟨b, 2, none⟩ v2).setCell ⟨b, 6, none⟩ v6).setCell ⟨b, 5, none⟩ v5).setCell ⟨b, 4, none⟩ v4).setCell ⟨b, 3, none⟩ v3).setCell ⟨b, 7, none⟩ v7).setCell ⟨b, 8, none⟩ v8).heap[b]? = some (.cells #[a0, v1, v2, v3, v4, v5, v6, v7, v8, a9, a10, a11, a12] t (0, 0)) ∧ Only (fun x => x = b) w ((((((((w.setCell ⟨b, 1, none⟩ v1).setCell ⟨b, 2, none⟩ v2).setCell ⟨b, 6, none⟩ v6).setCell ⟨b, 5, none⟩ v5).setCell ⟨b, 4, none⟩ v4).setCell ⟨b, 3, none⟩ v3).setCell ⟨b, 7, none⟩ v7).setCell ⟨b, 8, none⟩ v8) := by
  have h1 : (w.setCell ⟨b, 1, none⟩ v1).heap[b]? = some (.cells #[a0, v1, a2, a3, a4, a5, a6, a7, a8, a9, a10, a11, a12] t (0, 0)) := set_at h 1 v1
  have h2 : ((w.setCell ⟨b, 1, none⟩ v1).setCell ⟨b, 2, none⟩ v2).heap[b]? = some (.cells #[a0, v1, v2, a3, a4, a5, a6, a7, a8, a9, a10, a11, a12] t (0, 0)) := set_at h1 2 v2
  have h3 : (((w.setCell ⟨b, 1, none⟩ v1).setCell ⟨b, 2, none⟩ v2).setCell ⟨b, 6, none⟩ v6).heap[b]? = some (.cells #[a0, v1, v2, a3, a4, a5, v6, a7, a8, a9, a10, a11, a12] t (0, 0)) := set_at h2 6 v6
  have h4 : ((((w.setCell ⟨b, 1, none⟩ v1).setCell ⟨b, 2, none⟩ v2).setCell ⟨b, 6, none⟩ v6).setCell ⟨b, 5, none⟩ v5).heap[b]? = some (.cells #[a0, v1, v2, a3, a4, v5, v6, a7, a8, a9, a10, a11, a12] t (0, 0)) := set_at h3 5 v5
  have h5 : (((((w.setCell ⟨b, 1, none⟩ v1).setCell ⟨b, 2, none⟩ v2).setCell ⟨b, 6, none⟩ v6).setCell ⟨b, 5, none⟩ v5).setCell ⟨b, 4, none⟩ v4).heap[b]? = some (.cells #[a0, v1, v2, a3, v4, v5, v6, a7, a8, a9, a10, a11, a12] t (0, 0)) := set_at h4 4 v4
  have h6 : ((((((w.setCell ⟨b, 1, none⟩ v1).setCell ⟨b, 2, none⟩ v2).setCell ⟨b, 6, none⟩ v6).setCell ⟨b, 5, none⟩ v5).setCell ⟨b, 4, none⟩ v4).setCell ⟨b, 3, none⟩ v3).heap[b]? = some (.cells #[a0, v1, v2, v3, v4, v5, v6, a7, a8, a9, a10, a11, a12] t (0, 0)) := set_at h5 3 v3
  have h7 : (((((((w.setCell ⟨b, 1, none⟩ v1).setCell ⟨b, 2, none⟩ v2).setCell ⟨b, 6, none⟩ v6).setCell ⟨b, 5, none⟩ v5).setCell ⟨b, 4, none⟩ v4).setCell ⟨b, 3, none⟩ v3).setCell ⟨b, 7, none⟩ v7).heap[b]? = some (.cells #[a0, v1, v2, v3, v4, v5, v6, v7, a8, a9, a10, a11, a12] t (0, 0)) := set_at h6 7 v7
  have h8 : ((((((((w.setCell ⟨b, 1, none⟩ v1).setCell ⟨b, 2, none⟩ v2).setCell ⟨b, 6, none⟩ v6).setCell ⟨b, 5, none⟩ v5).setCell ⟨b, 4, none⟩ v4).setCell ⟨b, 3, none⟩ v3).setCell ⟨b, 7, none⟩ v7).setCell ⟨b, 8, none⟩ v8).heap[b]? = some (.cells #[a0, v1, v2, v3, v4, v5, v6, v7, v8, a9, a10, a11, a12] t (0, 0)) := set_at h7 8 v8
  exact ⟨h8, ((((((((Only.refl (fun x => x = b) w).setCell (p := ⟨b, 1, none⟩) (.inr rfl) v1).setCell (p := ⟨b, 2, none⟩) (.inr rfl) v2).setCell (p := ⟨b, 6, none⟩) (.inr rfl) v6).setCell (p := ⟨b, 5, none⟩) (.inr rfl) v5).setCell (p := ⟨b, 4, none⟩) (.inr rfl) v4).setCell (p := ⟨b, 3, none⟩) (.inr rfl) v3).setCell (p := ⟨b, 7, none⟩) (.inr rfl) v7).setCell (p := ⟨b, 8, none⟩) (.inr rfl) v8⟩
set_option maxRecDepth 100000 in
set_option maxHeartbeats 4000000 in
theorem hdec1_any (w : World) (b ps : Nat) (i f a0 a1 a2 a3 : Nat) (hi : i < 65536) (hf : f < 65536) (h0 : a0 < 65536) (h1 : a1 < 65536) (h2 : a2 < 65536) (h3 : a3 < 65536)
    (h : RdAt w b ⟨(beL i 2 ++ (beL f 2 ++ (beL a0 2 ++ (beL a1 2 ++ (beL a2 2 ++ (beL a3 2 ++ [])))))).toArray⟩) (hs : w.heap[ps]? = some (.cells (headC hdZ).toArray 53 (0, 0))) :
    Calls Tryz.prog 81 #[.pointer (some ⟨b, 0, none⟩), .pointer (some ⟨ps, 0, none⟩)] w fun e w' => e = .returned (.tuple #[]) ∧ Only (fun x => x = b ∨ x = ps) w w' ∧ RdAt w' b ⟨#[]⟩ ∧ w'.heap[ps]? = some (.cells (headC (headN i f a0 a1 a2 a3)).toArray 53 (0, 0)) := by
  have hne : ps ≠ b := by rintro rfl; rw [RdAt, hs] at h; simp at h
  have KC := Lib.hid (And.intro hi (And.intro hf (And.intro h0 (And.intro h1 (And.intro h2 h3)))))
  have HF := Lib.hid hf
  clear h0 h1 h2 h3
  have H := Lib.hid h
  have HS := Lib.hid hs
  clear h hs
  go_enter Tryz.func81, Tryz.ntmps81
  go_wp2_with fail
  refine (rnumB _ b i 2 _ H.out (by decide) (by decide) (by have := KC.out; omega)).mono ?_
  rintro e w1 ⟨rfl, ho1, hr1⟩
  have t1 := ho1.old HS.out hne
  have x1 : w1.cell? ⟨ps, 0, none⟩ = some (.int .u16 0) := cell_at t1 0
  have f1 : w1.frozen? ⟨ps, 0, none⟩ = false := free_at t1 0
  have T1 := Lib.hid t1
  have O1 := Lib.hid ho1
  have R1 := Lib.hid hr1
  clear t1 ho1 hr1
  go_wp2_with fail
  have q2 : Only (fun x => x = ps) w1 (w1.setCell ⟨ps, 0, none⟩ (.int .u16 i)) := (Only.refl _ _).setCell (S := fun x => x = ps) (p := ⟨ps, 0, none⟩) (.inr rfl) _
  have O2 := Lib.hid ((O1.out.weaken (fun _ _ e => Or.inl (b := _ = ps) e)).trans (q2.weaken (fun _ _ e => .inr e)))
  have T2 := Lib.hid (set_at T1.out 0 (.int .u16 i))
  have R2 := Lib.hid (R1.out.kept q2 (fun e => hne e.symm))
  clear q2 x1 f1
  generalize w1.setCell ⟨ps, 0, none⟩ (.int .u16 i) = w2 at *
  refine (rnumB _ b f 2 _ R2.out (by decide) (by decide) (by have := KC.out; omega)).mono ?_
  rintro e w3 ⟨rfl, ho3, hr3⟩
  have t3 := ho3.old T2.out hne
  have y0 : w3.cell? ⟨ps, 0, none⟩ = some (.int .u16 i) := cell_at t3 0
  have y1 : w3.cell? ⟨ps, 1, none⟩ = some (.bool false) := cell_at t3 1
  have y2 : w3.cell? ⟨ps, 2, none⟩ = some (.int .u8 0) := cell_at t3 2
  have y3 : w3.cell? ⟨ps, 3, none⟩ = some (.bool false) := cell_at t3 3
  have y4 : w3.cell? ⟨ps, 4, none⟩ = some (.bool false) := cell_at t3 4
  have y5 : w3.cell? ⟨ps, 5, none⟩ = some (.bool false) := cell_at t3 5
  have y6 : w3.cell? ⟨ps, 6, none⟩ = some (.bool false) := cell_at t3 6
  have y7 : w3.cell? ⟨ps, 7, none⟩ = some (.int .u8 0) := cell_at t3 7
  have y8 : w3.cell? ⟨ps, 8, none⟩ = some (.int .u8 0) := cell_at t3 8
  have yf : ∀ i, w3.frozen? ⟨ps, i, none⟩ = false := free_at t3
  have O3 := Lib.hid (O2.out.trans (ho3.weaken (fun _ _ e => Or.inl (b := _ = ps) e)))
  have T3 := Lib.hid t3
  have R3 := Lib.hid hr3
  clear t3 hr3
  clear ho3
  go_upto_region 11 with (fail)
  obtain ⟨T4, q4⟩ := eight_cells T3.out (Value.bool (bits BinOp.and IntKind.u64 ((f : Int) / 32768) 1 == 1)) (Value.int IntKind.u8 (bits BinOp.and IntKind.u64 ((f : Int) / 2048) 15 % 256)) (Value.bool (bits BinOp.and IntKind.u64 ((f : Int) / 1024) 1 == 1)) (Value.bool (bits BinOp.and IntKind.u64 ((f : Int) / 512) 1 == 1)) (Value.bool (bits BinOp.and IntKind.u64 ((f : Int) / 256) 1 == 1)) (Value.bool (bits BinOp.and IntKind.u64 ((f : Int) / 128) 1 == 1)) (Value.int IntKind.u8 (bits BinOp.and IntKind.u64 ((f : Int) / 16) 7 % 256)) (Value.int IntKind.u8 (bits BinOp.and IntKind.u64 (f : Int) 15 % 256))
  generalize ((((((((w3.setCell ⟨ps, 1, none⟩ (Value.bool (bits BinOp.and IntKind.u64 ((f : Int) / 32768) 1 == 1))).setCell ⟨ps, 2, none⟩ (Value.int IntKind.u8 (bits BinOp.and IntKind.u64 ((f : Int) / 2048) 15 % 256))).setCell ⟨ps, 6, none⟩ (Value.bool (bits BinOp.and IntKind.u64 ((f : Int) / 128) 1 == 1))).setCell ⟨ps, 5, none⟩ (Value.bool (bits BinOp.and IntKind.u64 ((f : Int) / 256) 1 == 1))).setCell ⟨ps, 4, none⟩ (Value.bool (bits BinOp.and IntKind.u64 ((f : Int) / 512) 1 == 1))).setCell ⟨ps, 3, none⟩ (Value.bool (bits BinOp.and IntKind.u64 ((f : Int) / 1024) 1 == 1))).setCell ⟨ps, 7, none⟩ (Value.int IntKind.u8 (bits BinOp.and IntKind.u64 ((f : Int) / 16) 7 % 256))).setCell ⟨ps, 8, none⟩ (Value.int IntKind.u8 (bits BinOp.and IntKind.u64 (f : Int) 15 % 256))) = w4 at *
  have O4 := Lib.hid (O3.out.trans (q4.weaken (fun _ _ e => Or.inr (a := _ = b) e)))
  have R4 := Lib.hid (R3.out.kept q4 (fun e => hne e.symm))
  have T4H : Hid (w4.heap[ps]? = some (.cells (headC (hdJ i f a0 a1 a2 a3 0)).toArray 53 (0, 0))) := Lib.hid ((congrArg (fun z => w4.heap[ps]? = some (Obj.cells z 53 (0, 0))) (hd_cells i f a0 a1 a2 a3 HF.out)).mp T4)
  clear T4 q4 y0 y1 y2 y3 y4 y5 y6 y7 y8 yf
  go_loopg [4, 50] 4 (fun g v4 v50 wx => ∃ j : Nat, v50 = .int .i64 j ∧ j ≤ 4 ∧ Only (fun x => x = b ∨ x = ps) w wx ∧ RdAt wx b ⟨(([a0, a1, a2, a3].drop j).flatMap fun n => beL n 2).toArray⟩ ∧ wx.heap[ps]? = some (.cells (headC (hdJ i f a0 a1 a2 a3 j)).toArray 53 (0, 0)) ∧ g = 4 - j)
  case atStart => exact ⟨0, rfl, by decide, O4.out, R4.out, T4H.out, rfl⟩
  case round =>
    clear T1 O1 R1 T2 O2 R2 T3 R3 O3 O4 R4 T4H H HS HF
    obtain ⟨j, rfl, hj, ho, hr, ht, hg⟩ := hrel
    have HO := Lib.hid ho
    have HR := Lib.hid hr
    have HT := Lib.hid ht
    have Hg := Lib.hid hg
    clear ho hr ht hg
    match j, hj with
    | 4, _ =>
      go_wp2_with fail
      go_end0
      exact ⟨rfl, HO.out, HR.out, HT.out⟩
    | 0, _ =>
      go_wp2_with fail
      refine (rnumB _ b a0 2 _ HR.out (by decide) (by decide) (by have := KC.out; omega)).mono ?_
      rintro e w2 ⟨rfl, ho2, hr2⟩
      have t2 := ho2.old HT.out hne
      have c2 : w2.cell? ⟨ps, 9 + 0, none⟩ = some (.int .u16 0) := cell_at t2 (9 + 0)
      have f2 : w2.frozen? ⟨ps, 9 + 0, none⟩ = false := free_at t2 (9 + 0)
      have hx : a0 < 65536 := by have := KC.out; omega
      have T2 := Lib.hid t2
      have O2 := Lib.hid ho2
      have R2 := Lib.hid hr2
      clear t2 ho2 hr2
      go_wp2_with fail
      have q2 : Only (fun x => x = ps) w2 (w2.setCell ⟨ps, 9 + 0, none⟩ (.int .u16 a0)) := (Only.refl _ _).setCell (S := fun x => x = ps) (p := ⟨ps, 9 + 0, none⟩) (.inr rfl) _
      go_roundg 3
      case measure => rw [Hg.out]; decide
      case rel => exact ⟨1, rfl, by decide, (HO.out.trans (O2.out.weaken (fun _ _ e => .inl e))).trans (q2.weaken (fun _ _ e => .inr e)), R2.out.kept q2 (fun e => hne e.symm), set_at T2.out (9 + 0) (.int .u16 a0), rfl⟩
    | 1, _ =>
      go_wp2_with fail
      refine (rnumB _ b a1 2 _ HR.out (by decide) (by decide) (by have := KC.out; omega)).mono ?_
      rintro e w2 ⟨rfl, ho2, hr2⟩
      have t2 := ho2.old HT.out hne
      have c2 : w2.cell? ⟨ps, 9 + 1, none⟩ = some (.int .u16 0) := cell_at t2 (9 + 1)
      have f2 : w2.frozen? ⟨ps, 9 + 1, none⟩ = false := free_at t2 (9 + 1)
      have hx : a1 < 65536 := by have := KC.out; omega
      have T2 := Lib.hid t2
      have O2 := Lib.hid ho2
      have R2 := Lib.hid hr2
      clear t2 ho2 hr2
      go_wp2_with fail
      have q2 : Only (fun x => x = ps) w2 (w2.setCell ⟨ps, 9 + 1, none⟩ (.int .u16 a1)) := (Only.refl _ _).setCell (S := fun x => x = ps) (p := ⟨ps, 9 + 1, none⟩) (.inr rfl) _
      go_roundg 2
      case measure => rw [Hg.out]; decide
      case rel => exact ⟨2, rfl, by decide, (HO.out.trans (O2.out.weaken (fun _ _ e => .inl e))).trans (q2.weaken (fun _ _ e => .inr e)), R2.out.kept q2 (fun e => hne e.symm), set_at T2.out (9 + 1) (.int .u16 a1), rfl⟩
    | 2, _ =>
      go_wp2_with fail
      refine (rnumB _ b a2 2 _ HR.out (by decide) (by decide) (by have := KC.out; omega)).mono ?_
      rintro e w2 ⟨rfl, ho2, hr2⟩
      have t2 := ho2.old HT.out hne
      have c2 : w2.cell? ⟨ps, 9 + 2, none⟩ = some (.int .u16 0) := cell_at t2 (9 + 2)
      have f2 : w2.frozen? ⟨ps, 9 + 2, none⟩ = false := free_at t2 (9 + 2)
      have hx : a2 < 65536 := by have := KC.out; omega
      have T2 := Lib.hid t2
      have O2 := Lib.hid ho2
      have R2 := Lib.hid hr2
      clear t2 ho2 hr2
      go_wp2_with fail
      have q2 : Only (fun x => x = ps) w2 (w2.setCell ⟨ps, 9 + 2, none⟩ (.int .u16 a2)) := (Only.refl _ _).setCell (S := fun x => x = ps) (p := ⟨ps, 9 + 2, none⟩) (.inr rfl) _
      go_roundg 1
      case measure => rw [Hg.out]; decide
      case rel => exact ⟨3, rfl, by decide, (HO.out.trans (O2.out.weaken (fun _ _ e => .inl e))).trans (q2.weaken (fun _ _ e => .inr e)), R2.out.kept q2 (fun e => hne e.symm), set_at T2.out (9 + 2) (.int .u16 a2), rfl⟩
    | 3, _ =>
      go_wp2_with fail
      refine (rnumB _ b a3 2 _ HR.out (by decide) (by decide) (by have := KC.out; omega)).mono ?_
      rintro e w2 ⟨rfl, ho2, hr2⟩
      have t2 := ho2.old HT.out hne
      have c2 : w2.cell? ⟨ps, 9 + 3, none⟩ = some (.int .u16 0) := cell_at t2 (9 + 3)
      have f2 : w2.frozen? ⟨ps, 9 + 3, none⟩ = false := free_at t2 (9 + 3)
      have hx : a3 < 65536 := by have := KC.out; omega
      have T2 := Lib.hid t2
      have O2 := Lib.hid ho2
      have R2 := Lib.hid hr2
      clear t2 ho2 hr2
      go_wp2_with fail
      have q2 : Only (fun x => x = ps) w2 (w2.setCell ⟨ps, 9 + 3, none⟩ (.int .u16 a3)) := (Only.refl _ _).setCell (S := fun x => x = ps) (p := ⟨ps, 9 + 3, none⟩) (.inr rfl) _
      go_roundg 0
      case measure => rw [Hg.out]; decide
      case rel => exact ⟨4, rfl, by decide, (HO.out.trans (O2.out.weaken (fun _ _ e => .inl e))).trans (q2.weaken (fun _ _ e => .inr e)), R2.out.kept q2 (fun e => hne e.symm), set_at T2.out (9 + 3) (.int .u16 a3), rfl⟩
end Go.Proofs.YtbdfijgejkimnaaGreatDoor
/-! head.Decode: a text that is too short; Decode. -/
namespace Go.Proofs.YtbdfijgejkimnaaGreatDoor
open Go.Conc Go.RowKit

/-- Thirteen cells of whatever. -/
def Any13 (w : World) (b : Nat) : Prop := ∃ a0 a1 a2 a3 a4 a5 a6 a7 a8 a9 a10 a11 a12 : Value, w.heap[b]? = some (.cells #[a0, a1, a2, a3, a4, a5, a6, a7, a8, a9, a10, a11, a12] 53 (0, 0))
theorem Any13.old {S : Nat → Prop} {w w' : World} {b : Nat} (h : Any13 w b) (ho : Only S w w') (hn : ¬ S b) : Any13 w' b := by
  obtain ⟨a0, a1, a2, a3, a4, a5, a6, a7, a8, a9, a10, a11, a12, h⟩ := h
  exact ⟨a0, a1, a2, a3, a4, a5, a6, a7, a8, a9, a10, a11, a12, ho.old h hn⟩
theorem Any13.cell {w : World} {b i : Nat} (h : Any13 w b) (hi : i < 13) : ∃ v, w.cell? ⟨b, i, none⟩ = some v := by
  obtain ⟨a0, a1, a2, a3, a4, a5, a6, a7, a8, a9, a10, a11, a12, h⟩ := h
  rw [cell_at h]
  exact ⟨_, Array.getElem?_eq_getElem (by simpa using hi)⟩
theorem Any13.free {w : World} {b : Nat} (h : Any13 w b) (i : Nat) : w.frozen? ⟨b, i, none⟩ = false := by
  obtain ⟨a0, a1, a2, a3, a4, a5, a6, a7, a8, a9, a10, a11, a12, h⟩ := h
  exact free_at h i
theorem thirteen {α : Type} (l : List α) (h : l.length = 13) : ∃ a0 a1 a2 a3 a4 a5 a6 a7 a8 a9 a10 a11 a12, l = [a0, a1, a2, a3, a4, a5, a6, a7, a8, a9, a10, a11, a12] := by
  match l, h with
  | [a0, a1, a2, a3, a4, a5, a6, a7, a8, a9, a10, a11, a12], _ => exact ⟨a0, a1, a2, a3, a4, a5, a6, a7, a8, a9, a10, a11, a12, rfl⟩
theorem Any13.set {w : World} {b : Nat} (h : Any13 w b) (i : Nat) (v : Value) : Any13 (w.setCell ⟨b, i, none⟩ v) b := by
  obtain ⟨a0, a1, a2, a3, a4, a5, a6, a7, a8, a9, a10, a11, a12, h⟩ := h
  have h2 := set_at h i v
  obtain ⟨b0, b1, b2, b3, b4, b5, b6, b7, b8, b9, b10, b11, b12, e⟩ := thirteen (#[a0, a1, a2, a3, a4, a5, a6, a7, a8, a9, a10, a11, a12].setIfInBounds i v).toList (by simp)
  refine ⟨b0, b1, b2, b3, b4, b5, b6, b7, b8, b9, b10, b11, b12, h2.trans ?_⟩
  congr 2
  rw [← Array.toList_inj, e]
theorem Any13.eight {w : World} {b : Nat} (h : Any13 w b) (v1 v2 v3 v4 v5 v6 v7 v8 : Value) : Any13 ((((((((w.setCell ⟨b, 1, none⟩ v1).setCell ⟨b, 2, none⟩ v2).setCell ⟨b, 6, none⟩ v6).setCell ⟨b, 5, none⟩ v5).setCell ⟨b, 4, none⟩ v4).setCell ⟨b, 3, none⟩ v3).setCell ⟨b, 7, none⟩ v7).setCell ⟨b, 8, none⟩ v8) b ∧ Only (fun x => x = b) w ((((((((w.setCell ⟨b, 1, none⟩ v1).setCell ⟨b, 2, none⟩ v2).setCell ⟨b, 6, none⟩ v6).setCell ⟨b, 5, none⟩ v5).setCell ⟨b, 4, none⟩ v4).setCell ⟨b, 3, none⟩ v3).setCell ⟨b, 7, none⟩ v7).setCell ⟨b, 8, none⟩ v8) :=
  ⟨((((((((h).set 1 v1).set 2 v2).set 6 v6).set 5 v5).set 4 v4).set 3 v3).set 7 v7).set 8 v8, ((((((((Only.refl (fun x => x = b) w).setCell (p := ⟨b, 1, none⟩) (.inr rfl) v1).setCell (p := ⟨b, 2, none⟩) (.inr rfl) v2).setCell (p := ⟨b, 6, none⟩) (.inr rfl) v6).setCell (p := ⟨b, 5, none⟩) (.inr rfl) v5).setCell (p := ⟨b, 4, none⟩) (.inr rfl) v4).setCell (p := ⟨b, 3, none⟩) (.inr rfl) v3).setCell (p := ⟨b, 7, none⟩) (.inr rfl) v7).setCell (p := ⟨b, 8, none⟩) (.inr rfl) v8⟩
set_option maxRecDepth 100000 in
set_option maxHeartbeats 4000000 in
theorem hdec1_short (w : World) (b ps : Nat) (s : ByteArray) (hz : s.size < 12) (h : RdAt w b s) (hs : Any13 w ps) :
    Calls Tryz.prog 81 #[.pointer (some ⟨b, 0, none⟩), .pointer (some ⟨ps, 0, none⟩)] w fun e w' => e = refused 2 ∧ Only (fun x => x = b ∨ x = ps) w w' := by
  have hne : ps ≠ b := by
    obtain ⟨a0, a1, a2, a3, a4, a5, a6, a7, a8, a9, a10, a11, a12, hs⟩ := hs
    rintro rfl; rw [RdAt, hs] at h; simp at h
  have hxs : ∀ (t : ByteArray) (n : Nat), n ≤ t.size → (t.extract n t.size).size + n = t.size := fun t n hn => by rw [ByteArray.size_extract]; omega
  have HLT := Lib.hid hz
  have H := Lib.hid h
  have HS := Lib.hid hs
  have HX := Lib.hid hxs
  clear h hs hxs
  by_cases h2 : s.size < 2
  · have HC := Lib.hid (rnum_short w b s 2 H.out (by decide) (by decide) h2)
    clear h2 hz
    go_enter Tryz.func81, Tryz.ntmps81
    go_wp2_with fail
    refine HC.out.mono ?_
    rintro e w1 ⟨rfl, rfl⟩
    unfold refused
    go_wp2_with fail
    exact ⟨rfl, rfl, Only.refl _ _⟩
  have HC := Lib.hid (rnum_ok w b s 2 H.out (by decide) (by decide) (by omega))
  have hs1 := HX.out s 2 (by omega)
  generalize s.extract 2 s.size = s1 at *
  have hy1 : beN (s.data.toList.take 2) 0 < 65536 := by
    have := beN_lt (s.data.toList.take 2)
    have hl : (s.data.toList.take 2).length = 2 := by rw [List.length_take]; show min 2 s.size = 2; omega
    rw [hl] at this
    omega
  generalize beN (s.data.toList.take 2) 0 = y1 at *
  go_enter Tryz.func81, Tryz.ntmps81
  go_wp2_with fail
  refine HC.out.mono ?_
  rintro e w1 ⟨rfl, ho1, hr1⟩
  have t1 := HS.out.old ho1 hne
  obtain ⟨z0, x0⟩ := t1.cell (i := 0) (by decide)
  have f0 := t1.free 0
  have T1 := Lib.hid t1
  have O1 := Lib.hid ho1
  have R1 := Lib.hid hr1
  clear t1 ho1 hr1
  clear HC
  go_wp2_with fail
  have q2 : Only (fun x => x = ps) w1 (w1.setCell ⟨ps, 0, none⟩ (.int .u16 y1)) := (Only.refl _ _).setCell (S := fun x => x = ps) (p := ⟨ps, 0, none⟩) (.inr rfl) _
  have O2 := Lib.hid ((O1.out.weaken (fun _ _ e => Or.inl (b := _ = ps) e)).trans (q2.weaken (fun _ _ e => .inr e)))
  have T2 := Lib.hid (T1.out.set 0 (.int .u16 y1))
  have R2 := Lib.hid (R1.out.kept q2 (fun e => hne e.symm))
  clear q2 x0 f0
  generalize w1.setCell ⟨ps, 0, none⟩ (.int .u16 y1) = w2 at *
  by_cases h3 : s1.size < 2
  · have HC := Lib.hid (rnum_short w2 b s1 2 R2.out (by decide) (by decide) h3)
    clear h2 hz h3 hs1
    refine HC.out.mono ?_
    rintro e w3 ⟨rfl, rfl⟩
    unfold refused
    go_wp2_with fail
    exact ⟨rfl, rfl, O2.out⟩
  have HC := Lib.hid (rnum_ok w2 b s1 2 R2.out (by decide) (by decide) (by omega))
  have hs2 := HX.out s1 2 (by omega)
  generalize s1.extract 2 s1.size = s2 at *
  generalize beN (s1.data.toList.take 2) 0 = y2 at *
  refine HC.out.mono ?_
  rintro e w3 ⟨rfl, ho3, hr3⟩
  have t3 := T2.out.old ho3 hne
  have O3 := Lib.hid (O2.out.trans (ho3.weaken (fun _ _ e => Or.inl (b := _ = ps) e)))
  obtain ⟨z1, x1⟩ := t3.cell (i := 1) (by decide)
  obtain ⟨z2, x2⟩ := t3.cell (i := 2) (by decide)
  obtain ⟨z3, x3⟩ := t3.cell (i := 3) (by decide)
  obtain ⟨z4, x4⟩ := t3.cell (i := 4) (by decide)
  obtain ⟨z5, x5⟩ := t3.cell (i := 5) (by decide)
  obtain ⟨z6, x6⟩ := t3.cell (i := 6) (by decide)
  obtain ⟨z7, x7⟩ := t3.cell (i := 7) (by decide)
  obtain ⟨z8, x8⟩ := t3.cell (i := 8) (by decide)
  have fz := fun i => t3.free i
  have hsz : s2.size < 8 := by omega
  have hz2 : s2.size + 4 = s.size := by omega
  have T3 := Lib.hid t3
  have R3 := Lib.hid hr3
  have HZ2 := Lib.hid hz2
  clear t3 hr3 hz2
  clear ho3 HC h2 h3 hs1 hs2 hz T1 O1 R1 T2 O2 R2
  go_upto_region 11 with (fail)
  obtain ⟨T4, q4⟩ := T3.out.eight (Value.bool (bits BinOp.and IntKind.u64 ((y2 : Int) / 32768) 1 == 1)) (Value.int IntKind.u8 (bits BinOp.and IntKind.u64 ((y2 : Int) / 2048) 15 % 256)) (Value.bool (bits BinOp.and IntKind.u64 ((y2 : Int) / 1024) 1 == 1)) (Value.bool (bits BinOp.and IntKind.u64 ((y2 : Int) / 512) 1 == 1)) (Value.bool (bits BinOp.and IntKind.u64 ((y2 : Int) / 256) 1 == 1)) (Value.bool (bits BinOp.and IntKind.u64 ((y2 : Int) / 128) 1 == 1)) (Value.int IntKind.u8 (bits BinOp.and IntKind.u64 ((y2 : Int) / 16) 7 % 256)) (Value.int IntKind.u8 (bits BinOp.and IntKind.u64 (y2 : Int) 15 % 256))
  generalize ((((((((w3.setCell ⟨ps, 1, none⟩ (Value.bool (bits BinOp.and IntKind.u64 ((y2 : Int) / 32768) 1 == 1))).setCell ⟨ps, 2, none⟩ (Value.int IntKind.u8 (bits BinOp.and IntKind.u64 ((y2 : Int) / 2048) 15 % 256))).setCell ⟨ps, 6, none⟩ (Value.bool (bits BinOp.and IntKind.u64 ((y2 : Int) / 128) 1 == 1))).setCell ⟨ps, 5, none⟩ (Value.bool (bits BinOp.and IntKind.u64 ((y2 : Int) / 256) 1 == 1))).setCell ⟨ps, 4, none⟩ (Value.bool (bits BinOp.and IntKind.u64 ((y2 : Int) / 512) 1 == 1))).setCell ⟨ps, 3, none⟩ (Value.bool (bits BinOp.and IntKind.u64 ((y2 : Int) / 1024) 1 == 1))).setCell ⟨ps, 7, none⟩ (Value.int IntKind.u8 (bits BinOp.and IntKind.u64 ((y2 : Int) / 16) 7 % 256))).setCell ⟨ps, 8, none⟩ (Value.int IntKind.u8 (bits BinOp.and IntKind.u64 (y2 : Int) 15 % 256))) = w4 at *
  have O4 := Lib.hid (O3.out.trans (q4.weaken (fun _ _ e => Or.inr (a := _ = b) e)))
  have R4 := Lib.hid (R3.out.kept q4 (fun e => hne e.symm))
  have T4H := Lib.hid T4
  clear T4
  clear q4 x1 x2 x3 x4 x5 x6 x7 x8 fz
  go_loopg [4, 50] 4 (fun g v4 v50 wx => ∃ (j : Nat) (s' : ByteArray), v50 = .int .i64 j ∧ j ≤ 4 ∧ Only (fun x => x = b ∨ x = ps) w wx ∧ RdAt wx b s' ∧ s'.size + 4 + 2 * j = s.size ∧ Any13 wx ps ∧ g = 4 - j)
  case atStart => exact ⟨0, s2, rfl, by decide, O4.out, R4.out, HZ2.out, T4H.out, rfl⟩
  case round =>
    clear T3 R3 O3 O4 R4 T4H H HS HZ2 hsz
    obtain ⟨j, s', rfl, hj, ho, hr, hsz, ht, hg⟩ := hrel
    have hlt := HLT.out
    have HO := Lib.hid ho
    have HR := Lib.hid hr
    have HT := Lib.hid ht
    have Hg := Lib.hid hg
    clear ho hr ht hg
    match j, hj with
    | 4, _ => exact absurd hlt (by omega)
    | 0, _ =>
      by_cases hq : s'.size < 2
      · have HC := Lib.hid (rnum_short wr b s' 2 HR.out (by decide) (by decide) hq)
        clear hq hsz hlt
        go_wp2_with fail
        refine HC.out.mono ?_
        rintro e w2 ⟨rfl, rfl⟩
        unfold refused
        go_wp2_with fail
        exact ⟨rfl, rfl, HO.out⟩
      · have HC := Lib.hid (rnum_ok wr b s' 2 HR.out (by decide) (by decide) (by omega))
        have hs2 := HX.out s' 2 (by omega)
        generalize s'.extract 2 s'.size = s3 at *
        have hs3 := Lib.hid (show s3.size + 4 + 2 * 1 = s.size by omega)
        generalize beN (s'.data.toList.take 2) 0 = y at *
        clear hs2 hsz hlt hq
        go_wp2_with fail
        refine HC.out.mono ?_
        rintro e w2 ⟨rfl, ho2, hr2⟩
        have t2 := HT.out.old ho2 hne
        obtain ⟨z2, x2⟩ := t2.cell (i := 9 + 0) (by decide)
        have f2 := t2.free (9 + 0)
        have T2 := Lib.hid t2
        have O2 := Lib.hid ho2
        have R2 := Lib.hid hr2
        clear t2 ho2 hr2
        go_wp2_with fail
        obtain ⟨V, hV⟩ : ∃ V, V = Value.int IntKind.u16 (IntKind.u16.wrap (y : Int)) := ⟨_, rfl⟩
        have q2 : Only (fun x => x = ps) w2 (w2.setCell ⟨ps, 9 + 0, none⟩ V) := (Only.refl _ _).setCell (S := fun x => x = ps) (p := ⟨ps, 9 + 0, none⟩) (.inr rfl) _
        go_roundg 3
        case measure => rw [Hg.out]; decide
        case rel => exact ⟨1, s3, rfl, by decide, (HO.out.trans (O2.out.weaken (fun _ _ e => .inl e))).trans ((by rw [hV] at q2; exact q2 : Only (fun x => x = ps) w2 _).weaken (fun _ _ e => .inr e)), R2.out.kept (by rw [hV] at q2; exact q2 : Only (fun x => x = ps) w2 _) (fun e => hne e.symm), hs3.out, T2.out.set (9 + 0) _, rfl⟩
    | 1, _ =>
      by_cases hq : s'.size < 2
      · have HC := Lib.hid (rnum_short wr b s' 2 HR.out (by decide) (by decide) hq)
        clear hq hsz hlt
        go_wp2_with fail
        refine HC.out.mono ?_
        rintro e w2 ⟨rfl, rfl⟩
        unfold refused
        go_wp2_with fail
        exact ⟨rfl, rfl, HO.out⟩
      · have HC := Lib.hid (rnum_ok wr b s' 2 HR.out (by decide) (by decide) (by omega))
        have hs2 := HX.out s' 2 (by omega)
        generalize s'.extract 2 s'.size = s3 at *
        have hs3 := Lib.hid (show s3.size + 4 + 2 * 2 = s.size by omega)
        generalize beN (s'.data.toList.take 2) 0 = y at *
        clear hs2 hsz hlt hq
        go_wp2_with fail
        refine HC.out.mono ?_
        rintro e w2 ⟨rfl, ho2, hr2⟩
        have t2 := HT.out.old ho2 hne
        obtain ⟨z2, x2⟩ := t2.cell (i := 9 + 1) (by decide)
        have f2 := t2.free (9 + 1)
        have T2 := Lib.hid t2
        have O2 := Lib.hid ho2
        have R2 := Lib.hid hr2
        clear t2 ho2 hr2
        go_wp2_with fail
        obtain ⟨V, hV⟩ : ∃ V, V = Value.int IntKind.u16 (IntKind.u16.wrap (y : Int)) := ⟨_, rfl⟩
        have q2 : Only (fun x => x = ps) w2 (w2.setCell ⟨ps, 9 + 1, none⟩ V) := (Only.refl _ _).setCell (S := fun x => x = ps) (p := ⟨ps, 9 + 1, none⟩) (.inr rfl) _
        go_roundg 2
        case measure => rw [Hg.out]; decide
        case rel => exact ⟨2, s3, rfl, by decide, (HO.out.trans (O2.out.weaken (fun _ _ e => .inl e))).trans ((by rw [hV] at q2; exact q2 : Only (fun x => x = ps) w2 _).weaken (fun _ _ e => .inr e)), R2.out.kept (by rw [hV] at q2; exact q2 : Only (fun x => x = ps) w2 _) (fun e => hne e.symm), hs3.out, T2.out.set (9 + 1) _, rfl⟩
    | 2, _ =>
      by_cases hq : s'.size < 2
      · have HC := Lib.hid (rnum_short wr b s' 2 HR.out (by decide) (by decide) hq)
        clear hq hsz hlt
        go_wp2_with fail
        refine HC.out.mono ?_
        rintro e w2 ⟨rfl, rfl⟩
        unfold refused
        go_wp2_with fail
        exact ⟨rfl, rfl, HO.out⟩
      · have HC := Lib.hid (rnum_ok wr b s' 2 HR.out (by decide) (by decide) (by omega))
        have hs2 := HX.out s' 2 (by omega)
        generalize s'.extract 2 s'.size = s3 at *
        have hs3 := Lib.hid (show s3.size + 4 + 2 * 3 = s.size by omega)
        generalize beN (s'.data.toList.take 2) 0 = y at *
        clear hs2 hsz hlt hq
        go_wp2_with fail
        refine HC.out.mono ?_
        rintro e w2 ⟨rfl, ho2, hr2⟩
        have t2 := HT.out.old ho2 hne
        obtain ⟨z2, x2⟩ := t2.cell (i := 9 + 2) (by decide)
        have f2 := t2.free (9 + 2)
        have T2 := Lib.hid t2
        have O2 := Lib.hid ho2
        have R2 := Lib.hid hr2
        clear t2 ho2 hr2
        go_wp2_with fail
        obtain ⟨V, hV⟩ : ∃ V, V = Value.int IntKind.u16 (IntKind.u16.wrap (y : Int)) := ⟨_, rfl⟩
        have q2 : Only (fun x => x = ps) w2 (w2.setCell ⟨ps, 9 + 2, none⟩ V) := (Only.refl _ _).setCell (S := fun x => x = ps) (p := ⟨ps, 9 + 2, none⟩) (.inr rfl) _
        go_roundg 1
        case measure => rw [Hg.out]; decide
        case rel => exact ⟨3, s3, rfl, by decide, (HO.out.trans (O2.out.weaken (fun _ _ e => .inl e))).trans ((by rw [hV] at q2; exact q2 : Only (fun x => x = ps) w2 _).weaken (fun _ _ e => .inr e)), R2.out.kept (by rw [hV] at q2; exact q2 : Only (fun x => x = ps) w2 _) (fun e => hne e.symm), hs3.out, T2.out.set (9 + 2) _, rfl⟩
    | 3, _ =>
      by_cases hq : s'.size < 2
      · have HC := Lib.hid (rnum_short wr b s' 2 HR.out (by decide) (by decide) hq)
        clear hq hsz hlt
        go_wp2_with fail
        refine HC.out.mono ?_
        rintro e w2 ⟨rfl, rfl⟩
        unfold refused
        go_wp2_with fail
        exact ⟨rfl, rfl, HO.out⟩
      · have HC := Lib.hid (rnum_ok wr b s' 2 HR.out (by decide) (by decide) (by omega))
        have hs2 := HX.out s' 2 (by omega)
        generalize s'.extract 2 s'.size = s3 at *
        have hs3 := Lib.hid (show s3.size + 4 + 2 * 4 = s.size by omega)
        generalize beN (s'.data.toList.take 2) 0 = y at *
        clear hs2 hsz hlt hq
        go_wp2_with fail
        refine HC.out.mono ?_
        rintro e w2 ⟨rfl, ho2, hr2⟩
        have t2 := HT.out.old ho2 hne
        obtain ⟨z2, x2⟩ := t2.cell (i := 9 + 3) (by decide)
        have f2 := t2.free (9 + 3)
        have T2 := Lib.hid t2
        have O2 := Lib.hid ho2
        have R2 := Lib.hid hr2
        clear t2 ho2 hr2
        go_wp2_with fail
        obtain ⟨V, hV⟩ : ∃ V, V = Value.int IntKind.u16 (IntKind.u16.wrap (y : Int)) := ⟨_, rfl⟩
        have q2 : Only (fun x => x = ps) w2 (w2.setCell ⟨ps, 9 + 3, none⟩ V) := (Only.refl _ _).setCell (S := fun x => x = ps) (p := ⟨ps, 9 + 3, none⟩) (.inr rfl) _
        go_roundg 0
        case measure => rw [Hg.out]; decide
        case rel => exact ⟨4, s3, rfl, by decide, (HO.out.trans (O2.out.weaken (fun _ _ e => .inl e))).trans ((by rw [hV] at q2; exact q2 : Only (fun x => x = ps) w2 _).weaken (fun _ _ e => .inr e)), R2.out.kept (by rw [hV] at q2; exact q2 : Only (fun x => x = ps) w2 _) (fun e => hne e.symm), hs3.out, T2.out.set (9 + 3) _, rfl⟩
end Go.Proofs.YtbdfijgejkimnaaGreatDoor
