/- What is wanted by a Want that a call made. -/
import Derived.Test.YtefadkmdfhjaeaaWnt9
namespace Go.Proofs.Ytefadkmdfhjaeaa
open Go.Conc Go.RowKit Go.Maps

/-- A Want made behind w. -/
structure WRun (w w' : World) (x kb c cb : Nat) (wait cnt : Int) (L : List EntW) (C : List (ByteArray × (Int × Int))) : Prop where
  at_ : WantAt w' x kb c cb wait cnt L C
  only : Only (fun _ => False) w w'
  foot : w.heap.size ≤ kb ∧ w.heap.size ≤ c ∧ w.heap.size ≤ cb
theorem WRun.new {w w1 w2 : World} {x kb c cb : Nat} {wait cnt : Int} {L : List EntW} {C : List (ByteArray × (Int × Int))} (h : WRun w w1 x kb c cb wait cnt L C) (ho : Only (fun _ => False) w1 w2) : WRun w w2 x kb c cb wait cnt L C := ⟨h.at_.new ho, h.only.trans ho, h.foot⟩
theorem WRun.step {w w1 w2 : World} {x kb c cb : Nat} {wait cnt cnt' : Int} {L L' : List EntW} {C C' : List (ByteArray × (Int × Int))} (h : WRun w w1 x kb c cb wait cnt L C) (h2 : WantAt w2 x kb c cb wait cnt' L' C') (ho : Only (footW kb c cb) w1 w2) : WRun w w2 x kb c cb wait cnt' L' C' :=
  ⟨h2, h.only.tr ho (fun i hi hf => by
    have := h.foot
    rcases hf with hf | hf | hf <;> omega), h.foot⟩
theorem wrun_new (w : World) (m : Int) : Calls Try.prog 7 #[.int .i64 m] w fun e w' => ∃ x kb c cb, e = .returned (.pointer (some ⟨x, 0, none⟩)) ∧ WRun w w' x kb c cb (min (max m 0) 1000) 0 [] [] := by
  refine (wnew_any w m).mono ?_
  rintro e w' ⟨x, kb, c, cb, rfl, h1, h2, h3, h4, h5, h6⟩
  exact ⟨x, kb, c, cb, rfl, h2, h1, h4, h5, h6⟩
/-- What Heard leaves. -/
structure HRun (w w1 w' : World) (x kb c cb : Nat) (wait cnt : Int) (L : List EntW) (C : List (ByteArray × (Int × Int))) (k : ByteArray) (ver : Nat) (fr at_ : Int) (e : Ending) : Prop where
  out : ∃ b L' C' cnt', e = .returned (.bool b) ∧ HStep L C cnt L' C' cnt' k ver fr at_ b ∧ WRun w w' x kb c cb wait cnt' L' C' ∧ Only (footW kb c cb) w1 w' ∧ FreshW w1 L L'
theorem wrun_heard {w w1 : World} {x kb c cb : Nat} {wait cnt : Int} {L : List EntW} {C : List (ByteArray × (Int × Int))} (h : WRun w w1 x kb c cb wait cnt L C) (k : ByteArray) (hk : k.size ≤ maxLen) (ver : Nat) (fr now : Int) (hw0 : 0 ≤ wait) (hw1 : wait ≤ 1000) (hnow : -9223372036854775808 ≤ now) (hcnt0 : 0 ≤ cnt) (hcnt : cnt < 1000000) (hL : L.length ≤ 1000) :
    Calls Try.prog 8 #[.pointer (some ⟨x, 0, none⟩), .agg #[.string k, .int .u64 ver], .int .i64 fr, .int .i64 now] w1 fun e w' => HRun w w1 w' x kb c cb wait cnt L C k ver fr (min now 4611686018427387904 + wait) e := by
  refine (wheard_any w1 x kb c cb wait cnt L C h.at_ k hk ver fr now hw0 hw1 hnow hcnt0 hcnt hL).mono ?_
  rintro e w' ⟨b, rfl, hp⟩
  obtain ⟨L', C', cnt', q1, q2, q3, q4⟩ := hp.out
  exact ⟨b, L', C', cnt', rfl, q3, h.step q1 q2, q2, q4⟩
/-- What Due leaves. -/
structure DRunW (w w1 w' : World) (x kb c cb : Nat) (wait cnt : Int) (L : List EntW) (C : List (ByteArray × (Int × Int))) (now at_ : Int) (e : Ending) : Prop where
  out : ∃ v D A L' C' cnt', e = .returned v ∧ D.Perm ((C.filter (fun p => !decide (now < p.2.1))).map (·.1)) ∧ DRun at_ L (C.filter (fun p => decide (now < p.2.1))) cnt D A L' C' cnt' ∧ WRun w w' x kb c cb wait cnt' L' C' ∧ Only (footW kb c cb) w1 w' ∧ w'.ownsRow w1.heap.size 36 3 v A.length (A.flatMap askC)
theorem wrun_due {w w1 : World} {x kb c cb : Nat} {wait cnt : Int} {L : List EntW} {C : List (ByteArray × (Int × Int))} (h : WRun w w1 x kb c cb wait cnt L C) (now : Int) (hw0 : 0 ≤ wait) (hw1 : wait ≤ 1000) (hnow : -9223372036854775808 ≤ now) (hcnt0 : 0 ≤ cnt) (hcnt : cnt < 900000) (hL : L.length ≤ 64) :
    Calls Try.prog 9 #[.pointer (some ⟨x, 0, none⟩), .int .i64 now] w1 fun e w' => DRunW w w1 w' x kb c cb wait cnt L C now (min now 4611686018427387904 + wait) e := by
  refine (wdue_any w1 x kb c cb wait cnt L C h.at_ now hw0 hw1 hnow hcnt0 hcnt hL).mono ?_
  rintro e w' ⟨v, rfl, hp⟩
  obtain ⟨D, A, L', C', cnt', q1, _, q3, q4, q5, q6⟩ := hp.out
  exact ⟨v, D, A, L', C', cnt', rfl, q1, q3, h.step q4 q5, q5, q6⟩
/-- What Ids leaves. -/
structure IRun (w w1 w' : World) (x kb c cb : Nat) (wait cnt : Int) (L : List EntW) (C : List (ByteArray × (Int × Int))) (e : Ending) : Prop where
  out : ∃ v S, e = .returned v ∧ SortedW S L ∧ Only (fun _ => False) w1 w' ∧ WRun w w' x kb c cb wait cnt L C ∧ w'.ownsRow w1.heap.size 29 2 v S.length (S.flatMap idW)
theorem wrun_ids {w w1 : World} {x kb c cb : Nat} {wait cnt : Int} {L : List EntW} {C : List (ByteArray × (Int × Int))} (h : WRun w w1 x kb c cb wait cnt L C) (hL : L.length ≤ 1000) :
    Calls Try.prog 10 #[.pointer (some ⟨x, 0, none⟩)] w1 fun e w' => IRun w w1 w' x kb c cb wait cnt L C e := by
  refine (wids_any w1 x kb c cb wait cnt L C h.at_ hL).mono ?_
  rintro e w' ⟨v, rfl, ho, S, hs, hr⟩
  exact ⟨v, S, rfl, hs, ho, h.new ho, hr⟩
end Go.Proofs.Ytefadkmdfhjaeaa
