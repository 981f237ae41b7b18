/- The walk of WantAsks. -/
import Derived.Test.YtefadkmdfhjaeaaWnt11
import Derived.Deep.CutBlock
namespace Go.Proofs.Ytefadkmdfhjaeaa
open Go.Conc Go.RowKit Go.Maps

abbrev sKey : ByteArray := ⟨#[107, 101, 121]⟩
/-- What is wanted while the nodes of O have it; where their list lies. -/
structure AAt (w w' : World) (x kb c cb : Nat) (wait t : Int) (O : List Int) (a : Option Addr) : Prop where
  out : (O = [] ∧ a = none ∧ WRun w w' x kb c cb wait 0 [] []) ∨ (O ≠ [] ∧ ∃ cap, WRun w w' x kb c cb wait 1 [⟨sKey, 7, O, a, cap⟩] [(sKey, (t, 1))])
theorem AAt.new {w w1 w2 : World} {x kb c cb : Nat} {wait t : Int} {O : List Int} {a : Option Addr} (h : AAt w w1 x kb c cb wait t O a) (ho : Only (fun _ => False) w1 w2) : AAt w w2 x kb c cb wait t O a := by
  rcases h.out with ⟨h1, h0, h2⟩ | ⟨h1, cap, h2⟩
  · exact ⟨.inl ⟨h1, h0, h2.new ho⟩⟩
  · exact ⟨.inr ⟨h1, cap, h2.new ho⟩⟩
theorem AAt.only {w w1 : World} {x kb c cb : Nat} {wait t : Int} {O : List Int} {a : Option Addr} (h : AAt w w1 x kb c cb wait t O a) : Only (fun _ => False) w w1 := by
  rcases h.out with ⟨_, _, h2⟩ | ⟨_, cap, h2⟩
  · exact h2.only
  · exact h2.only
theorem AAt.lt {w w1 : World} {x kb c cb : Nat} {wait t : Int} {O : List Int} {a : Option Addr} (h : AAt w w1 x kb c cb wait t O a) : ∀ g, a.map Addr.block = some g → g < w1.heap.size := by
  intro g hg
  rcases h.out with ⟨_, rfl, h2⟩ | ⟨hne, cap, h2⟩
  · cases hg
  · have h3 := h2.at_.rows ⟨sKey, 7, O, a, cap⟩ (by simp)
    rcases h3.2 with ⟨_, h4⟩ | ⟨g', cap', cur, h4, _, h5, _⟩
    · exact absurd (List.eq_nil_of_length_eq_zero h4) hne
    · simp only [EntW.s, Value.slice.injEq] at h4
      rw [h4.1] at hg
      simp at hg
      subst hg
      exact lt_of_block h5
/-- An append to a row of ints that is no row of an entry. -/
theorem WantAt.grown {w w' : World} {x kb c cb : Nat} {wait cnt : Int} {L : List EntW} {C : List (ByteArray × (Int × Int))} (h : WantAt w x kb c cb wait cnt L C) {base n : Nat} {v : Value} {xs : List Value} (hv : w.ownsRow base 3 1 v n xs) (hg : w.grownBy w' v.ownBlock) (hne : ∀ e ∈ L, ∀ g, v.ownBlock = some g → e.s.ownBlock ≠ some g) : WantAt w' x kb c cb wait cnt L C := by
  have ho : Only (fun k => v.ownBlock = some k) w w' := (Only.refl _ _).grown hg (fun k hk => .inr hk)
  have hB : ∀ k, v.ownBlock = some k → ∃ cs f, w.heap[k]? = some (.cells cs 3 f) := fun k hk => by
    rcases hv.2 with ⟨rfl, _⟩ | ⟨g, cap, cur, rfl, _, hb, _⟩
    · cases hk
    · simp only [Value.ownBlock, Option.some.injEq] at hk
      subst hk
      exact ⟨cur, _, hb⟩
  have hN : ∀ k, footW kb c cb k → ¬ v.ownBlock = some k := fun k hk e => by
    obtain ⟨cs, f, hb⟩ := hB k e
    exact h.foot_not k hk cs f hb
  have hX : ¬ v.ownBlock = some x := fun e => by
    obtain ⟨cs, f, hb⟩ := hB x e
    rw [h.blk] at hb
    simp only [Option.some.injEq, Obj.cells.injEq] at hb
    exact absurd hb.2.1 (by decide)
  refine ⟨ho.old h.blk hX, h.keys.kept ho (hN _ (.inl rfl)), fun e he => ?_, h.clk.kept ho (hN _ (.inr (.inl rfl))) (hN _ (.inr (.inr rfl))), h.sync, h.ne, h.small⟩
  refine ⟨(h.rows e he).1, ?_⟩
  rcases (h.rows e he).2 with h2 | ⟨g, cap, cur, e9, hb, hg', r⟩
  · exact .inl h2
  · exact .inr ⟨g, cap, cur, e9, hb, ho.old hg' (fun hs => hne e he g hs (by rw [e9]; rfl)), r⟩
theorem AAt.grown {w w1 w2 : World} {x kb c cb : Nat} {wait t : Int} {O : List Int} {a : Option Addr} (h : AAt w w1 x kb c cb wait t O a) {base n : Nat} {v : Value} {xs : List Value} (hv : w1.ownsRow base 3 1 v n xs) (hb : w.heap.size ≤ base) (hg : w1.grownBy w2 v.ownBlock) (hne : ∀ g, v.ownBlock = some g → a.map Addr.block ≠ some g) : AAt w w2 x kb c cb wait t O a := by
  have ho : Only (fun _ => False) w w2 := h.only.grown hg (fun k hk => by
    rcases hv.2 with ⟨rfl, _⟩ | ⟨g, cap, cur, rfl, hb', _⟩
    · cases hk
    · simp only [Value.ownBlock, Option.some.injEq] at hk
      exact .inl (by omega))
  rcases h.out with ⟨h1, h0, h2⟩ | ⟨h1, cap, h2⟩
  · exact ⟨.inl ⟨h1, h0, ⟨h2.at_.grown hv hg (fun e he => by cases he), ho, h2.foot⟩⟩⟩
  · refine ⟨.inr ⟨h1, cap, ⟨h2.at_.grown hv hg (fun e he g hg' => ?_), ho, h2.foot⟩⟩⟩
    obtain rfl : e = _ := by simpa using he
    have h9 := hne g hg'
    cases a with
    | none => intro h8; cases h8
    | some a => exact h9
def addO (O : List Int) (n : Int) : List Int := if n ∈ O then O else O ++ [n]
structure AHeard (w w1 w' : World) (x kb c cb : Nat) (wait t : Int) (O : List Int) (a : Option Addr) (n : Int) (e : Ending) : Prop where
  out : ∃ a', e = .returned (.bool true) ∧ AAt w w' x kb c cb wait t (addO O n) a' ∧ Only (footW kb c cb) w1 w' ∧ (a' = a ∨ ∀ g, a'.map Addr.block = some g → w1.heap.size ≤ g)
theorem own_map {a : Option Addr} {n cap : Nat} {g : Nat} (h : a.map Addr.block = some g) : (Value.slice a n cap).ownBlock = some g := by
  cases a with
  | none => cases h
  | some a => exact h
theorem aat_heard {w w1 : World} {x kb c cb : Nat} {wait now : Int} {O : List Int} {a : Option Addr} (h : AAt w w1 x kb c cb wait (min now 4611686018427387904 + wait) O a) (n : Int) (h1 : 1 ≤ n) (h2 : n ≤ 65535) (hO : O.length < 64) (hw0 : 0 ≤ wait) (hw1 : wait ≤ 1000) (hnow : -9223372036854775808 ≤ now) :
    Calls Try.prog 8 #[.pointer (some ⟨x, 0, none⟩), .agg #[.string sKey, .int .u64 7], .int .i64 n, .int .i64 now] w1 fun e w' => AHeard w w1 w' x kb c cb wait (min now 4611686018427387904 + wait) O a n e := by
  rcases h.out with ⟨rfl, rfl, hr⟩ | ⟨hne, cap, hr⟩
  · refine (wrun_heard hr sKey (by decide) 7 n now hw0 hw1 hnow (by omega) (by omega) (by simp)).mono ?_
    rintro e w' hh
    obtain ⟨b, L', C', cnt', rfl, hs, hr2, ho2, hf⟩ := hh.out
    obtain ⟨rfl, ⟨a1, c1, rfl⟩, rfl, rfl⟩ := hs.first h1 h2
    refine ⟨a1, rfl, ⟨.inr ⟨by simp [addO], c1, by simpa [addO] using hr2⟩⟩, ho2, .inr fun g hg => ?_⟩
    rcases hf _ (List.mem_singleton.2 rfl) with h9 | h9
    · cases h9
    · exact h9 g (own_map hg)
  · refine (wrun_heard hr sKey (by decide) 7 n now hw0 hw1 hnow (by omega) (by omega) (by simp)).mono ?_
    rintro e w' hh
    obtain ⟨b, L', C', cnt', rfl, hs, hr2, ho2, hf⟩ := hh.out
    obtain ⟨rfl, rfl, rfl, hcase⟩ := HStep.again (e := ⟨sKey, 7, O, a, cap⟩) hs h1 h2 hO
    rcases hcase with ⟨hm, rfl⟩ | ⟨hm, a1, c1, rfl⟩
    · have hm' : n ∈ O := hm
      exact ⟨a, rfl, ⟨.inr ⟨by unfold addO; rw [if_pos hm']; exact hne, cap, by unfold addO; rw [if_pos hm']; exact hr2⟩⟩, ho2, .inl rfl⟩
    · have hm' : ¬ n ∈ O := hm
      refine ⟨a1, rfl, ⟨.inr ⟨by unfold addO; rw [if_neg hm']; simp, c1, by unfold addO; rw [if_neg hm']; exact hr2⟩⟩, ho2, ?_⟩
      rcases hf _ (List.mem_singleton.2 rfl) with h9 | h9
      · obtain h8 := List.mem_singleton.1 h9
        simp only [EntW.mk.injEq] at h8
        exact .inl h8.2.2.2.1
      · exact .inr fun g hg => h9 g (own_map hg)
/-- What is wanted while R is still to be asked, the next at t. -/
structure BAt (w w' : World) (x kb c cb : Nat) (wait t : Int) (R : List Int) : Prop where
  out : ∃ cnt : Int, 0 ≤ cnt ∧ cnt + R.length ≤ 200 ∧ ((R = [] ∧ WRun w w' x kb c cb wait cnt [] []) ∨ (R ≠ [] ∧ ∃ a cap o, WRun w w' x kb c cb wait cnt [⟨sKey, 7, R, a, cap⟩] [(sKey, (t, o))]))
theorem AAt.to {w w' : World} {x kb c cb : Nat} {wait t : Int} {O : List Int} {a : Option Addr} (h : AAt w w' x kb c cb wait t O a) (hO : O.length ≤ 64) : BAt w w' x kb c cb wait t O := by
  rcases h.out with ⟨rfl, _, h2⟩ | ⟨h1, cap, h2⟩
  · exact ⟨0, by omega, by simp, .inl ⟨rfl, h2⟩⟩
  · exact ⟨1, by omega, by omega, .inr ⟨h1, a, cap, 1, h2⟩⟩
theorem BAt.only {w w' : World} {x kb c cb : Nat} {wait t : Int} {R : List Int} (h : BAt w w' x kb c cb wait t R) : Only (fun _ => False) w w' := by
  obtain ⟨cnt, _, _, h2⟩ := h.out
  rcases h2 with ⟨_, h2⟩ | ⟨_, a, cap, o, h2⟩
  · exact h2.only
  · exact h2.only
/-- Nobody is asked. -/
structure BNone (w w1 w' : World) (x kb c cb : Nat) (wait t : Int) (R : List Int) (e : Ending) : Prop where
  out : ∃ sa sc, e = .returned (.slice sa 0 sc) ∧ BAt w w' x kb c cb wait t R ∧ Only (footW kb c cb) w1 w'
theorem due_end {w1 w' : World} {v : Value} {A : List AskT} (h : w'.ownsRow w1.heap.size 36 3 v A.length (A.flatMap askC)) (hA : A = []) : ∃ sa sc, v = .slice sa 0 sc := by
  subst hA
  obtain ⟨_, sa, sc, rfl, _⟩ := Sl.of_owns h
  exact ⟨sa, sc, rfl⟩
theorem bat_early {w w1 : World} {x kb c cb : Nat} {wait t : Int} {R : List Int} (h : BAt w w1 x kb c cb wait t R) (now : Int) (hn : now < t ∨ R = []) (hw0 : 0 ≤ wait) (hw1 : wait ≤ 1000) (hnow : -9223372036854775808 ≤ now) :
    Calls Try.prog 9 #[.pointer (some ⟨x, 0, none⟩), .int .i64 now] w1 fun e w' => BNone w w1 w' x kb c cb wait t R e := by
  obtain ⟨cnt, hc0, hc1, h2⟩ := h.out
  rcases h2 with ⟨rfl, hr⟩ | ⟨hne, a, cap, o, hr⟩
  · refine (wrun_due hr now hw0 hw1 hnow hc0 (by simp at hc1; omega) (by simp)).mono ?_
    rintro e w' hd
    obtain ⟨v, D, A, L', C', cnt', rfl, hp, hd, hr2, ho, hrow⟩ := hd.out
    obtain ⟨rfl, rfl, rfl, rfl⟩ := hd.none (List.Perm.eq_nil hp)
    obtain ⟨sa, sc, rfl⟩ := due_end hrow rfl
    exact ⟨sa, sc, rfl, ⟨_, hc0, hc1, .inl ⟨rfl, hr2⟩⟩, ho⟩
  · have hlt : now < t := hn.elim id (fun e9 => absurd e9 hne)
    refine (wrun_due hr now hw0 hw1 hnow hc0 (by omega) (by simp)).mono ?_
    rintro e w' hd
    obtain ⟨v, D, A, L', C', cnt', rfl, hp, hd, hr2, ho, hrow⟩ := hd.out
    have eD := due_one hp
    rw [if_pos hlt] at eD
    rw [due_left, if_pos hlt] at hd
    obtain ⟨rfl, rfl, rfl, rfl⟩ := hd.none eD
    obtain ⟨sa, sc, rfl⟩ := due_end hrow rfl
    exact ⟨sa, sc, rfl, ⟨_, hc0, hc1, .inr ⟨hne, a, cap, o, hr2⟩⟩, ho⟩
theorem BAt.new {w w1 w2 : World} {x kb c cb : Nat} {wait t : Int} {R : List Int} (h : BAt w w1 x kb c cb wait t R) (ho : Only (fun _ => False) w1 w2) : BAt w w2 x kb c cb wait t R := by
  obtain ⟨cnt, hc0, hc1, h2⟩ := h.out
  refine ⟨cnt, hc0, hc1, ?_⟩
  rcases h2 with ⟨h9, h2⟩ | ⟨h9, a, cap, o, h2⟩
  · exact .inl ⟨h9, h2.new ho⟩
  · exact .inr ⟨h9, a, cap, o, h2.new ho⟩
theorem bat_ids {w w1 : World} {x kb c cb : Nat} {wait t : Int} (h : BAt w w1 x kb c cb wait t []) :
    Calls Try.prog 10 #[.pointer (some ⟨x, 0, none⟩)] w1 fun e w' => BNone w w1 w' x kb c cb wait t [] e := by
  obtain ⟨cnt, hc0, hc1, h2⟩ := h.out
  rcases h2 with ⟨_, hr⟩ | ⟨h9, _⟩
  · refine (wrun_ids hr (by simp)).mono ?_
    rintro e w' hd
    obtain ⟨v, S, rfl, hs, ho, hr2, hrow⟩ := hd.out
    obtain rfl : S = [] := List.Perm.eq_nil hs.1
    obtain ⟨_, sa, sc, rfl, _⟩ := Sl.of_owns hrow
    exact ⟨sa, sc, rfl, ⟨_, hc0, hc1, .inl ⟨rfl, hr2⟩⟩, ho.weaken (fun _ _ => False.elim)⟩
  · exact absurd rfl h9
/-- The next one is asked. -/
structure BOne (w w1 w' : World) (x kb c cb : Nat) (wait t : Int) (h0 : Int) (R : List Int) (e : Ending) : Prop where
  out : ∃ g cap, e = .returned (.slice (some ⟨g, 0, none⟩) 1 cap) ∧ w1.heap.size ≤ g ∧ w'.cell? ⟨g, 0, none⟩ = some (.int .i64 h0) ∧ w'.cell? ⟨g, 1, none⟩ = some (.string sKey) ∧ w'.cell? ⟨g, 2, none⟩ = some (.int .u64 7) ∧ BAt w w' x kb c cb wait t R ∧ Only (footW kb c cb) w1 w'
theorem bat_due {w w1 : World} {x kb c cb : Nat} {wait t : Int} {h0 : Int} {R : List Int} (h : BAt w w1 x kb c cb wait t (h0 :: R)) (now : Int) (hn : ¬ now < t) (hw0 : 0 ≤ wait) (hw1 : wait ≤ 1000) (hnow : -9223372036854775808 ≤ now) :
    Calls Try.prog 9 #[.pointer (some ⟨x, 0, none⟩), .int .i64 now] w1 fun e w' => BOne w w1 w' x kb c cb wait (min now 4611686018427387904 + wait) h0 R e := by
  obtain ⟨cnt, hc0, hc1, h2⟩ := h.out
  rcases h2 with ⟨h9, _⟩ | ⟨_, a, cap, o, hr⟩
  · cases h9
  refine (wrun_due hr now hw0 hw1 hnow hc0 (by omega) (by simp)).mono ?_
  rintro e w' hd
  obtain ⟨v, D, A, L', C', cnt', rfl, hp, hd, hr2, ho, hrow⟩ := hd.out
  have eD := due_one hp
  rw [if_neg hn] at eD
  rw [due_left, if_neg hn] at hd
  obtain ⟨rfl, hc9⟩ := DRun.one (e := ⟨sKey, 7, h0 :: R, a, cap⟩) hd eD rfl
  obtain ⟨g, gc, rfl, hg, e0, e1, e2⟩ := asks_one hrow
  simp only [List.length_cons] at hc1
  refine ⟨g, gc, rfl, hg, e0, e1, e2, ?_, ho⟩
  rcases hc9 with ⟨rfl, rfl, rfl, rfl⟩ | ⟨hne, ⟨a', cap', rfl⟩, rfl, rfl⟩
  · exact ⟨_, hc0, by simp at hc1 ⊢; omega, .inl ⟨rfl, hr2⟩⟩
  · exact ⟨_, by omega, by omega, .inr ⟨hne, a', cap', cnt + 1, hr2⟩⟩
end Go.Proofs.Ytefadkmdfhjaeaa
