/- A mesh: Len, Take, Break, Send. -/
import Derived.Test.YtjgcbcahikemdaaMesh1
namespace Go.Proofs.Ytjgcbcahikemdaa
open Go.Conc Go.RowKit Go.Maps

/-- What lies on which way. -/
abbrev Ways := Int → Int → List (Bool × ByteArray)
def setG (G : Ways) (a b : Int) (l : List (Bool × ByteArray)) : Ways := fun x y => if x = a ∧ y = b then l else G x y
def brk1 (G : Ways) (a b : Int) : Ways := setG G a b [(true, ⟨#[]⟩)]
def breakG (lv : List Int) (G : Ways) (a b : Int) : Ways := if a ∈ lv ∧ b ∈ lv ∧ a ≠ b then brk1 (brk1 G a b) b a else G
def sendG (lv : List Int) (G : Ways) (a b : Int) (s : ByteArray) : Ways :=
  if a ∈ lv ∧ a ≠ b then (if b ∈ lv then (if (G a b).length < 64 then setG G a b (G a b ++ [(false, s)]) else breakG lv G a b) else brk1 G b a) else G
/-- A mesh behind a step: the same block and maps. -/
structure MPost (w w' : World) (m lb pb : Nat) (lv : List Int) (L : PMap) (G : Ways) (n : Nat) : Prop where
  out : ∃ L', MeshAt w' m lb pb lv L' ∧ Step (foot lb pb L) (foot lb pb L') w w' ∧ (∀ x y, getM L' x y = G x y) ∧ L'.length ≤ L.length + n
theorem MPost.same {w w' : World} {m lb pb : Nat} {lv : List Int} {L : PMap} (h : MeshAt w m lb pb lv L) (ho : Only (fun _ => False) w w') (n : Nat) : MPost w w' m lb pb lv L (getM L) n := ⟨L, h.new ho, Step.of ho, fun _ _ => rfl, by omega⟩
theorem MPost.of {w w' : World} {m lb pb : Nat} {lv : List Int} {L : PMap} {G G' : Ways} {n n' : Nat} (h : MPost w w' m lb pb lv L G n) (hG : ∀ x y, G x y = G' x y) (hn : n ≤ n') : MPost w w' m lb pb lv L G' n' := by
  obtain ⟨L', h1, h2, h3, h4⟩ := h.out
  exact ⟨L', h1, h2, fun x y => (h3 x y).trans (hG x y), by omega⟩
/-- A pipe is taken, and what lies in it is changed. -/
theorem PipePost.upd {w w1 w2 : World} {m lb pb : Nat} {lv : List Int} {L : PMap} {a b : Int} {L1 : PMap} {d : PipeD} (h1 : MeshAt w1 m lb pb lv L1) (h2 : Step (foot lb pb L) (foot lb pb L1) w w1) (h3 : lookL L1 (a, b) = some (some d)) (h5 : ∀ x y, getM L1 x y = getM L x y) (h6 : L1.length ≤ L.length + 1)
    {l : List (Bool × ByteArray)} (ho : Only (· = d.c) w1 w2) (hp : PipeAt w2 d.p d.c (items l)) (hn : l.length ≤ 64) : MPost w w2 m lb pb lv L (setG (getM L) a b l) 1 := by
  obtain ⟨k1, k2⟩ := h1.upd h3 ho hp hn
  refine ⟨_, k1, h2.trans k2, fun x y => ?_, ?_⟩
  · rw [get_setD h3 l x y]
    unfold setG
    rw [h5]
  · show (setD L1 (a, b) l).length ≤ _
    unfold setD
    rw [List.length_map]
    exact h6
theorem mlive_yes (w : World) (m lb pb : Nat) (lv : List Int) (L : PMap) (h : MeshAt w m lb pb lv L) (n : Int) (hn : (Lit.int .i64 n).wf = true) (hv : n ∈ lv) :
    Calls Try.prog 39 #[.pointer (some ⟨m, 0, none⟩), .int .i64 n] w fun e w' => e = .returned (.bool true) ∧ w = w' := by
  have := mlive_any w m lb pb lv L h n hn
  rwa [decide_eq_true hv] at this
theorem mlive_no (w : World) (m lb pb : Nat) (lv : List Int) (L : PMap) (h : MeshAt w m lb pb lv L) (n : Int) (hn : (Lit.int .i64 n).wf = true) (hv : n ∉ lv) :
    Calls Try.prog 39 #[.pointer (some ⟨m, 0, none⟩), .int .i64 n] w fun e w' => e = .returned (.bool false) ∧ w = w' := by
  have := mlive_any w m lb pb lv L h n hn
  rwa [decide_eq_false hv] at this
set_option maxRecDepth 100000 in
set_option maxHeartbeats 2000000 in
theorem mbreak_any (w : World) (m lb pb : Nat) (lv : List Int) (L : PMap) (h : MeshAt w m lb pb lv L) (a b : Int) (ha : (Lit.int .i64 a).wf = true) (hb : (Lit.int .i64 b).wf = true) (hL : L.length < 999990) :
    Calls Try.prog 29 #[.pointer (some ⟨m, 0, none⟩), .int .i64 a, .int .i64 b] w fun e w' => e = .returned (.tuple #[]) ∧ MPost w w' m lb pb lv L (breakG lv (getM L) a b) 2 := by
  have HM := Lib.hid h
  by_cases h1 : a ∈ lv
  case neg =>
    have HA := Lib.hid (mlive_no w m lb pb lv L h a ha h1)
    have HG := Lib.hid (show breakG lv (getM L) a b = getM L from if_neg (fun e => h1 e.1))
    clear h ha hb h1
    go_enter Try.func29, Try.ntmps29
    go_wp2_with fail
    refine HA.out.mono ?_
    rintro e w' ⟨rfl, rfl⟩
    go_wp2_with fail
    go_end0
    exact ⟨rfl, by rw [HG.out]; exact MPost.same HM.out (Only.refl _ _) 2⟩
  by_cases h2 : b ∈ lv
  case neg =>
    have HA := Lib.hid (mlive_yes w m lb pb lv L h a ha h1)
    have HB := Lib.hid (mlive_no w m lb pb lv L h b hb h2)
    have HG := Lib.hid (show breakG lv (getM L) a b = getM L from if_neg (fun e => h2 e.2.1))
    clear h ha hb h1 h2
    go_enter Try.func29, Try.ntmps29
    go_wp2_with fail
    refine HA.out.mono ?_
    rintro e w' ⟨rfl, rfl⟩
    go_wp2_with fail
    refine HB.out.mono ?_
    rintro e w' ⟨rfl, rfl⟩
    go_wp2_with fail
    go_end0
    exact ⟨rfl, by rw [HG.out]; exact MPost.same HM.out (Only.refl _ _) 2⟩
  have HA := Lib.hid (mlive_yes w m lb pb lv L h a ha h1)
  have HB := Lib.hid (mlive_yes w m lb pb lv L h b hb h2)
  by_cases h3 : a = b
  · have HG := Lib.hid (show breakG lv (getM L) a b = getM L from if_neg (fun e => e.2.2 h3))
    clear h ha hb h1 h2
    subst h3
    go_enter Try.func29, Try.ntmps29
    go_wp2_with fail
    refine HA.out.mono ?_
    rintro e w' ⟨rfl, rfl⟩
    go_wp2_with fail
    refine HB.out.mono ?_
    rintro e w' ⟨rfl, rfl⟩
    go_wp2_with fail
    go_end0
    exact ⟨rfl, by rw [HG.out]; exact MPost.same HM.out (Only.refl _ _) 2⟩
  · have HG := Lib.hid (show breakG lv (getM L) a b = brk1 (brk1 (getM L) a b) b a from if_pos ⟨h1, h2, h3⟩)
    have HP := Lib.hid (mpipe_any w m lb pb lv L h a b ha hb (by omega))
    have HQ := Lib.hid (fun w' L' (h' : MeshAt w' m lb pb lv L') (hn : L'.length < 1000000) => mpipe_any w' m lb pb lv L' h' b a hb ha hn)
    clear h ha hb h1 h2
    go_enter Try.func29, Try.ntmps29
    go_wp2_with fail
    refine HA.out.mono ?_
    rintro e w' ⟨rfl, rfl⟩
    go_wp2_with fail
    refine HB.out.mono ?_
    rintro e w' ⟨rfl, rfl⟩
    go_wp2_with fail
    refine HP.out.mono ?_
    rintro e w1 ⟨v, rfl, hv⟩
    unfold PipePost at hv
    obtain ⟨L1, d, rfl, k1, k2, k3, k4, k5, k6⟩ := hv
    obtain ⟨d', e1, k7, k8⟩ := k1.pipe _ (look_mem k3)
    cases e1
    have HP2 := Lib.hid (break_any w1 d.p d.c d.l k7)
    have HK := Lib.hid (fun w2 ho hp => PipePost.upd (w2 := w2) k1 k2 k3 k5 k6 ho hp (show [(true, (⟨#[]⟩ : ByteArray))].length ≤ 64 by decide))
    clear k1 k2 k3 k4 k5 k6 k7 k8
    go_wp2_with fail
    refine HP2.out.mono ?_
    rintro e w2 ⟨rfl, ho2, hp2⟩
    obtain ⟨L2, q1, q2, q3, q4⟩ := (HK.out w2 ho2 hp2).out
    have HQ2 := Lib.hid (HQ.out w2 L2 q1 (by omega))
    have Q2 := Lib.hid q2
    have Q3 := Lib.hid q3
    have Q4 := Lib.hid q4
    clear q2 q3 q4
    clear q1 ho2 hp2
    go_wp2_with fail
    refine HQ2.out.mono ?_
    rintro e w3 ⟨v, rfl, hv⟩
    unfold PipePost at hv
    obtain ⟨L3, d, rfl, k1, k2, k3, k4, k5, k6⟩ := hv
    obtain ⟨d', e1, k7, k8⟩ := k1.pipe _ (look_mem k3)
    cases e1
    have HP3 := Lib.hid (break_any w3 d.p d.c d.l k7)
    have HK3 := Lib.hid (fun w2 ho hp => PipePost.upd (w2 := w2) k1 k2 k3 k5 k6 ho hp (show [(true, (⟨#[]⟩ : ByteArray))].length ≤ 64 by decide))
    clear k1 k2 k3 k4 k5 k6 k7 k8
    go_wp2_with fail
    refine HP3.out.mono ?_
    rintro e w4 ⟨rfl, ho4, hp4⟩
    obtain ⟨L4, r1, r2, r3, r4⟩ := (HK3.out w4 ho4 hp4).out
    have R1 := Lib.hid r1
    have R2 := Lib.hid r2
    have R3 := Lib.hid r3
    have R4 := Lib.hid r4
    clear r1 r2 r3 r4
    clear ho4 hp4
    go_wp2_with fail
    go_end0
    refine ⟨rfl, ?_⟩
    rw [HG.out]
    refine ⟨L4, R1.out, Q2.out.trans R2.out, fun x y => ?_, by have := Q4.out; have := R4.out; omega⟩
    rw [R3.out]
    unfold brk1 setG
    rw [Q3.out]
    rfl
set_option maxRecDepth 100000 in
set_option maxHeartbeats 2000000 in
theorem msend_any (w : World) (m lb pb : Nat) (lv : List Int) (L : PMap) (h : MeshAt w m lb pb lv L) (a b : Int) (s : ByteArray) (ha : (Lit.int .i64 a).wf = true) (hb : (Lit.int .i64 b).wf = true) (hL : L.length < 999980) :
    Calls Try.prog 32 #[.pointer (some ⟨m, 0, none⟩), .int .i64 a, .int .i64 b, .string s] w fun e w' => e = .returned (.tuple #[]) ∧ MPost w w' m lb pb lv L (sendG lv (getM L) a b s) 3 := by
  have HM := Lib.hid h
  by_cases h1 : a ∈ lv
  case neg =>
    have HA := Lib.hid (mlive_no w m lb pb lv L h a ha h1)
    have HG := Lib.hid (show sendG lv (getM L) a b s = getM L from if_neg (fun e => h1 e.1))
    clear h ha hb h1
    go_enter Try.func32, Try.ntmps32
    go_wp2_with fail
    refine HA.out.mono ?_
    rintro e w' ⟨rfl, rfl⟩
    go_wp2_with fail
    go_end0
    exact ⟨rfl, by rw [HG.out]; exact MPost.same HM.out (Only.refl _ _) 3⟩
  have HA := Lib.hid (mlive_yes w m lb pb lv L h a ha h1)
  by_cases h3 : a = b
  · have HG := Lib.hid (show sendG lv (getM L) a b s = getM L from if_neg (fun e => e.2 h3))
    clear h ha hb h1
    subst h3
    go_enter Try.func32, Try.ntmps32
    go_wp2_with fail
    refine HA.out.mono ?_
    rintro e w' ⟨rfl, rfl⟩
    go_wp2_with fail
    go_end0
    exact ⟨rfl, by rw [HG.out]; exact MPost.same HM.out (Only.refl _ _) 3⟩
  by_cases h2 : b ∈ lv
  case neg =>
    have HB := Lib.hid (mlive_no w m lb pb lv L h b hb h2)
    have HG := Lib.hid (show sendG lv (getM L) a b s = brk1 (getM L) b a from by unfold sendG; rw [if_pos ⟨h1, h3⟩, if_neg h2])
    have HP := Lib.hid (mpipe_any w m lb pb lv L h b a hb ha (by omega))
    clear h ha hb h1 h2
    go_enter Try.func32, Try.ntmps32
    go_wp2_with fail
    refine HA.out.mono ?_
    rintro e w' ⟨rfl, rfl⟩
    go_wp2_with fail
    refine HB.out.mono ?_
    rintro e w' ⟨rfl, rfl⟩
    go_wp2_with fail
    refine HP.out.mono ?_
    rintro e w1 ⟨v, rfl, hv⟩
    unfold PipePost at hv
    obtain ⟨L1, d, rfl, k1, k2, k3, k4, k5, k6⟩ := hv
    obtain ⟨d', e1, k7, k8⟩ := k1.pipe _ (look_mem k3)
    cases e1
    have HP2 := Lib.hid (break_any w1 d.p d.c d.l k7)
    have HK := Lib.hid (fun w2 ho hp => PipePost.upd (w2 := w2) k1 k2 k3 k5 k6 ho hp (show [(true, (⟨#[]⟩ : ByteArray))].length ≤ 64 by decide))
    clear k1 k2 k3 k4 k5 k6 k7 k8
    go_wp2_with fail
    refine HP2.out.mono ?_
    rintro e w2 ⟨rfl, ho2, hp2⟩
    have HF := Lib.hid (HK.out w2 ho2 hp2)
    clear ho2 hp2
    go_wp2_with fail
    go_end0
    exact ⟨rfl, by rw [HG.out]; exact HF.out.of (fun _ _ => rfl) (by omega)⟩
  have HB := Lib.hid (mlive_yes w m lb pb lv L h b hb h2)
  have HP := Lib.hid (mpipe_any w m lb pb lv L h a b ha hb (by omega))
  have HBR := Lib.hid (fun w' L' (h' : MeshAt w' m lb pb lv L') (hn : L'.length < 999990) => mbreak_any w' m lb pb lv L' h' a b ha hb hn)
  have HG1 := Lib.hid (show (getM L a b).length < 64 → sendG lv (getM L) a b s = setG (getM L) a b (getM L a b ++ [(false, s)]) from fun e => by unfold sendG; rw [if_pos ⟨h1, h3⟩, if_pos h2, if_pos e])
  have HG2 := Lib.hid (show ¬ (getM L a b).length < 64 → sendG lv (getM L) a b s = brk1 (brk1 (getM L) a b) b a from fun e => by unfold sendG breakG; rw [if_pos ⟨h1, h3⟩, if_pos h2, if_neg e, if_pos ⟨h1, h2, h3⟩])
  have HLV := Lib.hid (show a ∈ lv ∧ b ∈ lv ∧ a ≠ b from ⟨h1, h2, h3⟩)
  clear h ha hb h1 h2
  go_enter Try.func32, Try.ntmps32
  go_wp2_with fail
  refine HA.out.mono ?_
  rintro e w' ⟨rfl, rfl⟩
  go_wp2_with fail
  refine HB.out.mono ?_
  rintro e w' ⟨rfl, rfl⟩
  go_wp2_with fail
  refine HP.out.mono ?_
  rintro e w1 ⟨v, rfl, hv⟩
  unfold PipePost at hv
  obtain ⟨L1, d, rfl, k1, k2, k3, k4, k5, k6⟩ := hv
  obtain ⟨d', e1, k7, k8⟩ := k1.pipe _ (look_mem k3)
  cases e1
  by_cases hr : (getM L a b).length < 64
  · have HP2 := Lib.hid (send_room w1 d.p d.c (items d.l) s k7 (by unfold items; rw [List.length_map, k4]; exact hr))
    have HK := Lib.hid (fun w2 ho hp => PipePost.upd (w2 := w2) (l := getM L a b ++ [(false, s)]) k1 k2 k3 k5 k6 ho hp (by rw [List.length_append]; simp; omega))
    have HE := Lib.hid (show items d.l ++ [.agg #[.bool false, .string s]] = items (getM L a b ++ [(false, s)]) by rw [k4]; unfold items; rw [List.map_append]; rfl)
    have HG := Lib.hid (HG1.out hr)
    clear k1 k2 k3 k4 k5 k6 k7 k8 hr
    go_wp2_with fail
    refine HP2.out.mono ?_
    rintro e w2 ⟨rfl, ho2, hp2⟩
    rw [HE.out] at hp2
    have HF := Lib.hid (HK.out w2 ho2 hp2)
    clear ho2 hp2
    go_wp2_with fail
    go_end0
    exact ⟨rfl, by rw [HG.out]; exact HF.out.of (fun _ _ => rfl) (by omega)⟩
  · have HP2 := Lib.hid (send_full w1 d.p d.c (items d.l) s k7 (by unfold items; rw [List.length_map, k4]; omega))
    have HK := Lib.hid (fun w2 ho hp => PipePost.upd (w2 := w2) (l := getM L a b) k1 k2 k3 k5 k6 ho (by rw [← k4]; exact hp) (by rw [← k4]; exact k8))
    have HG := Lib.hid (HG2.out hr)
    clear k1 k2 k3 k4 k5 k6 k7 k8 hr
    go_wp2_with fail
    refine HP2.out.mono ?_
    rintro e w2 ⟨rfl, ho2, hp2⟩
    obtain ⟨L2, q1, q2, q3, q4⟩ := (HK.out w2 ho2 hp2).out
    have HB2 := Lib.hid (HBR.out w2 L2 q1 (by omega))
    have Q2 := Lib.hid q2
    have Q3 := Lib.hid q3
    have Q4 := Lib.hid q4
    clear q2 q3 q4
    clear q1 ho2 hp2
    go_wp2_with fail
    refine HB2.out.mono ?_
    rintro e w3 ⟨rfl, hp3⟩
    have HP3 := Lib.hid hp3
    clear hp3
    go_wp2_with fail
    go_end0
    refine ⟨rfl, ?_⟩
    rw [HG.out]
    obtain ⟨L3, r1, r2, r3, r4⟩ := HP3.out.out
    refine ⟨L3, r1, Q2.out.trans r2, fun x y => ?_, by have := Q4.out; omega⟩
    rw [r3]
    unfold breakG
    rw [if_pos HLV.out]
    have e1 : ∀ x y, getM L2 x y = getM L x y := fun x y => by
      rw [Q3.out]
      unfold setG
      split
      · rename_i e; rw [e.1, e.2]
      · rfl
    unfold brk1 setG
    split
    · rfl
    · split
      · rfl
      · exact e1 x y
end Go.Proofs.Ytjgcbcahikemdaa
