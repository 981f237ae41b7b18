/- record: Split. -/
import Derived.Test.YtianboachknfmaaDoorRec3
namespace Go.Proofs.YtianboachknfmaaDoor
open Go.Conc Go.RowKit

def nodeN (s : ByteArray) : Nat := 256 * bA s 0 + bA s 1
theorem beN_two (s : ByteArray) (h : 2 ≤ s.size) : beN (s.data.toList.take 2) 0 = nodeN s := by
  have h2 : 2 ≤ s.data.toList.length := h
  unfold nodeN bA
  match hl : s.data.toList, h2 with
  | a :: b :: r, _ =>
    simp [beN]
    omega
theorem extract_all (x : ByteArray) : (x.extract x.size x.size).size = 0 := by rw [ByteArray.size_extract]; omega

set_option maxRecDepth 100000 in
theorem split1_ok (w : World) (b p5 p6 : Nat) (s y : ByteArray) (x : Int) (h : RdAt w b s) (h5 : w.heap[p5]? = some (.cells #[.int .i64 x] 3 (0, 0))) (h6 : w.heap[p6]? = some (.cells #[.string y] 9 (0, 0))) (h2 : 2 ≤ s.size) (hs : s.size ≤ 1000000) :
    Calls Tryd.prog 111 #[.pointer (some ⟨b, 0, none⟩), .pointer (some ⟨p5, 0, none⟩), .pointer (some ⟨p6, 0, none⟩)] w fun e w' => e = .returned (.tuple #[]) ∧ Only (fun z => z = b ∨ z = p5 ∨ z = p6) w w' ∧
      RdAt w' b ((s.extract 2 s.size).extract (s.extract 2 s.size).size (s.extract 2 s.size).size) ∧ w'.heap[p5]? = some (.cells #[.int .i64 (nodeN s : Nat)] 3 (0, 0)) ∧ w'.heap[p6]? = some (.cells #[.string (s.extract 2 s.size)] 9 (0, 0)) := by
  have n5 : p5 ≠ b := by rintro rfl; rw [RdAt, h5] at h; simp at h
  have n6 : p6 ≠ b := by rintro rfl; rw [RdAt, h6] at h; simp at h
  have n56 : p5 ≠ p6 := by rintro rfl; rw [h5] at h6; simp at h6
  have hbt := beN_two s h2
  have hb0 := bA_lt s 0
  have hb1 := bA_lt s 1
  have hnl : nodeN s < 65536 := by unfold nodeN; omega
  have hex : (s.extract 2 s.size).size ≤ 1000000 := by rw [ByteArray.size_extract]; omega
  generalize hz : s.extract 2 s.size = z at *
  have HZ := Lib.hid hz
  clear hz
  generalize nodeN s = n at *
  have H := Lib.hid h
  have H5 := Lib.hid h5
  have H6 := Lib.hid h6
  clear h h5 h6
  go_enter Tryd.func111, Tryd.ntmps111
  go_wp2_with fail
  refine (rnum_ok _ b s 2 H.out (by decide) (by decide) h2).mono ?_
  rw [hbt]
  rintro e w1 ⟨rfl, ho1, hr1⟩
  rw [HZ.out] at hr1
  have g5 := ho1.old H5.out n5
  have c5 : w1.cell? ⟨p5, 0, none⟩ = some (.int .i64 x) := cell_at g5 0
  have f5 := free_at g5 0
  have hwr : IntKind.i64.wrap (n : Int) = n := IntWalk.i64_in _ (by omega)
  clear hbt
  go_wp2_with fail
  have o2 : Only (fun z => z = p5) w1 (w1.setCell ⟨p5, 0, none⟩ (.int .i64 n)) := (Only.refl _ _).setCell (S := fun z => z = p5) (p := ⟨p5, 0, none⟩) (.inr rfl) _
  have hr2 := hr1.kept o2 (fun e => n5 e.symm)
  refine (left_any _ b _ hr2).mono ?_
  rintro e w2 ⟨rfl, rfl⟩
  have e5 := set_at g5 0 (.int .i64 n)
  have O1 := Lib.hid ho1
  have O2 := Lib.hid o2
  have E5 := Lib.hid e5
  clear c5 f5 g5 ho1 o2 e5
  generalize w1.setCell ⟨p5, 0, none⟩ (.int .i64 n) = w2 at *
  go_wp2_with fail
  refine (rraw_ok _ b _ _ hr2 (Nat.le_refl _)).mono ?_
  rintro e w3 ⟨rfl, ho3, hr3⟩
  have g6 := ho3.old (O2.out.old (O1.out.old H6.out n6) (fun e => n56 e.symm)) n6
  have c6 : w3.cell? ⟨p6, 0, none⟩ = some (.string y) := cell_at g6 0
  have f6 := free_at g6 0
  have hxx : z.extract 0 z.size = z := by simp
  rw [hxx]
  have G5 := Lib.hid (ho3.old E5.out n5)
  have G6 := Lib.hid g6
  have HR3 := Lib.hid hr3
  clear g6 hr3 hr2 hr1 hxx
  go_wp2_with fail
  go_end0
  have o4 : Only (fun z => z = p6) w3 (w3.setCell ⟨p6, 0, none⟩ (.string z)) := (Only.refl _ _).setCell (S := fun z => z = p6) (p := ⟨p6, 0, none⟩) (.inr rfl) _
  exact ⟨rfl, (((O1.out.weaken (fun _ _ e => .inl e)).trans (O2.out.weaken (fun _ _ e => .inr (.inl e)))).trans (ho3.weaken (fun _ _ e => .inl e))).trans (o4.weaken (fun _ _ e => .inr (.inr e))), HR3.out.kept o4 (fun e => n6 e.symm), o4.old G5.out n56, set_at G6.out 0 _⟩
set_option maxRecDepth 100000 in
theorem split1_short (w : World) (b p5 p6 : Nat) (s : ByteArray) (h : RdAt w b s) (h2 : s.size < 2) :
    Calls Tryd.prog 111 #[.pointer (some ⟨b, 0, none⟩), .pointer (some ⟨p5, 0, none⟩), .pointer (some ⟨p6, 0, none⟩)] w fun e w' => e = refused 2 ∧ w = w' := by
  go_enter Tryd.func111, Tryd.ntmps111
  go_wp2_with fail
  refine (rnum_short _ b s 2 h (by decide) (by decide) h2).mono ?_
  rintro e w1 ⟨rfl, rfl⟩
  unfold refused
  go_wp2_with fail
  exact ⟨rfl, rfl, rfl⟩

/-- What Split returns. -/
def splitOk (s : ByteArray) : Bool := decide (2 ≤ s.size) && (nodeB (nodeN s : Nat) && namedP (s.extract 2 s.size))
def splitN (s : ByteArray) : Int := if splitOk s then (nodeN s : Nat) else 0
def splitS (s : ByteArray) : ByteArray := if splitOk s then s.extract 2 s.size else ⟨#[]⟩
def splitE (s : ByteArray) : Int := if splitOk s then 0 else 4
theorem split_bad {s : ByteArray} (h : splitOk s = false) : splitN s = 0 ∧ splitS s = ⟨#[]⟩ ∧ splitE s = 4 := by
  unfold splitN splitS splitE
  rw [h]
  exact ⟨rfl, rfl, rfl⟩
set_option maxRecDepth 100000 in
set_option maxHeartbeats 1000000 in
theorem split_any (w : World) (s : ByteArray) (m : Int) (hm : w.cell? ⟨0, 0, none⟩ = some (.int .i64 m)) (hs : s.size ≤ 1000000) :
    Calls Tryd.prog 84 #[.string s] w fun e w' => e = .returned (.tuple #[.int .i64 (splitN s), .string (splitS s), .int .i64 (splitE s)]) ∧ Only (fun _ => False) w w' := by
  have hmf : ∀ (fn : Fn) (first cap : Array Value) (w : World), (Instr.makeFunc fn first cap).run Tryd.prog w = .ok (.func fn first cap) w := fun _ _ _ _ => rfl
  have hen : ∀ args w, (callFunc 111 args).run Tryd.prog w = .ok (.enter 111 args) w := fun _ _ => by go_simp
  have HM := Lib.hid hm
  have HEN := Lib.hid hen
  clear hm hen
  by_cases h2 : s.size < 2
  · obtain ⟨r1, r2, r3⟩ := split_bad (s := s) (by unfold splitOk; rw [decide_eq_false (by omega)]; rfl)
    rw [r1, r2, r3]
    clear r1 r2 r3
    go_enter Tryd.func84, Tryd.ntmps84
    go_wp2_with fail
    refine (read_no _ s 111 _ (fun _ => False) 2 (by decide) (fun _ => True) HEN.out (fun _ _ _ _ => trivial) (fun w1 b ho hr hb => ?_)).mono ?_
    · refine (split1_short w1 b _ _ s hr h2).mono ?_
      rintro e w' ⟨rfl, rfl⟩
      exact ⟨rfl, Only.refl _ _, trivial⟩
    rintro e w' ⟨rfl, ho, -⟩
    go_wp2_with fail
    go_ret3
    exact ⟨rfl, ((((Only.refl _ _).alloc _).alloc _)).trans ho⟩
  · obtain ⟨W, hW⟩ : ∃ W, W = (w.alloc (.cells #[.int .i64 0] 3)).alloc (.cells #[.string ⟨#[]⟩] 9) := ⟨_, rfl⟩
    have hWs : W.heap.size = w.heap.size + 2 := by rw [hW]; simp
    have h00 : 0 < w.heap.size := World.block_lt_of_cell? _ _ HM.out
    have HNE := Lib.hid (show ¬ (0 = w.heap.size ∨ 0 = w.heap.size + 1) by omega)
    obtain ⟨z1, z2⟩ := two_blocks w _ _ (w1 := W) (by rw [← hW]; exact Only.refl _ _)
    have hWo : Only (fun _ => False) w W := by rw [hW]; exact ((Only.refl _ _).alloc _).alloc _
    have hclo : ∀ (w1 : World) (b : Nat), Only (fun _ => False) W w1 → RdAt w1 b s → W.heap.size ≤ b → Calls Tryd.prog 111 (#[.pointer (some ⟨b, 0, none⟩)] ++ #[.pointer (some ⟨w.heap.size, 0, none⟩), .pointer (some ⟨w.heap.size + 1, 0, none⟩)]) w1 fun e w' => e = .returned (.tuple #[]) ∧ Only (fun x => x = b ∨ ((x = w.heap.size ∨ x = w.heap.size + 1) ∧ x < W.heap.size)) w1 w' ∧
        RdAt w' b ((s.extract 2 s.size).extract (s.extract 2 s.size).size (s.extract 2 s.size).size) ∧ (w'.heap[w.heap.size]? = some (.cells #[.int .i64 (nodeN s : Nat)] 3 (0, 0)) ∧ w'.heap[w.heap.size + 1]? = some (.cells #[.string (s.extract 2 s.size)] 9 (0, 0))) := by
      intro w1 b ho hr hb
      refine (split1_ok w1 b w.heap.size (w.heap.size + 1) s _ _ hr (ho.old z1 id) (ho.old z2 id) (by omega) hs).mono ?_
      rintro e w' ⟨rfl, h1, h2, h3, h4⟩
      exact ⟨rfl, h1.weaken (fun x _ e => by rcases e with e | e | e; exact .inl e; exact .inr ⟨.inl e, by omega⟩; exact .inr ⟨.inr e, by omega⟩), h2, h3, h4⟩
    have hX : ∀ a c : World, (a.heap[w.heap.size]? = some (.cells #[.int .i64 (nodeN s : Nat)] 3 (0, 0)) ∧ a.heap[w.heap.size + 1]? = some (.cells #[.string (s.extract 2 s.size)] 9 (0, 0))) → Only (fun x => W.heap.size ≤ x) a c → (c.heap[w.heap.size]? = some (.cells #[.int .i64 (nodeN s : Nat)] 3 (0, 0)) ∧ c.heap[w.heap.size + 1]? = some (.cells #[.string (s.extract 2 s.size)] 9 (0, 0))) :=
      fun a c h ho => ⟨ho.old h.1 (by omega), ho.old h.2 (by omega)⟩
    have hcall := read_ok W s 111 _ _ _ _ HEN.out hX hclo
    rw [if_pos (extract_all _)] at hcall
    have HC := Lib.hid hcall
    clear hcall hclo hX z1 z2
    have HS := Lib.hid (show splitOk s = (nodeB (nodeN s : Nat) && namedP (s.extract 2 s.size)) by unfold splitOk; rw [decide_eq_true (by omega)]; rfl)
    have hex : (s.extract 2 s.size).size ≤ maxLen := by rw [ByteArray.size_extract]; unfold maxLen; omega
    have HP := Lib.hid (show splitN s = (if splitOk s then ((nodeN s : Nat) : Int) else 0) ∧ splitS s = (if splitOk s then s.extract 2 s.size else ⟨#[]⟩) ∧ splitE s = (if splitOk s then 0 else 4) from ⟨rfl, rfl, rfl⟩)
    generalize s.extract 2 s.size = z at *
    generalize nodeN s = n at *
    go_enter Tryd.func84, Tryd.ntmps84
    go_wp2_with fail
    rw [← hW]
    refine HC.out.mono ?_
    rintro e w' ⟨rfl, ho, x1, x2⟩
    have c1 : w'.cell? ⟨w.heap.size, 0, none⟩ = some (.int .i64 n) := cell_at x1 0
    have c2 : w'.cell? ⟨w.heap.size + 1, 0, none⟩ = some (.string z) := cell_at x2 0
    have hm' := (hWo.cell HM.out id)
    have hm2 := ho.cell hm' HNE.out
    have HO := Lib.hid ((hWo.tr (S := fun _ => False) ho (fun i hi e => by omega)))
    have HM2 := Lib.hid hm2
    have X1 := Lib.hid x1
    have X2 := Lib.hid x2
    cases hn : nodeB n with
    | false =>
      have hso : splitOk s = false := by rw [HS.out, hn]; rfl
      obtain ⟨r1, r2, r3⟩ := HP.out
      rw [hso] at r1 r2 r3
      have R := Lib.hid (And.intro r1 (And.intro r2 r3))
      have HN := Lib.hid hn
      clear r1 r2 r3 hso hn x1 x2 hm2
      go_wp2_with fail
      refine (node_any _ _).mono ?_
      rintro e w2 ⟨rfl, rfl⟩
      rw [HN.out]
      go_wp2_with fail
      go_ret3
      rw [R.out.1, R.out.2.1, R.out.2.2]
      exact ⟨rfl, HO.out⟩
    | true =>
      cases hz : namedP z with
      | false =>
        have hso : splitOk s = false := by rw [HS.out, hn, hz]; rfl
        obtain ⟨r1, r2, r3⟩ := HP.out
        rw [hso] at r1 r2 r3
        have R := Lib.hid (And.intro r1 (And.intro r2 r3))
        have HN := Lib.hid hn
        have HZ := Lib.hid hz
        clear r1 r2 r3 hso hn hz x1 x2 hm2
        go_wp2_with fail
        refine (node_any _ _).mono ?_
        rintro e w2 ⟨rfl, rfl⟩
        rw [HN.out]
        go_wp2_with fail
        refine (named_any _ z m HM2.out hex).mono ?_
        rintro e w3 ⟨rfl, ho3⟩
        rw [HZ.out]
        go_wp2_with fail
        go_ret3
        rw [R.out.1, R.out.2.1, R.out.2.2]
        exact ⟨rfl, HO.out.trans ho3⟩
      | true =>
        have hso : splitOk s = true := by rw [HS.out, hn, hz]; rfl
        obtain ⟨r1, r2, r3⟩ := HP.out
        rw [hso] at r1 r2 r3
        have R := Lib.hid (And.intro r1 (And.intro r2 r3))
        have HN := Lib.hid hn
        have HZ := Lib.hid hz
        clear r1 r2 r3 hso hn hz x1 x2 hm2
        go_wp2_with fail
        refine (node_any _ _).mono ?_
        rintro e w2 ⟨rfl, rfl⟩
        rw [HN.out]
        go_wp2_with fail
        refine (named_any _ z m HM2.out hex).mono ?_
        rintro e w3 ⟨rfl, ho3⟩
        rw [HZ.out]
        have d1 := ho3.cell c1 id
        have d2 := ho3.cell c2 id
        clear c1 c2
        go_wp2_with fail
        go_region
        all_goals (
          go_wp2_with fail
          go_ret3
          rw [R.out.1, R.out.2.1, R.out.2.2]
          exact ⟨rfl, (HO.out.trans ho3).drew⟩)
end Go.Proofs.YtianboachknfmaaDoor
