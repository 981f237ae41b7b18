/- Equality of records. -/
import Derived.Test.YtjdlcfllmpdffaaDoorMB
import Derived.Laws.StructEq
/-! record: Split. -/
namespace Go.Proofs.YtjdlcfllmpdffaaDoor
open Go.Conc Go.RowKit

def nodeN (s : ByteArray) : Nat := 256 * bA s 0 + bA s 1
theorem beN_two (s : ByteArray) (h : 2 ≤ s.size) : beN (s.data.toList.take 2) 0 = nodeN s := by
  have h2 : 2 ≤ s.data.toList.length := h
  unfold nodeN bA
  match hl : s.data.toList, h2 with
  | a :: b :: r, _ =>
    simp [beN]
    omega
theorem extract_all (x : ByteArray) : (x.extract x.size x.size).size = 0 := by rw [ByteArray.size_extract]; omega

set_option maxRecDepth 100000 in
theorem split1_ok (w : World) (b p5 p6 : Nat) (s y : ByteArray) (x : Int) (h : RdAt w b s) (h5 : w.heap[p5]? = some (.cells #[.int .i64 x] 3 (0, 0))) (h6 : w.heap[p6]? = some (.cells #[.string y] 9 (0, 0))) (h2 : 2 ≤ s.size) (hs : s.size ≤ 1000000) :
    Calls Tryd.prog 93 #[.pointer (some ⟨b, 0, none⟩), .pointer (some ⟨p5, 0, none⟩), .pointer (some ⟨p6, 0, none⟩)] w fun e w' => e = .returned (.tuple #[]) ∧ Only (fun z => z = b ∨ z = p5 ∨ z = p6) w w' ∧
      RdAt w' b ((s.extract 2 s.size).extract (s.extract 2 s.size).size (s.extract 2 s.size).size) ∧ w'.heap[p5]? = some (.cells #[.int .i64 (nodeN s : Nat)] 3 (0, 0)) ∧ w'.heap[p6]? = some (.cells #[.string (s.extract 2 s.size)] 9 (0, 0)) := by
  have n5 : p5 ≠ b := by rintro rfl; rw [RdAt, h5] at h; simp at h
  have n6 : p6 ≠ b := by rintro rfl; rw [RdAt, h6] at h; simp at h
  have n56 : p5 ≠ p6 := by rintro rfl; rw [h5] at h6; simp at h6
  have hbt := beN_two s h2
  have hb0 := bA_lt s 0
  have hb1 := bA_lt s 1
  have hnl : nodeN s < 65536 := by unfold nodeN; omega
  have hex : (s.extract 2 s.size).size ≤ 1000000 := by rw [ByteArray.size_extract]; omega
  generalize hz : s.extract 2 s.size = z at *
  have HZ := Lib.hid hz
  clear hz
  generalize nodeN s = n at *
  have H := Lib.hid h
  have H5 := Lib.hid h5
  have H6 := Lib.hid h6
  clear h h5 h6
  go_enter Tryd.func93, Tryd.ntmps93
  go_wp2_with fail
  refine (rnum_ok _ b s 2 H.out (by decide) (by decide) h2).mono ?_
  rw [hbt]
  rintro e w1 ⟨rfl, ho1, hr1⟩
  rw [HZ.out] at hr1
  have g5 := ho1.old H5.out n5
  have c5 : w1.cell? ⟨p5, 0, none⟩ = some (.int .i64 x) := cell_at g5 0
  have f5 := free_at g5 0
  have hwr : IntKind.i64.wrap (n : Int) = n := IntWalk.i64_in _ (by omega)
  clear hbt
  go_wp2_with fail
  have o2 : Only (fun z => z = p5) w1 (w1.setCell ⟨p5, 0, none⟩ (.int .i64 n)) := (Only.refl _ _).setCell (S := fun z => z = p5) (p := ⟨p5, 0, none⟩) (.inr rfl) _
  have hr2 := hr1.kept o2 (fun e => n5 e.symm)
  refine (left_any _ b _ hr2).mono ?_
  rintro e w2 ⟨rfl, rfl⟩
  have e5 := set_at g5 0 (.int .i64 n)
  have O1 := Lib.hid ho1
  have O2 := Lib.hid o2
  have E5 := Lib.hid e5
  clear c5 f5 g5 ho1 o2 e5
  generalize w1.setCell ⟨p5, 0, none⟩ (.int .i64 n) = w2 at *
  go_wp2_with fail
  refine (rraw_ok _ b _ _ hr2 (Nat.le_refl _)).mono ?_
  rintro e w3 ⟨rfl, ho3, hr3⟩
  have g6 := ho3.old (O2.out.old (O1.out.old H6.out n6) (fun e => n56 e.symm)) n6
  have c6 : w3.cell? ⟨p6, 0, none⟩ = some (.string y) := cell_at g6 0
  have f6 := free_at g6 0
  have hxx : z.extract 0 z.size = z := by simp
  rw [hxx]
  have G5 := Lib.hid (ho3.old E5.out n5)
  have G6 := Lib.hid g6
  have HR3 := Lib.hid hr3
  clear g6 hr3 hr2 hr1 hxx
  go_wp2_with fail
  go_end0
  have o4 : Only (fun z => z = p6) w3 (w3.setCell ⟨p6, 0, none⟩ (.string z)) := (Only.refl _ _).setCell (S := fun z => z = p6) (p := ⟨p6, 0, none⟩) (.inr rfl) _
  exact ⟨rfl, (((O1.out.weaken (fun _ _ e => .inl e)).trans (O2.out.weaken (fun _ _ e => .inr (.inl e)))).trans (ho3.weaken (fun _ _ e => .inl e))).trans (o4.weaken (fun _ _ e => .inr (.inr e))), HR3.out.kept o4 (fun e => n6 e.symm), o4.old G5.out n56, set_at G6.out 0 _⟩
set_option maxRecDepth 100000 in
theorem split1_short (w : World) (b p5 p6 : Nat) (s : ByteArray) (h : RdAt w b s) (h2 : s.size < 2) :
    Calls Tryd.prog 93 #[.pointer (some ⟨b, 0, none⟩), .pointer (some ⟨p5, 0, none⟩), .pointer (some ⟨p6, 0, none⟩)] w fun e w' => e = refused 2 ∧ w = w' := by
  go_enter Tryd.func93, Tryd.ntmps93
  go_wp2_with fail
  refine (rnum_short _ b s 2 h (by decide) (by decide) h2).mono ?_
  rintro e w1 ⟨rfl, rfl⟩
  unfold refused
  go_wp2_with fail
  exact ⟨rfl, rfl, rfl⟩

/-- What Split returns. -/
def splitOk (s : ByteArray) : Bool := decide (2 ≤ s.size) && (nodeB (nodeN s : Nat) && namedP (s.extract 2 s.size))
def splitN (s : ByteArray) : Int := if splitOk s then (nodeN s : Nat) else 0
def splitS (s : ByteArray) : ByteArray := if splitOk s then s.extract 2 s.size else ⟨#[]⟩
def splitE (s : ByteArray) : Int := if splitOk s then 0 else 4
theorem split_bad {s : ByteArray} (h : splitOk s = false) : splitN s = 0 ∧ splitS s = ⟨#[]⟩ ∧ splitE s = 4 := by
  unfold splitN splitS splitE
  rw [h]
  exact ⟨rfl, rfl, rfl⟩
set_option maxRecDepth 100000 in
set_option maxHeartbeats 1000000 in
theorem split_any (w : World) (s : ByteArray) (m : Int) (hm : w.cell? ⟨0, 0, none⟩ = some (.int .i64 m)) (hs : s.size ≤ 1000000) :
    Calls Tryd.prog 70 #[.string s] w fun e w' => e = .returned (.tuple #[.int .i64 (splitN s), .string (splitS s), .int .i64 (splitE s)]) ∧ Only (fun _ => False) w w' := by
  have hmf : ∀ (fn : Fn) (first cap : Array Value) (w : World), (Instr.makeFunc fn first cap).run Tryd.prog w = .ok (.func fn first cap) w := fun _ _ _ _ => rfl
  have hen : ∀ args w, (callFunc 93 args).run Tryd.prog w = .ok (.enter 93 args) w := fun _ _ => by go_simp
  have HM := Lib.hid hm
  have HEN := Lib.hid hen
  clear hm hen
  by_cases h2 : s.size < 2
  · obtain ⟨r1, r2, r3⟩ := split_bad (s := s) (by unfold splitOk; rw [decide_eq_false (by omega)]; rfl)
    rw [r1, r2, r3]
    clear r1 r2 r3
    go_enter Tryd.func70, Tryd.ntmps70
    go_wp2_with fail
    refine (read_no _ s 93 _ (fun _ => False) 2 (by decide) (fun _ => True) HEN.out (fun _ _ _ _ => trivial) (fun w1 b ho hr hb => ?_)).mono ?_
    · refine (split1_short w1 b _ _ s hr h2).mono ?_
      rintro e w' ⟨rfl, rfl⟩
      exact ⟨rfl, Only.refl _ _, trivial⟩
    rintro e w' ⟨rfl, ho, -⟩
    go_wp2_with fail
    go_ret3
    exact ⟨rfl, ((((Only.refl _ _).alloc _).alloc _)).trans ho⟩
  · obtain ⟨W, hW⟩ : ∃ W, W = (w.alloc (.cells #[.int .i64 0] 3)).alloc (.cells #[.string ⟨#[]⟩] 9) := ⟨_, rfl⟩
    have hWs : W.heap.size = w.heap.size + 2 := by rw [hW]; simp
    have h00 : 0 < w.heap.size := World.block_lt_of_cell? _ _ HM.out
    have HNE := Lib.hid (show ¬ (0 = w.heap.size ∨ 0 = w.heap.size + 1) by omega)
    obtain ⟨z1, z2⟩ := two_blocks w _ _ (w1 := W) (by rw [← hW]; exact Only.refl _ _)
    have hWo : Only (fun _ => False) w W := by rw [hW]; exact ((Only.refl _ _).alloc _).alloc _
    have hclo : ∀ (w1 : World) (b : Nat), Only (fun _ => False) W w1 → RdAt w1 b s → W.heap.size ≤ b → Calls Tryd.prog 93 (#[.pointer (some ⟨b, 0, none⟩)] ++ #[.pointer (some ⟨w.heap.size, 0, none⟩), .pointer (some ⟨w.heap.size + 1, 0, none⟩)]) w1 fun e w' => e = .returned (.tuple #[]) ∧ Only (fun x => x = b ∨ ((x = w.heap.size ∨ x = w.heap.size + 1) ∧ x < W.heap.size)) w1 w' ∧
        RdAt w' b ((s.extract 2 s.size).extract (s.extract 2 s.size).size (s.extract 2 s.size).size) ∧ (w'.heap[w.heap.size]? = some (.cells #[.int .i64 (nodeN s : Nat)] 3 (0, 0)) ∧ w'.heap[w.heap.size + 1]? = some (.cells #[.string (s.extract 2 s.size)] 9 (0, 0))) := by
      intro w1 b ho hr hb
      refine (split1_ok w1 b w.heap.size (w.heap.size + 1) s _ _ hr (ho.old z1 id) (ho.old z2 id) (by omega) hs).mono ?_
      rintro e w' ⟨rfl, h1, h2, h3, h4⟩
      exact ⟨rfl, h1.weaken (fun x _ e => by rcases e with e | e | e; exact .inl e; exact .inr ⟨.inl e, by omega⟩; exact .inr ⟨.inr e, by omega⟩), h2, h3, h4⟩
    have hX : ∀ a c : World, (a.heap[w.heap.size]? = some (.cells #[.int .i64 (nodeN s : Nat)] 3 (0, 0)) ∧ a.heap[w.heap.size + 1]? = some (.cells #[.string (s.extract 2 s.size)] 9 (0, 0))) → Only (fun x => W.heap.size ≤ x) a c → (c.heap[w.heap.size]? = some (.cells #[.int .i64 (nodeN s : Nat)] 3 (0, 0)) ∧ c.heap[w.heap.size + 1]? = some (.cells #[.string (s.extract 2 s.size)] 9 (0, 0))) :=
      fun a c h ho => ⟨ho.old h.1 (by omega), ho.old h.2 (by omega)⟩
    have hcall := read_ok W s 93 _ _ _ _ HEN.out hX hclo
    rw [if_pos (extract_all _)] at hcall
    have HC := Lib.hid hcall
    clear hcall hclo hX z1 z2
    have HS := Lib.hid (show splitOk s = (nodeB (nodeN s : Nat) && namedP (s.extract 2 s.size)) by unfold splitOk; rw [decide_eq_true (by omega)]; rfl)
    have hex : (s.extract 2 s.size).size ≤ maxLen := by rw [ByteArray.size_extract]; unfold maxLen; omega
    have HP := Lib.hid (show splitN s = (if splitOk s then ((nodeN s : Nat) : Int) else 0) ∧ splitS s = (if splitOk s then s.extract 2 s.size else ⟨#[]⟩) ∧ splitE s = (if splitOk s then 0 else 4) from ⟨rfl, rfl, rfl⟩)
    generalize s.extract 2 s.size = z at *
    generalize nodeN s = n at *
    go_enter Tryd.func70, Tryd.ntmps70
    go_wp2_with fail
    rw [← hW]
    refine HC.out.mono ?_
    rintro e w' ⟨rfl, ho, x1, x2⟩
    have c1 : w'.cell? ⟨w.heap.size, 0, none⟩ = some (.int .i64 n) := cell_at x1 0
    have c2 : w'.cell? ⟨w.heap.size + 1, 0, none⟩ = some (.string z) := cell_at x2 0
    have hm' := (hWo.cell HM.out id)
    have hm2 := ho.cell hm' HNE.out
    have HO := Lib.hid ((hWo.tr (S := fun _ => False) ho (fun i hi e => by omega)))
    have HM2 := Lib.hid hm2
    have X1 := Lib.hid x1
    have X2 := Lib.hid x2
    cases hn : nodeB n with
    | false =>
      have hso : splitOk s = false := by rw [HS.out, hn]; rfl
      obtain ⟨r1, r2, r3⟩ := HP.out
      rw [hso] at r1 r2 r3
      have R := Lib.hid (And.intro r1 (And.intro r2 r3))
      have HN := Lib.hid hn
      clear r1 r2 r3 hso hn x1 x2 hm2
      go_wp2_with fail
      refine (node_any _ _).mono ?_
      rintro e w2 ⟨rfl, rfl⟩
      rw [HN.out]
      go_wp2_with fail
      go_ret3
      rw [R.out.1, R.out.2.1, R.out.2.2]
      exact ⟨rfl, HO.out⟩
    | true =>
      cases hz : namedP z with
      | false =>
        have hso : splitOk s = false := by rw [HS.out, hn, hz]; rfl
        obtain ⟨r1, r2, r3⟩ := HP.out
        rw [hso] at r1 r2 r3
        have R := Lib.hid (And.intro r1 (And.intro r2 r3))
        have HN := Lib.hid hn
        have HZ := Lib.hid hz
        clear r1 r2 r3 hso hn hz x1 x2 hm2
        go_wp2_with fail
        refine (node_any _ _).mono ?_
        rintro e w2 ⟨rfl, rfl⟩
        rw [HN.out]
        go_wp2_with fail
        refine (named_any _ z m HM2.out hex).mono ?_
        rintro e w3 ⟨rfl, ho3⟩
        rw [HZ.out]
        go_wp2_with fail
        go_ret3
        rw [R.out.1, R.out.2.1, R.out.2.2]
        exact ⟨rfl, HO.out.trans ho3⟩
      | true =>
        have hso : splitOk s = true := by rw [HS.out, hn, hz]; rfl
        obtain ⟨r1, r2, r3⟩ := HP.out
        rw [hso] at r1 r2 r3
        have R := Lib.hid (And.intro r1 (And.intro r2 r3))
        have HN := Lib.hid hn
        have HZ := Lib.hid hz
        clear r1 r2 r3 hso hn hz x1 x2 hm2
        go_wp2_with fail
        refine (node_any _ _).mono ?_
        rintro e w2 ⟨rfl, rfl⟩
        rw [HN.out]
        go_wp2_with fail
        refine (named_any _ z m HM2.out hex).mono ?_
        rintro e w3 ⟨rfl, ho3⟩
        rw [HZ.out]
        have d1 := ho3.cell c1 id
        have d2 := ho3.cell c2 id
        clear c1 c2
        go_wp2_with fail
        go_region
        all_goals (
          go_wp2_with fail
          go_ret3
          rw [R.out.1, R.out.2.1, R.out.2.2]
          exact ⟨rfl, (HO.out.trans ho3).drew⟩)
end Go.Proofs.YtjdlcfllmpdffaaDoor
/-! record: Life, begin, Good. -/
namespace Go.Proofs.YtjdlcfllmpdffaaDoor
open Go.Conc Go.RowKit

theorem ret_int2 {k1 k2 : IntKind} {a b c d : Int} (h : a = b) (g : c = d) : Ending.returned (.tuple #[.int k1 a, .int k2 c]) = .returned (.tuple #[.int k1 b, .int k2 d]) := by rw [h, g]
theorem life_any (w : World) (ver : Nat) (hv : ver < 2 ^ 64) : Calls Tryd.prog 60 #[.int .u64 ver] w fun e w' => e = .returned (.tuple #[.int .u32 (ver / 2 ^ 32 : Nat), .int .u32 (ver % 2 ^ 32 : Nat)]) ∧ w = w' := by
  have HV := Lib.hid hv
  have h0 : (0 : Int) ≤ (ver : Int) := by omega
  clear hv
  go_enter Tryd.func60, Tryd.ntmps60
  go_wp2_with fail
  go_ret2
  have := HV.out
  exact ⟨ret_int2 (by omega) (by omega), rfl⟩

theorem six_set {w : World} {b : Nat} {t : TypeId} {a0 a1 a2 a3 a4 a5 : Value} (h : w.heap[b]? = some (.cells #[a0, a1, a2, a3, a4, a5] t (0, 0))) (u0 u1 u2 u3 u4 u5 : Value) :
    ((((((w.setCell ⟨b, 0, none⟩ u0).setCell ⟨b, 1, none⟩ u1).setCell ⟨b, 2, none⟩ u2).setCell ⟨b, 3, none⟩ u3).setCell ⟨b, 4, none⟩ u4).setCell ⟨b, 5, none⟩ u5).heap[b]? = some (.cells #[u0, u1, u2, u3, u4, u5] t (0, 0)) ∧
      Only (fun x => x = b) w ((((((w.setCell ⟨b, 0, none⟩ u0).setCell ⟨b, 1, none⟩ u1).setCell ⟨b, 2, none⟩ u2).setCell ⟨b, 3, none⟩ u3).setCell ⟨b, 4, none⟩ u4).setCell ⟨b, 5, none⟩ u5) :=
  ⟨set_at (set_at (set_at (set_at (set_at (set_at h 0 u0) 1 u1) 2 u2) 3 u3) 4 u4) 5 u5,
    (((((((Only.refl (fun x => x = b) w).setCell (p := ⟨b, 0, none⟩) (.inr rfl) u0).setCell (p := ⟨b, 1, none⟩) (.inr rfl) u1).setCell (p := ⟨b, 2, none⟩) (.inr rfl) u2).setCell (p := ⟨b, 3, none⟩) (.inr rfl) u3).setCell (p := ⟨b, 4, none⟩) (.inr rfl) u4).setCell (p := ⟨b, 5, none⟩) (.inr rfl) u5)⟩
def beginE (o : Int) (name : ByteArray) (ver : Nat) : Int := if keyE o name ≠ 0 then keyE o name else if ver / 2 ^ 32 = 0 then 11 else 0
def recV (key : ByteArray) (ver : Nat) (o age : Int) (gone : Bool) (data : ByteArray) : Value := .agg #[.string key, .int .u64 ver, .int .i64 o, .int .i64 age, .bool gone, .string data]
def rec0 : Value := .agg #[.string ⟨#[]⟩, .int .u64 0, .int .i64 0, .int .i64 0, .bool false, .string ⟨#[]⟩]
def beginV (o : Int) (name : ByteArray) (ver : Nat) : Value := if beginE o name ver = 0 then recV (keyS o name) ver o 0 false ⟨#[]⟩ else rec0
set_option maxRecDepth 100000 in
set_option maxHeartbeats 1000000 in
theorem begin_any (w : World) (o : Int) (ver : Nat) (name : ByteArray) (m : Int) (hm : w.cell? ⟨0, 0, none⟩ = some (.int .i64 m)) (hv : ver < 2 ^ 64) (hs : name.size ≤ maxLen) :
    Calls Tryd.prog 99 #[.int .i64 o, .int .u64 ver, .string name] w fun e w' => e = .returned (.tuple #[beginV o name ver, .int .i64 (beginE o name ver)]) ∧ Only (fun _ => False) w w' := by
  have hB := heap_alloc_new w (.cells #[.string ⟨#[]⟩, .int .u64 0, .int .i64 0, .int .i64 0, .bool false, .string ⟨#[]⟩] 33)
  have HB := Lib.hid hB
  have hlt : w.heap.size < w.heap.size + 1 := by omega
  have HM := Lib.hid hm
  have HV := Lib.hid hv
  have HE := Lib.hid (show beginE o name ver = if keyE o name ≠ 0 then keyE o name else if ver / 2 ^ 32 = 0 then 11 else 0 from rfl)
  clear hB hm hv
  go_enter Tryd.func99, Tryd.ntmps99
  go_wp2_with fail
  refine (key_any _ o name m (((Only.refl (fun _ => False) w).alloc _).cell HM.out id) hs).mono ?_
  rintro e w1 ⟨rfl, ho1⟩
  have hb1 := ho1.old HB.out id
  have hz1 := ho1.size
  have HO := Lib.hid (((Only.refl (fun _ => False) w).alloc _).trans ho1)
  clear ho1
  generalize keyE o name = E at *
  generalize hks : keyS o name = K at *
  have HKS := Lib.hid hks
  clear hks
  by_cases hE : E = 0
  · subst hE
    have HB1 := Lib.hid hb1
    have c0 : w1.cell? ⟨w.heap.size, 0, none⟩ = some (.string ⟨#[]⟩) := cell_at hb1 0
    have c1 : w1.cell? ⟨w.heap.size, 1, none⟩ = some (.int .u64 0) := cell_at hb1 1
    have c2 : w1.cell? ⟨w.heap.size, 2, none⟩ = some (.int .i64 0) := cell_at hb1 2
    have c3 : w1.cell? ⟨w.heap.size, 3, none⟩ = some (.int .i64 0) := cell_at hb1 3
    have c4 : w1.cell? ⟨w.heap.size, 4, none⟩ = some (.bool false) := cell_at hb1 4
    have c5 : w1.cell? ⟨w.heap.size, 5, none⟩ = some (.string ⟨#[]⟩) := cell_at hb1 5
    have hf : ∀ i, w1.frozen? ⟨w.heap.size, i, none⟩ = false := free_at hb1
    clear hb1
    go_wp2_with fail
    refine (life_any _ ver HV.out).mono ?_
    rintro e w3 ⟨rfl, rfl⟩
    by_cases hl : ver / 2 ^ 32 = 0
    · have q1 : (((ver / 2 ^ 32 : Nat) : Int) == 0) = true := by rw [hl]; rfl
      have HL := Lib.hid hl
      clear hl
      generalize ((ver / 2 ^ 32 : Nat) : Int) = L at *
      go_wp2_with fail
      obtain ⟨s1, s2⟩ := six_set HB1.out (.string ⟨#[]⟩) (.int .u64 0) (.int .i64 0) (.int .i64 0) (.bool false) (.string ⟨#[]⟩)
      generalize ((((((w1.setCell ⟨w.heap.size, 0, none⟩ (.string ⟨#[]⟩)).setCell ⟨w.heap.size, 1, none⟩ (.int .u64 0)).setCell ⟨w.heap.size, 2, none⟩ (.int .i64 0)).setCell ⟨w.heap.size, 3, none⟩ (.int .i64 0)).setCell ⟨w.heap.size, 4, none⟩ (.bool false)).setCell ⟨w.heap.size, 5, none⟩ (.string ⟨#[]⟩)) = w2 at *
      have d0 : w2.cell? ⟨w.heap.size, 0, none⟩ = some (.string ⟨#[]⟩) := cell_at s1 0
      have d1 : w2.cell? ⟨w.heap.size, 1, none⟩ = some (.int .u64 0) := cell_at s1 1
      have d2 : w2.cell? ⟨w.heap.size, 2, none⟩ = some (.int .i64 0) := cell_at s1 2
      have d3 : w2.cell? ⟨w.heap.size, 3, none⟩ = some (.int .i64 0) := cell_at s1 3
      have d4 : w2.cell? ⟨w.heap.size, 4, none⟩ = some (.bool false) := cell_at s1 4
      have d5 : w2.cell? ⟨w.heap.size, 5, none⟩ = some (.string ⟨#[]⟩) := cell_at s1 5
      refine bodyPost_ret (v := .tuple #[.agg #[.string ⟨#[]⟩, .int .u64 0, .int .i64 0, .int .i64 0, .bool false, .string ⟨#[]⟩], .int .i64 11]) (by simp [results, Tryd.results99, go_sem, d0, d1, d2, d3, d4, d5]) rfl ?_
      have hbe : beginE o name ver = 11 := by rw [HE.out, if_neg (by simp), if_pos HL.out]
      have hbv : beginV o name ver = rec0 := by unfold beginV; rw [hbe]; rfl
      rw [hbe, hbv]
      exact ⟨rfl, HO.out.tr s2 (fun i hi e => by omega)⟩
    · have q1 : (((ver / 2 ^ 32 : Nat) : Int) == 0) = false := by simp; omega
      have HL := Lib.hid hl
      clear hl
      generalize ((ver / 2 ^ 32 : Nat) : Int) = L at *
      go_wp2_with fail
      obtain ⟨s1, s2⟩ := six_set HB1.out (.string K) (.int .u64 ver) (.int .i64 o) (.int .i64 0) (.bool false) (.string ⟨#[]⟩)
      generalize ((((((w1.setCell ⟨w.heap.size, 0, none⟩ (.string K)).setCell ⟨w.heap.size, 1, none⟩ (.int .u64 ver)).setCell ⟨w.heap.size, 2, none⟩ (.int .i64 o)).setCell ⟨w.heap.size, 3, none⟩ (.int .i64 0)).setCell ⟨w.heap.size, 4, none⟩ (.bool false)).setCell ⟨w.heap.size, 5, none⟩ (.string ⟨#[]⟩)) = w2 at *
      have d0 : w2.cell? ⟨w.heap.size, 0, none⟩ = some (.string K) := cell_at s1 0
      have d1 : w2.cell? ⟨w.heap.size, 1, none⟩ = some (.int .u64 ver) := cell_at s1 1
      have d2 : w2.cell? ⟨w.heap.size, 2, none⟩ = some (.int .i64 o) := cell_at s1 2
      have d3 : w2.cell? ⟨w.heap.size, 3, none⟩ = some (.int .i64 0) := cell_at s1 3
      have d4 : w2.cell? ⟨w.heap.size, 4, none⟩ = some (.bool false) := cell_at s1 4
      have d5 : w2.cell? ⟨w.heap.size, 5, none⟩ = some (.string ⟨#[]⟩) := cell_at s1 5
      refine bodyPost_ret (v := .tuple #[.agg #[.string K, .int .u64 ver, .int .i64 o, .int .i64 0, .bool false, .string ⟨#[]⟩], .int .i64 0]) (by simp [results, Tryd.results99, go_sem, d0, d1, d2, d3, d4, d5]) rfl ?_
      have hbe : beginE o name ver = 0 := by rw [HE.out, if_neg (by simp), if_neg HL.out]
      have hbv : beginV o name ver = recV K ver o 0 false ⟨#[]⟩ := by unfold beginV; rw [hbe, if_pos rfl, HKS.out]
      rw [hbe, hbv]
      exact ⟨rfl, HO.out.tr s2 (fun i hi e => by omega)⟩
  · have h0 : (E != 0) = true := by simp; exact hE
    have HB1 := Lib.hid hb1
    have c0 : w1.cell? ⟨w.heap.size, 0, none⟩ = some (.string ⟨#[]⟩) := cell_at hb1 0
    have c1 : w1.cell? ⟨w.heap.size, 1, none⟩ = some (.int .u64 0) := cell_at hb1 1
    have c2 : w1.cell? ⟨w.heap.size, 2, none⟩ = some (.int .i64 0) := cell_at hb1 2
    have c3 : w1.cell? ⟨w.heap.size, 3, none⟩ = some (.int .i64 0) := cell_at hb1 3
    have c4 : w1.cell? ⟨w.heap.size, 4, none⟩ = some (.bool false) := cell_at hb1 4
    have c5 : w1.cell? ⟨w.heap.size, 5, none⟩ = some (.string ⟨#[]⟩) := cell_at hb1 5
    have hf : ∀ i, w1.frozen? ⟨w.heap.size, i, none⟩ = false := free_at hb1
    clear hb1
    go_wp2_with fail
    obtain ⟨s1, s2⟩ := six_set HB1.out (.string ⟨#[]⟩) (.int .u64 0) (.int .i64 0) (.int .i64 0) (.bool false) (.string ⟨#[]⟩)
    generalize ((((((w1.setCell ⟨w.heap.size, 0, none⟩ (.string ⟨#[]⟩)).setCell ⟨w.heap.size, 1, none⟩ (.int .u64 0)).setCell ⟨w.heap.size, 2, none⟩ (.int .i64 0)).setCell ⟨w.heap.size, 3, none⟩ (.int .i64 0)).setCell ⟨w.heap.size, 4, none⟩ (.bool false)).setCell ⟨w.heap.size, 5, none⟩ (.string ⟨#[]⟩)) = w2 at *
    have d0 : w2.cell? ⟨w.heap.size, 0, none⟩ = some (.string ⟨#[]⟩) := cell_at s1 0
    have d1 : w2.cell? ⟨w.heap.size, 1, none⟩ = some (.int .u64 0) := cell_at s1 1
    have d2 : w2.cell? ⟨w.heap.size, 2, none⟩ = some (.int .i64 0) := cell_at s1 2
    have d3 : w2.cell? ⟨w.heap.size, 3, none⟩ = some (.int .i64 0) := cell_at s1 3
    have d4 : w2.cell? ⟨w.heap.size, 4, none⟩ = some (.bool false) := cell_at s1 4
    have d5 : w2.cell? ⟨w.heap.size, 5, none⟩ = some (.string ⟨#[]⟩) := cell_at s1 5
    refine bodyPost_ret (v := .tuple #[.agg #[.string ⟨#[]⟩, .int .u64 0, .int .i64 0, .int .i64 0, .bool false, .string ⟨#[]⟩], .int .i64 E]) (by simp [results, Tryd.results99, go_sem, d0, d1, d2, d3, d4, d5]) rfl ?_
    have hbe : beginE o name ver = E := by rw [HE.out, if_pos hE]
    have hbv : beginV o name ver = rec0 := by unfold beginV; rw [hbe, if_neg hE]
    rw [hbe, hbv]
    exact ⟨rfl, HO.out.tr s2 (fun i hi e => by omega)⟩
end Go.Proofs.YtjdlcfllmpdffaaDoor
/-! record: Good. -/
namespace Go.Proofs.YtjdlcfllmpdffaaDoor
open Go.Conc Go.RowKit

def goodP (key : ByteArray) (ver : Nat) (o age : Int) (gone : Bool) (data : ByteArray) : Bool :=
  (splitE key == 0) && (splitN key == o) && decide (0 < ver / 2 ^ 32) && decide (0 ≤ age) && decide (age ≤ 65535) && decide (data.size = if gone then 0 else 10)
set_option maxRecDepth 100000 in
set_option maxHeartbeats 2000000 in
theorem good_any (w : World) (key : ByteArray) (ver : Nat) (o age : Int) (gone : Bool) (data : ByteArray) (m : Int) (hm : w.cell? ⟨0, 0, none⟩ = some (.int .i64 m)) (hv : ver < 2 ^ 64) (hk : key.size ≤ 1000000) :
    Calls Tryd.prog 58 #[.agg #[.string key, .int .u64 ver, .int .i64 o, .int .i64 age, .bool gone, .string data]] w fun e w' => e = .returned (.bool (goodP key ver o age gone data)) ∧ Only (fun _ => False) w w' := by
  have hB := heap_alloc_new w (.cells #[.string key, .int .u64 ver, .int .i64 o, .int .i64 age, .bool gone, .string data] 33)
  have HB := Lib.hid hB
  have HM := Lib.hid hm
  have HV := Lib.hid hv
  have HG := Lib.hid (show goodP key ver o age gone data = ((splitE key == 0) && (splitN key == o) && decide (0 < ver / 2 ^ 32) && decide (0 ≤ age) && decide (age ≤ 65535) && decide (data.size = if gone then 0 else 10)) from rfl)
  clear hB hm hv
  go_enter Tryd.func58, Tryd.ntmps58
  go_wp2_with fail
  refine (split_any _ key m (((Only.refl (fun _ => False) w).alloc _).cell HM.out id) hk).mono ?_
  rintro e w1 ⟨rfl, ho1⟩
  have hb1 := ho1.old HB.out id
  have HO := Lib.hid (((Only.refl (fun _ => False) w).alloc _).trans ho1)
  have c0 : w1.cell? ⟨w.heap.size, 0, none⟩ = some (.string key) := cell_at hb1 0
  have c1 : w1.cell? ⟨w.heap.size, 1, none⟩ = some (.int .u64 ver) := cell_at hb1 1
  have c2 : w1.cell? ⟨w.heap.size, 2, none⟩ = some (.int .i64 o) := cell_at hb1 2
  have c3 : w1.cell? ⟨w.heap.size, 3, none⟩ = some (.int .i64 age) := cell_at hb1 3
  have c4 : w1.cell? ⟨w.heap.size, 4, none⟩ = some (.bool gone) := cell_at hb1 4
  have c5 : w1.cell? ⟨w.heap.size, 5, none⟩ = some (.string data) := cell_at hb1 5
  clear ho1 hb1
  generalize splitE key = E at *
  generalize splitN key = Nn at *
  generalize splitS key = Ss at *
  go_wp2_with fail
  refine (life_any _ ver HV.out).mono ?_
  rintro e w2 ⟨rfl, rfl⟩
  generalize ver / 2 ^ 32 = L at *
  cases gone with
  | true =>
    go_wp2_with fail
    all_goals (
      go_ret
      refine ⟨ret_bool ?_, HO.out⟩
      rw [HG.out, Bool.eq_iff_iff]
      simp
      try omega)
  | false =>
    go_wp2_with fail
    all_goals (
      go_ret
      refine ⟨ret_bool ?_, HO.out⟩
      rw [HG.out, Bool.eq_iff_iff]
      simp
      try omega)
end Go.Proofs.YtjdlcfllmpdffaaDoor
/-! Keys of records, plainly. -/
namespace Go.Proofs.YtjdlcfllmpdffaaDoor
open Go.Conc Go.RowKit

theorem bA_key (o : Nat) (name : ByteArray) (h : o < 65536) : bA (keyB o name) 0 = o / 256 ∧ bA (keyB o name) 1 = o % 256 := by
  have e : (keyB o name).data.toList = [UInt8.ofNat ((o : Int) / 256).toNat, UInt8.ofNat ((o : Int) % 256).toNat] ++ name.data.toList := by
    unfold keyB
    rw [ByteArray.data_append, Array.toList_append]
    rfl
  unfold bA
  rw [e]
  constructor
  · show (UInt8.ofNat ((o : Int) / 256).toNat).toNat = _
    rw [UInt8.toNat_ofNat']
    omega
  · show (UInt8.ofNat ((o : Int) % 256).toNat).toNat = _
    rw [UInt8.toNat_ofNat']
    omega
theorem key_rest (o : Int) (name : ByteArray) : (keyB o name).extract 2 (keyB o name).size = name := by
  unfold keyB
  exact ByteArray.extract_append_eq_right rfl ByteArray.size_append
theorem split_key {o : Nat} {name : ByteArray} (h1 : nodeB o = true) (h2 : namedP name = true) : splitN (keyB o name) = o ∧ splitS (keyB o name) = name ∧ splitE (keyB o name) = 0 := by
  have h16 : o < 65536 := by unfold nodeB at h1; simp at h1; omega
  obtain ⟨b0, b1⟩ := bA_key o name h16
  have hn : nodeN (keyB o name) = o := by unfold nodeN; rw [b0, b1]; omega
  have hok : splitOk (keyB o name) = true := by
    unfold splitOk
    rw [key_rest, hn, h1, h2, keyB_size]
    simp
  unfold splitN splitS splitE
  rw [hok, hn, key_rest]
  exact ⟨rfl, rfl, rfl⟩
theorem split_origin (s : ByteArray) : (0 < originP s → splitE s = 0 ∧ splitN s = originP s ∧ splitS s = s.extract 2 s.size ∧ 2 ≤ s.size) ∧ (originP s = 0 → splitE s = 4 ∧ splitN s = 0 ∧ splitS s = ⟨#[]⟩) := by
  have b0 := bA_lt s 0
  have b1 := bA_lt s 1
  have hN : nodeN s = 256 * bA s 0 + bA s 1 := rfl
  constructor
  · intro h
    unfold originP at h
    split at h
    · omega
    · next h2 =>
      split at h
      · next h3 =>
        have hok : splitOk s = true := by
          unfold splitOk nodeB
          rw [h3, decide_eq_true (by omega : 2 ≤ s.size)]
          simp
          omega
        refine ⟨by unfold splitE; rw [hok]; rfl, ?_, by unfold splitS; rw [hok]; rfl, by omega⟩
        unfold splitN originP
        rw [hok, if_neg h2, if_pos h3, hN]
        rfl
      · omega
  · intro h
    have hok : splitOk s = false := by
      unfold originP at h
      unfold splitOk nodeB
      split at h
      · next h2 =>
        rw [decide_eq_false (by omega : ¬ 2 ≤ s.size)]
        rfl
      · split at h
        · have : decide ((1 : Int) ≤ (nodeN s : Nat)) = false := decide_eq_false (by omega)
          rw [this]
          simp
        · next h3 =>
          have : namedP (s.extract 2 s.size) = false := by simpa using h3
          rw [this]
          simp
    obtain ⟨a, b, c⟩ := split_bad hok
    exact ⟨c, a, b⟩


end Go.Proofs.YtjdlcfllmpdffaaDoor
/-! The reference's Good and Data. -/
namespace Go.Proofs.YtjdlcfllmpdffaaDoor
open Go.Conc Go.RowKit

theorem good_form (key : ByteArray) (ver : Nat) (o age : Int) (gone : Bool) (data : ByteArray) : goodP key ver o age gone data = decide ((originP key : Int) = o ∧ o ≠ 0 ∧ 4294967296 ≤ ver ∧ 0 ≤ age ∧ age ≤ 65535 ∧ data.size = if gone then 0 else 10) := by
  have hso := split_origin key
  unfold goodP
  generalize (if gone then 0 else 10) = z
  by_cases hp : 0 < originP key
  · obtain ⟨r1, r2, _⟩ := hso.1 hp
    rw [r1, r2, Bool.eq_iff_iff]
    simp
    omega
  · obtain ⟨r1, r2, _⟩ := hso.2 (by omega)
    rw [r1, Bool.eq_iff_iff]
    simp
    omega
set_option maxRecDepth 100000 in
set_option maxHeartbeats 2000000 in
theorem rgood_any (w : World) (key : ByteArray) (ver : Nat) (o age : Int) (gone : Bool) (data : ByteArray) (hk : key.size ≤ maxLen) :
    Calls Tryd.prog 71 #[.string key, .int .u64 ver, .int .i64 o, .int .i64 age, .bool gone, .string data] w fun e w' => e = .returned (.bool (goodP key ver o age gone data)) ∧ Only (fun _ => False) w w' := by
  have GF := Lib.hid (good_form key ver o age gone data)
  go_enter Tryd.func71, Tryd.ntmps71
  go_wp2_with fail
  refine (rorigin_any _ key hk).mono ?_
  rintro e w1 ⟨rfl, ho1⟩
  generalize originP key = L at *
  have HO1 := Lib.hid ho1
  have hdz : data.size = 0 ∨ data.size ≠ 0 := by omega
  have HDZ := Lib.hid hdz
  clear ho1 hdz
  by_cases c1 : (L : Int) = o
  · subst c1
    by_cases c2 : (L : Int) = 0
    · have q2 : ((L : Int) == 0) = true := by simp; omega
      go_wp2_with fail
      go_ret
      refine ⟨ret_bool ?_, HO1.out⟩
      rw [GF.out]
      refine (decide_eq_false ?_).symm
      omega
    · have q2 : ((L : Int) == 0) = false := by simp; omega
      by_cases c3 : (ver : Int) < 4294967296
      · have q3 : decide ((ver : Int) < 4294967296) = true := decide_eq_true c3
        go_wp2_with fail
        go_ret
        refine ⟨ret_bool ?_, HO1.out⟩
        rw [GF.out]
        refine (decide_eq_false ?_).symm
        omega
      · have q3 : decide ((ver : Int) < 4294967296) = false := decide_eq_false c3
        by_cases c4 : age < 0
        · have q4 : decide (age < 0) = true := decide_eq_true c4
          go_wp2_with fail
          go_ret
          refine ⟨ret_bool ?_, HO1.out⟩
          rw [GF.out]
          refine (decide_eq_false ?_).symm
          omega
        · have q4 : decide (age < 0) = false := decide_eq_false c4
          have h8 : 0 ≤ age := by omega
          by_cases c5 : 65535 < age
          · have q5 : decide (65535 < age) = true := decide_eq_true c5
            go_wp2_with fail
            go_ret
            refine ⟨ret_bool ?_, HO1.out⟩
            rw [GF.out]
            refine (decide_eq_false ?_).symm
            omega
          · have q5 : decide (65535 < age) = false := decide_eq_false c5
            have h10 : age ≤ 65535 := by omega
            have hv : 4294967296 ≤ ver := by omega
            have HV := Lib.hid (And.intro c2 (And.intro hv (And.intro h8 h10)))
            cases gone with
            | true =>
              rcases HDZ.out with h0 | h0
              · have e0 := empty_true h0
                have HD := Lib.hid h0
                clear h0
                go_wp2_with fail
                go_ret
                refine ⟨ret_bool ?_, HO1.out⟩
                rw [GF.out]
                exact (decide_eq_true ⟨(by first | trivial | rfl), HV.out.1, HV.out.2.1, HV.out.2.2.1, HV.out.2.2.2, HD.out⟩).symm
              · have e0 := empty_false h0
                have HD := Lib.hid h0
                clear h0
                go_wp2_with fail
                go_ret
                refine ⟨ret_bool ?_, HO1.out⟩
                rw [GF.out]
                exact (decide_eq_false (fun h => HD.out h.2.2.2.2.2)).symm
            | false =>
              by_cases hd : data.size = 10
              · have e1 : ((data.size : Int) == 10) = true := by simp; omega
                have HD := Lib.hid hd
                clear hd
                go_wp2_with fail
                go_ret
                refine ⟨ret_bool ?_, HO1.out⟩
                rw [GF.out]
                exact (decide_eq_true ⟨(by first | trivial | rfl), HV.out.1, HV.out.2.1, HV.out.2.2.1, HV.out.2.2.2, HD.out⟩).symm
              · have e1 : ((data.size : Int) == 10) = false := by simp; omega
                have HD := Lib.hid hd
                clear hd
                go_wp2_with fail
                go_ret
                refine ⟨ret_bool ?_, HO1.out⟩
                rw [GF.out]
                exact (decide_eq_false (fun h => HD.out h.2.2.2.2.2)).symm
  · have q1 : ((L : Int) != o) = true := by simp; omega
    have q1' : ((L : Int) == o) = false := by simp; omega
    go_wp2_with fail
    go_ret
    refine ⟨ret_bool ?_, HO1.out⟩
    rw [GF.out]
    refine (decide_eq_false ?_).symm
    omega
end Go.Proofs.YtjdlcfllmpdffaaDoor
/-! Equality of records. -/
namespace Go.Proofs.YtjdlcfllmpdffaaDoor
open Go.Conc Go.RowKit

theorem eqR (w : World) (k k' d d' : ByteArray) (v o a v' o' a' : Int) (g g' : Bool) : (binOp BinOp.eql 33 (.agg #[.string k, .int .u64 v, .int .i64 o, .int .i64 a, .bool g, .string d]) (.agg #[.string k', .int .u64 v', .int .i64 o', .int .i64 a', .bool g', .string d'])).run Tryd.prog w = .ok (.bool ((k.toList == k'.toList) && (v == v') && (o == o') && (a == a') && (g == g') && (d.toList == d'.toList))) w := by
  simp [go_sem]
  by_cases h1 : k.toList = k'.toList <;> by_cases h2 : v = v' <;> by_cases h3 : o = o' <;> by_cases h4 : a = a' <;> by_cases h5 : g = g' <;> simp [h1, h2, h3, h4, h5]
  split <;> simp_all
theorem neR (w : World) (k k' d d' : ByteArray) (v o a v' o' a' : Int) (g g' : Bool) : (binOp BinOp.neq 33 (.agg #[.string k, .int .u64 v, .int .i64 o, .int .i64 a, .bool g, .string d]) (.agg #[.string k', .int .u64 v', .int .i64 o', .int .i64 a', .bool g', .string d'])).run Tryd.prog w = .ok (.bool (!((k.toList == k'.toList) && (v == v') && (o == o') && (a == a') && (g == g') && (d.toList == d'.toList)))) w := by
  simp [go_sem]
  by_cases h1 : k.toList = k'.toList <;> by_cases h2 : v = v' <;> by_cases h3 : o = o' <;> by_cases h4 : a = a' <;> by_cases h5 : g = g' <;> simp [h1, h2, h3, h4, h5]
  split <;> simp_all
end Go.Proofs.YtjdlcfllmpdffaaDoor
