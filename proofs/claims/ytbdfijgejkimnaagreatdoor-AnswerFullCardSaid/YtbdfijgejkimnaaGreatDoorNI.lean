/- bellhoplaw25.made. -/
import Derived.Test.YtbdfijgejkimnaaGreatDoorNH
import Derived.Test.YtbdfijgejkimnaaGreatDoorNB
import Derived.Test.YtbdfijgejkimnaaGreatDoorNF
import Derived.Deep.CutBlock
import Derived.Test.YtbdfijgejkimnaaGreatDoorNE
import Derived.StillTailTactics
import Derived.Outline
import Derived.Test.YtbdfijgejkimnaaGreatDoorND
import Derived.Laws.StructEq
import Derived.Deep.RegionHeld3
/-! bellhopref15: Put. -/
namespace Go.Proofs.YtbdfijgejkimnaaGreatDoor
open Go.Conc Go.RowKit Go.Maps

theorem less_ltK (a b : ByteArray) : Op.bytesLess a.toList b.toList = decide (ltK a b) := by
  rw [Proofs.bytesLess_eq, ByteArray.toList_eq, ByteArray.toList_eq]
  rfl
theorem insS_cons (x z : RecT) (A : List RecT) : insS x (z :: A) = if x.key = z.key then x :: A else if ltK x.key z.key then x :: z :: A else z :: insS x A := rfl
theorem ins_app {x : RecT} : ∀ {A B : List RecT}, (∀ z ∈ A, x.key ≠ z.key ∧ ¬ ltK x.key z.key) → insS x (A ++ B) = A ++ insS x B
  | [], _, _ => rfl
  | z :: A, B, h => by
    obtain ⟨h1, h2⟩ := h z (by simp)
    rw [List.cons_append, insS_cons, if_neg h1, if_neg h2, ins_app (fun y hy => h y (by simp [hy])), List.cons_append]
theorem ins_in {x : RecT} : ∀ {A B : List RecT}, (∃ z ∈ A, ltK x.key z.key) → (∀ z ∈ A, x.key ≠ z.key) → insS x (A ++ B) = insS x A ++ B
  | [], _, ⟨_, h, _⟩, _ => by cases h
  | z :: A, B, ⟨y, hy, hl⟩, hn => by
    rw [List.cons_append, insS_cons, insS_cons, if_neg (hn z (by simp)), if_neg (hn z (by simp))]
    by_cases hlt : ltK x.key z.key
    · rw [if_pos hlt, if_pos hlt]; rfl
    · rw [if_neg hlt, if_neg hlt, ins_in ⟨y, (List.mem_cons.1 hy).resolve_left (fun e => hlt (e ▸ hl)), hl⟩ (fun z hz => hn z (by simp [hz])), List.cons_append]
/-- What Put's loop has behind so many records. -/
def PutLoop (x : RecT) (A : List RecT) (p : Bool) (out : List RecT) : Prop :=
  match p with
  | false => out = A ∧ ∀ z ∈ A, ¬ ltK x.key z.key
  | true => out = insS x A ∧ ∃ z ∈ A, ltK x.key z.key
theorem PutLoop.no {x y : RecT} {A out : List RecT} (h : PutLoop x A false out) (hn : ¬ ltK x.key y.key) : PutLoop x (A ++ [y]) false (out ++ [y]) := by
  obtain ⟨rfl, h2⟩ := h
  refine ⟨rfl, fun z hz => ?_⟩
  rcases List.mem_append.1 hz with hz | hz
  · exact h2 z hz
  · obtain rfl : z = y := by simpa using hz
    exact hn
theorem PutLoop.place {x y : RecT} {A out : List RecT} (h : PutLoop x A false out) (hlt : ltK x.key y.key) (hne : ∀ z ∈ A ++ [y], x.key ≠ z.key) : PutLoop x (A ++ [y]) true ((out ++ [x]) ++ [y]) := by
  obtain ⟨rfl, h2⟩ := h
  refine ⟨?_, y, by simp, hlt⟩
  rw [ins_app (fun z hz => ⟨hne z (by simp [hz]), h2 z hz⟩), insS_cons, if_neg (hne y (by simp)), if_pos hlt]
  simp
theorem PutLoop.on {x y : RecT} {A out : List RecT} (h : PutLoop x A true out) (hne : ∀ z ∈ A ++ [y], x.key ≠ z.key) : PutLoop x (A ++ [y]) true (out ++ [y]) := by
  obtain ⟨rfl, z, hz, hl⟩ := h
  exact ⟨by rw [ins_in ⟨z, hz, hl⟩ (fun z hz => hne z (by simp [hz]))], z, by simp [hz], hl⟩
theorem PutLoop.fin {x : RecT} {A out : List RecT} {p : Bool} (h : PutLoop x A p out) (hne : ∀ z ∈ A, x.key ≠ z.key) : insS x A = if p then out else out ++ [x] := by
  cases p
  · obtain ⟨rfl, h2⟩ := h
    have := ins_app (B := []) (fun z hz => ⟨hne z hz, h2 z hz⟩)
    rw [List.append_nil] at this
    rw [this]
    rfl
  · obtain ⟨rfl, _⟩ := h
    rfl
theorem ins_set {x : RecT} {L : List RecT} (h : Rising L) {i : Nat} (hi : i < L.length) (hk : L[i].key = x.key) : insS x L = L.set i x := by
  have e : L = L.take i ++ L[i] :: L.drop (i + 1) := by rw [List.getElem_cons_drop, List.take_append_drop]
  have h2 : Rising (L.take i ++ L[i] :: L.drop (i + 1)) := by rw [← e]; exact h
  have := ins_mid h2 (y := x) hk.symm
  rw [← e] at this
  rw [this, List.set_eq_take_append_cons_drop, if_pos hi]
/-- Where a key is. -/
theorem findI_some {L : List RecT} {k : ByteArray} {y : RecT} (h : findS L k = some y) : ∃ i, ∃ hi : i < L.length, findI L k = (i : Nat) ∧ L[i] = y ∧ L[i].key = k := by
  obtain ⟨h1, h2⟩ := findS_some h
  have hn : L.all (fun x => !decide (x.key = k)) = false := by
    rw [List.all_eq_false]
    exact ⟨y, h1, by simp [h2]⟩
  have hlt : L.findIdx (fun x => decide (x.key = k)) < L.length := List.findIdx_lt_length_of_exists ⟨y, h1, by simpa using h2⟩
  have hp := List.findIdx_getElem (w := hlt)
  refine ⟨_, hlt, ?_, ?_, by simpa using hp⟩
  · unfold findI idxV
    rw [hn]
    rfl
  · have h3 : L.find? (fun x => decide (x.key = k)) = some y := h
    rw [List.find?_eq_getElem?_findIdx, List.getElem?_eq_getElem hlt] at h3
    exact Option.some.inj h3
theorem findI_none {L : List RecT} {k : ByteArray} (h : findS L k = none) : findI L k = -1 := by
  have hn : L.all (fun x => !decide (x.key = k)) = true := by
    rw [List.all_eq_true]
    intro x hx
    simp [findS_none h x hx]
  unfold findI idxV
  rw [hn]
  rfl
def RPutP (w w' : World) (most ttl r : Int) (L : List RecT) (x : RecT) (e : Ending) : Prop :=
  ∃ v', e = .returned (.tuple #[rstV most ttl v' (putR most ttl L x r), .int .i64 (putE most ttl L x)]) ∧ Only (fun _ => False) w w' ∧ RSl w' v' (putS most ttl L x)
/-- A slice is the one that came in, or lies in a block of the call's own. -/
def NewOr (w w' : World) (v v' : Value) : Prop := v' = v ∨ ∀ b, v'.ownBlock = some b → w.heap.size ≤ b ∧ b < w'.heap.size
def RPutQ (w w' : World) (most ttl r : Int) (L : List RecT) (x : RecT) (v : Value) (e : Ending) : Prop :=
  ∃ v', e = .returned (.tuple #[rstV most ttl v' (putR most ttl L x r), .int .i64 (putE most ttl L x)]) ∧ Only (fun _ => False) w w' ∧ RSl w' v' (putS most ttl L x) ∧ NewOr w w' v v'
set_option maxRecDepth 100000 in
set_option maxHeartbeats 2000000 in
theorem rput_own (w : World) (most ttl r : Int) (v : Value) (L : List RecT) (h : RSl w v L) (hL : L.length ≤ 1000000) (hris : Rising L) (x : RecT) (hk : x.key.size ≤ 1000000) (hr0 : 0 ≤ r) (hr : r < 1000000) :
    Calls Tryz.prog 26 #[rstV most ttl v r, recT x] w fun e w' => RPutQ w w' most ttl r L x v e := by
  obtain ⟨i0, hi0, iz0, iz1, iz2⟩ := info_parts infoRRec
  obtain ⟨a, cap, rfl, h1, h2, h3⟩ := Sl.cells recC_length h
  unfold maxLen at h2
  have HE := Lib.hid (show putE most ttl L x = if goodR x = false then 4 else if ttl ≤ x.age then 7 else putFE most L.length x.ver (findS L x.key) from rfl)
  have HRP := Lib.hid (show ∀ w' e, (∃ v', e = .returned (.tuple #[rstV most ttl v' (putR most ttl L x r), .int .i64 (putE most ttl L x)]) ∧ Only (fun _ => False) w w' ∧ RSl w' v' (putS most ttl L x) ∧ NewOr w w' (.slice a L.length cap) v') → RPutQ w w' most ttl r L x (.slice a L.length cap) e from fun _ _ h => h)
  have hpS : putE most ttl L x = 0 → putR most ttl L x r = r ∧ putS most ttl L x = insS x L := fun e => by unfold putR putS; rw [e]; exact ⟨rfl, rfl⟩
  have hpR : putE most ttl L x = 5 → putR most ttl L x r = r + 1 ∧ putS most ttl L x = L := fun e => by unfold putR putS; rw [e]; exact ⟨rfl, rfl⟩
  have hpN : putE most ttl L x ≠ 0 → putE most ttl L x ≠ 5 → putR most ttl L x r = r ∧ putS most ttl L x = L := fun e f => by unfold putR putS; rw [if_neg e, if_neg f]; exact ⟨rfl, rfl⟩
  have HG := Lib.hid (fun w => rgood_any w x.key x.ver x.o x.age x.gone x.data (by unfold maxLen; omega))
  have hg0 : goodR x = goodP x.key x.ver x.o x.age x.gone x.data := rfl
  have HFD := Lib.hid (fun w v h => rfind_any w most ttl r v L x.key h)
  have HS := Lib.hid (fun i hi hk => ins_set (x := x) hris (i := i) hi hk)
  have HN := Lib.hid (fun h => findI_none (L := L) (k := x.key) h)
  have HY := Lib.hid (fun y h => findI_some (L := L) (k := x.key) (y := y) h)
  have HNK := Lib.hid (fun h => findS_none (L := L) (k := x.key) h)
  have HPL := Lib.hid (fun A p out h hne => PutLoop.fin (x := x) (A := A) (out := out) (p := p) h hne)
  have hxe : RecT.mk x.key x.ver x.o x.age x.gone x.data = x := by cases x; rfl
  have HPS := Lib.hid hpS
  have HPR := Lib.hid hpR
  have HPN := Lib.hid hpN
  have HXE := Lib.hid hxe
  have HG0 := Lib.hid hg0
  clear hpS hpR hpN hxe hg0
  unfold recT rstV
  obtain ⟨W, hW⟩ : ∃ W, W = w.alloc (.cells #[.int .i64 most, .int .i64 ttl, .slice a L.length cap, .int .i64 r] 27) := ⟨_, rfl⟩
  have hbW : W.heap[w.heap.size]? = some (.cells #[.int .i64 most, .int .i64 ttl, .slice a L.length cap, .int .i64 r] 27 (0, 0)) := by rw [hW]; exact heap_alloc_new w _
  have hoW : Only (fun _ => False) w W := by rw [hW]; exact (Only.refl _ _).alloc _
  have hsW : W.heap.size = w.heap.size + 1 := by rw [hW]; simp
  obtain ⟨W1, hW1⟩ : ∃ W1, W1 = W.alloc (.cells #[.string x.key, .int .u64 x.ver, .int .i64 x.o, .int .i64 x.age, .bool x.gone, .string x.data] 75) := ⟨_, rfl⟩
  have hbW1 : W1.heap[W.heap.size]? = some (.cells #[.string x.key, .int .u64 x.ver, .int .i64 x.o, .int .i64 x.age, .bool x.gone, .string x.data] 75 (0, 0)) := by rw [hW1]; exact heap_alloc_new W _
  have hoW1 : Only (fun _ => False) W W1 := by rw [hW1]; exact (Only.refl _ _).alloc _
  have hsW1 : W1.heap.size = W.heap.size + 1 := by rw [hW1]; simp
  obtain ⟨W2, hW2⟩ : ∃ W2, W2 = W1.alloc (.cells #[.int .i64 0, .int .i64 0, .slice none 0 0, .int .i64 0] 27) := ⟨_, rfl⟩
  have hbW2 : W2.heap[W1.heap.size]? = some (.cells #[.int .i64 0, .int .i64 0, .slice none 0 0, .int .i64 0] 27 (0, 0)) := by rw [hW2]; exact heap_alloc_new W1 _
  have hoW2 : Only (fun _ => False) W1 W2 := by rw [hW2]; exact (Only.refl _ _).alloc _
  have hsW2 : W2.heap.size = W1.heap.size + 1 := by rw [hW2]; simp
  have hb0 := hoW2.old (hoW1.old hbW id) id
  have hb1 := hoW2.old hbW1 id
  have hoA := (hoW.trans hoW1).trans hoW2
  have hsX : W.heap.size = w.heap.size + 1 ∧ W1.heap.size = w.heap.size + 2 ∧ W2.heap.size = w.heap.size + 3 := by omega
  rw [hsX.1] at hb1
  rw [hsX.2.1] at hbW2
  have HB0 := Lib.hid hb0
  have HB1 := Lib.hid hb1
  have HB2 := Lib.hid hbW2
  have HOA := Lib.hid hoA
  have HSX := Lib.hid hsX
  have HC := Lib.hid h3
  have HH := Lib.hid h
  clear hb0 hb1 hbW2 hoA hsX h3 h
  clear hbW hbW1 hoW hoW1 hoW2 hsW hsW1 hsW2
  have e6 : goodR x = goodP x.key x.ver x.o x.age x.gone x.data := rfl
  rw [← e6] at HG
  clear e6 HG0
  generalize goodR x = gd at *
  generalize putE most ttl L x = E at *
  go_enter Tryz.func26, Tryz.ntmps26
  go_upto_region 1 with (fail)
  rw [← hW, ← hW1, ← hW2]
  clear hW hW1 hW2
  generalize hX : w.heap.size = X at *
  have HXW := Lib.hid hX
  clear hX
  have y0 : W2.cell? ⟨(X + 1), 0, none⟩ = some (.string x.key) := cell_at HB1.out 0
  have y1 : W2.cell? ⟨(X + 1), 1, none⟩ = some (.int .u64 x.ver) := cell_at HB1.out 1
  have y2 : W2.cell? ⟨(X + 1), 2, none⟩ = some (.int .i64 x.o) := cell_at HB1.out 2
  have y3 : W2.cell? ⟨(X + 1), 3, none⟩ = some (.int .i64 x.age) := cell_at HB1.out 3
  have y4 : W2.cell? ⟨(X + 1), 4, none⟩ = some (.bool x.gone) := cell_at HB1.out 4
  have y5 : W2.cell? ⟨(X + 1), 5, none⟩ = some (.string x.data) := cell_at HB1.out 5
  go_wp2_with fail
  refine (HG.out _).mono ?_
  rintro e w3 ⟨rfl, ho3⟩
  have hb0 := ho3.old HB0.out id
  have hb1 := ho3.old HB1.out id
  have hb2 := ho3.old HB2.out id
  have hoB := HOA.out.trans ho3
  clear y0 y1 y2 y3 y4 y5 HB0 HB1 HB2 HOA
  cases gd
  · -- bad
    have e4 : E = 4 := by rw [HE.out]; rfl
    obtain ⟨n1, n2⟩ := HPN.out (by omega) (by omega)
    have H0 := Lib.hid hb0
    have H1 := Lib.hid hb1
    have H2 := Lib.hid hb2
    have HOB := Lib.hid hoB
    have N1 := Lib.hid n1
    have N2 := Lib.hid n2
    have E4 := Lib.hid e4
    clear hb0 hb1 hb2 hoB n1 n2 e4
    clear ho3
    have x0 : w3.cell? ⟨X, 0, none⟩ = some (.int .i64 most) := cell_at H0.out 0
    have x1 : w3.cell? ⟨X, 1, none⟩ = some (.int .i64 ttl) := cell_at H0.out 1
    have x2 : w3.cell? ⟨X, 2, none⟩ = some (.slice a L.length cap) := cell_at H0.out 2
    have x3 : w3.cell? ⟨X, 3, none⟩ = some (.int .i64 (r)) := cell_at H0.out 3
    have zf : ∀ i, w3.frozen? ⟨X + 2, i, none⟩ = false := free_at H2.out
    have z0 : w3.cell? ⟨(X + 2), 0, none⟩ = some (.int .i64 0) := cell_at H2.out 0
    have z1 : w3.cell? ⟨(X + 2), 1, none⟩ = some (.int .i64 0) := cell_at H2.out 1
    have z2 : w3.cell? ⟨(X + 2), 2, none⟩ = some (.slice none 0 0) := cell_at H2.out 2
    have z3 : w3.cell? ⟨(X + 2), 3, none⟩ = some (.int .i64 0) := cell_at H2.out 3
    have hn1 : ¬ X + 2 = X := by omega
    have hn2 : ¬ X = X + 2 := by omega
    go_wp2_with fail
    clear x0 x1 x2 x3 z0 z1 z2 z3 zf
    obtain ⟨s1, s2⟩ := lit_set H2.out [.int .i64 most, .int .i64 ttl, .slice a L.length cap, .int .i64 (r)] rfl
    rw [show World.setCells w3 (X + 2) 0 [.int .i64 most, .int .i64 ttl, .slice a L.length cap, .int .i64 (r)] = ((((w3.setCell ⟨(X + 2), 0, none⟩ (.int .i64 most)).setCell ⟨(X + 2), 1, none⟩ (.int .i64 ttl)).setCell ⟨(X + 2), 2, none⟩ (.slice a L.length cap)).setCell ⟨(X + 2), 3, none⟩ (.int .i64 (r))) from rfl] at s1 s2
    generalize ((((w3.setCell ⟨(X + 2), 0, none⟩ (.int .i64 most)).setCell ⟨(X + 2), 1, none⟩ (.int .i64 ttl)).setCell ⟨(X + 2), 2, none⟩ (.slice a L.length cap)).setCell ⟨(X + 2), 3, none⟩ (.int .i64 (r))) = wz at *
    have p0 : wz.cell? ⟨(X + 2), 0, none⟩ = some (.int .i64 most) := cell_at s1 0
    have p1 : wz.cell? ⟨(X + 2), 1, none⟩ = some (.int .i64 ttl) := cell_at s1 1
    have p2 : wz.cell? ⟨(X + 2), 2, none⟩ = some (.slice a L.length cap) := cell_at s1 2
    have p3 : wz.cell? ⟨(X + 2), 3, none⟩ = some (.int .i64 (r)) := cell_at s1 3
    refine bodyPost_ret (v := .tuple #[.agg #[.int .i64 most, .int .i64 ttl, .slice a L.length cap, .int .i64 (r)], .int .i64 4]) (by simp [results, Tryz.results26, go_sem, p0, p1, p2, p3]) rfl ?_
    refine HRP.out _ _ ?_
    skip
    have hfin := HOB.out.tr s2 (fun i hi e => by have := HXW.out; omega)
    exact ⟨.slice a L.length cap, by rw [N1.out, E4.out]; rfl, hfin, by rw [N2.out]; exact HH.out.new hfin, .inl rfl⟩
  · have y3 : w3.cell? ⟨X + 1, 3, none⟩ = some (.int .i64 x.age) := cell_at hb1 3
    have x1 : w3.cell? ⟨X, 1, none⟩ = some (.int .i64 ttl) := cell_at hb0 1
    by_cases ha : ttl ≤ x.age
    · -- old
      have e4 : E = 7 := by rw [HE.out, if_neg (by decide), if_pos ha]
      obtain ⟨n1, n2⟩ := HPN.out (by omega) (by omega)
      have H0 := Lib.hid hb0
      have H1 := Lib.hid hb1
      have H2 := Lib.hid hb2
      have HOB := Lib.hid hoB
      have N1 := Lib.hid n1
      have N2 := Lib.hid n2
      have E4 := Lib.hid e4
      clear hb0 hb1 hb2 hoB n1 n2 e4
      clear ho3
      go_upto_region 4 with (fail)
      clear x1 y3
      have x0 : w3.cell? ⟨X, 0, none⟩ = some (.int .i64 most) := cell_at H0.out 0
      have x1 : w3.cell? ⟨X, 1, none⟩ = some (.int .i64 ttl) := cell_at H0.out 1
      have x2 : w3.cell? ⟨X, 2, none⟩ = some (.slice a L.length cap) := cell_at H0.out 2
      have x3 : w3.cell? ⟨X, 3, none⟩ = some (.int .i64 (r)) := cell_at H0.out 3
      have zf : ∀ i, w3.frozen? ⟨X + 2, i, none⟩ = false := free_at H2.out
      have z0 : w3.cell? ⟨(X + 2), 0, none⟩ = some (.int .i64 0) := cell_at H2.out 0
      have z1 : w3.cell? ⟨(X + 2), 1, none⟩ = some (.int .i64 0) := cell_at H2.out 1
      have z2 : w3.cell? ⟨(X + 2), 2, none⟩ = some (.slice none 0 0) := cell_at H2.out 2
      have z3 : w3.cell? ⟨(X + 2), 3, none⟩ = some (.int .i64 0) := cell_at H2.out 3
      have hn1 : ¬ X + 2 = X := by omega
      have hn2 : ¬ X = X + 2 := by omega
      go_wp2_with fail
      clear x0 x1 x2 x3 z0 z1 z2 z3 zf
      obtain ⟨s1, s2⟩ := lit_set H2.out [.int .i64 most, .int .i64 ttl, .slice a L.length cap, .int .i64 (r)] rfl
      rw [show World.setCells w3 (X + 2) 0 [.int .i64 most, .int .i64 ttl, .slice a L.length cap, .int .i64 (r)] = ((((w3.setCell ⟨(X + 2), 0, none⟩ (.int .i64 most)).setCell ⟨(X + 2), 1, none⟩ (.int .i64 ttl)).setCell ⟨(X + 2), 2, none⟩ (.slice a L.length cap)).setCell ⟨(X + 2), 3, none⟩ (.int .i64 (r))) from rfl] at s1 s2
      generalize ((((w3.setCell ⟨(X + 2), 0, none⟩ (.int .i64 most)).setCell ⟨(X + 2), 1, none⟩ (.int .i64 ttl)).setCell ⟨(X + 2), 2, none⟩ (.slice a L.length cap)).setCell ⟨(X + 2), 3, none⟩ (.int .i64 (r))) = wz at *
      have p0 : wz.cell? ⟨(X + 2), 0, none⟩ = some (.int .i64 most) := cell_at s1 0
      have p1 : wz.cell? ⟨(X + 2), 1, none⟩ = some (.int .i64 ttl) := cell_at s1 1
      have p2 : wz.cell? ⟨(X + 2), 2, none⟩ = some (.slice a L.length cap) := cell_at s1 2
      have p3 : wz.cell? ⟨(X + 2), 3, none⟩ = some (.int .i64 (r)) := cell_at s1 3
      refine bodyPost_ret (v := .tuple #[.agg #[.int .i64 most, .int .i64 ttl, .slice a L.length cap, .int .i64 (r)], .int .i64 7]) (by simp [results, Tryz.results26, go_sem, p0, p1, p2, p3]) rfl ?_
      refine HRP.out _ _ ?_
      skip
      have hfin := HOB.out.tr s2 (fun i hi e => by have := HXW.out; omega)
      exact ⟨.slice a L.length cap, by rw [N1.out, E4.out]; rfl, hfin, by rw [N2.out]; exact HH.out.new hfin, .inl rfl⟩
    · have e0 : E = putFE most L.length x.ver (findS L x.key) := by rw [HE.out, if_neg (by decide), if_neg ha]
      have y0 : w3.cell? ⟨X + 1, 0, none⟩ = some (.string x.key) := cell_at hb1 0
      have z0 : w3.cell? ⟨X, 0, none⟩ = some (.int .i64 most) := cell_at hb0 0
      have z1 : w3.cell? ⟨X, 1, none⟩ = some (.int .i64 ttl) := cell_at hb0 1
      have z2 : w3.cell? ⟨X, 2, none⟩ = some (.slice a L.length cap) := cell_at hb0 2
      have z3 : w3.cell? ⟨X, 3, none⟩ = some (.int .i64 r) := cell_at hb0 3
      have hfd := HFD.out w3 (.slice a L.length cap) (HH.out.new hoB)
      unfold rstV at hfd
      generalize findS L x.key = fo at *
      generalize findI L x.key = fi at *
      have H0 := Lib.hid hb0
      have H1 := Lib.hid hb1
      have H2 := Lib.hid hb2
      have HOB := Lib.hid hoB
      have E0 := Lib.hid e0
      have HFF := Lib.hid hfd
      clear hb0 hb1 hb2 hoB e0 hfd
      clear ho3 HE HFD HG
      go_wp2_with fail
      refine HFF.out.mono ?_
      rintro e w4 ⟨rfl, ho4⟩
      have hb0 := ho4.old H0.out id
      have hb1 := ho4.old H1.out id
      have hb2 := ho4.old H2.out id
      have hoC := HOB.out.trans ho4
      clear y0 y3 z0 z1 z2 z3 x1 ho4 H0 H1 H2 HOB
      cases fo with
      | none =>
        have hm1 := HN.out rfl
        subst hm1
        have x2 : w4.cell? ⟨X, 2, none⟩ = some (.slice a L.length cap) := cell_at hb0 2
        have x0 : w4.cell? ⟨X, 0, none⟩ = some (.int .i64 most) := cell_at hb0 0
        by_cases hf : most ≤ (L.length : Int)
        · -- full
          have e4 : E = 5 := by rw [E0.out]; exact if_pos hf
          obtain ⟨n1, n2⟩ := HPR.out (by omega)
          have x3 : w4.cell? ⟨X, 3, none⟩ = some (.int .i64 r) := cell_at hb0 3
          have xf : ∀ i, w4.frozen? ⟨X, i, none⟩ = false := free_at hb0
          have t1 : Only (fun i => i = X) w4 (w4.setCell ⟨X, 3, none⟩ (.int .i64 (r + 1))) := (Only.refl _ _).setCell (S := fun i => i = X) (p := ⟨X, 3, none⟩) (.inr rfl) _
          have hb0' : (w4.setCell ⟨X, 3, none⟩ (.int .i64 (r + 1))).heap[X]? = some (.cells #[.int .i64 most, .int .i64 ttl, .slice a L.length cap, .int .i64 (r + 1)] 27 (0, 0)) := set_at hb0 3 _
          have hb2' := t1.old hb2 (by omega)
          obtain ⟨w5, hw5⟩ : ∃ w5, w5 = w4.setCell ⟨X, 3, none⟩ (.int .i64 (r + 1)) := ⟨_, rfl⟩
          rw [← hw5] at t1 hb0' hb2'
          have H0 := Lib.hid hb0'
          have H2 := Lib.hid hb2'
          have HOC := Lib.hid hoC
          have N1 := Lib.hid n1
          have N2 := Lib.hid n2
          have E4 := Lib.hid e4
          have T1 := Lib.hid t1
          clear hb0' hb2' hoC n1 n2 e4 t1
          clear hb0 hb1 hb2
          go_upto_region 14 with (fail)
          rw [← hw5]
          clear hw5 x0 x2 x3 xf
          have x0 : w5.cell? ⟨X, 0, none⟩ = some (.int .i64 most) := cell_at H0.out 0
          have x1 : w5.cell? ⟨X, 1, none⟩ = some (.int .i64 ttl) := cell_at H0.out 1
          have x2 : w5.cell? ⟨X, 2, none⟩ = some (.slice a L.length cap) := cell_at H0.out 2
          have x3 : w5.cell? ⟨X, 3, none⟩ = some (.int .i64 (r + 1)) := cell_at H0.out 3
          have zf : ∀ i, w5.frozen? ⟨X + 2, i, none⟩ = false := free_at H2.out
          have z0 : w5.cell? ⟨(X + 2), 0, none⟩ = some (.int .i64 0) := cell_at H2.out 0
          have z1 : w5.cell? ⟨(X + 2), 1, none⟩ = some (.int .i64 0) := cell_at H2.out 1
          have z2 : w5.cell? ⟨(X + 2), 2, none⟩ = some (.slice none 0 0) := cell_at H2.out 2
          have z3 : w5.cell? ⟨(X + 2), 3, none⟩ = some (.int .i64 0) := cell_at H2.out 3
          have hn1 : ¬ X + 2 = X := by omega
          have hn2 : ¬ X = X + 2 := by omega
          go_wp2_with fail
          clear x0 x1 x2 x3 z0 z1 z2 z3 zf
          obtain ⟨s1, s2⟩ := lit_set H2.out [.int .i64 most, .int .i64 ttl, .slice a L.length cap, .int .i64 (r + 1)] rfl
          rw [show World.setCells w5 (X + 2) 0 [.int .i64 most, .int .i64 ttl, .slice a L.length cap, .int .i64 (r + 1)] = ((((w5.setCell ⟨(X + 2), 0, none⟩ (.int .i64 most)).setCell ⟨(X + 2), 1, none⟩ (.int .i64 ttl)).setCell ⟨(X + 2), 2, none⟩ (.slice a L.length cap)).setCell ⟨(X + 2), 3, none⟩ (.int .i64 (r + 1))) from rfl] at s1 s2
          generalize ((((w5.setCell ⟨(X + 2), 0, none⟩ (.int .i64 most)).setCell ⟨(X + 2), 1, none⟩ (.int .i64 ttl)).setCell ⟨(X + 2), 2, none⟩ (.slice a L.length cap)).setCell ⟨(X + 2), 3, none⟩ (.int .i64 (r + 1))) = wz at *
          have p0 : wz.cell? ⟨(X + 2), 0, none⟩ = some (.int .i64 most) := cell_at s1 0
          have p1 : wz.cell? ⟨(X + 2), 1, none⟩ = some (.int .i64 ttl) := cell_at s1 1
          have p2 : wz.cell? ⟨(X + 2), 2, none⟩ = some (.slice a L.length cap) := cell_at s1 2
          have p3 : wz.cell? ⟨(X + 2), 3, none⟩ = some (.int .i64 (r + 1)) := cell_at s1 3
          refine bodyPost_ret (v := .tuple #[.agg #[.int .i64 most, .int .i64 ttl, .slice a L.length cap, .int .i64 (r + 1)], .int .i64 5]) (by simp [results, Tryz.results26, go_sem, p0, p1, p2, p3]) rfl ?_
          refine HRP.out _ _ ?_
          skip
          have hfin := (HOC.out.tr T1.out (fun i hi e => by have := HXW.out; omega)).tr s2 (fun i hi e => by have := HXW.out; omega)
          exact ⟨.slice a L.length cap, by rw [N1.out, E4.out]; rfl, hfin, by rw [N2.out]; exact HH.out.new hfin, .inl rfl⟩
        · -- loop
          have e4 : E = 0 := by rw [E0.out]; exact if_neg hf
          obtain ⟨n1, n2⟩ := HPS.out e4
          have hnk := HNK.out rfl
          have H0 := Lib.hid hb0
          have H1 := Lib.hid hb1
          have H2 := Lib.hid hb2
          have HOC := Lib.hid hoC
          have N1 := Lib.hid n1
          have N2 := Lib.hid n2
          have E4 := Lib.hid e4
          have HK1 := Lib.hid hnk
          clear hb0 hb1 hb2 hoC n1 n2 e4 hnk
          go_wp2_with fail
          clear x0 x2
          go_loopg [7, 8, 9] L.length (fun gg v7 v8 v9 wr => ∃ (k : Nat) (p : Bool) (out : List RecT), v9 = .int .i64 k ∧ v8 = .bool p ∧ k ≤ L.length ∧ Only (fun _ => False) w4 wr ∧ RRow wr w4.heap.size v7 out ∧ PutLoop x (L.take k) p out ∧ out.length ≤ k + 1 ∧ gg = L.length - k)
          case atStart => exact ⟨0, false, [], rfl, rfl, Nat.zero_le _, Only.refl _ _, World.ownsRow_nil w4 _ _ _, ⟨rfl, fun z hz => by cases hz⟩, by simp, rfl⟩
          case round =>
            obtain ⟨k, p, out, rfl, rfl, hkl, ho, hrow, hpl, hol, hg⟩ := hrel
            have x2 : wr.cell? ⟨X, 2, none⟩ = some (.slice a L.length cap) := cell_at (ho.old H0.out id) 2
            have Hg := Lib.hid hg
            have HO := Lib.hid ho
            have HROW := Lib.hid hrow
            have HPLP := Lib.hid hpl
            clear hg ho hrow hpl
            by_cases hlt : k < L.length
            · have hlt' : (k : Int) < (L.length : Int) := by omega
              have hk0 : (0 : Int) ≤ (k : Int) := by omega
              have hC5 := (HC.out.new HOC.out (fun _ _ _ => id)).new HO.out (fun _ _ _ => id)
              obtain ⟨b, off, ha, hc⟩ := hC5.at k hlt
              subst ha
              have htk : L.take (k + 1) = L.take k ++ [L[k]] := by rw [List.take_add_one, List.getElem?_eq_getElem hlt]; rfl
              have hne2 : ∀ z ∈ L.take k ++ [L[k]], x.key ≠ z.key := fun z hz => by
                rw [← htk] at hz
                exact fun e => HK1.out z (List.mem_of_mem_take hz) e.symm
              generalize hy : L[k] = y at *
              have y0 : wr.cell? ⟨X + 1, 0, none⟩ = some (.string x.key) := cell_at (HO.out.old H1.out id) 0
              have z0 : wr.cell? ⟨b, off + k * 6, none⟩ = some (.string y.key) := hc 0 _ rfl
              have HTK := Lib.hid htk
              have HNE := Lib.hid hne2
              have HCY := Lib.hid hc
              have HLY := Lib.hid hy
              clear htk hne2 hc hy
              go_upto_region 20 with (fail)
              go_cut [88] (fun v88 wx => ∃ q, v88 = .bool q ∧ (q = true → p = false ∧ ltK x.key y.key) ∧ (q = false → p = true ∨ ¬ ltK x.key y.key) ∧ Only (fun _ => False) wr wx)
              case first =>
                cases p
                · go_quiet (fail)
                  go_wp2_with fail
                  go_meet
                  rw [less_ltK]
                  exact ⟨_, rfl, fun h => ⟨trivial, of_decide_eq_true h⟩, fun h => .inr (of_decide_eq_false h), (Only.refl _ _).drewN _⟩
                · go_quiet (fail)
                  go_wp2_with fail
                  go_meet
                  exact ⟨_, rfl, fun h => by (cases h), fun _ => .inl trivial, (Only.refl _ _).drewN _⟩
              case rest =>
              obtain ⟨q, rfl, hq1, hq2, ho5⟩ := hcut
              have hrow5 := owns_only HROW.out ho5 (fun _ _ => id)
              have hb1 := ho5.old (HO.out.old H1.out id) id
              have hb0 := ho5.old (HO.out.old H0.out id) id
              have hoD := HO.out.trans ho5
              have x2 : wc.cell? ⟨X, 2, none⟩ = some (.slice (some ⟨b, off, none⟩) L.length cap) := cell_at hb0 2
              have hcy : ∀ i u, (recC y)[i]? = some u → wc.cell? ⟨b, off + k * 6 + i, none⟩ = some u := fun i u hu => ho5.cell (HCY.out i u hu) id
              have hol2 : out.length ≤ 1000001 := by omega
              have HQ1 := Lib.hid hq1
              have HQ2 := Lib.hid hq2
              have HROW5 := Lib.hid hrow5
              have HB15 := Lib.hid hb1
              have HB05 := Lib.hid hb0
              have HOD := Lib.hid hoD
              have HCY5 := Lib.hid hcy
              clear hq1 hq2 hrow5 hb1 hb0 hoD hcy
              clear ho5 y0 z0
              go_upto_if 88 with (fail)
              go_cut [7, 8] (fun v7 v8 wx => ∃ p' out', v8 = .bool p' ∧ RRow wx w4.heap.size v7 out' ∧ PutLoop x (L.take (k + 1)) p' (out' ++ [y]) ∧ out'.length ≤ k + 1 ∧ Only (fun _ => False) w4 wx)
              case first =>
                cases q
                · have hpl2 : PutLoop x (L.take (k + 1)) p (out ++ [y]) := by
                    have hq := HQ2.out rfl
                    rw [HTK.out]
                    cases p
                    · exact HPLP.out.no (hq.resolve_left (by simp))
                    · exact HPLP.out.on HNE.out
                  have HPL2 := Lib.hid hpl2
                  clear hpl2
                  go_wp2_with fail
                  go_meet
                  exact ⟨p, out, rfl, HROW5.out, HPL2.out, hol, HOD.out⟩
                · obtain ⟨hp, hlx⟩ := HQ1.out rfl
                  subst hp
                  have hlo : out.length = k := by
                    have h1 := HPLP.out.1
                    rw [h1, List.length_take]
                    omega
                  have y0 : wc.cell? ⟨(X + 1), 0, none⟩ = some (.string x.key) := cell_at HB15.out 0
                  have y1 : wc.cell? ⟨(X + 1), 1, none⟩ = some (.int .u64 x.ver) := cell_at HB15.out 1
                  have y2 : wc.cell? ⟨(X + 1), 2, none⟩ = some (.int .i64 x.o) := cell_at HB15.out 2
                  have y3 : wc.cell? ⟨(X + 1), 3, none⟩ = some (.int .i64 x.age) := cell_at HB15.out 3
                  have y4 : wc.cell? ⟨(X + 1), 4, none⟩ = some (.bool x.gone) := cell_at HB15.out 4
                  have y5 : wc.cell? ⟨(X + 1), 5, none⟩ = some (.string x.data) := cell_at HB15.out 5
                  have HLX := Lib.hid hlx
                  have HLO := Lib.hid hlo
                  clear hlx hlo
                  clear x2
                  go_wp2_with (at_builtin; refine Wait.mk ?_)
                  refine Wait.go (wpList_append_src _ rfl (.tmp 89) (.tmp 91) 25 25 rfl w4.heap.size 75 i0 _ 6 64 Tryz.underlying25 hi0 iz0 iz1 iz2 rfl _ out.length (out.flatMap recC) rfl (HROW5.out.alloc _) _ 1 (recC ⟨x.key, x.ver, x.o, x.age, x.gone, x.data⟩) rfl ?src4 ?m4 ?b4 ?base4 ?_)
                  case src4 => exact Src.ofSlice _ Tryz.underlying25 _ _ _ _ rfl (news_new _ _ _) (recC_one _)
                  case m4 => unfold maxLen; omega
                  case b4 => omega
                  case base4 => have := HOD.out.size; simp; omega
                  intro v4 w5 own4 gr4 _
                  have ho5 : Only (fun _ => False) w4 w5 := (HOD.out.alloc _).own (HROW5.out.alloc _) (Nat.le_refl _) gr4
                  have HO5 := Lib.hid ho5
                  have HW5 := Lib.hid own4
                  clear ho5 own4
                  clear gr4
                  go_wp2_with fail
                  go_meet
                  refine ⟨true, out ++ [x], rfl, ?_, ?_, ?_, HO5.out⟩
                  · unfold RRow
                    rw [List.length_append, List.flatMap_append]
                    have e1 : [x].flatMap recC = recC ⟨x.key, x.ver, x.o, x.age, x.gone, x.data⟩ := by simp
                    rw [e1]
                    exact HW5.out
                  · rw [HTK.out]
                    exact HPLP.out.place HLX.out HNE.out
                  · rw [List.length_append, HLO.out]
                    exact Nat.le_refl _
              case rest =>
              obtain ⟨p', out', rfl, hrow6, hpl6, hol6, ho6⟩ := hcut
              have x2 : wc.cell? ⟨X, 2, none⟩ = some (.slice (some ⟨b, off, none⟩) L.length cap) := cell_at (ho6.old H0.out id) 2
              have hC6 := ((HC.out.new HOC.out (fun _ _ _ => id)).new ho6 (fun _ _ _ => id))
              obtain ⟨_, _, he, hc6⟩ := hC6.at k hlt
              cases he
              rw [HLY.out] at hc6
              have q0 := hc6 0 _ rfl
              have q1 := hc6 1 _ rfl
              have q2 := hc6 2 _ rfl
              have q3 := hc6 3 _ rfl
              have q4 := hc6 4 _ rfl
              have q5 := hc6 5 _ rfl
              simp only [Nat.add_zero] at q0
              have HROW6 := Lib.hid hrow6
              have HPL6 := Lib.hid hpl6
              have HO6 := Lib.hid ho6
              clear hrow6 hpl6 ho6
              clear hc6 hC6
              go_wp2_with (at_builtin; refine Wait.mk ?_)
              refine Wait.go (wpList_append_src _ rfl (.tmp 93) (.tmp 99) 25 25 rfl w4.heap.size 75 i0 _ 6 64 Tryz.underlying25 hi0 iz0 iz1 iz2 rfl _ out'.length (out'.flatMap recC) rfl (HROW6.out.alloc _) _ 1 (recC ⟨y.key, y.ver, y.o, y.age, y.gone, y.data⟩) rfl ?src4 ?m4 ?b4 ?base4 ?_)
              case src4 => exact Src.ofSlice _ Tryz.underlying25 _ _ _ _ rfl (news_new _ _ _) (recC_one _)
              case m4 => unfold maxLen; omega
              case b4 => omega
              case base4 => have := HO6.out.size; simp; omega
              intro v4 w5 own4 gr4 _
              have ho5 : Only (fun _ => False) w4 w5 := (HO6.out.alloc _).own (HROW6.out.alloc _) (Nat.le_refl _) gr4
              have HO5 := Lib.hid ho5
              have HW5 := Lib.hid own4
              clear ho5 own4
              clear gr4 q0 q1 q2 q3 q4 q5 x2
              go_wp2_with fail
              go_roundg (L.length - (k + 1))
              case measure => rw [Hg.out]; omega
              case rel =>
                refine ⟨k + 1, p', out' ++ [y], by go_num, rfl, by omega, HO5.out, ?_, HPL6.out, by rw [List.length_append]; show out'.length + 1 ≤ _; omega, rfl⟩
                unfold RRow
                rw [List.length_append, List.flatMap_append]
                have e1 : [y].flatMap recC = recC ⟨y.key, y.ver, y.o, y.age, y.gone, y.data⟩ := by simp
                rw [e1]
                exact HW5.out
            · have hke : k = L.length := by omega
              have hlt' : ¬ (k : Int) < (L.length : Int) := by omega
              have hfin := HPLP.out
              rw [hke, List.take_length] at hfin
              have hfin2 := hfin.fin (fun z hz e => HK1.out z hz e.symm)
              have hb0 := HO.out.old H0.out id
              have hb1 := HO.out.old H1.out id
              have hb2 := HO.out.old H2.out id
              have hol2 : out.length ≤ 1000001 := by omega
              have HFIN := Lib.hid hfin2
              have HB05 := Lib.hid hb0
              have HB15 := Lib.hid hb1
              have HB25 := Lib.hid hb2
              clear hfin2 hb0 hb1 hb2
              clear hfin hke
              go_upto_if 102 with (fail)
              go_cut [7] (fun v7 wx => RRow wx w4.heap.size v7 (insS x L) ∧ Only (fun _ => False) w4 wx)
              case first =>
                cases p
                · have y0 : wr.cell? ⟨(X + 1), 0, none⟩ = some (.string x.key) := cell_at HB15.out 0
                  have y1 : wr.cell? ⟨(X + 1), 1, none⟩ = some (.int .u64 x.ver) := cell_at HB15.out 1
                  have y2 : wr.cell? ⟨(X + 1), 2, none⟩ = some (.int .i64 x.o) := cell_at HB15.out 2
                  have y3 : wr.cell? ⟨(X + 1), 3, none⟩ = some (.int .i64 x.age) := cell_at HB15.out 3
                  have y4 : wr.cell? ⟨(X + 1), 4, none⟩ = some (.bool x.gone) := cell_at HB15.out 4
                  have y5 : wr.cell? ⟨(X + 1), 5, none⟩ = some (.string x.data) := cell_at HB15.out 5
                  clear x2
                  have hfa : insS x L = out ++ [x] := HFIN.out
                  have HFA := Lib.hid hfa
                  clear hfa
                  go_wp2_with (at_builtin; refine Wait.mk ?_)
                  refine Wait.go (wpList_append_src _ rfl (.tmp 103) (.tmp 105) 25 25 rfl w4.heap.size 75 i0 _ 6 64 Tryz.underlying25 hi0 iz0 iz1 iz2 rfl _ out.length (out.flatMap recC) rfl (HROW.out.alloc _) _ 1 (recC ⟨x.key, x.ver, x.o, x.age, x.gone, x.data⟩) rfl ?src4 ?m4 ?b4 ?base4 ?_)
                  case src4 => exact Src.ofSlice _ Tryz.underlying25 _ _ _ _ rfl (news_new _ _ _) (recC_one _)
                  case m4 => unfold maxLen; omega
                  case b4 => omega
                  case base4 => have := HO.out.size; simp; omega
                  intro v4 w5 own4 gr4 _
                  have ho5 : Only (fun _ => False) w4 w5 := (HO.out.alloc _).own (HROW.out.alloc _) (Nat.le_refl _) gr4
                  have HO5 := Lib.hid ho5
                  have HW5 := Lib.hid own4
                  clear ho5 own4
                  clear gr4
                  go_wp2_with fail
                  go_meet
                  refine ⟨?_, HO5.out⟩
                  rw [HFA.out]
                  unfold RRow
                  rw [List.length_append, List.flatMap_append]
                  have e1 : [x].flatMap recC = recC ⟨x.key, x.ver, x.o, x.age, x.gone, x.data⟩ := by simp
                  rw [e1]
                  exact HW5.out
                · have hfa : insS x L = out := HFIN.out
                  have HFA := Lib.hid hfa
                  clear hfa
                  go_wp2_with fail
                  go_meet
                  refine ⟨?_, HO.out⟩
                  rw [HFA.out]
                  exact HROW.out
              case rest =>
              obtain ⟨hrow7, ho7⟩ := hcut
              obtain ⟨fa, fcap, rfl, _, _, _⟩ := Sl.cells recC_length (Sl.of_owns hrow7)
              have hb0 := ho7.old H0.out id
              have hb2 := ho7.old H2.out id
              have x2 : wc.cell? ⟨X, 2, none⟩ = some (.slice a L.length cap) := cell_at hb0 2
              have xf : ∀ i, wc.frozen? ⟨X, i, none⟩ = false := free_at hb0
              have hoE := HOC.out.trans ho7
              have hlw : X + 2 < w4.heap.size := lt_of_block H2.out
              have H06 := Lib.hid hb0
              have H26 := Lib.hid hb2
              have HOE := Lib.hid hoE
              have HOWN := Lib.hid hrow7
              clear hb0 hb2 hoE hrow7
              clear ho7
              go_upto_region 26 with (fail)
              obtain ⟨w7, hw7⟩ : ∃ w7, w7 = wc.setCell ⟨X, 2, none⟩ (.slice fa (insS x L).length fcap) := ⟨_, rfl⟩
              have t7 : Only (fun i => i = X) wc w7 := by rw [hw7]; exact (Only.refl _ _).setCell (S := fun i => i = X) (p := ⟨X, 2, none⟩) (.inr rfl) _
              have hb0 : w7.heap[X]? = some (.cells #[.int .i64 most, .int .i64 ttl, .slice fa (insS x L).length fcap, .int .i64 r] 27 (0, 0)) := by rw [hw7]; exact set_at H06.out 2 _
              have hb2 := t7.old H26.out (by omega)
              have own7 := owns_only HOWN.out t7 (fun k hk e => by omega)
              rw [← hw7]
              clear hw7 x2 xf
              have H08 := Lib.hid hb0
              have H28 := Lib.hid hb2
              have T7 := Lib.hid t7
              have HOWN8 := Lib.hid own7
              clear hb0 hb2 t7 own7
              have x0 : w7.cell? ⟨X, 0, none⟩ = some (.int .i64 most) := cell_at H08.out 0
              have x1 : w7.cell? ⟨X, 1, none⟩ = some (.int .i64 ttl) := cell_at H08.out 1
              have x2 : w7.cell? ⟨X, 2, none⟩ = some (.slice fa (insS x L).length fcap) := cell_at H08.out 2
              have x3 : w7.cell? ⟨X, 3, none⟩ = some (.int .i64 (r)) := cell_at H08.out 3
              have zf : ∀ i, w7.frozen? ⟨X + 2, i, none⟩ = false := free_at H28.out
              have z0 : w7.cell? ⟨(X + 2), 0, none⟩ = some (.int .i64 0) := cell_at H28.out 0
              have z1 : w7.cell? ⟨(X + 2), 1, none⟩ = some (.int .i64 0) := cell_at H28.out 1
              have z2 : w7.cell? ⟨(X + 2), 2, none⟩ = some (.slice none 0 0) := cell_at H28.out 2
              have z3 : w7.cell? ⟨(X + 2), 3, none⟩ = some (.int .i64 0) := cell_at H28.out 3
              have hn1 : ¬ X + 2 = X := by omega
              have hn2 : ¬ X = X + 2 := by omega
              go_wp2_with fail
              clear x0 x1 x2 x3 z0 z1 z2 z3 zf
              obtain ⟨s1, s2⟩ := lit_set H28.out [.int .i64 most, .int .i64 ttl, .slice fa (insS x L).length fcap, .int .i64 (r)] rfl
              rw [show World.setCells w7 (X + 2) 0 [.int .i64 most, .int .i64 ttl, .slice fa (insS x L).length fcap, .int .i64 (r)] = ((((w7.setCell ⟨(X + 2), 0, none⟩ (.int .i64 most)).setCell ⟨(X + 2), 1, none⟩ (.int .i64 ttl)).setCell ⟨(X + 2), 2, none⟩ (.slice fa (insS x L).length fcap)).setCell ⟨(X + 2), 3, none⟩ (.int .i64 (r))) from rfl] at s1 s2
              generalize ((((w7.setCell ⟨(X + 2), 0, none⟩ (.int .i64 most)).setCell ⟨(X + 2), 1, none⟩ (.int .i64 ttl)).setCell ⟨(X + 2), 2, none⟩ (.slice fa (insS x L).length fcap)).setCell ⟨(X + 2), 3, none⟩ (.int .i64 (r))) = wz at *
              have p0 : wz.cell? ⟨(X + 2), 0, none⟩ = some (.int .i64 most) := cell_at s1 0
              have p1 : wz.cell? ⟨(X + 2), 1, none⟩ = some (.int .i64 ttl) := cell_at s1 1
              have p2 : wz.cell? ⟨(X + 2), 2, none⟩ = some (.slice fa (insS x L).length fcap) := cell_at s1 2
              have p3 : wz.cell? ⟨(X + 2), 3, none⟩ = some (.int .i64 (r)) := cell_at s1 3
              refine bodyPost_ret (v := .tuple #[.agg #[.int .i64 most, .int .i64 ttl, .slice fa (insS x L).length fcap, .int .i64 (r)], .int .i64 0]) (by simp [results, Tryz.results26, go_sem, p0, p1, p2, p3]) rfl ?_
              refine HRP.out _ _ ?_
              skip
              have hX := HXW.out
              have hfin := (HOE.out.tr T7.out (fun i hi e => by omega)).tr s2 (fun i hi e => by omega)
              refine ⟨.slice fa (insS x L).length fcap, by rw [N1.out, E4.out]; rfl, hfin, ?_, .inr (fun b e => by have h1 := HOWN8.out.lt b e; have h2 := HOC.out.size; have h3 := s2.size; omega)⟩
              rw [N2.out]
              exact Sl.of_owns (owns_only HOWN8.out s2 (fun k hk e => by omega))
      | some y =>
        obtain ⟨i, hi, hfi, hLi, hLk⟩ := HY.out y rfl
        subst hfi
        subst hLi
        have hC4 := HC.out.new hoC (fun _ _ _ => id)
        obtain ⟨b, off, ha, hc⟩ := hC4.at i hi
        subst ha
        have hset := HS.out i hi hLk
        have z1 := hc 1 _ rfl
        have hE5 : E = if x.ver ≤ L[i].ver then 13 else 0 := E0.out
        have HOLD := Lib.hid hc
        generalize L[i].ver = v2 at *
        have x2 : w4.cell? ⟨X, 2, none⟩ = some (.slice (some ⟨b, off, none⟩) L.length cap) := cell_at hb0 2
        have y1 : w4.cell? ⟨X + 1, 1, none⟩ = some (.int .u64 x.ver) := cell_at hb1 1
        have hi1 : (0 : Int) ≤ (i : Int) ∧ (i : Int) < (L.length : Int) := by omega
        obtain ⟨hi2, hi3⟩ := hi1
        by_cases hv : x.ver ≤ v2
        · -- twice
          have e4 : E = 13 := by rw [hE5, if_pos hv]
          obtain ⟨n1, n2⟩ := HPN.out (by omega) (by omega)
          have hdd : decide ((x.ver : Int) ≤ (v2 : Int)) = true := decide_eq_true (by omega)
          have H0 := Lib.hid hb0
          have H1 := Lib.hid hb1
          have H2 := Lib.hid hb2
          have HOB := Lib.hid hoC
          have N1 := Lib.hid n1
          have N2 := Lib.hid n2
          have E4 := Lib.hid e4
          have E5 := Lib.hid hE5
          have HST := Lib.hid hset
          have HLK := Lib.hid hLk
          have HC4 := Lib.hid hC4
          clear hb0 hb1 hb2 hoC n1 n2 e4 hE5 hset hLk hC4
          clear hc
          go_upto_region 7 with (fail)
          go_quiet (fail)
          obtain ⟨w5, hw5⟩ : ∃ w5, w5 = w4.drewN nq := ⟨_, rfl⟩
          have ho5 : Only (fun _ => False) w4 w5 := by rw [hw5]; exact (Only.refl _ _).drewN _
          rw [← hw5]
          clear hw5 x2 y1 z1
          have hb0 := ho5.old H0.out id
          have hb2 := ho5.old H2.out id
          have hoD := HOB.out.trans ho5
          have H0' := Lib.hid hb0
          have H2' := Lib.hid hb2
          have HOD := Lib.hid hoD
          clear hb0 hb2 hoD
          clear ho5
          go_upto_region 8 with (fail)
          have x0 : w5.cell? ⟨X, 0, none⟩ = some (.int .i64 most) := cell_at H0'.out 0
          have x1 : w5.cell? ⟨X, 1, none⟩ = some (.int .i64 ttl) := cell_at H0'.out 1
          have x2 : w5.cell? ⟨X, 2, none⟩ = some (.slice (some ⟨b, off, none⟩) L.length cap) := cell_at H0'.out 2
          have x3 : w5.cell? ⟨X, 3, none⟩ = some (.int .i64 (r)) := cell_at H0'.out 3
          have zf : ∀ i, w5.frozen? ⟨X + 2, i, none⟩ = false := free_at H2'.out
          have z0 : w5.cell? ⟨(X + 2), 0, none⟩ = some (.int .i64 0) := cell_at H2'.out 0
          have z1 : w5.cell? ⟨(X + 2), 1, none⟩ = some (.int .i64 0) := cell_at H2'.out 1
          have z2 : w5.cell? ⟨(X + 2), 2, none⟩ = some (.slice none 0 0) := cell_at H2'.out 2
          have z3 : w5.cell? ⟨(X + 2), 3, none⟩ = some (.int .i64 0) := cell_at H2'.out 3
          have hn1 : ¬ X + 2 = X := by omega
          have hn2 : ¬ X = X + 2 := by omega
          go_wp2_with fail
          clear x0 x1 x2 x3 z0 z1 z2 z3 zf
          obtain ⟨s1, s2⟩ := lit_set H2'.out [.int .i64 most, .int .i64 ttl, .slice (some ⟨b, off, none⟩) L.length cap, .int .i64 (r)] rfl
          rw [show World.setCells w5 (X + 2) 0 [.int .i64 most, .int .i64 ttl, .slice (some ⟨b, off, none⟩) L.length cap, .int .i64 (r)] = ((((w5.setCell ⟨(X + 2), 0, none⟩ (.int .i64 most)).setCell ⟨(X + 2), 1, none⟩ (.int .i64 ttl)).setCell ⟨(X + 2), 2, none⟩ (.slice (some ⟨b, off, none⟩) L.length cap)).setCell ⟨(X + 2), 3, none⟩ (.int .i64 (r))) from rfl] at s1 s2
          generalize ((((w5.setCell ⟨(X + 2), 0, none⟩ (.int .i64 most)).setCell ⟨(X + 2), 1, none⟩ (.int .i64 ttl)).setCell ⟨(X + 2), 2, none⟩ (.slice (some ⟨b, off, none⟩) L.length cap)).setCell ⟨(X + 2), 3, none⟩ (.int .i64 (r))) = wz at *
          have p0 : wz.cell? ⟨(X + 2), 0, none⟩ = some (.int .i64 most) := cell_at s1 0
          have p1 : wz.cell? ⟨(X + 2), 1, none⟩ = some (.int .i64 ttl) := cell_at s1 1
          have p2 : wz.cell? ⟨(X + 2), 2, none⟩ = some (.slice (some ⟨b, off, none⟩) L.length cap) := cell_at s1 2
          have p3 : wz.cell? ⟨(X + 2), 3, none⟩ = some (.int .i64 (r)) := cell_at s1 3
          refine bodyPost_ret (v := .tuple #[.agg #[.int .i64 most, .int .i64 ttl, .slice (some ⟨b, off, none⟩) L.length cap, .int .i64 (r)], .int .i64 13]) (by simp [results, Tryz.results26, go_sem, p0, p1, p2, p3]) rfl ?_
          refine HRP.out _ _ ?_
          skip
          have hfin := HOD.out.tr s2 (fun i hi e => by have := HXW.out; omega)
          exact ⟨.slice (some ⟨b, off, none⟩) L.length cap, by rw [N1.out, E4.out]; rfl, hfin, by rw [N2.out]; exact HH.out.new hfin, .inl rfl⟩
        · -- newer
          have e4 : E = 0 := by rw [hE5, if_neg hv]
          obtain ⟨n1, n2⟩ := HPS.out e4
          rw [hset] at n2
          have hdd : decide ((x.ver : Int) ≤ (v2 : Int)) = false := decide_eq_false (by omega)
          have H0 := Lib.hid hb0
          have H1 := Lib.hid hb1
          have H2 := Lib.hid hb2
          have HOB := Lib.hid hoC
          have N1 := Lib.hid n1
          have N2 := Lib.hid n2
          have E4 := Lib.hid e4
          have E5 := Lib.hid hE5
          have HST := Lib.hid hset
          have HLK := Lib.hid hLk
          have HC4 := Lib.hid hC4
          clear hb0 hb1 hb2 hoC n1 n2 e4 hE5 hset hLk hC4
          clear hc
          go_upto_region 7 with (fail)
          go_quiet (fail)
          obtain ⟨w5, hw5⟩ : ∃ w5, w5 = w4.drewN nq := ⟨_, rfl⟩
          have ho5 : Only (fun _ => False) w4 w5 := by rw [hw5]; exact (Only.refl _ _).drewN _
          rw [← hw5]
          clear hw5 x2 y1 z1
          have hb0 := ho5.old H0.out id
          have hb1 := ho5.old H1.out id
          have hb2 := ho5.old H2.out id
          have hoD := HOB.out.trans ho5
          have x2 : w5.cell? ⟨X, 2, none⟩ = some (.slice (some ⟨b, off, none⟩) L.length cap) := cell_at hb0 2
          have hs5 := HH.out.new hoD
          have hxl : X < w5.heap.size := lt_of_block hb0
          have hxl1 : X + 1 < w5.heap.size := lt_of_block hb1
          have hxl2 : X + 2 < w5.heap.size := lt_of_block hb2
          have H0' := Lib.hid hb0
          have H1' := Lib.hid hb1
          have H2' := Lib.hid hb2
          have HOD := Lib.hid hoD
          have HS5 := Lib.hid hs5
          clear hb0 hb1 hb2 hoD hs5
          clear ho5
          go_upto_region 9 with (fail)
          go_wp2_with (at_builtin; refine Wait.mk ?_)
          refine Wait.go (wpList_append_src _ rfl (.tmp 47) (.tmp 49) 25 25 rfl w5.heap.size 75 i0 _ 6 64 Tryz.underlying25 hi0 iz0 iz1 iz2 rfl (.slice (some ⟨w5.heap.size, 0, none⟩) 0 0) 0 [] rfl (own_at (heap_alloc_new w5 _) _ _ (Nat.le_refl _)) _ L.length (L.flatMap recC) rfl ?src4 ?m4 ?b4 ?base4 ?_)
          case src4 => exact (HS5.out.new ((Only.refl _ _).alloc _)).src Tryz.underlying25 (fl_one recC_one L)
          case m4 => unfold maxLen; omega
          case b4 => omega
          case base4 => simp
          intro v6 w6 own6 gr6 _
          simp only [Nat.zero_add, List.nil_append] at own6
          have hne : L.flatMap recC ≠ [] := fun e => by have := congrArg List.length e; rw [fl_length recC_length] at this; simp at this; omega
          obtain ⟨g, cap6, cur, rfl, hg, hgb, hgc, hcm, hcs, ht⟩ := row_form own6 hne
          have ho6 : Only (fun _ => False) w5 w6 := ((Only.refl _ _).alloc _).own (own_at (heap_alloc_new w5 _) w5.heap.size 6 (Nat.le_refl _)) (Nat.le_refl _) gr6
          have hb0 := ho6.old H0'.out id
          have hb1 := ho6.old H1'.out id
          have hb2 := ho6.old H2'.out id
          have hoE := HOD.out.trans ho6
          have x2 : w6.cell? ⟨X, 2, none⟩ = some (.slice (some ⟨b, off, none⟩) L.length cap) := cell_at hb0 2
          have xf : ∀ i, w6.frozen? ⟨X, i, none⟩ = false := free_at hb0
          unfold maxLen at hcm
          have H06 := Lib.hid hb0
          have H16 := Lib.hid hb1
          have H26 := Lib.hid hb2
          have HOE := Lib.hid hoE
          have HOWN := Lib.hid own6
          clear hb0 hb1 hb2 hoE own6
          clear ho6 gr6 hgb hcs ht hne HST HLK HC4 HC HY HN HNK
          go_upto_region 10 with (fail)
          obtain ⟨w7, hw7⟩ : ∃ w7, w7 = w6.setCell ⟨X, 2, none⟩ (.slice (some ⟨g, 0, none⟩) L.length cap6) := ⟨_, rfl⟩
          have t7 : Only (fun i => i = X) w6 w7 := by rw [hw7]; exact (Only.refl _ _).setCell (S := fun i => i = X) (p := ⟨X, 2, none⟩) (.inr rfl) _
          have hb0 : w7.heap[X]? = some (.cells #[.int .i64 most, .int .i64 ttl, .slice (some ⟨g, 0, none⟩) L.length cap6, .int .i64 r] 27 (0, 0)) := by rw [hw7]; exact set_at H06.out 2 _
          have hb1 := t7.old H16.out (by omega)
          have hb2 := t7.old H26.out (by omega)
          have own7 := owns_only HOWN.out t7 (fun k hk e => by omega)
          rw [← hw7]
          clear hw7 x2 xf
          have x2 : w7.cell? ⟨X, 2, none⟩ = some (.slice (some ⟨g, 0, none⟩) L.length cap6) := cell_at hb0 2
          have y0 : w7.cell? ⟨(X + 1), 0, none⟩ = some (.string x.key) := cell_at hb1 0
          have y1 : w7.cell? ⟨(X + 1), 1, none⟩ = some (.int .u64 x.ver) := cell_at hb1 1
          have y2 : w7.cell? ⟨(X + 1), 2, none⟩ = some (.int .i64 x.o) := cell_at hb1 2
          have y3 : w7.cell? ⟨(X + 1), 3, none⟩ = some (.int .i64 x.age) := cell_at hb1 3
          have y4 : w7.cell? ⟨(X + 1), 4, none⟩ = some (.bool x.gone) := cell_at hb1 4
          have y5 : w7.cell? ⟨(X + 1), 5, none⟩ = some (.string x.data) := cell_at hb1 5
          obtain ⟨cur7, hg7, _⟩ := row_block own7
          have gf : ∀ i, w7.frozen? ⟨g, i, none⟩ = false := free_at hg7
          have gc : ∀ k u, (recC L[i])[k]? = some u → w7.cell? ⟨g, i * 6 + k, none⟩ = some u := fun k u hu => by
            have h6 : k < 6 := (List.getElem?_eq_some_iff.1 hu).1
            have := own7.cells (g := g) rfl (i * 6 + k) u (by rw [fl_get recC_length L i hi k h6]; exact hu)
            simpa [Addr.add_lit] using this
          have g0 := gc 0 _ rfl
          have g1 := gc 1 _ rfl
          have g2 := gc 2 _ rfl
          have g3 := gc 3 _ rfl
          have g4 := gc 4 _ rfl
          have g5 := gc 5 _ rfl
          simp only [Nat.add_zero] at g0
          have H07 := Lib.hid hb0
          have H17 := Lib.hid hb1
          have H27 := Lib.hid hb2
          have HOWN7 := Lib.hid own7
          have HG7 := Lib.hid hg7
          clear hb0 hb1 hb2 own7 hg7
          clear gc
          go_upto_region 11 with (fail)
          obtain ⟨w8, hw8⟩ : ∃ w8, w8 = ((((((w7.setCell ⟨g, i * 6, none⟩ (.string x.key)).setCell ⟨g, i * 6 + 1, none⟩ (.int .u64 x.ver)).setCell ⟨g, i * 6 + 2, none⟩ (.int .i64 x.o)).setCell ⟨g, i * 6 + 3, none⟩ (.int .i64 x.age)).setCell ⟨g, i * 6 + 4, none⟩ (.bool x.gone)).setCell ⟨g, i * 6 + 5, none⟩ (.string x.data)) := ⟨_, rfl⟩
          have e8 : w8 = w7.setCells g (i * 6) (recC x) := hw8.trans rfl
          have own8 := row_over HOWN7.out (i * 6) (recC x) (by rw [recC_length]; omega)
          rw [← e8, fl_set recC_length L i hi x] at own8
          have t8 : Only (fun i => i = g) w7 w8 := by rw [e8]; exact setCells_only g _ _ _
          rw [← hw8]
          clear hw8 e8 x2 y0 y1 y2 y3 y4 y5 g0 g1 g2 g3 g4 g5 gf
          have hb0 := t8.old H07.out (by omega)
          have hb2 := t8.old H27.out (by omega)
          have H08 := Lib.hid hb0
          have H28 := Lib.hid hb2
          have T7 := Lib.hid t7
          have T8 := Lib.hid t8
          have HOWN8 := Lib.hid own8
          clear hb0 hb2 t7 t8 own8
          have x0 : w8.cell? ⟨X, 0, none⟩ = some (.int .i64 most) := cell_at H08.out 0
          have x1 : w8.cell? ⟨X, 1, none⟩ = some (.int .i64 ttl) := cell_at H08.out 1
          have x2 : w8.cell? ⟨X, 2, none⟩ = some (.slice (some ⟨g, 0, none⟩) L.length cap6) := cell_at H08.out 2
          have x3 : w8.cell? ⟨X, 3, none⟩ = some (.int .i64 (r)) := cell_at H08.out 3
          have zf : ∀ i, w8.frozen? ⟨X + 2, i, none⟩ = false := free_at H28.out
          have z0 : w8.cell? ⟨(X + 2), 0, none⟩ = some (.int .i64 0) := cell_at H28.out 0
          have z1 : w8.cell? ⟨(X + 2), 1, none⟩ = some (.int .i64 0) := cell_at H28.out 1
          have z2 : w8.cell? ⟨(X + 2), 2, none⟩ = some (.slice none 0 0) := cell_at H28.out 2
          have z3 : w8.cell? ⟨(X + 2), 3, none⟩ = some (.int .i64 0) := cell_at H28.out 3
          have hn1 : ¬ X + 2 = X := by omega
          have hn2 : ¬ X = X + 2 := by omega
          go_wp2_with fail
          clear x0 x1 x2 x3 z0 z1 z2 z3 zf
          obtain ⟨s1, s2⟩ := lit_set H28.out [.int .i64 most, .int .i64 ttl, .slice (some ⟨g, 0, none⟩) L.length cap6, .int .i64 (r)] rfl
          rw [show World.setCells w8 (X + 2) 0 [.int .i64 most, .int .i64 ttl, .slice (some ⟨g, 0, none⟩) L.length cap6, .int .i64 (r)] = ((((w8.setCell ⟨(X + 2), 0, none⟩ (.int .i64 most)).setCell ⟨(X + 2), 1, none⟩ (.int .i64 ttl)).setCell ⟨(X + 2), 2, none⟩ (.slice (some ⟨g, 0, none⟩) L.length cap6)).setCell ⟨(X + 2), 3, none⟩ (.int .i64 (r))) from rfl] at s1 s2
          generalize ((((w8.setCell ⟨(X + 2), 0, none⟩ (.int .i64 most)).setCell ⟨(X + 2), 1, none⟩ (.int .i64 ttl)).setCell ⟨(X + 2), 2, none⟩ (.slice (some ⟨g, 0, none⟩) L.length cap6)).setCell ⟨(X + 2), 3, none⟩ (.int .i64 (r))) = wz at *
          have p0 : wz.cell? ⟨(X + 2), 0, none⟩ = some (.int .i64 most) := cell_at s1 0
          have p1 : wz.cell? ⟨(X + 2), 1, none⟩ = some (.int .i64 ttl) := cell_at s1 1
          have p2 : wz.cell? ⟨(X + 2), 2, none⟩ = some (.slice (some ⟨g, 0, none⟩) L.length cap6) := cell_at s1 2
          have p3 : wz.cell? ⟨(X + 2), 3, none⟩ = some (.int .i64 (r)) := cell_at s1 3
          refine bodyPost_ret (v := .tuple #[.agg #[.int .i64 most, .int .i64 ttl, .slice (some ⟨g, 0, none⟩) L.length cap6, .int .i64 (r)], .int .i64 0]) (by simp [results, Tryz.results26, go_sem, p0, p1, p2, p3]) rfl ?_
          refine HRP.out _ _ ?_
          skip
          have hX := HXW.out
          have h5 := HOD.out.size
          have hfin := ((HOE.out.tr T7.out (fun i hi e => by omega)).tr T8.out (fun i hi e => by omega)).tr s2 (fun i hi e => by omega)
          refine ⟨.slice (some ⟨g, 0, none⟩) L.length cap6, by rw [N1.out, E4.out]; rfl, hfin, ?_, .inr (fun b e => by have h1 := HOWN8.out.lt b e; have h3 := s2.size; omega)⟩
          rw [N2.out]
          have h9 := owns_only HOWN8.out s2 (fun k hk e => by omega)
          have h10 := Sl.of_owns h9
          unfold RSl
          rw [List.length_set]
          exact h10
theorem rput_any (w : World) (most ttl r : Int) (v : Value) (L : List RecT) (h : RSl w v L) (hL : L.length ≤ 1000000) (hris : Rising L) (x : RecT) (hk : x.key.size ≤ 1000000) (hr0 : 0 ≤ r) (hr : r < 1000000) :
    Calls Tryz.prog 26 #[rstV most ttl v r, recT x] w fun e w' => RPutP w w' most ttl r L x e :=
  (rput_own w most ttl r v L h hL hris x hk hr0 hr).mono fun _ _ ⟨v', h1, h2, h3, _⟩ => ⟨v', h1, h2, h3⟩
end Go.Proofs.YtbdfijgejkimnaaGreatDoor
/-! A store: Put. -/
namespace Go.Proofs.YtbdfijgejkimnaaGreatDoor
open Go.Conc Go.RowKit Go.Maps

def SPut (w w' : World) (s b : Nat) (most ttl r : Int) (L : List RecT) (x : RecT) : Prop :=
  Only (fun i => i = s ∨ i = b) w w' ∧ StoreAt w' s b most ttl (putR most ttl L x r) (putS most ttl L x)
theorem sput_kept {w w' : World} {s b : Nat} {most ttl r : Int} {L : List RecT} {x : RecT} (h : StoreAt w s b most ttl r L) (ho : Only (fun _ => False) w w') (h0 : putE most ttl L x ≠ 0) (h5 : putE most ttl L x ≠ 5) : SPut w w' s b most ttl r L x := by
  refine ⟨ho.weaken (fun _ _ => False.elim), ?_⟩
  unfold putR putS
  rw [if_neg h0, if_neg h5]
  exact h.new ho
theorem sput_nil (w : World) (x : RecT) : Calls Tryz.prog 18 #[.pointer none, recT x] w fun e w' => e = .returned (.int .i64 1) ∧ Only (fun _ => False) w w' := by
  obtain ⟨k1, v1, o1, a1, g1, d1⟩ := x
  unfold recT
  go_enter Tryz.func18, Tryz.ntmps18
  go_wp2_with fail
  go_ret
  exact ⟨rfl, (Only.refl _ _).alloc _⟩
set_option maxRecDepth 100000 in
set_option maxHeartbeats 2000000 in
theorem sput_any (w : World) (s b : Nat) (most ttl r : Int) (L : List RecT) (h : StoreAt w s b most ttl r L) (x : RecT) (m : Int) (hm : w.cell? ⟨0, 0, none⟩ = some (.int .i64 m)) (hv : x.ver < 2 ^ 64) (hk : x.key.size ≤ 1000000) (hr0 : 0 ≤ r) (hr : r < 1000000) :
    Calls Tryz.prog 18 #[.pointer (some ⟨s, 0, none⟩), recT x] w fun e w' => e = .returned (.int .i64 (putE most ttl L x)) ∧ SPut w w' s b most ttl r L x := by
  have HE := Lib.hid (show putE most ttl L x = if goodR x = false then 4 else if ttl ≤ x.age then 7 else putFE most L.length x.ver (findS L x.key) from rfl)
  have HK := Lib.hid (fun (h : putE most ttl L x ≠ 0 ∧ putE most ttl L x ≠ 5) w' ho => sput_kept (w := w) (w' := w') (s := s) (b := b) (r := r) (x := x) ‹_› ho h.1 h.2)
  have hpS : putE most ttl L x = 0 → putR most ttl L x r = r ∧ putS most ttl L x = insS x L := fun e => by unfold putR putS; rw [e]; exact ⟨rfl, rfl⟩
  have hpR : putE most ttl L x = 5 → putR most ttl L x r = r + 1 ∧ putS most ttl L x = L := fun e => by unfold putR putS; rw [e]; exact ⟨rfl, rfl⟩
  have HPS := Lib.hid hpS
  have HPR := Lib.hid hpR
  have HF := Lib.hid (fun y => findS_some (L := L) (k := x.key) (y := y))
  have HP := Lib.hid (put_prs h.ok.rises x)
  have HOK := Lib.hid (h.ok.put x)
  have HG := Lib.hid (good_any (m := m) (key := x.key) (ver := x.ver) (o := x.o) (age := x.age) (gone := x.gone) (data := x.data) (hv := hv) (hk := hk))
  have HLN := Lib.hid (show (prs L).length < maxLen by rw [prs_length]; have h1 := h.ok.room; have h2 := h.ok.mostB; unfold maxLen; omega)
  have hg0 : goodR x = goodP x.key x.ver x.o x.age x.gone x.data := rfl
  have HG0 := Lib.hid hg0
  have hlt := h.lt
  have hkm : x.key.size ≤ maxLen := by unfold maxLen; omega
  have HKO := Lib.hid (strOk hkm)
  have hne := h.ne
  have hxe : RecT.mk x.key x.ver x.o x.age x.gone x.data = x := by cases x; rfl
  have HXE := Lib.hid hxe
  unfold recT
  clear hpS hpR hg0 hkm hk hv hxe
  generalize hE : putE most ttl L x = E at *
  generalize goodR x = gd at *
  generalize hfs : findS L x.key = fo at *
  obtain ⟨k1, v1, o1, a1, g1, d1⟩ := x
  simp only at *
  rw [← HG0.out] at HG
  have HH := Lib.hid h
  have HM := Lib.hid hm
  have HEE := Lib.hid hE
  have HFS := Lib.hid hfs
  clear hE hfs
  clear h hm HG0
  obtain ⟨W, hW⟩ : ∃ W, W = w.alloc (.cells #[.string k1, .int .u64 v1, .int .i64 o1, .int .i64 a1, .bool g1, .string d1] 69) := ⟨_, rfl⟩
  have hbW : W.heap[w.heap.size]? = some (.cells #[.string k1, .int .u64 v1, .int .i64 o1, .int .i64 a1, .bool g1, .string d1] 69 (0, 0)) := by rw [hW]; exact heap_alloc_new w _
  have hoW : Only (fun _ => False) w W := by rw [hW]; exact (Only.refl _ _).alloc _
  have hsW : W.heap.size = w.heap.size + 1 := by rw [hW]; simp
  have HG1 := Lib.hid (HG.out W (hoW.cell HM.out id))
  have HBW := Lib.hid hbW
  have HOW := Lib.hid hoW
  have HSW := Lib.hid hsW
  clear hbW hoW hsW
  go_enter Tryz.func18, Tryz.ntmps18
  go_upto_region 1 with (fail)
  rw [← hW]
  clear hW
  have x0 : W.cell? ⟨w.heap.size, 0, none⟩ = some (.string k1) := cell_at HBW.out 0
  have x1 : W.cell? ⟨w.heap.size, 1, none⟩ = some (.int .u64 v1) := cell_at HBW.out 1
  have x2 : W.cell? ⟨w.heap.size, 2, none⟩ = some (.int .i64 o1) := cell_at HBW.out 2
  have x3 : W.cell? ⟨w.heap.size, 3, none⟩ = some (.int .i64 a1) := cell_at HBW.out 3
  have x4 : W.cell? ⟨w.heap.size, 4, none⟩ = some (.bool g1) := cell_at HBW.out 4
  have x5 : W.cell? ⟨w.heap.size, 5, none⟩ = some (.string d1) := cell_at HBW.out 5
  go_wp2_with fail
  refine HG1.out.mono ?_
  rintro e w1 ⟨rfl, ho1⟩
  clear x0 x1 x2 x3 x4 x5
  have hh1 := (HH.out.new HOW.out).new ho1
  have hb1 := ho1.old HBW.out id
  have hoo := HOW.out.trans ho1
  have HO1 := Lib.hid ho1
  have HH1 := Lib.hid hh1
  have HB1 := Lib.hid hb1
  have HOO := Lib.hid hoo
  clear ho1 hh1 hb1 hoo
  cases gd
  · go_wp2_with fail
    go_ret
    have e4 : E = 4 := by rw [HE.out]; rfl
    exact ⟨ret_int e4.symm, HK.out (by omega) _ HOO.out⟩
  · have x3 : w1.cell? ⟨w.heap.size, 3, none⟩ = some (.int .i64 a1) := cell_at HB1.out 3
    have c2 : w1.cell? ⟨s, 2, none⟩ = some (.int .i64 ttl) := cell_at HH1.out.blk 2
    by_cases ha : ttl ≤ a1
    · go_upto_region 5 with (fail)
      go_quiet (fail)
      go_wp2_with fail
      go_ret
      have e7 : E = 7 := by rw [HE.out, if_neg (by decide), if_pos ha]
      exact ⟨ret_int e7.symm, HK.out (by omega) _ (HOO.out.drewN _)⟩
    · have e0 : E = putFE most L.length v1 fo := by rw [HE.out, if_neg (by decide), if_neg ha]
      have E0 := Lib.hid e0
      clear e0
      clear HE
      go_upto_region 5 with (fail)
      go_quiet (fail)
      obtain ⟨w2, hw2⟩ : ∃ w2, w2 = w1.drewN nq := ⟨_, rfl⟩
      have ho2 : Only (fun _ => False) w1 w2 := by rw [hw2]; exact (Only.refl _ _).drewN _
      rw [← hw2]
      clear hw2 x3 c2
      go_upto_region 7 with (fail)
      have hh3 := HH1.out.new ho2
      have hb3 := ho2.old HB1.out id
      have x0 : w2.cell? ⟨w.heap.size, 0, none⟩ = some (.string k1) := cell_at hb3 0
      have c0 : w2.cell? ⟨s, 0, none⟩ = some (.map (some b)) := cell_at hh3.blk 0
      have hsz : w.heap.size < w2.heap.size ∧ s < w2.heap.size := ⟨lt_of_block hb3, lt_of_block hh3.blk⟩
      obtain ⟨hsz1, hsz2⟩ := hsz
      have hlkA := (hh3.map.kept ((Only.refl (fun _ => False) w2).drew) id).look strKeyed strInj Tryz.underlying111 (z := zeroR) (zeroRec w2.drew) HKO.out true
      have hlkB := (hh3.map.kept (((Only.refl (fun _ => False) w2).alloc (.cells #[.string ⟨#[]⟩, .int .u64 0, .int .i64 0, .int .i64 0, .bool false, .string ⟨#[]⟩] 69)).drew) id).look strKeyed strInj Tryz.underlying111 (z := zeroR) (zeroRec _) HKO.out true
      rw [look_prs, HFS.out] at hlkA hlkB
      have hO3 := HOO.out.trans ho2
      have HH3 := Lib.hid hh3
      have HB3 := Lib.hid hb3
      have HO3 := Lib.hid hO3
      clear hh3 hb3 hO3
      clear ho2 HH1 HB1 HO1 HOO
      cases fo with
      | none =>
        have hlk2 : (Instr.lookup 111 (.map (some b)) (.string k1) true).run Tryz.prog w2.drew = .ok (.tuple #[.agg #[.string ⟨#[]⟩, .int .u64 0, .int .i64 0, .int .i64 0, .bool false, .string ⟨#[]⟩], .bool false]) w2.drew := hlkA
        have hlk3 : (Instr.lookup 111 (.map (some b)) (.string k1) true).run Tryz.prog (w2.alloc (.cells #[.string ⟨#[]⟩, .int .u64 0, .int .i64 0, .int .i64 0, .bool false, .string ⟨#[]⟩] 69)).drew = .ok (.tuple #[.agg #[.string ⟨#[]⟩, .int .u64 0, .int .i64 0, .int .i64 0, .bool false, .string ⟨#[]⟩], .bool false]) (w2.alloc (.cells #[.string ⟨#[]⟩, .int .u64 0, .int .i64 0, .int .i64 0, .bool false, .string ⟨#[]⟩] 69)).drew := hlkB
        clear hlkA hlkB
        go_cut [5, 6] (fun v5 v6 wx => v5 = .pointer (some ⟨w2.heap.size, 0, none⟩) ∧ v6 = .bool false ∧ wx = (w2.alloc (.cells #[.string ⟨#[]⟩, .int .u64 0, .int .i64 0, .int .i64 0, .bool false, .string ⟨#[]⟩] 69)).drew)
        case first =>
          go_region
          all_goals
            go_wp2_with fail
            go_meet
            exact ⟨rfl, rfl, rfl⟩
        case rest =>
        obtain ⟨rfl, rfl, hwx⟩ := hcut
        have ho4 : Only (fun _ => False) w2 wc := by rw [hwx]; exact ((Only.refl _ _).alloc _).drew
        have hq4 : wc.heap[w2.heap.size]? = some (.cells #[.string ⟨#[]⟩, .int .u64 0, .int .i64 0, .int .i64 0, .bool false, .string ⟨#[]⟩] 69 (0, 0)) := by rw [hwx]; exact heap_alloc_new w2 _
        clear hwx hlk2 hlk3 x0 c0
        generalize w2.heap.size = B2 at *
        have hh4 := HH3.out.new ho4
        have hb4 := ho4.old HB3.out id
        have hO4 := HO3.out.trans ho4
        have HH4 := Lib.hid hh4
        have HB4 := Lib.hid hb4
        have HO4 := Lib.hid hO4
        clear hh4 hb4 hO4
        clear HH3 HB3 HO3 ho4
        clear hq4
        have hlen : ∀ n ty, (Builtin.len_ #[111] ty #[.map (some b)]).run Tryz.prog (wc.drewN n) = .ok (.int .i64 (L.length : Nat)) (wc.drewN n) := fun n ty => by
          have := (HH4.out.map.kept ((Only.refl (fun _ => False) wc).drewN n) id).len Tryz.underlying111 ty
          rw [prs_length] at this
          exact this
        have c0 : wc.cell? ⟨s, 0, none⟩ = some (.map (some b)) := cell_at HH4.out.blk 0
        have c1 : wc.cell? ⟨s, 1, none⟩ = some (.int .i64 most) := cell_at HH4.out.blk 1
        by_cases hfull : most ≤ (L.length : Int)
        · have e5 : E = 5 := by rw [E0.out]; exact if_pos hfull
          go_upto_region 10 with (fail)
          go_quiet (fail)
          obtain ⟨w5, hw5⟩ : ∃ w5, w5 = wc.drewN nq := ⟨_, rfl⟩
          have ho5 : Only (fun _ => False) wc w5 := by rw [hw5]; exact (Only.refl _ _).drewN _
          rw [← hw5]
          clear hw5
          have hh5 := HH4.out.new ho5
          have hb5 := ho5.old HB4.out id
          have hO5 := HO4.out.trans ho5
          have HH5 := Lib.hid hh5
          have HB5 := Lib.hid hb5
          have HO5 := Lib.hid hO5
          clear hh5 hb5 hO5
          clear HH4 HB4 HO4 ho5
          have c3 : w5.cell? ⟨s, 3, none⟩ = some (.int .i64 r) := cell_at HH5.out.blk 3
          have cf : ∀ i, w5.frozen? ⟨s, i, none⟩ = false := free_at HH5.out.blk
          clear hlen c0 c1
          go_wp2_with fail
          go_ret
          refine ⟨by first | exact ret_int e5.symm | rfl, ?_, ?_⟩
          · exact (HO5.out.weaken (fun _ _ => False.elim)).setCell (S := fun i => i = s ∨ i = b) (p := ⟨s, 3, none⟩) (.inr (.inl rfl)) _
          · obtain ⟨p1, p2⟩ := HPR.out e5
            rw [p1, p2]
            have ho6 : Only (fun i => i = s) w5 (w5.setCell ⟨s, 3, none⟩ (.int .i64 (r + 1))) := (Only.refl _ _).setCell (S := fun i => i = s) (p := ⟨s, 3, none⟩) (.inr rfl) _
            exact ⟨set_at HH5.out.blk 3 _, HH5.out.map.kept ho6 (fun e => hne e.symm), HH5.out.ok⟩
        · have e5 : E = 0 := by rw [E0.out]; exact if_neg hfull
          go_upto_region 10 with (fail)
          go_quiet (fail)
          obtain ⟨w5, hw5⟩ : ∃ w5, w5 = wc.drewN nq := ⟨_, rfl⟩
          have ho5 : Only (fun _ => False) wc w5 := by rw [hw5]; exact (Only.refl _ _).drewN _
          rw [← hw5]
          clear hw5
          have hh5 := HH4.out.new ho5
          have hb5 := ho5.old HB4.out id
          have hO5 := HO4.out.trans ho5
          have HH5 := Lib.hid hh5
          have HB5 := Lib.hid hb5
          have HO5 := Lib.hid hO5
          clear hh5 hb5 hO5
          clear HH4 HB4 HO4 ho5
          clear hlen c0 c1
          go_upto_region 13 with (fail)
          have c0 : w5.cell? ⟨s, 0, none⟩ = some (.map (some b)) := cell_at HH5.out.blk 0
          have x0 : w5.cell? ⟨w.heap.size, 0, none⟩ = some (.string k1) := cell_at HB5.out 0
          have x1 : w5.cell? ⟨w.heap.size, 1, none⟩ = some (.int .u64 v1) := cell_at HB5.out 1
          have x2 : w5.cell? ⟨w.heap.size, 2, none⟩ = some (.int .i64 o1) := cell_at HB5.out 2
          have x3 : w5.cell? ⟨w.heap.size, 3, none⟩ = some (.int .i64 a1) := cell_at HB5.out 3
          have x4 : w5.cell? ⟨w.heap.size, 4, none⟩ = some (.bool g1) := cell_at HB5.out 4
          have x5 : w5.cell? ⟨w.heap.size, 5, none⟩ = some (.string d1) := cell_at HB5.out 5
          obtain ⟨w6, hst0, hm6, ho6⟩ := (HH5.out.map.kept ((Only.refl (fun _ => False) w5).drew) id).store strKeyed strInj Tryz.underlying111 HLN.out HKO.out ⟨k1, v1, o1, a1, g1, d1⟩
          have hst : (Instr.mapUpdate 111 (.map (some b)) (.string k1) (.agg #[.string k1, .int .u64 v1, .int .i64 o1, .int .i64 a1, .bool g1, .string d1])).run Tryz.prog w5.drew = .ok () w6 := hst0
          have HM6 := Lib.hid hm6
          have HO6 := Lib.hid ho6
          clear hm6 ho6
          clear hst0
          go_region
          go_wp2_with fail
          go_ret
          refine ⟨by first | exact ret_int e5.symm | rfl, ?_, ?_⟩
          · exact (HO5.out.drew.weaken (fun _ _ => False.elim)).trans (HO6.out.weaken (fun _ _ e => .inr e))
          · obtain ⟨p1, p2⟩ := HPS.out e5
            rw [p1, p2]
            have hok := HOK.out
            rw [p2] at hok
            exact ⟨HO6.out.old (w := w5.drew) HH5.out.blk hne, HM6.out.perm strKeyed strInj HP.out, hok⟩
      | some y =>
        obtain ⟨k2, v2, o2, a2, g2, d2⟩ := y
        have hlk2 : (Instr.lookup 111 (.map (some b)) (.string k1) true).run Tryz.prog w2.drew = .ok (.tuple #[.agg #[.string k2, .int .u64 v2, .int .i64 o2, .int .i64 a2, .bool g2, .string d2], .bool true]) w2.drew := hlkA
        have hlk3 : (Instr.lookup 111 (.map (some b)) (.string k1) true).run Tryz.prog (w2.alloc (.cells #[.string ⟨#[]⟩, .int .u64 0, .int .i64 0, .int .i64 0, .bool false, .string ⟨#[]⟩] 69)).drew = .ok (.tuple #[.agg #[.string k2, .int .u64 v2, .int .i64 o2, .int .i64 a2, .bool g2, .string d2], .bool true]) (w2.alloc (.cells #[.string ⟨#[]⟩, .int .u64 0, .int .i64 0, .int .i64 0, .bool false, .string ⟨#[]⟩] 69)).drew := hlkB
        clear hlkA hlkB
        go_cut [5, 6] (fun v5 v6 wx => v5 = .pointer (some ⟨w2.heap.size, 0, none⟩) ∧ v6 = .bool true ∧ wx = (w2.alloc (.cells #[.string k2, .int .u64 v2, .int .i64 o2, .int .i64 a2, .bool g2, .string d2] 69)).drew)
        case first =>
          go_region
          all_goals
            go_wp2_with fail
            go_meet
            exact ⟨rfl, rfl, rfl⟩
        case rest =>
        obtain ⟨rfl, rfl, hwx⟩ := hcut
        have ho4 : Only (fun _ => False) w2 wc := by rw [hwx]; exact ((Only.refl _ _).alloc _).drew
        have hq4 : wc.heap[w2.heap.size]? = some (.cells #[.string k2, .int .u64 v2, .int .i64 o2, .int .i64 a2, .bool g2, .string d2] 69 (0, 0)) := by rw [hwx]; exact heap_alloc_new w2 _
        clear hwx hlk2 hlk3 x0 c0
        generalize w2.heap.size = B2 at *
        have hh4 := HH3.out.new ho4
        have hb4 := ho4.old HB3.out id
        have hO4 := HO3.out.trans ho4
        have HH4 := Lib.hid hh4
        have HB4 := Lib.hid hb4
        have HO4 := Lib.hid hO4
        clear hh4 hb4 hO4
        clear HH3 HB3 HO3 ho4
        have y0 : wc.cell? ⟨B2, 0, none⟩ = some (.string k2) := cell_at hq4 0
        have y1 : wc.cell? ⟨B2, 1, none⟩ = some (.int .u64 v2) := cell_at hq4 1
        have y2 : wc.cell? ⟨B2, 2, none⟩ = some (.int .i64 o2) := cell_at hq4 2
        have y3 : wc.cell? ⟨B2, 3, none⟩ = some (.int .i64 a2) := cell_at hq4 3
        have y4 : wc.cell? ⟨B2, 4, none⟩ = some (.bool g2) := cell_at hq4 4
        have y5 : wc.cell? ⟨B2, 5, none⟩ = some (.string d2) := cell_at hq4 5
        have x1 : wc.cell? ⟨w.heap.size, 1, none⟩ = some (.int .u64 v1) := cell_at HB4.out 1
        clear hq4
        by_cases hv2 : v1 ≤ v2
        · have e5 : E = 13 := by rw [E0.out]; exact if_pos hv2
          have hd : decide ((v1 : Int) ≤ (v2 : Int)) = true := decide_eq_true (by omega)
          go_wp2_with fail
          go_ret
          exact ⟨by first | exact ret_int e5.symm | rfl, HK.out (by omega) _ HO4.out⟩
        · have e5 : E = 0 := by rw [E0.out]; exact if_neg hv2
          have hv3 : v2 < v1 := by omega
          go_upto_region 10 with (fail)
          clear y0 y1 y2 y3 y4 y5 x1
          go_quiet (fail)
          obtain ⟨w5, hw5⟩ : ∃ w5, w5 = wc.drewN nq := ⟨_, rfl⟩
          have ho5 : Only (fun _ => False) wc w5 := by rw [hw5]; exact (Only.refl _ _).drewN _
          rw [← hw5]
          clear hw5
          have hh5 := HH4.out.new ho5
          have hb5 := ho5.old HB4.out id
          have hO5 := HO4.out.trans ho5
          have HH5 := Lib.hid hh5
          have HB5 := Lib.hid hb5
          have HO5 := Lib.hid hO5
          clear hh5 hb5 hO5
          clear HH4 HB4 HO4 ho5
          go_upto_region 13 with (fail)
          have c0 : w5.cell? ⟨s, 0, none⟩ = some (.map (some b)) := cell_at HH5.out.blk 0
          have x0 : w5.cell? ⟨w.heap.size, 0, none⟩ = some (.string k1) := cell_at HB5.out 0
          have x1 : w5.cell? ⟨w.heap.size, 1, none⟩ = some (.int .u64 v1) := cell_at HB5.out 1
          have x2 : w5.cell? ⟨w.heap.size, 2, none⟩ = some (.int .i64 o1) := cell_at HB5.out 2
          have x3 : w5.cell? ⟨w.heap.size, 3, none⟩ = some (.int .i64 a1) := cell_at HB5.out 3
          have x4 : w5.cell? ⟨w.heap.size, 4, none⟩ = some (.bool g1) := cell_at HB5.out 4
          have x5 : w5.cell? ⟨w.heap.size, 5, none⟩ = some (.string d1) := cell_at HB5.out 5
          obtain ⟨w6, hst0, hm6, ho6⟩ := (HH5.out.map.kept ((Only.refl (fun _ => False) w5).drew) id).store strKeyed strInj Tryz.underlying111 HLN.out HKO.out ⟨k1, v1, o1, a1, g1, d1⟩
          have hst : (Instr.mapUpdate 111 (.map (some b)) (.string k1) (.agg #[.string k1, .int .u64 v1, .int .i64 o1, .int .i64 a1, .bool g1, .string d1])).run Tryz.prog w5.drew = .ok () w6 := hst0
          have HM6 := Lib.hid hm6
          have HO6 := Lib.hid ho6
          clear hm6 ho6
          clear hst0
          go_region
          go_wp2_with fail
          go_ret
          refine ⟨by first | exact ret_int e5.symm | rfl, ?_, ?_⟩
          · exact (HO5.out.drew.weaken (fun _ _ => False.elim)).trans (HO6.out.weaken (fun _ _ e => .inr e))
          · obtain ⟨p1, p2⟩ := HPS.out e5
            rw [p1, p2]
            have hok := HOK.out
            rw [p2] at hok
            exact ⟨HO6.out.old (w := w5.drew) HH5.out.blk hne, HM6.out.perm strKeyed strInj HP.out, hok⟩
end Go.Proofs.YtbdfijgejkimnaaGreatDoor
/-! Equality of records. -/
namespace Go.Proofs.YtbdfijgejkimnaaGreatDoor
open Go.Conc Go.RowKit

theorem eqR (w : World) (k k' d d' : ByteArray) (v o a v' o' a' : Int) (g g' : Bool) : (binOp BinOp.eql 69 (.agg #[.string k, .int .u64 v, .int .i64 o, .int .i64 a, .bool g, .string d]) (.agg #[.string k', .int .u64 v', .int .i64 o', .int .i64 a', .bool g', .string d'])).run Tryz.prog w = .ok (.bool ((k.toList == k'.toList) && (v == v') && (o == o') && (a == a') && (g == g') && (d.toList == d'.toList))) w := by
  simp [go_sem]
  by_cases h1 : k.toList = k'.toList <;> by_cases h2 : v = v' <;> by_cases h3 : o = o' <;> by_cases h4 : a = a' <;> by_cases h5 : g = g' <;> simp [h1, h2, h3, h4, h5]
  split <;> simp_all
theorem neR (w : World) (k k' d d' : ByteArray) (v o a v' o' a' : Int) (g g' : Bool) : (binOp BinOp.neq 69 (.agg #[.string k, .int .u64 v, .int .i64 o, .int .i64 a, .bool g, .string d]) (.agg #[.string k', .int .u64 v', .int .i64 o', .int .i64 a', .bool g', .string d'])).run Tryz.prog w = .ok (.bool (!((k.toList == k'.toList) && (v == v') && (o == o') && (a == a') && (g == g') && (d.toList == d'.toList)))) w := by
  simp [go_sem]
  by_cases h1 : k.toList = k'.toList <;> by_cases h2 : v = v' <;> by_cases h3 : o = o' <;> by_cases h4 : a = a' <;> by_cases h5 : g = g' <;> simp [h1, h2, h3, h4, h5]
  split <;> simp_all
end Go.Proofs.YtbdfijgejkimnaaGreatDoor
/-! bellhoplaw15: speaks. -/
namespace Go.Proofs.YtbdfijgejkimnaaGreatDoor
open Go.Conc Go.RowKit Go.Maps

def spX : RecT := ⟨⟨#[0, 1, 97]⟩, 4294967296, 1, 0, false, ⟨#[97, 98, 99, 100, 101, 102, 103, 104, 105, 106]⟩⟩
def spY : RecT := ⟨⟨#[0, 2, 97]⟩, 4294967296, 2, 0, false, ⟨#[97, 98, 99, 100, 101, 102, 103, 104, 105, 106]⟩⟩
theorem sp1 : putE 1 9 [] spX = 0 := by decide +kernel
theorem sp2 : putE 1 9 [spX] spY = 5 := by decide +kernel
theorem sp3 : findV [spX] spX.key = spX ∧ (findS [spX] spX.key).isSome = true := by
  unfold findV
  have : findS [spX] spX.key = some spX := by simp [findS]
  rw [this]
  exact ⟨rfl, rfl⟩
theorem keepD10 {w : World} {p : Addr} {v : Value} (h : w.cell? p = some v) : w.drew.cell? p = some v := h
theorem sp4 : putS 1 9 [] spX = [spX] ∧ putR 1 9 [] spX 0 = 0 := by
  unfold putS putR
  rw [sp1]
  exact ⟨rfl, rfl⟩
theorem sp5 : putS 1 9 [spX] spY = [spX] ∧ putR 1 9 [spX] spY 0 = 1 := by
  unfold putS putR
  rw [sp2]
  exact ⟨rfl, rfl⟩
theorem sput_x (w : World) (s b : Nat) (m : Int) (h : StoreAt w s b 1 9 0 []) (hm : w.cell? ⟨0, 0, none⟩ = some (.int .i64 m)) :
    Calls Tryz.prog 18 #[.pointer (some ⟨s, 0, none⟩), .agg #[.string ⟨#[0, 1, 97]⟩, .int .u64 4294967296, .int .i64 1, .int .i64 0, .bool false, .string ⟨#[97, 98, 99, 100, 101, 102, 103, 104, 105, 106]⟩]] w fun e w' => e = .returned (.int .i64 0) ∧ Only (fun i => i = s ∨ i = b) w w' ∧ StoreAt w' s b 1 9 0 [spX] := by
  have h1 := sput_any w s b 1 9 0 [] h spX m hm (by decide) (by decide) (by omega) (by omega)
  refine h1.mono ?_
  rintro e w' ⟨rfl, h2, h3⟩
  rw [sp4.1, sp4.2] at h3
  exact ⟨by rw [sp1], h2, h3⟩
theorem sput_y (w : World) (s b : Nat) (m : Int) (h : StoreAt w s b 1 9 0 [spX]) (hm : w.cell? ⟨0, 0, none⟩ = some (.int .i64 m)) :
    Calls Tryz.prog 18 #[.pointer (some ⟨s, 0, none⟩), .agg #[.string ⟨#[0, 2, 97]⟩, .int .u64 4294967296, .int .i64 2, .int .i64 0, .bool false, .string ⟨#[97, 98, 99, 100, 101, 102, 103, 104, 105, 106]⟩]] w fun e w' => e = .returned (.int .i64 5) ∧ Only (fun i => i = s ∨ i = b) w w' ∧ StoreAt w' s b 1 9 1 [spX] := by
  have h1 := sput_any w s b 1 9 0 [spX] h spY m hm (by decide) (by decide) (by omega) (by omega)
  refine h1.mono ?_
  rintro e w' ⟨rfl, h2, h3⟩
  rw [sp5.1, sp5.2] at h3
  exact ⟨by rw [sp2], h2, h3⟩
theorem eqX (w : World) : (binOp BinOp.eql 69 (.agg #[.string ⟨#[0, 1, 97]⟩, .int .u64 4294967296, .int .i64 1, .int .i64 0, .bool false, .string ⟨#[97, 98, 99, 100, 101, 102, 103, 104, 105, 106]⟩]) (.agg #[.string ⟨#[0, 1, 97]⟩, .int .u64 4294967296, .int .i64 1, .int .i64 0, .bool false, .string ⟨#[97, 98, 99, 100, 101, 102, 103, 104, 105, 106]⟩])).run Tryz.prog w = .ok (.bool true) w := by
  have := eqR w ⟨#[0, 1, 97]⟩ ⟨#[0, 1, 97]⟩ ⟨#[97, 98, 99, 100, 101, 102, 103, 104, 105, 106]⟩ ⟨#[97, 98, 99, 100, 101, 102, 103, 104, 105, 106]⟩ 4294967296 1 0 4294967296 1 0 false false
  rw [this]
  simp
end Go.Proofs.YtbdfijgejkimnaaGreatDoor
/-! bellhoplaw15: same; what a store's reference keeps. -/
namespace Go.Proofs.YtbdfijgejkimnaaGreatDoor
open Go.Conc Go.RowKit Go.Maps

theorem fl_head (L : List RecT) (h : 0 < L.length) : (L.flatMap recC)[0]? = some (.string (L[0]).key) := by
  have := fl_get recC_length L 0 h 0 (by omega)
  rw [Nat.zero_mul, Nat.zero_add] at this
  exact this
/-- Records are kept where only blocks may change that hold no text. -/
theorem rsl_kept {S : Nat → Prop} {w w' : World} {v : Value} {L : List RecT} (h : RSl w v L) (ho : Only S w w') (hS : ∀ g, S g → ∀ i s, w.cell? ⟨g, i, none⟩ ≠ some (.string s)) : RSl w' v L := by
  obtain ⟨h1, a, cap, h2, h3, h4, h5⟩ := h
  refine ⟨h1, a, cap, h2, h3, h4, ?_⟩
  by_cases hn : 0 < L.length
  · rcases h5 with h5 | ⟨b, off, h5, h6⟩
    · exact .inl h5
    · refine .inr ⟨b, off, h5, fun j u hu => ho.cell (h6 j u hu) (fun hs => ?_)⟩
      exact hS b hs _ _ (h6 0 _ (fl_head L hn))
  · exact .inl (by omega)
theorem no_str {w : World} {b : Nat} {cs : Array Value} {t : TypeId} {f : Nat × Nat} (h : w.heap[b]? = some (.cells cs t f)) (hn : ∀ u ∈ cs.toList, ∀ s, u ≠ .string s) : ∀ i s, w.cell? ⟨b, i, none⟩ ≠ some (.string s) := by
  intro i s e
  rw [cell_at h] at e
  have h2 : cs.toList[i]? = some (.string s) := by simpa using e
  exact hn _ (List.mem_of_getElem? h2) s rfl
theorem good_split {x : RecT} (h : goodR x = true) : 2 ≤ x.key.size ∧ x.key.size ≤ 1000000 ∧ splitS x.key = x.key.extract 2 x.key.size := by
  have h64 := good_keys h
  unfold goodR goodP at h
  simp only [Bool.and_eq_true, beq_iff_eq] at h
  obtain ⟨⟨⟨⟨⟨h1, _⟩, _⟩, _⟩, _⟩, _⟩ := h
  unfold splitE at h1
  cases hs : splitOk x.key with
  | false => rw [hs] at h1; cases h1
  | true =>
    have hs' := hs
    unfold splitOk at hs'
    simp only [Bool.and_eq_true, decide_eq_true_eq] at hs'
    refine ⟨by omega, by omega, ?_⟩
    unfold splitS
    rw [hs]
    rfl
end Go.Proofs.YtbdfijgejkimnaaGreatDoor
/-! bellhoplaw25.made. -/
namespace Go.Proofs.YtbdfijgejkimnaaGreatDoor
open Go.Conc Go.RowKit Go.Maps

/-- What a store of the first k records holds. -/
def made25 (l : List RecB) (k : Nat) : List RecT := ((l.take k).map rec25).foldl (putS 48 100) []
theorem made25_snoc (l : List RecB) (k : Nat) (hk : k < l.length) : made25 l (k + 1) = putS 48 100 (made25 l k) (rec25 l[k]) := by
  unfold made25
  rw [List.take_add_one, List.getElem?_eq_getElem hk, List.map_append, List.foldl_append]
  rfl
theorem made25_end {l : List RecB} {k n : Nat} (hk : k ≤ l.length) (hk2 : k ≤ n) (h : ¬ (k < l.length ∧ k < n)) : made25 l k = made25 l n := by
  unfold made25
  rcases (by omega : k = l.length ∨ k = n) with e | e
  · rw [e, List.take_length, List.take_of_length_le (by omega)]
  · rw [e]
theorem rec25_bd (a : RecB) : (rec25 a).ver < 2 ^ 64 ∧ (rec25 a).key.size ≤ 1000 := by
  unfold rec25
  simp only
  refine ⟨by decide, ?_⟩
  rw [keyB_size]
  have := nm25_size (a.nm % 5)
  omega
theorem putRange (most ttl : Int) (L : List RecT) (x : RecT) (r : Int) : r ≤ putR most ttl L x r ∧ putR most ttl L x r ≤ r + 1 := by
  unfold putR
  split <;> omega
/-- A reference's store that lies in a block. -/
structure RStB (w : World) (P : Nat) (r : Int) (L : List RecT) : Prop where
  out : ∃ v, w.heap[P]? = some (.cells #[.int .i64 48, .int .i64 100, v, .int .i64 r] 27 (0, 0)) ∧ RSl w v L
theorem storeNoStr {w : World} {s b : Nat} {most ttl r : Int} {L : List RecT} (h : StoreAt w s b most ttl r L) : ∀ g, (g = s ∨ g = b) → ∀ i x, w.cell? ⟨g, i, none⟩ ≠ some (.string x) := by
  rintro g (rfl | rfl) i x
  · exact no_str h.blk (by simp) i x
  · obtain ⟨es, c, hb, _⟩ := h.map.own
    simp [World.cell?, hb]
theorem rstNoStr {w : World} {P : Nat} {a b : Int} {v : Value} {r : Int} {T : TypeId} {f : Nat × Nat} {p cap : _} (hv : v = .slice p cap cap ∨ ∃ n, v = .slice p n cap) (h : w.heap[P]? = some (.cells #[.int .i64 a, .int .i64 b, v, .int .i64 r] T f)) : ∀ i x, w.cell? ⟨P, i, none⟩ ≠ some (.string x) := by
  refine no_str h (fun u hu s => ?_)
  simp only [List.mem_cons, List.not_mem_nil, or_false] at hu
  rcases hu with rfl | rfl | rfl | rfl
  · simp
  · simp
  · rcases hv with rfl | ⟨n, rfl⟩ <;> simp
  · simp
theorem rslNoStr {w : World} {P : Nat} {a b r : Int} {v : Value} {T : TypeId} {f : Nat × Nat} {L : List RecT} (hs : RSl w v L) (h : w.heap[P]? = some (.cells #[.int .i64 a, .int .i64 b, v, .int .i64 r] T f)) : ∀ i x, w.cell? ⟨P, i, none⟩ ≠ some (.string x) := by
  obtain ⟨p, cap, rfl, _⟩ := Sl.cells recC_length hs
  exact rstNoStr (.inr ⟨_, rfl⟩) h
theorem onlyP {W w : World} {Q i : Nat} (h : Only (fun i => i = Q) W w) (v : Value) : Only (fun i => i = Q) W (w.setCell ⟨Q, i, none⟩ v) := h.setCell (S := fun i => i = Q) (p := ⟨Q, i, none⟩) (.inr rfl) v
def MadeB (w w' : World) (l : List RecB) (e : Ending) : Prop :=
  ∃ s b r r' v', e = .returned (.tuple #[.pointer (some ⟨s, 0, none⟩), rstV 48 100 v' r']) ∧ Only (fun _ => False) w w' ∧ w.heap.size ≤ s ∧ w.heap.size ≤ b ∧ StoreAt w' s b 48 100 r (made25 l 50) ∧ 0 ≤ r ∧ r ≤ 50 ∧ 0 ≤ r' ∧ r' ≤ 50 ∧ RSl w' v' (made25 l 50)
set_option maxRecDepth 100000 in
set_option maxHeartbeats 4000000 in
theorem made25_any (w : World) (m : Int) (hm : w.cell? ⟨0, 0, none⟩ = some (.int .i64 m)) (v : Value) (l : List RecB) (h : Sl w 6 v l.length (l.flatMap recBC)) (hl : ∀ a ∈ l, rowB a) :
    Calls Tryz.prog 9 #[v] w fun e w' => MadeB w w' l e := by
  obtain ⟨a, cap, rfl, h1, h2, h3⟩ := Sl.cells recBC_length h
  unfold maxLen at h2
  obtain ⟨W, hW⟩ : ∃ W, W = w.alloc (.cells #[.int .i64 0, .int .i64 0, .slice none 0 0, .int .i64 0] 27) := ⟨_, rfl⟩
  have hbW : W.heap[w.heap.size]? = some (.cells #[.int .i64 0, .int .i64 0, .slice none 0 0, .int .i64 0] 27 (0, 0)) := by rw [hW]; exact heap_alloc_new w _
  have hoW : Only (fun _ => False) w W := by rw [hW]; exact (Only.refl _ _).alloc _
  have hsW : W.heap.size = w.heap.size + 1 := by rw [hW]; simp
  have hmW := hoW.cell hm id
  have hnew := snew_ok W 48 100 (by omega) (by omega) (by omega) (by omega)
  have h0 : 0 < w.heap.size := World.block_lt_of_cell? _ _ hm
  have hbl : 0 < l.length → ∀ lb off, a = some ⟨lb, off, none⟩ → lb < w.heap.size := fun h0 lb off e => by
    obtain ⟨lb', off', e', hc⟩ := h3.at 0 h0
    rw [e] at e'
    cases e'
    exact World.block_lt_of_cell? _ _ (hc 0 _ rfl)
  have HC := Lib.hid h3
  have HL := Lib.hid hl
  have HM := Lib.hid hmW
  have HOW := Lib.hid hoW
  have HBW := Lib.hid hbW
  have HNEW := Lib.hid hnew
  have HSW := Lib.hid hsW
  have HBL := Lib.hid hbl
  clear h3 hl hmW hoW hbW hnew hsW hbl
  clear h hm
  go_enter Tryz.func9, Tryz.ntmps9
  go_upto_region 1 with (fail)
  rw [← hW]
  clear hW
  go_wp2_with fail
  refine HNEW.out.mono ?_
  rintro e w2 ⟨rfl, ho2, hst2⟩
  have hB : W.heap.size + 1 < w2.heap.size := hst2.lt.1
  have hb2 := ho2.old HBW.out id
  have hm2 := ho2.cell HM.out id
  have hoA := HOW.out.trans ho2
  obtain ⟨W3, hW3⟩ : ∃ W3, W3 = w2.alloc (.cells #[.int .i64 48, .int .i64 100, .slice none 0 0, .int .i64 0] 27) := ⟨_, rfl⟩
  have hbW3 : W3.heap[w2.heap.size]? = some (.cells #[.int .i64 48, .int .i64 100, .slice none 0 0, .int .i64 0] 27 (0, 0)) := by rw [hW3]; exact heap_alloc_new w2 _
  have hoW3 : Only (fun _ => False) w2 W3 := by rw [hW3]; exact (Only.refl _ _).alloc _
  have hsW3 : W3.heap.size = w2.heap.size + 1 := by rw [hW3]; simp
  have hst3 := hst2.new hoW3
  have hbQ := hoW3.old hb2 id
  have hoB := hoA.trans hoW3
  have hm3 := hoW3.cell hm2 id
  have hsz : w.heap.size < W.heap.size := by have := HSW.out; omega
  clear ho2 hb2 hoA hst2
  go_upto_region 3 with (fail)
  rw [← hW3]
  clear hW3 hoW3 HNEW HBW HM
  have hszP : w2.heap.size < W3.heap.size := by omega
  generalize hQ : w.heap.size = Q at *
  generalize hbE : W.heap.size = b at *
  generalize hP : w2.heap.size = P at *
  have hord : 0 < Q ∧ Q < b ∧ b + 1 < P ∧ P < W3.heap.size := by omega
  have HST := Lib.hid hst3
  have HBP := Lib.hid hbW3
  have HBQ := Lib.hid hbQ
  have HOB := Lib.hid hoB
  have HM := Lib.hid hm3
  have HORD := Lib.hid hord
  have HQ := Lib.hid hQ
  clear hst3 hbW3 hbQ hoB hm3 hord hQ
  clear hsW3 hbE hP hB hsz h0 hszP
  have hCx := HC.out.new HOB.out (fun _ _ _ => id)
  have HCX := Lib.hid hCx
  clear hCx
  go_upto_block 0 with fail
  go_cut [7] (fun _ wx => ∃ r r', Only (fun i => i = b + 1 ∨ i = b ∨ i = P) W3 wx ∧ StoreAt wx (b + 1) b 48 100 r (made25 l 50) ∧ 0 ≤ r ∧ r ≤ 50 ∧ 0 ≤ r' ∧ r' ≤ 50 ∧ RStB wx P r' (made25 l 50))
  case first =>
    go_wp2_with fail
    go_loopg [7] 50 (fun g v9 wr => ∃ (k : Nat) (r r' : Int), v9 = .int .i64 k ∧ k ≤ l.length ∧ k ≤ 50 ∧ Only (fun i => i = b + 1 ∨ i = b ∨ i = P) W3 wr ∧ StoreAt wr (b + 1) b 48 100 r (made25 l k) ∧ 0 ≤ r ∧ r ≤ k ∧ 0 ≤ r' ∧ r' ≤ k ∧ RStB wr P r' (made25 l k) ∧ g = 50 - k)
    case atStart => exact ⟨0, 0, 0, rfl, Nat.zero_le _, Nat.zero_le _, Only.refl _ _, HST.out, Int.le_refl _, Int.le_refl _, Int.le_refl _, Int.le_refl _, ⟨_, HBP.out, Sl.nil _ _⟩, rfl⟩
    case round =>
      obtain ⟨k, r, r', rfl, hk, hk30, ho, hst, hr0, hr, hq0, hq, hrs, hg⟩ := hrel
      have Hg := Lib.hid hg
      have HO := Lib.hid ho
      have HST1 := Lib.hid hst
      have HRS := Lib.hid hrs
      clear hg ho hst hrs
      by_cases hlt : k < l.length ∧ k < 50
      · -- round
        obtain ⟨hlt, hlt30⟩ := hlt
        obtain ⟨lb, off, he, hc⟩ := HCX.out.at k hlt
        have hlb : lb < Q := HBL.out (by omega) lb off he
        subst he
        have hcr : ∀ i u, (recBC l[k])[i]? = some u → wr.cell? ⟨lb, off + k * 6 + i, none⟩ = some u := fun i u hu => HO.out.cell (hc i u hu) (fun e => by
          have h8 := HORD.out
          have h9 : lb = b + 1 ∨ lb = b ∨ lb = P := e
          omega)
        have HTS := Lib.hid (made25_snoc l k hlt)
        have HREC := Lib.hid (fun w => rec25_any w l[k] (HL.out _ (List.getElem_mem hlt)))
        obtain ⟨hbd1, hbd2⟩ := rec25_bd l[k]
        have hlt' : (k : Int) < (l.length : Int) := by omega
        have hlt30' : (k : Int) < 50 := by omega
        have hk0 : (0 : Int) ≤ (k : Int) := by omega
        generalize rec25 l[k] = R at *
        generalize l[k] = x at *
        generalize made25 l k = D at *
        have hDl : D.length ≤ 48 := HST1.out.ok.len
        have HPUT := Lib.hid (fun w hst hm => sput_any w (b + 1) b 48 100 r D hst R m hm hbd1 (by omega) hr0 (by omega))
        have HRP := Lib.hid (fun w v hv => rput_any w 48 100 r' v D hv (by omega) HST1.out.ok.rises R (by omega) hq0 (by omega))
        have hrr := putRange 48 100 D R r
        have hqq := putRange 48 100 D R r'
        obtain ⟨o1, n1, l1, c1, g1, a1⟩ := x
        obtain ⟨k1, v1, o2, a2, g2, d2⟩ := R
        unfold recT at HREC HPUT HRP
        unfold rstV at HRP
        unfold RPutP SPut at *
        unfold rstV at HRP
        simp only at HREC HPUT HRP
        generalize putR 48 100 D ⟨k1, v1, o2, a2, g2, d2⟩ r = r2 at *
        generalize putR 48 100 D ⟨k1, v1, o2, a2, g2, d2⟩ r' = q2 at *
        generalize putE 48 100 D ⟨k1, v1, o2, a2, g2, d2⟩ = E at *
        generalize putS 48 100 D ⟨k1, v1, o2, a2, g2, d2⟩ = D2 at *
        have y0 := hcr 0 _ rfl
        have y1 := hcr 1 _ rfl
        have y2 := hcr 2 _ rfl
        have y3 := hcr 3 _ rfl
        have y4 := hcr 4 _ rfl
        have y5 := hcr 5 _ rfl
        simp only [Nat.add_zero] at y0
        simp only at y0 y1 y2 y3 y4 y5
        have HRR := Lib.hid hrr
        have HQQ := Lib.hid hqq
        clear hrr hqq
        clear hc hcr hbd1 hbd2
        go_wp2_with fail
        refine (HREC.out _).mono ?_
        rintro e w4 ⟨rfl, ho4⟩
        obtain ⟨W5, hW5⟩ : ∃ W5, W5 = w4.alloc (.cells #[.string k1, .int .u64 v1, .int .i64 o2, .int .i64 a2, .bool g2, .string d2] 75) := ⟨_, rfl⟩
        have hbW5 : W5.heap[w4.heap.size]? = some (.cells #[.string k1, .int .u64 v1, .int .i64 o2, .int .i64 a2, .bool g2, .string d2] 75 (0, 0)) := by rw [hW5]; exact heap_alloc_new w4 _
        have hoW5 : Only (fun _ => False) w4 W5 := by rw [hW5]; exact (Only.refl _ _).alloc _
        have hsW5 : W5.heap.size = w4.heap.size + 1 := by rw [hW5]; simp
        go_upto_region 7 with (fail)
        rw [← hW5]
        clear hW5 y0 y1 y2 y3 y4 y5
        have hst5 := (HST1.out.new ho4).new hoW5
        have hoC : Only (fun i => i = b + 1 ∨ i = b ∨ i = P) W3 W5 := HO.out.trans ((ho4.trans hoW5).weaken (fun _ _ => False.elim))
        have hm5 := hoC.cell HM.out (fun e => by
          have h8 := HORD.out
          have h9 : 0 = b + 1 ∨ 0 = b ∨ 0 = P := e
          omega)
        obtain ⟨v5, hbp5, hsl5⟩ := HRS.out.out
        have hbp5 := (ho4.trans hoW5).old hbp5 id
        have hsl5 := hsl5.new (ho4.trans hoW5)
        have hP5 := HPUT.out W5 hst5 hm5
        have hy4 : P < w4.heap.size := by have h1 := HO.out.size; have h2 := ho4.size; have h3 := HORD.out; omega
        have y0 : W5.cell? ⟨w4.heap.size, 0, none⟩ = some (.string k1) := cell_at hbW5 0
        have y1 : W5.cell? ⟨w4.heap.size, 1, none⟩ = some (.int .u64 v1) := cell_at hbW5 1
        have y2 : W5.cell? ⟨w4.heap.size, 2, none⟩ = some (.int .i64 o2) := cell_at hbW5 2
        have y3 : W5.cell? ⟨w4.heap.size, 3, none⟩ = some (.int .i64 a2) := cell_at hbW5 3
        have y4 : W5.cell? ⟨w4.heap.size, 4, none⟩ = some (.bool g2) := cell_at hbW5 4
        have y5 : W5.cell? ⟨w4.heap.size, 5, none⟩ = some (.string d2) := cell_at hbW5 5
        generalize w4.heap.size = Y at *
        have HP5 := Lib.hid hP5
        have HBP5 := Lib.hid hbp5
        have HSL5 := Lib.hid hsl5
        have HOC := Lib.hid hoC
        have HST5 := Lib.hid hst5
        have HBY := Lib.hid hbW5
        have HY4 := Lib.hid hy4
        clear hP5 hbp5 hsl5 hoC hst5 hbW5 hy4
        clear ho4 hoW5 hsW5 hm5 HPUT
        go_wp2_with fail
        refine HP5.out.mono ?_
        rintro e w6 ⟨rfl, ho6, hst6⟩
        have hPs : ¬ (P = b + 1 ∨ P = b) := by have h8 := HORD.out; omega
        have hYs : ¬ (Y = b + 1 ∨ Y = b) := by have h8 := HORD.out; have h9 := HY4.out; omega
        have hby6 := ho6.old HBY.out hYs
        have hbp6 := ho6.old HBP5.out hPs
        have hsl6 := rsl_kept HSL5.out ho6 (storeNoStr HST5.out)
        obtain ⟨pa, pcap, rfl, _⟩ := Sl.cells recC_length hsl6
        have hoD : Only (fun i => i = b + 1 ∨ i = b ∨ i = P) W3 w6 := HOC.out.trans (ho6.weaken (fun _ _ e => e.elim .inl (fun e => .inr (.inl e))))
        clear y0 y1 y2 y3 y4 y5
        have p0 : w6.cell? ⟨P, 0, none⟩ = some (.int .i64 48) := cell_at hbp6 0
        have p1 : w6.cell? ⟨P, 1, none⟩ = some (.int .i64 100) := cell_at hbp6 1
        have p2 : w6.cell? ⟨P, 2, none⟩ = some (.slice pa D.length pcap) := cell_at hbp6 2
        have p3 : w6.cell? ⟨P, 3, none⟩ = some (.int .i64 r') := cell_at hbp6 3
        have y0 : w6.cell? ⟨Y, 0, none⟩ = some (.string k1) := cell_at hby6 0
        have y1 : w6.cell? ⟨Y, 1, none⟩ = some (.int .u64 v1) := cell_at hby6 1
        have y2 : w6.cell? ⟨Y, 2, none⟩ = some (.int .i64 o2) := cell_at hby6 2
        have y3 : w6.cell? ⟨Y, 3, none⟩ = some (.int .i64 a2) := cell_at hby6 3
        have y4 : w6.cell? ⟨Y, 4, none⟩ = some (.bool g2) := cell_at hby6 4
        have y5 : w6.cell? ⟨Y, 5, none⟩ = some (.string d2) := cell_at hby6 5
        have hr2 : 0 ≤ r2 ∧ r2 ≤ ((k + 1 : Nat) : Int) ∧ 0 ≤ q2 ∧ q2 ≤ ((k + 1 : Nat) : Int) := by have h1 := HRR.out; have h2 := HQQ.out; omega
        have HBP6 := Lib.hid hbp6
        have HSL6 := Lib.hid hsl6
        have HOD := Lib.hid hoD
        have HST6 := Lib.hid hst6
        have HR2 := Lib.hid hr2
        clear hbp6 hsl6 hoD hst6 hr2
        clear ho6 HP5 HBP5 HSL5 HOC HST5 hby6
        go_upto_region 8 with (fail)
        go_wp2_with fail
        refine (HRP.out _ _ HSL6.out).mono ?_
        rintro e w8 ⟨v8, rfl, ho8, hs8⟩
        obtain ⟨va, vcap, rfl, _⟩ := Sl.cells recC_length hs8
        have hb8 := ho8.old HBP6.out id
        have s0 := cell_at hb8 0
        have s1 := cell_at hb8 1
        have s2 := cell_at hb8 2
        have s3 := cell_at hb8 3
        have sf := free_at hb8
        have hn8 := rslNoStr (HSL6.out.new ho8) hb8
        simp at s0 s1 s2 s3
        have hp8 := ho8.weaken (T := fun i => i = P) (fun _ _ => False.elim)
        clear p0 p1 p2 p3 y0 y1 y2 y3 y4 y5
        go_wp2_with fail
        go_roundg (50 - (k + 1))
        case measure => rw [Hg.out]; omega
        case rel =>
          refine ⟨k + 1, r2, q2, by go_num, by omega, by omega, HOD.out.trans (Only.weaken (S := fun i => i = P) ?_ (fun _ _ e => .inr (.inr e))), ?_, HR2.out.1, HR2.out.2.1, HR2.out.2.2.1, HR2.out.2.2.2, ?_, rfl⟩
          · (repeat (first | (with_reducible assumption) | (with_reducible exact Only.refl _ _) | (with_reducible refine Only.drew ?_) | (with_reducible refine onlyP ?_ _)))
          · rw [HTS.out]
            refine HST6.out.kept (S := fun i => i = P) ?_ (by have h8 := HORD.out; omega) (by have h8 := HORD.out; omega)
            (repeat (first | (with_reducible assumption) | (with_reducible exact Only.refl _ _) | (with_reducible refine Only.drew ?_) | (with_reducible refine onlyP ?_ _)))
          · rw [HTS.out]
            refine ⟨_, ?_, rsl_kept hs8 (S := fun i => i = P) ?_ (fun g e => by subst e; exact hn8)⟩
            · (apply Eq.trans; (case h₁ => repeat (first | (with_reducible assumption) | (with_reducible exact heap_alloc_new _ _) | (with_reducible apply blk_new; (repeat (first | (with_reducible rfl) | (with_reducible apply sz_set) | (with_reducible apply sz_alloc) | (with_reducible apply sz_drew))); done) | (with_reducible apply blk_same) | (with_reducible apply blk_ne; case hn => (first | assumption | omega)) | (with_reducible apply blk_old) | (with_reducible apply blk_drew))); (case h₂ => rfl))
            · (repeat (first | (with_reducible assumption) | (with_reducible exact Only.refl _ _) | (with_reducible refine Only.drew ?_) | (with_reducible refine onlyP ?_ _)))
      · have HE := Lib.hid (made25_end hk hk30 hlt)
        rcases (by omega : (¬ (k : Int) < (l.length : Int)) ∨ ((k : Int) < (l.length : Int) ∧ ¬ (k : Int) < 50)) with e1 | ⟨e1, e2⟩
        all_goals
          clear hlt
          go_wp2_with fail
          go_meet
          exact ⟨r, r', HO.out, by rw [← HE.out]; exact HST1.out, hr0, by omega, hq0, by omega, by rw [← HE.out]; exact HRS.out⟩
  case rest =>
  obtain ⟨r, r', ho, hst, hr0, hr, hq0, hq, hrs⟩ := hcut
  generalize wc = wy at *
  obtain ⟨v5, hbp, hsl⟩ := hrs.out
  have hbq := ho.old HBQ.out (by have h8 := HORD.out; intro e; have h9 : Q = b + 1 ∨ Q = b ∨ Q = P := e; omega)
  obtain ⟨pa, pcap, rfl, _⟩ := Sl.cells recC_length hsl
  have p0 : wy.cell? ⟨P, 0, none⟩ = some (.int .i64 48) := cell_at hbp 0
  have p1 : wy.cell? ⟨P, 1, none⟩ = some (.int .i64 100) := cell_at hbp 1
  have p2 : wy.cell? ⟨P, 2, none⟩ = some (.slice pa (made25 l 50).length pcap) := cell_at hbp 2
  have p3 : wy.cell? ⟨P, 3, none⟩ = some (.int .i64 r') := cell_at hbp 3
  have qf : ∀ i, wy.frozen? ⟨Q, i, none⟩ = false := free_at hbq
  have hnq : ∀ i x, wy.cell? ⟨Q, i, none⟩ ≠ some (.string x) := rstNoStr (p := none) (cap := 0) (.inl rfl) hbq
  have hne : ¬ Q = P := by have h8 := HORD.out; omega
  have q0 : wy.cell? ⟨Q, 0, none⟩ = some (.int .i64 0) := cell_at hbq 0
  have q1 : wy.cell? ⟨Q, 1, none⟩ = some (.int .i64 0) := cell_at hbq 1
  have q2 : wy.cell? ⟨Q, 2, none⟩ = some (.slice none 0 0) := cell_at hbq 2
  have q3 : wy.cell? ⟨Q, 3, none⟩ = some (.int .i64 0) := cell_at hbq 3
  have HO := Lib.hid ho
  have HST2 := Lib.hid hst
  have HBP2 := Lib.hid hbp
  have HBQ2 := Lib.hid hbq
  have HSL := Lib.hid hsl
  have HNQ := Lib.hid hnq
  have HR := Lib.hid hr0
  have HR1 := Lib.hid hr
  have HQ0 := Lib.hid hq0
  have HQ1 := Lib.hid hq
  clear ho hst hbp hbq hsl hnq hr0 hr hq0 hq
  clear hrs HST HBP HBQ
  go_upto_region 9 with (fail)
  go_cut [2] (fun v4 wx => v4 = .pointer (some ⟨b + 1, 0, none⟩) ∧ wx.heap[Q]? = some (.cells #[.int .i64 48, .int .i64 100, .slice pa (made25 l 50).length pcap, .int .i64 r'] 27 (0, 0)) ∧ Only (fun i => i = Q) wy wx)
  case first =>
    have hbq2 := HBQ2.out
    go_region
    all_goals
      go_wp2_with fail
      go_meet
      refine ⟨rfl, ?_, ?_⟩
      · (apply Eq.trans; (case h₁ => repeat (first | (with_reducible assumption) | (with_reducible exact heap_alloc_new _ _) | (with_reducible apply blk_new; (repeat (first | (with_reducible rfl) | (with_reducible apply sz_set) | (with_reducible apply sz_alloc) | (with_reducible apply sz_drew))); done) | (with_reducible apply blk_same) | (with_reducible apply blk_ne; case hn => (first | assumption | omega)) | (with_reducible apply blk_old) | (with_reducible apply blk_drew))); (case h₂ => rfl))
      · (repeat (first | (with_reducible exact Only.refl _ _) | (with_reducible refine Only.drew ?_) | (with_reducible refine onlyP ?_ _)))
  case rest =>
  obtain ⟨rfl, hbz, hoz⟩ := hcut
  generalize wc = wz at *
  clear p0 p1 p2 p3 q0 q1 q2 q3 qf
  have hst3 := HST2.out.kept hoz (by have h8 := HORD.out; omega) (by have h8 := HORD.out; omega)
  have hsl3 := rsl_kept HSL.out (S := fun i => i = Q) hoz (fun g e => by subst e; exact HNQ.out)
  have hoY : Only (fun _ => False) w wz := (HOB.out.tr HO.out (fun i hi e => by
    have h8 := HORD.out
    have h9 : i = b + 1 ∨ i = b ∨ i = P := e
    have h10 := HQ.out
    omega)).tr hoz (fun i hi e => by have h10 := HQ.out; have h9 : i = Q := e; omega)
  have p0 : wz.cell? ⟨Q, 0, none⟩ = some (.int .i64 48) := cell_at hbz 0
  have p1 : wz.cell? ⟨Q, 1, none⟩ = some (.int .i64 100) := cell_at hbz 1
  have p2 : wz.cell? ⟨Q, 2, none⟩ = some (.slice pa (made25 l 50).length pcap) := cell_at hbz 2
  have p3 : wz.cell? ⟨Q, 3, none⟩ = some (.int .i64 r') := cell_at hbz 3
  have HST3 := Lib.hid hst3
  have HSL3 := Lib.hid hsl3
  have HOY := Lib.hid hoY
  clear hst3 hsl3 hoY
  clear hoz hbz
  go_wp2_with fail
  refine bodyPost_ret (v := .tuple #[.pointer (some ⟨b + 1, 0, none⟩), .agg #[.int .i64 48, .int .i64 100, .slice pa (made25 l 50).length pcap, .int .i64 r']]) (by simp [results, Tryz.results9, go_sem, p0, p1, p2, p3]) rfl ?_
  have h8 := HORD.out
  have h10 := HQ.out
  exact ⟨b + 1, b, r, r', _, rfl, HOY.out, by omega, by omega, HST3.out, HR.out, HR1.out, HQ0.out, HQ1.out, HSL3.out⟩
end Go.Proofs.YtbdfijgejkimnaaGreatDoor
