/- record: Key, Split; the reference's Key, Origin. -/
import Derived.Test.YtianboachknfmaaDoorRec2
import Derived.Test.YtianboachknfmaaDoorPack4
namespace Go.Proofs.YtianboachknfmaaDoor
open Go.Conc Go.RowKit

theorem cv2 (w : World) (B : Nat) (x y : Int) (hB : B = w.heap.size) : (convert 130 9 (.slice (some ⟨B, 0, none⟩) 2 2)).run Tryd.prog (w.alloc (.cells #[.int .u8 x, .int .u8 y] 5)) = .ok (.string (bytesOf [x, y])) (w.alloc (.cells #[.int .u8 x, .int .u8 y] 5)) :=
  run_bytes_new Tryd.underlying130 Tryd.underlying5 Tryd.underlying9 w B [x, y] 2 hB rfl (by unfold maxLen; decide)
theorem cv2d (w : World) (B : Nat) (x y : Int) (hB : B = w.heap.size) : (convert 130 9 (.slice (some ⟨B, 0, none⟩) 2 2)).run Tryd.prog (w.alloc (.cells #[.int .u8 x, .int .u8 y] 5)).drew = .ok (.string (bytesOf [x, y])) (w.alloc (.cells #[.int .u8 x, .int .u8 y] 5)).drew :=
  run_bytes_new_drew Tryd.underlying130 Tryd.underlying5 Tryd.underlying9 w B [x, y] 2 hB rfl (by unfold maxLen; decide)
/-- A key in bytes. -/
def keyB (o : Int) (name : ByteArray) : ByteArray := bytesOf [o / 256, o % 256] ++ name
theorem keyB_size (o : Int) (name : ByteArray) : (keyB o name).size = 2 + name.size := ByteArray.size_append
theorem keyB_be (n : Nat) (name : ByteArray) (hn : n < 65536) : (⟨(beL n 2 ++ name.data.toList).toArray⟩ : ByteArray) = keyB n name := by
  apply str_ext
  unfold keyB
  rw [ByteArray.data_append, Array.toList_append]
  show beL n 2 ++ name.data.toList = _
  congr 1
  show [UInt8.ofNat (n / 256 ^ 1), UInt8.ofNat (n / 256 ^ 0)] = [UInt8.ofNat ((n : Int) / 256).toNat, UInt8.ofNat ((n : Int) % 256).toNat]
  have e1 : ((n : Int) / 256).toNat = n / 256 := by omega
  have e2 : ((n : Int) % 256).toNat = n % 256 := by omega
  rw [e1, e2]
  congr 2
  apply UInt8.toNat_inj.1
  rw [UInt8.toNat_ofNat', UInt8.toNat_ofNat']
  omega

set_option maxRecDepth 100000 in
theorem rkey_any (w : World) (o : Int) (name : ByteArray) (h0 : 0 ≤ o) (h1 : o ≤ 65535) (hs : name.size ≤ 1000) :
    Calls Tryd.prog 66 #[.int .i64 o, .string name] w fun e w' => e = .returned (.string (keyB o name)) ∧ Only (fun _ => False) w w' := by
  have hc2 := cv2
  have e2 : ∀ x y : Int, (bytesOf [x, y]).size = 2 := fun _ _ => rfl
  go_enter Tryd.func66, Tryd.ntmps66
  go_wp2_with fail
  go_ret
  exact ⟨rfl, (Only.refl _ _).alloc _⟩

def bA (m : ByteArray) (i : Nat) : Nat := (m.data.toList.getD i 0).toNat
theorem bA_get (m : ByteArray) (k : Nat) (h : k < m.size) : (m[k]'h).toNat = bA m k := by
  unfold bA
  have h2 : k < m.data.toList.length := h
  rw [List.getD_eq_getElem?_getD, List.getElem?_eq_getElem h2]
  rfl
theorem bA_lt (m : ByteArray) (k : Nat) : bA m k < 256 := UInt8.toNat_lt _
/-- Whose key it is; 0: it is none. -/
def originP (s : ByteArray) : Nat := if s.size < 2 then 0 else if namedP (s.extract 2 s.size) then 256 * bA s 0 + bA s 1 else 0

set_option maxRecDepth 100000 in
theorem rorigin_any (w : World) (s : ByteArray) (hs : s.size ≤ maxLen) :
    Calls Tryd.prog 114 #[.string s] w fun e w' => e = .returned (.int .i64 (originP s : Nat)) ∧ Only (fun _ => False) w w' := by
  unfold maxLen at hs
  by_cases h2 : s.size < 2
  · have q1 : decide ((s.size : Int) < 2) = true := by simp; omega
    have HO := Lib.hid (show originP s = 0 by rw [originP, if_pos h2])
    go_enter Tryd.func114, Tryd.ntmps114
    go_wp2_with fail
    go_ret
    exact ⟨ret_int (by rw [HO.out]; rfl), Only.refl _ _⟩
  · have q1 : decide ((s.size : Int) < 2) = false := by simp; omega
    have q2 : (2 : Int) ≤ (s.size : Int) := by omega
    have hex : (s.extract 2 s.size).size ≤ maxLen := by rw [ByteArray.size_extract]; unfold maxLen; omega
    have hbe : originP s = if namedP (s.extract 2 s.size) then 256 * bA s 0 + bA s 1 else 0 := by rw [originP, if_neg h2]
    have h0 := bA_get s 0 (by omega)
    have h1 := bA_get s 1 (by omega)
    have b0 := bA_lt s 0
    have b1 := bA_lt s 1
    generalize hx : s.extract 2 s.size = x at *
    have HBE := Lib.hid hbe
    clear hbe
    go_enter Tryd.func114, Tryd.ntmps114
    go_wp2_with fail
    refine (rnamed_any _ x hex).mono ?_
    rintro e w1 ⟨rfl, rfl⟩
    clear hx
    cases hn : namedP x with
    | false =>
      have HN := Lib.hid hn
      clear hn
      go_wp2_with fail
      go_ret
      exact ⟨ret_int (by rw [HBE.out, HN.out]; rfl), Only.refl _ _⟩
    | true =>
      have HN := Lib.hid hn
      clear hn
      have g0 : (0 : Int) < (s.size : Int) := by omega
      have g1 : (1 : Int) < (s.size : Int) := by omega
      have e0 : ((s[0]'(by omega)).toNat : Int) = (bA s 0 : Int) := congrArg _ h0
      have e1 : ((s[1]'(by omega)).toNat : Int) = (bA s 1 : Int) := congrArg _ h1
      generalize bA s 0 = x0 at *
      generalize bA s 1 = x1 at *
      have w1 : IntKind.i64.wrap (256 * (x0 : Int)) = 256 * (x0 : Int) := IntWalk.i64_in _ (by omega)
      have w2 : IntKind.i64.wrap (256 * (x0 : Int) + (x1 : Int)) = 256 * (x0 : Int) + (x1 : Int) := IntWalk.i64_in _ (by omega)
      clear h0 h1
      go_wp2_with fail
      go_region
      all_goals (
        go_wp2_with fail
        go_ret
        refine ⟨ret_int ?_, (Only.refl _ _).drew⟩
        rw [HBE.out, HN.out]
        simp)

theorem WrAt.at {w : World} {b base : Nat} {S : Nat → Prop} {l : List UInt8} (h : WrAt w b base S l) {e : TypeId} (he1 : e ≠ 208) (he2 : e ≠ 5) {x : Nat} {cs : Array Value} (hx : w.heap[x]? = some (.cells cs e (0, 0))) : ¬ S x := by
  obtain ⟨p, v, hb, hp, hown, hS⟩ := h
  intro hs
  rcases (hS x).1 hs with rfl | hk
  · rw [hb] at hx
    simp only [Option.some.injEq, Obj.cells.injEq] at hx
    exact he1 hx.2.1.symm
  · rcases hown.2 with ⟨h2, _⟩ | ⟨g, cap, cur, rfl, _, hg, _⟩
    · subst h2; simp [Value.ownBlock] at hk
    · simp [Value.ownBlock] at hk
      subst hk
      rw [hg] at hx
      simp only [Option.some.injEq, Obj.cells.injEq] at hx
      exact he2 hx.2.1.symm
theorem WPost.old {w w' : World} {b base : Nat} {S : Nat → Prop} {l : List UInt8} (h : WPost w w' b base S l) {x : Nat} {o : Obj} (hx : w.heap[x]? = some o) (hn : ¬ S x) : w'.heap[x]? = some o := h.elim fun _ k => k.1.old hx hn
theorem WPost.of_same {w w' : World} {b base : Nat} {S : Nat → Prop} {l : List UInt8} (h : WrAt w b base S l) (ho : Only (fun _ => False) w w') : WPost w w' b base S l :=
  ⟨S, ho.weaken (fun _ _ h => h.elim), h.kept ho (fun _ _ => id), fun _ h => .inl h⟩

theorem WPost.step {a w w' : World} {b base : Nat} {S S3 : Nat → Prop} {m : List UInt8} (k1 : Only S a w) (k3 : ∀ x, S3 x → S x ∨ a.heap.size ≤ x) (h : WPost w w' b base S3 m) : WPost a w' b base S m := by
  obtain ⟨S2, h1, h2, h3⟩ := h
  refine ⟨S2, k1.tr h1 (fun i hi x => (k3 i x).elim id (fun y => absurd hi (by omega))), h2, fun x hx => ?_⟩
  rcases h3 x hx with y | y
  · exact k3 x y
  · exact .inr (Nat.le_trans k1.size y)
theorem WPost.ahead {a w w' : World} {b base : Nat} {S : Nat → Prop} {m : List UInt8} (h : WPost w w' b base S m) (ho : Only (fun _ => False) a w) : WPost a w' b base S m := by
  obtain ⟨S2, h1, h2, h3⟩ := h
  refine ⟨S2, (ho.weaken (fun _ _ h => h.elim)).trans h1, h2, fun x hx => ?_⟩
  rcases h3 x hx with y | y
  · exact .inl y
  · exact .inr (Nat.le_trans ho.size y)
set_option maxRecDepth 100000 in
theorem key1_ok (w : World) (b base : Nat) (S : Nat → Prop) (po pn n : Nat) (name : ByteArray) (m : Int) (h : WrAt w b base S []) (hp : w.heap[po]? = some (.cells #[.int .i64 n] 3 (0, 0))) (hn : w.heap[pn]? = some (.cells #[.string name] 9 (0, 0)))
    (hm : w.cell? ⟨0, 0, none⟩ = some (.int .i64 m)) (h1 : nodeB n = true) (h2 : namedP name = true) (hsz : name.size ≤ 62) (hbase : base ≤ w.heap.size) :
    Calls Tryd.prog 133 #[.pointer (some ⟨b, 0, none⟩), .pointer (some ⟨po, 0, none⟩), .pointer (some ⟨pn, 0, none⟩)] w fun e w' => e = .returned (.tuple #[]) ∧ WPost w w' b base S (beL n 2 ++ name.data.toList) := by
  have c1 : w.cell? ⟨po, 0, none⟩ = some (.int .i64 n) := cell_at hp 0
  have c2 : w.cell? ⟨pn, 0, none⟩ = some (.string name) := cell_at hn 0
  have H := Lib.hid h
  have HP := Lib.hid hp
  have HN := Lib.hid hn
  have HM := Lib.hid hm
  have H1 := Lib.hid h1
  have H2 := Lib.hid h2
  have hn16 : n < 65536 := by unfold nodeB at h1; simp at h1; omega
  clear h hp hn hm h1 h2
  go_enter Tryd.func133, Tryd.ntmps133
  go_wp2_with fail
  refine (node_any _ _).mono ?_
  rintro e w1 ⟨rfl, rfl⟩
  rw [H1.out]
  go_wp2_with fail
  refine (named_any _ name m HM.out (by unfold maxLen; omega)).mono ?_
  rintro e w2 ⟨rfl, ho2⟩
  rw [H2.out]
  have d1 := ho2.cell c1 id
  have d2 := ho2.cell c2 id
  have hsz2 := ho2.size
  go_wp2_with fail
  refine (num_ok _ b base S [] n 2 (H.out.kept ho2 (fun _ _ => id)) (by decide) (by decide) (by omega) (by decide) (by omega)).mono ?_
  rintro e w3 ⟨rfl, hp3⟩
  have hpn := hp3.old (ho2.old HN.out id) (H.out.at (by decide) (by decide) HN.out)
  have d3 : w3.cell? ⟨pn, 0, none⟩ = some (.string name) := cell_at hpn 0
  have HP3 := Lib.hid hp3
  have hsz3 := hp3.size
  clear hp3 hpn c1 c2 d1 d2
  obtain ⟨S3, k1, k2, k3⟩ := id HP3.out
  have K1 := Lib.hid k1
  have K2 := Lib.hid k2
  have K3 := Lib.hid k3
  clear k1 k2 k3
  go_wp2_with fail
  refine (raw_ok _ b base S3 _ name K2.out (by simp [beL]) (by omega) (by omega)).mono ?_
  rintro e w4 ⟨rfl, hp4⟩
  go_wp2_with fail
  go_end0
  exact ⟨rfl, (WPost.step K1.out K3.out hp4).ahead ho2⟩

set_option maxRecDepth 100000 in
theorem key1_arg (w : World) (b : Nat) (po pn : Nat) (o : Int) (hp : w.heap[po]? = some (.cells #[.int .i64 o] 3 (0, 0))) (h1 : nodeB o = false) :
    Calls Tryd.prog 133 #[.pointer (some ⟨b, 0, none⟩), .pointer (some ⟨po, 0, none⟩), .pointer (some ⟨pn, 0, none⟩)] w fun e w' => e = refused 1 ∧ Only (fun _ => False) w w' := by
  have c1 : w.cell? ⟨po, 0, none⟩ = some (.int .i64 o) := cell_at hp 0
  have H1 := Lib.hid h1
  clear hp h1
  go_enter Tryd.func133, Tryd.ntmps133
  go_wp2_with fail
  refine (node_any _ _).mono ?_
  rintro e w1 ⟨rfl, rfl⟩
  rw [H1.out]
  go_wp2_with fail
  refine (refuse_any _ 1 (by decide)).mono ?_
  rintro e w' ⟨rfl, rfl⟩
  unfold refused
  go_wp2_with fail
  exact ⟨rfl, rfl, Only.refl _ _⟩
set_option maxRecDepth 100000 in
theorem key1_name (w : World) (b : Nat) (po pn : Nat) (o : Int) (name : ByteArray) (m : Int) (hp : w.heap[po]? = some (.cells #[.int .i64 o] 3 (0, 0))) (hn : w.heap[pn]? = some (.cells #[.string name] 9 (0, 0)))
    (hm : w.cell? ⟨0, 0, none⟩ = some (.int .i64 m)) (h1 : nodeB o = true) (h2 : namedP name = false) (hsz : name.size ≤ maxLen) :
    Calls Tryd.prog 133 #[.pointer (some ⟨b, 0, none⟩), .pointer (some ⟨po, 0, none⟩), .pointer (some ⟨pn, 0, none⟩)] w fun e w' => e = refused 9 ∧ Only (fun _ => False) w w' := by
  have c1 : w.cell? ⟨po, 0, none⟩ = some (.int .i64 o) := cell_at hp 0
  have c2 : w.cell? ⟨pn, 0, none⟩ = some (.string name) := cell_at hn 0
  have H1 := Lib.hid h1
  have H2 := Lib.hid h2
  have HM := Lib.hid hm
  clear hp h1 h2 hn hm
  go_enter Tryd.func133, Tryd.ntmps133
  go_wp2_with fail
  refine (node_any _ _).mono ?_
  rintro e w1 ⟨rfl, rfl⟩
  rw [H1.out]
  go_wp2_with fail
  refine (named_any _ name m HM.out hsz).mono ?_
  rintro e w2 ⟨rfl, ho2⟩
  rw [H2.out]
  go_wp2_with fail
  refine (refuse_any _ 9 (by decide)).mono ?_
  rintro e w' ⟨rfl, rfl⟩
  unfold refused
  go_wp2_with fail
  exact ⟨rfl, rfl, ho2⟩

/-- What Key returns. -/
def keyE (o : Int) (name : ByteArray) : Int := if nodeB o = false then 1 else if namedP name = false then 9 else 0
def keyS (o : Int) (name : ByteArray) : ByteArray := if nodeB o && namedP name then keyB o name else ⟨#[]⟩
theorem two_blocks (w : World) (o1 o2 : Obj) {w1 : World} (ho : Only (fun _ => False) ((w.alloc o1).alloc o2) w1) : w1.heap[w.heap.size]? = some o1 ∧ w1.heap[w.heap.size + 1]? = some o2 := by
  constructor
  · refine ho.old ?_ id
    rw [heap_alloc_old _ _ (by simp)]
    exact heap_alloc_new w o1
  · refine ho.old ?_ id
    have := heap_alloc_new (w.alloc o1) o2
    rwa [World.size_alloc] at this
set_option maxRecDepth 100000 in
theorem key_any (w : World) (o : Int) (name : ByteArray) (m : Int) (hm : w.cell? ⟨0, 0, none⟩ = some (.int .i64 m)) (hsz : name.size ≤ maxLen) :
    Calls Tryd.prog 120 #[.int .i64 o, .string name] w fun e w' => e = .returned (.tuple #[.string (keyS o name), .int .i64 (keyE o name)]) ∧ Only (fun _ => False) w w' := by
  have hmf : ∀ (fn : Fn) (first cap : Array Value) (w : World), (Instr.makeFunc fn first cap).run Tryd.prog w = .ok (.func fn first cap) w := fun _ _ _ _ => rfl
  have hen : ∀ args w, (callFunc 133 args).run Tryd.prog w = .ok (.enter 133 args) w := fun _ _ => by go_simp
  have HM := Lib.hid hm
  have HEN := Lib.hid hen
  clear hm hen
  cases h1 : nodeB o with
  | false =>
    have hE : keyE o name = 1 := by unfold keyE; rw [if_pos h1]
    have hS : keyS o name = ⟨#[]⟩ := by unfold keyS; rw [h1]; rfl
    rw [hE, hS]
    have H1 := Lib.hid h1
    clear h1 hE hS
    go_enter Tryd.func120, Tryd.ntmps120
    go_wp2_with fail
    refine (write_no _ 133 _ 1 (by decide) HEN.out (fun w1 b S ho hw hS hs => ?_)).mono ?_
    · obtain ⟨z1, z2⟩ := two_blocks _ _ _ ho
      refine (key1_arg w1 b w.heap.size (w.heap.size + 1) o z1 H1.out).mono ?_
      rintro e w' ⟨rfl, h⟩
      exact ⟨rfl, h.weaken (fun _ _ h => h.elim)⟩
    rintro e w' ⟨rfl, ho⟩
    go_wp2_with fail
    go_ret2
    exact ⟨rfl, ((((Only.refl _ _).alloc _).alloc _)).trans ho⟩
  | true =>
    cases h2 : namedP name with
    | false =>
      have hE : keyE o name = 9 := by unfold keyE; rw [if_neg (by simp [h1]), if_pos h2]
      have hS : keyS o name = ⟨#[]⟩ := by unfold keyS; rw [h1, h2]; rfl
      rw [hE, hS]
      have H1 := Lib.hid h1
      have H2 := Lib.hid h2
      clear h1 h2 hE hS
      go_enter Tryd.func120, Tryd.ntmps120
      go_wp2_with fail
      refine (write_no _ 133 _ 9 (by decide) HEN.out (fun w1 b S ho hw hS hs => ?_)).mono ?_
      · obtain ⟨z1, z2⟩ := two_blocks _ _ _ ho
        refine (key1_name w1 b w.heap.size (w.heap.size + 1) o name m z1 z2 (((((Only.refl _ _).alloc _).alloc _)).trans ho |>.cell HM.out id) H1.out H2.out hsz).mono ?_
        rintro e w' ⟨rfl, h⟩
        exact ⟨rfl, h.weaken (fun _ _ h => h.elim)⟩
      rintro e w' ⟨rfl, ho⟩
      go_wp2_with fail
      go_ret2
      exact ⟨rfl, ((((Only.refl _ _).alloc _).alloc _)).trans ho⟩
    | true =>
      obtain ⟨n, rfl⟩ : ∃ n : Nat, o = (n : Int) := ⟨o.toNat, by unfold nodeB at h1; simp at h1; omega⟩
      have hE : keyE n name = 0 := by unfold keyE; rw [if_neg (by simp [h1]), if_neg (by simp [h2])]
      have hS : keyS n name = keyB n name := by unfold keyS; rw [h1, h2]; rfl
      have h62 : name.size ≤ 62 := by unfold namedP at h2; simp at h2; omega
      have hn16 : n < 65536 := by unfold nodeB at h1; simp at h1; omega
      rw [hE, hS, ← keyB_be n name hn16]
      have H1 := Lib.hid h1
      have H2 := Lib.hid h2
      clear h1 h2 hE hS
      go_enter Tryd.func120, Tryd.ntmps120
      go_wp2_with fail
      refine (write_ok _ 133 _ (beL n 2 ++ name.data.toList) HEN.out (by simp [beL]) (fun w1 b S ho hw hS hs => ?_)).mono ?_
      · obtain ⟨z1, z2⟩ := two_blocks _ _ _ ho
        exact key1_ok w1 b _ S w.heap.size (w.heap.size + 1) n name m hw z1 z2 (((((Only.refl _ _).alloc _).alloc _)).trans ho |>.cell HM.out id) H1.out H2.out h62 hs
      rintro e w' ⟨rfl, ho⟩
      go_wp2_with fail
      go_ret2
      exact ⟨rfl, ((((Only.refl _ _).alloc _).alloc _)).trans ho⟩
end Go.Proofs.YtianboachknfmaaDoor
