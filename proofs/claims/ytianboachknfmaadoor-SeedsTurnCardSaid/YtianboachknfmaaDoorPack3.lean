/- pack: Writer.Num, Writer.Raw, Write. -/
import Derived.Test.YtianboachknfmaaDoorPack2
import Derived.Deep.RegionLaw
import Derived.Deep.AppendLies
namespace Go.Proofs.YtianboachknfmaaDoor
open Go.Conc Go.RowKit

/-- A number's bytes, the greatest first. -/
def beL (n : Nat) : Nat → List UInt8
  | 0 => []
  | k + 1 => UInt8.ofNat (n / 256 ^ k) :: beL n k

theorem pow_256 (k : Nat) : (2 : Nat) ^ (8 * k) = 256 ^ k := by rw [Nat.pow_mul]
theorem shr_zero (n size : Nat) (h : n < 256 ^ size) : (n : Int) / 2 ^ (8 * size) = 0 := by
  have h1 : n / 2 ^ (8 * size) = 0 := Nat.div_eq_of_lt (by rw [pow_256]; exact h)
  rw [show (2 : Int) ^ (8 * size) = ((2 ^ (8 * size) : Nat) : Int) by rw [Int.natCast_pow]; rfl, ← Int.natCast_ediv, h1]
  rfl
theorem byte_at (n k : Nat) : (n : Int) / 2 ^ (8 * k) % 256 = ((UInt8.ofNat (n / 256 ^ k)).toNat : Int) := by
  rw [UInt8.toNat_ofNat']
  rw [show (2 : Int) ^ (8 * k) = ((2 ^ (8 * k) : Nat) : Int) by rw [Int.natCast_pow]; rfl, ← Int.natCast_ediv, pow_256]
  exact (Int.natCast_emod _ 256).symm
theorem WrAt.drew {w : World} {b base : Nat} {S : Nat → Prop} {l : List UInt8} (h : WrAt w b base S l) : WrAt w.drew b base S l := h.kept (T := fun _ => False) ((Only.refl _ _).drew) (fun _ _ => id)
theorem WPost.drew {a w : World} {b base : Nat} {S : Nat → Prop} {l : List UInt8} (h : WPost a w b base S l) : WPost a w.drew b base S l := by
  obtain ⟨S', h1, h2, h3⟩ := h
  exact ⟨S', h1.drew, h2.drew, h3⟩
theorem WPost.size {a w : World} {b base : Nat} {S : Nat → Prop} {l : List UInt8} (h : WPost a w b base S l) : a.heap.size ≤ w.heap.size := h.elim fun _ k => k.1.size

set_option maxRecDepth 100000 in
set_option maxHeartbeats 1000000 in
theorem num_ok (w : World) (b base : Nat) (S : Nat → Prop) (l : List UInt8) (n size : Nat) (h : WrAt w b base S l) (hs1 : 1 ≤ size) (hs2 : size ≤ 7) (hn : n < 256 ^ size) (hl : l.length ≤ 10000) (hbase : base ≤ w.heap.size) :
    Calls Tryd.prog 106 #[.pointer (some ⟨b, 0, none⟩), .int .u64 n, .int .i64 size] w fun e w' => e = .returned (.tuple #[]) ∧ WPost w w' b base S (l ++ beL n size) := by
  have HW := Lib.hid h
  have e0 : ((n : Int) / 2 ^ (8 * size) != 0) = false := by rw [shr_zero n size hn]; rfl
  have s1 : (1 : Int) ≤ size := by omega
  have s2 : (size : Int) ≤ 8 := by omega
  have s3 : (size : Int) < 8 := by omega
  clear h hn
  go_enter Tryd.func106, Tryd.ntmps106
  go_wp2_with fail
  go_loopg [6] size (fun g v6 wx => ∃ (j : Nat) (done : List UInt8), v6 = .int .i64 ((j : Int) - 1) ∧ j ≤ size ∧ done.length + j = size ∧ WPost w wx b base S (l ++ done) ∧ done ++ beL n j = beL n size ∧ g = j)
  case atStart => exact ⟨size, [], rfl, Nat.le_refl _, by simp, by rw [List.append_nil]; exact WPost.refl HW.out, rfl, rfl⟩
  case round =>
    obtain ⟨j, done, rfl, hj, hd, hp, hb, hg⟩ := hrel
    have HP := Lib.hid hp
    have HB := Lib.hid hb
    have Hg := Lib.hid hg
    clear hp hb hg e0
    cases j with
    | zero =>
      have q1 : ((0 : Nat) : Int) - 1 = -1 := rfl
      rw [q1]
      go_wp2_with fail
      go_end0
      exact ⟨rfl, by have := HB.out; rw [← this, show beL n 0 = [] from rfl, List.append_nil]; exact HP.out⟩
    | succ k =>
      have q1 : ((k + 1 : Nat) : Int) - 1 = (k : Int) := by omega
      rw [q1]
      have hk0 : (0 : Int) ≤ (k : Int) := by omega
      have hk1 : (k : Int) ≤ 8 := by omega
      obtain ⟨S', ho', hw', hs'⟩ := id HP.out
      have hsz := ho'.size
      have HW' := Lib.hid hw'
      have HO' := Lib.hid ho'
      have HS' := Lib.hid hs'
      clear ho' hw' hs'
      go_wp2_with fail
      have w1 : IntKind.i64.wrap (8 * (k : Int)) = 8 * (k : Int) := IntWalk.i64_in _ (by omega)
      have w2 : (0 : Int) ≤ 8 * (k : Int) := by omega
      have w3 : (8 * (k : Int)).toNat = 8 * k := by omega
      have w4 : ¬ (8 * (k : Int) < 0) := by omega
      go_region_law (first
        | (go_simp
           refine (wb_any _ b base S' (l ++ done) _ (UInt8.ofNat (n / 256 ^ k)) HW'.out.drew (byte_at n k) (by rw [List.length_append]; omega) (by simp; omega)).mono ?_
           rintro e w2 ⟨rfl, hp2⟩))
      all_goals (
        go_wp2_with fail
        go_roundg k
        case measure => rw [Hg.out]; omega
        case rel =>
          refine ⟨k, done ++ [UInt8.ofNat (n / 256 ^ k)], rfl, by omega, by simp; omega, ?_, by rw [← HB.out, List.append_assoc]; rfl, rfl⟩
          rw [← List.append_assoc]
          obtain ⟨S2, k1, k2, k3⟩ := hp2
          refine ⟨S2, (HO'.out.drew).tr k1 (fun i hi x => (HS'.out i x).elim id (fun y => absurd hi (by omega))), k2, fun x hx => ?_⟩
          rcases k3 x hx with y | y
          · exact HS'.out x y
          · exact .inr (Nat.le_trans hsz y))

theorem raw_ok (w : World) (b base : Nat) (S : Nat → Prop) (l : List UInt8) (s : ByteArray) (h : WrAt w b base S l) (hl : l.length ≤ 100000) (hs : s.size ≤ 100000) (hbase : base ≤ w.heap.size) :
    Calls Tryd.prog 105 #[.pointer (some ⟨b, 0, none⟩), .string s] w fun e w' => e = .returned (.tuple #[]) ∧ WPost w w' b base S (l ++ s.data.toList) := by
  go_enter Tryd.func105, Tryd.ntmps105
  go_wp2_with fail
  refine (ws_any _ b base S l s h hl hs hbase).mono ?_
  rintro e w1 ⟨rfl, hp⟩
  go_wp2_with fail
  go_end0
  exact ⟨rfl, hp⟩

theorem w1_any (w : World) (fb pb b k : Nat) (cap : Array Value) (R : Ending → World → Prop) (he : ∀ args w, (callFunc k args).run Tryd.prog w = .ok (.enter k args) w)
    (hf : w.heap[fb]? = some (.cells #[.func (.func k) #[] cap] 193 (0, 0))) (hp : w.heap[pb]? = some (.cells #[.pointer (some ⟨b, 0, none⟩)] 189 (0, 0)))
    (h : Calls Tryd.prog k (#[.pointer (some ⟨b, 0, none⟩)] ++ cap) w R) (hR : ∀ e w', R e w' → e = .returned (.tuple #[]) ∨ ∃ n, e = refused n) :
    Calls Tryd.prog 122 #[.pointer (some ⟨fb, 0, none⟩), .pointer (some ⟨pb, 0, none⟩)] w R := by
  have c1 : w.cell? ⟨fb, 0, none⟩ = some (.func (.func k) #[] cap) := cell_at hf 0
  have c2 : w.cell? ⟨pb, 0, none⟩ = some (.pointer (some ⟨b, 0, none⟩)) := cell_at hp 0
  go_enter Tryd.func122, Tryd.ntmps122
  go_wp2_with fail
  refine h.mono ?_
  intro e w' hr
  rcases hR e w' hr with rfl | ⟨n, rfl⟩
  · have HR := Lib.hid hr
    clear hr
    go_wp2_with fail
    go_end0
    exact HR.out
  · have HR := Lib.hid hr
    clear hr
    unfold refused at HR ⊢
    go_wp2_with fail
    exact ⟨rfl, HR.out⟩

/-- The blocks of a Write, ahead of its call. -/
theorem write_blocks (w : World) (o1 o2 o3 : Obj) (W W1 : World) (hW : W = ((w.alloc o1).alloc o2).alloc o3) (o4 : Obj) (hW1 : W1 = W.alloc o4) :
    W.heap.size = w.heap.size + 1 + 1 + 1 ∧ W1.heap[w.heap.size]? = some o1 ∧ W1.heap[w.heap.size + 1]? = some o2 ∧ W1.heap[w.heap.size + 1 + 1]? = some o3 ∧ W1.heap[W.heap.size]? = some o4 ∧ Only (fun _ => False) w W1 := by
  subst hW hW1
  refine ⟨by simp, ?_, ?_, ?_, heap_alloc_new _ _, (((((Only.refl _ _).alloc _).alloc _).alloc _).alloc _)⟩
  · rw [heap_alloc_old _ _ (by simp <;> omega), heap_alloc_old _ _ (by simp <;> omega), heap_alloc_old _ _ (by simp)]
    exact heap_alloc_new w o1
  · rw [heap_alloc_old _ _ (by simp <;> omega), heap_alloc_old _ _ (by simp)]
    have := heap_alloc_new (w.alloc o1) o2
    rwa [World.size_alloc] at this
  · rw [heap_alloc_old _ _ (by simp)]
    have := heap_alloc_new ((w.alloc o1).alloc o2) o3
    rwa [World.size_alloc, World.size_alloc] at this
set_option maxRecDepth 100000 in
set_option maxHeartbeats 1000000 in
/-- Write: what a call writes. -/
theorem write_ok (w : World) (k : Nat) (cap : Array Value) (l : List UInt8) (he : ∀ args w, (callFunc k args).run Tryd.prog w = .ok (.enter k args) w) (hl : l ≠ [])
    (h : ∀ (w1 : World) (b : Nat) (S : Nat → Prop), Only (fun _ => False) w w1 → WrAt w1 b w.heap.size S [] → (∀ x, S x → w.heap.size ≤ x) → w.heap.size ≤ w1.heap.size → Calls Tryd.prog k (#[.pointer (some ⟨b, 0, none⟩)] ++ cap) w1 fun e w' => e = .returned (.tuple #[]) ∧ WPost w1 w' b w.heap.size S l) :
    Calls Tryd.prog 103 #[.func (.func k) #[] cap] w fun e w' => e = .returned (.tuple #[.string ⟨l.toArray⟩, .int .i64 0]) ∧ Only (fun _ => False) w w' := by
  have hmf : ∀ (fn : Fn) (first cap : Array Value) (w : World), (Instr.makeFunc fn first cap).run Tryd.prog w = .ok (.func fn first cap) w := fun _ _ _ _ => rfl
  have H := Lib.hid h
  have HE := Lib.hid he
  clear h he
  go_enter Tryd.func103, Tryd.ntmps103
  go_wp2_with fail
  obtain ⟨W, hW⟩ : ∃ W, W = (((w.alloc (.cells #[.func (.func k) #[] cap] 193)).alloc (.cells #[.pointer none, .slice none 0 0] 208)).alloc (.cells #[.pointer (some ⟨w.heap.size + 1, 0, none⟩)] 189)) := ⟨_, rfl⟩
  rw [← hW]
  obtain ⟨W1, hW1⟩ : ∃ W1, W1 = W.alloc (.cells #[.int .i64 0] 25) := ⟨_, rfl⟩
  obtain ⟨z0, z1, z2, z3, z4, z5⟩ := write_blocks w _ _ _ W W1 hW _ hW1
  have hWr : WrAt W1 (w.heap.size + 1) w.heap.size (fun x => x = w.heap.size + 1) [] := ⟨_, _, z2, .inl rfl, World.ownsRow_nil _ _ _ _, fun x => by simp [Value.ownBlock]⟩
  have hcall := H.out W1 (w.heap.size + 1) _ z5 hWr (fun x e => by omega) z5.size
  have hw1 := w1_any W1 w.heap.size (w.heap.size + 1 + 1) (w.heap.size + 1) k cap _ HE.out z1 z3 hcall (fun e w' h => .inl h.1)
  rw [hW1] at hw1
  refine (run_ok W 122 _ _ (fun _ _ => by go_simp) hw1 (fun w' h => ?_)).mono ?_
  · obtain ⟨S', h1, _⟩ := h
    rw [← hW1] at h1
    exact h1.old z4 (by omega)
  rintro e wz ⟨rfl, w2, ⟨S', h1, h2, h3⟩, h4⟩
  rw [← hW1] at h1 h3
  have hz1 : W1.heap.size = W.heap.size + 1 := by rw [hW1]; simp
  have hz3 : wz.heap[w.heap.size + 1 + 1]? = _ := h4.old (h1.old z3 (by omega)) (by omega)
  have hwz := h2.kept h4 (fun x hx e => by rcases h3 x hx with y | y <;> omega)
  have hc : wz.cell? ⟨w.heap.size + 1 + 1, 0, none⟩ = some (.pointer (some ⟨w.heap.size + 1, 0, none⟩)) := cell_at hz3 0
  have ho : Only (fun _ => False) w wz := (z5.tr h1 (fun i hi e => by omega)).tr h4 (fun i hi e => by omega)
  have hS' : ∀ x, S' x → w.heap.size ≤ x := fun x hx => by rcases h3 x hx with y | y <;> omega
  have HWZ := Lib.hid hwz
  have HO := Lib.hid ho
  have HS := Lib.hid hS'
  clear z0 z1 z2 z3 z4 z5 hWr hcall hw1 h1 h2 h3 h4 hz1 hz3 hwz ho hS' hW hW1
  go_wp2_with fail
  refine (bs_any _ _ _ S' l HWZ.out hl).mono ?_
  rintro e w3 ⟨rfl, ho3⟩
  go_wp2_with fail
  go_ret2
  exact ⟨rfl, HO.out.tr ho3 (fun i hi e => by have := HS.out i e; omega)⟩
set_option maxRecDepth 100000 in
set_option maxHeartbeats 1000000 in
/-- Write: what a call is refused with. -/
theorem write_no (w : World) (k : Nat) (cap : Array Value) (n : Int) (hn : n ≠ 0) (he : ∀ args w, (callFunc k args).run Tryd.prog w = .ok (.enter k args) w)
    (h : ∀ (w1 : World) (b : Nat) (S : Nat → Prop), Only (fun _ => False) w w1 → WrAt w1 b w.heap.size S [] → (∀ x, S x → w.heap.size ≤ x) → w.heap.size ≤ w1.heap.size → Calls Tryd.prog k (#[.pointer (some ⟨b, 0, none⟩)] ++ cap) w1 fun e w' => e = refused n ∧ Only S w1 w') :
    Calls Tryd.prog 103 #[.func (.func k) #[] cap] w fun e w' => e = .returned (.tuple #[.string ⟨#[]⟩, .int .i64 n]) ∧ Only (fun _ => False) w w' := by
  have hmf : ∀ (fn : Fn) (first cap : Array Value) (w : World), (Instr.makeFunc fn first cap).run Tryd.prog w = .ok (.func fn first cap) w := fun _ _ _ _ => rfl
  have hn0 : (n != 0) = true := by simp; exact hn
  have H := Lib.hid h
  have HE := Lib.hid he
  clear h he
  go_enter Tryd.func103, Tryd.ntmps103
  go_wp2_with fail
  obtain ⟨W, hW⟩ : ∃ W, W = (((w.alloc (.cells #[.func (.func k) #[] cap] 193)).alloc (.cells #[.pointer none, .slice none 0 0] 208)).alloc (.cells #[.pointer (some ⟨w.heap.size + 1, 0, none⟩)] 189)) := ⟨_, rfl⟩
  rw [← hW]
  obtain ⟨W1, hW1⟩ : ∃ W1, W1 = W.alloc (.cells #[.int .i64 0] 25) := ⟨_, rfl⟩
  obtain ⟨z0, z1, z2, z3, z4, z5⟩ := write_blocks w _ _ _ W W1 hW _ hW1
  have hWr : WrAt W1 (w.heap.size + 1) w.heap.size (fun x => x = w.heap.size + 1) [] := ⟨_, _, z2, .inl rfl, World.ownsRow_nil _ _ _ _, fun x => by simp [Value.ownBlock]⟩
  have hcall := H.out W1 (w.heap.size + 1) _ z5 hWr (fun x e => by omega) z5.size
  have hw1 := w1_any W1 w.heap.size (w.heap.size + 1 + 1) (w.heap.size + 1) k cap _ HE.out z1 z3 hcall (fun e w' h => .inr ⟨n, h.1⟩)
  rw [hW1] at hw1
  refine (run_no W 122 _ n _ (fun _ _ => by go_simp) hw1 (fun w' h => ?_)).mono ?_
  · rw [← hW1] at h
    exact h.old z4 (by omega)
  rintro e wz ⟨rfl, w2, h1, h4⟩
  rw [← hW1] at h1
  have ho : Only (fun _ => False) w wz := (z5.tr h1 (fun i hi e => by omega)).tr h4 (fun i hi e => by omega)
  clear z0 z1 z2 z3 z4 z5 hWr hcall hw1 h1 h4 hW hW1
  go_wp2_with fail
  go_ret2
  exact ⟨rfl, ho⟩
end Go.Proofs.YtianboachknfmaaDoor
