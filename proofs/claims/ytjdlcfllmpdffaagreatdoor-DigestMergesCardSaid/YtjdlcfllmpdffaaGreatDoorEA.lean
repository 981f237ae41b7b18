/- message: Encode: of a message that may be sent and that is not too long. -/
import Derived.Test.YtjdlcfllmpdffaaGreatDoorMG
import Derived.Test.YtjdlcfllmpdffaaGreatDoorMB
import Derived.Test.YtjdlcfllmpdffaaGreatDoorMA
/-! A message's bytes, plainly. -/
namespace Go.Proofs.YtjdlcfllmpdffaaGreatDoor
open Go.Conc Go.RowKit

theorem beL_len (n : Nat) : ∀ k, (beL n k).length = k
  | 0 => rfl
  | k + 1 => by unfold beL; rw [List.length_cons, beL_len n k]
def flagL (b : Bool) : List UInt8 := beL (if b then 1 else 0) 1
def textL (s : ByteArray) : List UInt8 := beL s.size 1 ++ s.data.toList
def idL (p : ByteArray × Nat) : List UInt8 := textL p.1 ++ beL p.2 8
def recL (x : RecT) : List UInt8 := idL (x.key, x.ver) ++ beL x.o.toNat 2 ++ beL x.age.toNat 2 ++ flagL x.gone ++ textL x.data
def nodeL (n : Int) : List UInt8 := beL n.toNat 2
def encL (m : MsgT) : List UInt8 :=
  beL m.kind.toNat 1 ++ beL m.node.toNat 2 ++ beL m.walk.toNat 1 ++ flagL m.high ++ beL m.nodes.length 1 ++ m.nodes.flatMap nodeL ++ beL m.ids.length 1 ++ m.ids.flatMap idL ++ beL m.recs.length 1 ++ m.recs.flatMap recL
def rightR (x : RecT) : Bool := decide (x.key.size ≤ 64) && (decide (x.data.size ≤ 64) && (decide (1 ≤ x.o ∧ x.o ≤ 65535) && decide (0 ≤ x.age ∧ x.age ≤ 65535)))
structure MayM (m : MsgT) : Prop where
  kind : 1 ≤ m.kind ∧ m.kind ≤ 14
  node : 0 ≤ m.node ∧ m.node ≤ 65535
  walk : 0 ≤ m.walk ∧ m.walk ≤ 15
  nodesL : m.nodes.length ≤ 64
  idsL : m.ids.length ≤ 64
  recsL : m.recs.length ≤ 16
  nodes : ∀ n ∈ m.nodes, 1 ≤ n ∧ n ≤ 65535
  ids : ∀ p ∈ m.ids, p.1.size ≤ 64
  recs : ∀ x ∈ m.recs, rightR x = true
theorem textL_len (s : ByteArray) : (textL s).length = 1 + s.size := by
  unfold textL
  rw [List.length_append, beL_len]
  rfl
theorem idL_len (p : ByteArray × Nat) : (idL p).length = 9 + p.1.size := by
  unfold idL
  rw [List.length_append, textL_len, beL_len]
  omega
theorem recL_len (x : RecT) : (recL x).length = 15 + x.key.size + x.data.size := by
  unfold recL flagL
  simp only [List.length_append, idL_len, textL_len, beL_len]
  omega
theorem flat_len {α : Type} (f : α → List UInt8) (n : Nat) : ∀ (L : List α), (∀ x ∈ L, (f x).length ≤ n) → (L.flatMap f).length ≤ n * L.length
  | [], _ => by simp
  | x :: L, h => by
    rw [List.flatMap_cons, List.length_append, List.length_cons, Nat.mul_succ]
    have h1 := h x (by simp)
    have h2 := flat_len f n L (fun y hy => h y (by simp [hy]))
    omega
/-- Nodes' list empty: how long at most. -/
theorem encL_len (m : MsgT) (hn : m.nodes = []) (k d : Nat) (hi : ∀ p ∈ m.ids, p.1.size ≤ k) (hr : ∀ x ∈ m.recs, x.key.size ≤ k ∧ x.data.size ≤ d) : (encL m).length ≤ 8 + (9 + k) * m.ids.length + (15 + k + d) * m.recs.length := by
  have h1 := flat_len idL (9 + k) m.ids (fun p hp => by have := hi p hp; rw [idL_len]; omega)
  have h2 := flat_len recL (15 + k + d) m.recs (fun x hx => by have := hr x hx; rw [recL_len]; omega)
  unfold encL flagL
  rw [hn]
  simp only [List.length_append, beL_len, List.flatMap_nil, List.length_nil]
  omega
/-- What a store holds may be sent. -/
theorem good_right {x : RecT} (h : goodR x = true) : rightR x = true ∧ x.key.size ≤ 64 ∧ x.data.size ≤ 10 := by
  unfold goodR goodP at h
  simp only [Bool.and_eq_true, decide_eq_true_eq] at h
  obtain ⟨⟨⟨⟨⟨h1, h2⟩, h3⟩, h4⟩, h5⟩, h6⟩ := h
  have h1 : splitE x.key = 0 := by simpa using h1
  have h2 : splitN x.key = x.o := by simpa using h2
  have hok : splitOk x.key = true := by
    unfold splitE at h1
    cases hs : splitOk x.key with
    | true => rfl
    | false => rw [hs] at h1; cases h1
  have h7 : x.key.size ≤ 64 := by
    unfold splitOk namedP at hok
    simp only [Bool.and_eq_true, decide_eq_true_eq] at hok
    have h8 := hok.2.2.1.2
    have h9 := hok.1
    rw [ByteArray.size_extract] at h8
    omega
  have h8 : 1 ≤ x.o ∧ x.o ≤ 65535 := by
    rw [← h2]
    unfold splitN
    rw [hok, if_pos rfl]
    unfold splitOk at hok
    simp only [Bool.and_eq_true, decide_eq_true_eq] at hok
    have := hok.2.1
    unfold nodeB at this
    simpa using this
  have h9 : x.data.size ≤ 10 := by rw [h6]; split <;> omega
  unfold rightR
  refine ⟨?_, h7, h9⟩
  simp only [Bool.and_eq_true, decide_eq_true_eq]
  exact ⟨h7, by omega, h8, h4, h5⟩
end Go.Proofs.YtjdlcfllmpdffaaGreatDoor
/-! slices.IndexFunc, ContainsFunc of ints, ids, records of which none fits. -/
namespace Go.Proofs.YtjdlcfllmpdffaaGreatDoor
open Go.Conc Go.RowKit Go.Maps

/-- A function value that says false of each element of L. -/
def NonePred {α : Type} (k : Nat) (val : α → Value) (L : List α) (w : World) : Prop :=
  ∀ x ∈ L, ∀ W, Only (fun _ => False) w W → Calls Tryz.prog k #[val x] W fun e w' => e = .returned (.bool false) ∧ Only (fun _ => False) W w'
def intV (n : Int) : Value := .int .i64 n
def idV (p : ByteArray × Nat) : Value := .agg #[.string p.1, .int .u64 p.2]
set_option maxRecDepth 100000 in
theorem idxI_none (w : World) (v : Value) (L : List Int) (k : Nat) (h : Sl w 1 v L.length (L.flatMap intC)) (he : ∀ args w, (callFunc k args).run Tryz.prog w = .ok (.enter k args) w) (hp : NonePred k intV L w) :
    Calls Tryz.prog 58 #[v, .func (.func k) #[] #[]] w fun e w' => e = .returned (.int .i64 (-1)) ∧ Only (fun _ => False) w w' := by
  obtain ⟨a, cap, rfl, h1, h2, h3⟩ := Sl.cells intC_length h
  unfold maxLen at h2
  have HC := Lib.hid h3
  have HP := Lib.hid hp
  clear h3 hp
  clear h
  go_enter Tryz.func58, Tryz.ntmps58
  go_wp2_with fail
  go_loopg [8] L.length (fun g v8 wr => ∃ j : Nat, v8 = .int .i64 j ∧ j ≤ L.length ∧ Only (fun _ => False) w wr ∧ g = L.length - j)
  case atStart => exact ⟨0, rfl, Nat.zero_le _, Only.refl _ _, rfl⟩
  case round =>
    obtain ⟨j, rfl, hj, ho, hg⟩ := hrel
    have Hg := Lib.hid hg
    have HO := Lib.hid ho
    clear hg ho
    by_cases hlt : j < L.length
    · obtain ⟨b, off, ha, hc⟩ := HC.out.at j hlt
      subst ha
      have hcall := HP.out L[j] (List.getElem_mem hlt) wr HO.out
      unfold intV at hcall
      have y0 := HO.out.cell (hc 0 _ rfl) id
      simp only [Nat.add_zero, Nat.mul_one] at y0
      generalize L[j] = z at *
      have HCALL := Lib.hid hcall
      clear hcall hc
      have hlt' : (j : Int) < (L.length : Int) := by omega
      go_wp2_with fail
      refine HCALL.out.mono ?_
      rintro e w2 ⟨rfl, ho2⟩
      have ho3 := HO.out.trans ho2
      have HO3 := Lib.hid ho3
      clear ho3
      clear ho2
      go_wp2_with fail
      go_roundg (L.length - (j + 1))
      case measure => rw [Hg.out]; omega
      case rel => exact ⟨j + 1, by go_num, by omega, HO3.out, rfl⟩
    · have hlt' : ¬ (j : Int) < (L.length : Int) := by omega
      go_wp2_with fail
      go_ret
      exact ⟨rfl, HO.out⟩
set_option maxRecDepth 100000 in
theorem idxD_none (w : World) (v : Value) (L : List (ByteArray × Nat)) (k : Nat) (h : Sl w 2 v L.length (L.flatMap idT)) (he : ∀ args w, (callFunc k args).run Tryz.prog w = .ok (.enter k args) w) (hp : NonePred k idV L w) :
    Calls Tryz.prog 59 #[v, .func (.func k) #[] #[]] w fun e w' => e = .returned (.int .i64 (-1)) ∧ Only (fun _ => False) w w' := by
  obtain ⟨a, cap, rfl, h1, h2, h3⟩ := Sl.cells idT_length h
  unfold maxLen at h2
  have HC := Lib.hid h3
  have HP := Lib.hid hp
  clear h3 hp
  clear h
  go_enter Tryz.func59, Tryz.ntmps59
  go_wp2_with fail
  go_loopg [8] L.length (fun g v8 wr => ∃ j : Nat, v8 = .int .i64 j ∧ j ≤ L.length ∧ Only (fun _ => False) w wr ∧ g = L.length - j)
  case atStart => exact ⟨0, rfl, Nat.zero_le _, Only.refl _ _, rfl⟩
  case round =>
    obtain ⟨j, rfl, hj, ho, hg⟩ := hrel
    have Hg := Lib.hid hg
    have HO := Lib.hid ho
    clear hg ho
    by_cases hlt : j < L.length
    · obtain ⟨b, off, ha, hc⟩ := HC.out.at j hlt
      subst ha
      have hcall := HP.out L[j] (List.getElem_mem hlt) wr HO.out
      unfold idV at hcall
      have y0 := HO.out.cell (hc 0 _ rfl) id
      have y1 := HO.out.cell (hc 1 _ rfl) id
      simp only [Nat.add_zero] at y0
      generalize L[j].1 = zk at *
      generalize L[j].2 = zv at *
      have HCALL := Lib.hid hcall
      clear hcall hc
      have hlt' : (j : Int) < (L.length : Int) := by omega
      go_wp2_with fail
      refine HCALL.out.mono ?_
      rintro e w2 ⟨rfl, ho2⟩
      have ho3 := HO.out.trans ho2
      have HO3 := Lib.hid ho3
      clear ho3
      clear ho2
      go_wp2_with fail
      go_roundg (L.length - (j + 1))
      case measure => rw [Hg.out]; omega
      case rel => exact ⟨j + 1, by go_num, by omega, HO3.out, rfl⟩
    · have hlt' : ¬ (j : Int) < (L.length : Int) := by omega
      go_wp2_with fail
      go_ret
      exact ⟨rfl, HO.out⟩
set_option maxRecDepth 100000 in
theorem idxR_none (w : World) (v : Value) (L : List RecT) (k : Nat) (h : RSl w v L) (he : ∀ args w, (callFunc k args).run Tryz.prog w = .ok (.enter k args) w) (hp : NonePred k recT L w) :
    Calls Tryz.prog 34 #[v, .func (.func k) #[] #[]] w fun e w' => e = .returned (.int .i64 (-1)) ∧ Only (fun _ => False) w w' := by
  obtain ⟨a, cap, rfl, h1, h2, h3⟩ := Sl.cells recC_length h
  unfold maxLen at h2
  have HC := Lib.hid h3
  have HP := Lib.hid hp
  clear h3 hp
  clear h
  go_enter Tryz.func34, Tryz.ntmps34
  go_wp2_with fail
  go_loopg [8] L.length (fun g v8 wr => ∃ j : Nat, v8 = .int .i64 j ∧ j ≤ L.length ∧ Only (fun _ => False) w wr ∧ g = L.length - j)
  case atStart => exact ⟨0, rfl, Nat.zero_le _, Only.refl _ _, rfl⟩
  case round =>
    obtain ⟨j, rfl, hj, ho, hg⟩ := hrel
    have Hg := Lib.hid hg
    have HO := Lib.hid ho
    clear hg ho
    by_cases hlt : j < L.length
    · obtain ⟨b, off, ha, hc⟩ := HC.out.at j hlt
      subst ha
      have hcall := HP.out L[j] (List.getElem_mem hlt) wr HO.out
      have hcr : ∀ i u, (recC L[j])[i]? = some u → wr.cell? ⟨b, off + j * 6 + i, none⟩ = some u := fun i u hu => HO.out.cell (hc i u hu) id
      unfold recT at hcall
      unfold recC at hcr
      have y0 := hcr 0 _ rfl
      have y1 := hcr 1 _ rfl
      have y2 := hcr 2 _ rfl
      have y3 := hcr 3 _ rfl
      have y4 := hcr 4 _ rfl
      have y5 := hcr 5 _ rfl
      clear hcr
      simp only [Nat.add_zero] at y0
      generalize L[j].key = k1 at *
      generalize L[j].ver = v1 at *
      generalize L[j].o = o1 at *
      generalize L[j].age = a1 at *
      generalize L[j].gone = g1 at *
      generalize L[j].data = d1 at *
      have HCALL := Lib.hid hcall
      clear hcall hc
      have hlt' : (j : Int) < (L.length : Int) := by omega
      go_wp2_with fail
      refine HCALL.out.mono ?_
      rintro e w2 ⟨rfl, ho2⟩
      have ho3 := HO.out.trans ho2
      have HO3 := Lib.hid ho3
      clear ho3
      clear ho2
      go_wp2_with fail
      go_roundg (L.length - (j + 1))
      case measure => rw [Hg.out]; omega
      case rel => exact ⟨j + 1, by go_num, by omega, HO3.out, rfl⟩
    · have hlt' : ¬ (j : Int) < (L.length : Int) := by omega
      go_wp2_with fail
      go_ret
      exact ⟨rfl, HO.out⟩
theorem hasI_none (w : World) (v : Value) (L : List Int) (k : Nat) (h : Sl w 1 v L.length (L.flatMap intC)) (he : ∀ args w, (callFunc k args).run Tryz.prog w = .ok (.enter k args) w) (hp : NonePred k intV L w) :
    Calls Tryz.prog 39 #[v, .func (.func k) #[] #[]] w fun e w' => e = .returned (.bool false) ∧ Only (fun _ => False) w w' := by
  have H := Lib.hid (idxI_none w v L k h he hp)
  obtain ⟨_, a, cap, rfl, _⟩ := h
  clear he hp
  go_enter Tryz.func39, Tryz.ntmps39
  go_wp2_with fail
  refine H.out.mono ?_
  rintro e w2 ⟨rfl, ho2⟩
  have HO2 := Lib.hid ho2
  clear ho2
  go_wp2_with fail
  go_ret
  exact ⟨rfl, HO2.out⟩
theorem hasD_none (w : World) (v : Value) (L : List (ByteArray × Nat)) (k : Nat) (h : Sl w 2 v L.length (L.flatMap idT)) (he : ∀ args w, (callFunc k args).run Tryz.prog w = .ok (.enter k args) w) (hp : NonePred k idV L w) :
    Calls Tryz.prog 41 #[v, .func (.func k) #[] #[]] w fun e w' => e = .returned (.bool false) ∧ Only (fun _ => False) w w' := by
  have H := Lib.hid (idxD_none w v L k h he hp)
  obtain ⟨_, a, cap, rfl, _⟩ := h
  clear he hp
  go_enter Tryz.func41, Tryz.ntmps41
  go_wp2_with fail
  refine H.out.mono ?_
  rintro e w2 ⟨rfl, ho2⟩
  have HO2 := Lib.hid ho2
  clear ho2
  go_wp2_with fail
  go_ret
  exact ⟨rfl, HO2.out⟩
theorem hasR_none (w : World) (v : Value) (L : List RecT) (k : Nat) (h : RSl w v L) (he : ∀ args w, (callFunc k args).run Tryz.prog w = .ok (.enter k args) w) (hp : NonePred k recT L w) :
    Calls Tryz.prog 43 #[v, .func (.func k) #[] #[]] w fun e w' => e = .returned (.bool false) ∧ Only (fun _ => False) w w' := by
  have H := Lib.hid (idxR_none w v L k h he hp)
  obtain ⟨_, a, cap, rfl, _⟩ := h
  clear he hp
  go_enter Tryz.func43, Tryz.ntmps43
  go_wp2_with fail
  refine H.out.mono ?_
  rintro e w2 ⟨rfl, ho2⟩
  have HO2 := Lib.hid ho2
  clear ho2
  go_wp2_with fail
  go_ret
  exact ⟨rfl, HO2.out⟩
end Go.Proofs.YtjdlcfllmpdffaaGreatDoor
/-! message: flag, id. -/
namespace Go.Proofs.YtjdlcfllmpdffaaGreatDoor
open Go.Conc Go.RowKit

theorem WPost.cell {W wr : World} {b base : Nat} {S : Nat → Prop} {l : List UInt8} (hp : WPost W wr b base S l) {p : Addr} {v : Value} (h : W.cell? p = some v) (hn : ¬ S p.block) : wr.cell? p = some v := by
  obtain ⟨S', k1, _, _⟩ := hp
  exact k1.cell h hn
/-- What a writer's call does to one that stands behind W. -/
theorem WPost.call {W wr : World} {b base : Nat} {S : Nat → Prop} {l m : List UInt8} {f : Nat} {args : Array Value} (hp : WPost W wr b base S l) (h : ∀ S', WrAt wr b base S' l → base ≤ wr.heap.size → Calls Tryz.prog f args wr fun e w' => e = .returned (.tuple #[]) ∧ WPost wr w' b base S' m) (hb : base ≤ W.heap.size) :
    Calls Tryz.prog f args wr fun e w' => e = .returned (.tuple #[]) ∧ WPost W w' b base S m := by
  obtain ⟨S', k1, k2, k3⟩ := hp
  exact (h S' k2 (Nat.le_trans hb k1.size)).mono fun e w' h9 => ⟨h9.1, WPost.next k1 k3 h9.2⟩
theorem numW {W wr : World} {b base : Nat} {S : Nat → Prop} {l : List UInt8} (hp : WPost W wr b base S l) (hb : base ≤ W.heap.size) (n size : Nat) (hs1 : 1 ≤ size) (hs2 : size ≤ 7) (hn : n < 256 ^ size) (hl : l.length ≤ 9000) :
    Calls Tryz.prog 49 #[.pointer (some ⟨b, 0, none⟩), .int .u64 n, .int .i64 size] wr fun e w' => e = .returned (.tuple #[]) ∧ WPost W w' b base S (l ++ beL n size) :=
  hp.call (fun S' h hb' => num_ok wr b base S' l n size h hs1 hs2 hn (by omega) hb') hb
theorem num8W {W wr : World} {b base : Nat} {S : Nat → Prop} {l : List UInt8} (hp : WPost W wr b base S l) (hb : base ≤ W.heap.size) (n : Nat) (hl : l.length ≤ 9000) :
    Calls Tryz.prog 49 #[.pointer (some ⟨b, 0, none⟩), .int .u64 n, .int .i64 8] wr fun e w' => e = .returned (.tuple #[]) ∧ WPost W w' b base S (l ++ beL n 8) :=
  hp.call (fun S' h hb' => num8_ok wr b base S' l n 8 h rfl (by omega) hb') hb
theorem textW {W wr : World} {b base : Nat} {S : Nat → Prop} {l : List UInt8} (hp : WPost W wr b base S l) (hb : base ≤ W.heap.size) (s : ByteArray) (hs : s.size ≤ 255) (hl : l.length ≤ 9000) :
    Calls Tryz.prog 52 #[.pointer (some ⟨b, 0, none⟩), .string s] wr fun e w' => e = .returned (.tuple #[]) ∧ WPost W w' b base S (l ++ textL s) := by
  have := hp.call (fun S' h hb' => text_ok wr b base S' l s h hl hs hb') hb
  rw [List.append_assoc] at this
  exact this
theorem flag_any (w : World) (b base : Nat) (S : Nat → Prop) (l : List UInt8) (g : Bool) (h : WrAt w b base S l) (hb : base ≤ w.heap.size) (hl : l.length ≤ 9000) :
    Calls Tryz.prog 50 #[.pointer (some ⟨b, 0, none⟩), .bool g] w fun e w' => e = .returned (.tuple #[]) ∧ WPost w w' b base S (l ++ flagL g) := by
  have h1 := fun n (hn : n < 256) => numW (WPost.refl h) hb n 1 (by omega) (by omega) hn hl
  cases g with
  | true =>
    have H := Lib.hid (h1 1 (by omega))
    clear h1 h hb hl
    go_enter Tryz.func50, Tryz.ntmps50
    go_wp2_with fail
    refine H.out.mono ?_
    rintro e w1 ⟨rfl, hp⟩
    have HP := Lib.hid hp
    clear hp
    go_wp2_with fail
    go_end0
    exact ⟨rfl, HP.out⟩
  | false =>
    have H := Lib.hid (h1 0 (by omega))
    clear h1 h hb hl
    go_enter Tryz.func50, Tryz.ntmps50
    go_wp2_with fail
    refine H.out.mono ?_
    rintro e w1 ⟨rfl, hp⟩
    have HP := Lib.hid hp
    clear hp
    go_wp2_with fail
    go_end0
    exact ⟨rfl, HP.out⟩
theorem flagW {W wr : World} {b base : Nat} {S : Nat → Prop} {l : List UInt8} (hp : WPost W wr b base S l) (hb : base ≤ W.heap.size) (g : Bool) (hl : l.length ≤ 9000) :
    Calls Tryz.prog 50 #[.pointer (some ⟨b, 0, none⟩), .bool g] wr fun e w' => e = .returned (.tuple #[]) ∧ WPost W w' b base S (l ++ flagL g) :=
  hp.call (fun S' h hb' => flag_any wr b base S' l g h hb' hl) hb
theorem id_any (w : World) (b base : Nat) (S : Nat → Prop) (l : List UInt8) (k : ByteArray) (v : Nat) (h : WrAt w b base S l) (hb : base ≤ w.heap.size) (hk : k.size ≤ 255) (hl : l.length ≤ 8000) :
    Calls Tryz.prog 51 #[.pointer (some ⟨b, 0, none⟩), .agg #[.string k, .int .u64 v]] w fun e w' => e = .returned (.tuple #[]) ∧ WPost w w' b base S (l ++ idL (k, v)) := by
  have hlt := h.lt
  obtain ⟨W, hW⟩ : ∃ W, W = w.alloc (.cells #[.string k, .int .u64 v] 46) := ⟨_, rfl⟩
  have hbW : W.heap[w.heap.size]? = some (.cells #[.string k, .int .u64 v] 46 (0, 0)) := by rw [hW]; exact heap_alloc_new w _
  have hoW : Only (fun _ => False) w W := by rw [hW]; exact (Only.refl _ _).alloc _
  have hsW : W.heap.size = w.heap.size + 1 := by rw [hW]; simp
  have hW1 : WrAt W b base S l := h.kept hoW (fun _ _ => id)
  have hnS : ¬ S w.heap.size := fun e => by have := hlt _ e; omega
  have hbW' : base ≤ W.heap.size := by have := hoW.size; omega
  have z0 : W.cell? ⟨w.heap.size, 0, none⟩ = some (.string k) := cell_at hbW 0
  have z1 : W.cell? ⟨w.heap.size, 1, none⟩ = some (.int .u64 v) := cell_at hbW 1
  have H1 := Lib.hid (textW (WPost.refl hW1) hbW' k hk (by omega))
  have H2 := Lib.hid (fun wr (hp : WPost W wr b base S (l ++ textL k)) => num8W hp hbW' v (by rw [List.length_append, textL_len]; omega))
  have HZ := Lib.hid (And.intro z1 hnS)
  have HO := Lib.hid hoW
  have HW := Lib.hid hW
  clear h hlt hW1 hnS hbW' hb hk hl hoW hbW z1
  go_enter Tryz.func51, Tryz.ntmps51
  go_wp2_with fail
  rw [← HW.out]
  refine H1.out.mono ?_
  rintro e w1 ⟨rfl, hp⟩
  have z1 := hp.cell HZ.out.1 HZ.out.2
  have H3 := Lib.hid (H2.out w1 hp)
  clear z0 hp
  go_wp2_with fail
  refine H3.out.mono ?_
  rintro e w2 ⟨rfl, hp2⟩
  have HP := Lib.hid hp2
  clear hp2
  clear z1
  go_wp2_with fail
  go_end0
  refine ⟨rfl, WPost.next (HO.out.weaken (fun _ _ => False.elim)) (fun x hx => .inl hx) ?_⟩
  have := HP.out
  rw [List.append_assoc] at this
  exact this
theorem idW {W wr : World} {b base : Nat} {S : Nat → Prop} {l : List UInt8} (hp : WPost W wr b base S l) (hb : base ≤ W.heap.size) (k : ByteArray) (v : Nat) (hk : k.size ≤ 255) (hl : l.length ≤ 8000) :
    Calls Tryz.prog 51 #[.pointer (some ⟨b, 0, none⟩), .agg #[.string k, .int .u64 v]] wr fun e w' => e = .returned (.tuple #[]) ∧ WPost W w' b base S (l ++ idL (k, v)) :=
  hp.call (fun S' h hb' => id_any wr b base S' l k v h hb' hk hl) hb
end Go.Proofs.YtjdlcfllmpdffaaGreatDoor
/-! message: in, right, may: what may be sent. -/
namespace Go.Proofs.YtjdlcfllmpdffaaGreatDoor
open Go.Conc Go.RowKit Go.Maps

theorem in_yes (w : World) (n lo hi : Int) (h1 : lo ≤ n) (h2 : n ≤ hi) : Calls Tryz.prog 38 #[.int .i64 n, .int .i64 lo, .int .i64 hi] w fun e w' => e = .returned (.bool true) ∧ w = w' := by
  go_enter Tryz.func38, Tryz.ntmps38
  go_wp2_with fail
  go_ret
  exact ⟨rfl, rfl⟩
set_option maxRecDepth 100000 in
theorem right_yes (w : World) (x : RecT) (h : rightR x = true) : Calls Tryz.prog 45 #[recT x] w fun e w' => e = .returned (.bool true) ∧ Only (fun _ => False) w w' := by
  obtain ⟨k1, v1, o1, a1, g1, d1⟩ := x
  unfold rightR at h
  simp only [Bool.and_eq_true, decide_eq_true_eq] at h
  obtain ⟨hk, hd, ⟨ho1, ho2⟩, ha1, ha2⟩ := h
  have hk' : (k1.size : Int) ≤ 64 := by omega
  have hd' : (d1.size : Int) ≤ 64 := by omega
  unfold recT
  obtain ⟨W, hW⟩ : ∃ W, W = w.alloc (.cells #[.string k1, .int .u64 v1, .int .i64 o1, .int .i64 a1, .bool g1, .string d1] 48) := ⟨_, rfl⟩
  have hbW : W.heap[w.heap.size]? = some (.cells #[.string k1, .int .u64 v1, .int .i64 o1, .int .i64 a1, .bool g1, .string d1] 48 (0, 0)) := by rw [hW]; exact heap_alloc_new w _
  have hoW : Only (fun _ => False) w W := by rw [hW]; exact (Only.refl _ _).alloc _
  have hsW : W.heap.size = w.heap.size + 1 := by rw [hW]; simp
  have y0 : W.cell? ⟨w.heap.size, 0, none⟩ = some (.string k1) := cell_at hbW 0
  have y1 : W.cell? ⟨w.heap.size, 1, none⟩ = some (.int .u64 v1) := cell_at hbW 1
  have y2 : W.cell? ⟨w.heap.size, 2, none⟩ = some (.int .i64 o1) := cell_at hbW 2
  have y3 : W.cell? ⟨w.heap.size, 3, none⟩ = some (.int .i64 a1) := cell_at hbW 3
  have y4 : W.cell? ⟨w.heap.size, 4, none⟩ = some (.bool g1) := cell_at hbW 4
  have y5 : W.cell? ⟨w.heap.size, 5, none⟩ = some (.string d1) := cell_at hbW 5
  have HOW := Lib.hid hoW
  have HBW := Lib.hid hbW
  clear hoW hbW
  have HI := Lib.hid (fun w => in_yes w o1 1 65535 ho1 ho2)
  have HJ := Lib.hid (fun w => in_yes w a1 0 65535 ha1 ha2)
  clear hk hd ho1 ho2 ha1 ha2
  go_enter Tryz.func45, Tryz.ntmps45
  go_upto_region 1 with (fail)
  rw [← hW]
  clear hW
  go_wp2_with fail
  refine (HI.out _).mono ?_
  rintro e w2 ⟨rfl, rfl⟩
  go_wp2_with fail
  refine (HJ.out _).mono ?_
  rintro e w2 ⟨rfl, rfl⟩
  go_wp2_with fail
  go_ret
  exact ⟨rfl, HOW.out⟩
theorem may1_any (w : World) (n : Int) (h : 1 ≤ n ∧ n ≤ 65535) : Calls Tryz.prog 40 #[.int .i64 n] w fun e w' => e = .returned (.bool false) ∧ w = w' := by
  have HI := Lib.hid (fun w => in_yes w n 1 65535 h.1 h.2)
  clear h
  go_enter Tryz.func40, Tryz.ntmps40
  go_wp2_with fail
  refine (HI.out _).mono ?_
  rintro e w2 ⟨rfl, rfl⟩
  go_wp2_with fail
  go_ret
  exact ⟨rfl, rfl⟩
set_option maxRecDepth 100000 in
theorem may2_any (w : World) (p : ByteArray × Nat) (h : p.1.size ≤ 64) : Calls Tryz.prog 42 #[idV p] w fun e w' => e = .returned (.bool false) ∧ Only (fun _ => False) w w' := by
  obtain ⟨k, v⟩ := p
  have h' : ¬ (64 : Int) < k.size := by simp only at h; omega
  unfold idV
  obtain ⟨W, hW⟩ : ∃ W, W = w.alloc (.cells #[.string k, .int .u64 v] 46) := ⟨_, rfl⟩
  have hbW : W.heap[w.heap.size]? = some (.cells #[.string k, .int .u64 v] 46 (0, 0)) := by rw [hW]; exact heap_alloc_new w _
  have hoW : Only (fun _ => False) w W := by rw [hW]; exact (Only.refl _ _).alloc _
  have hsW : W.heap.size = w.heap.size + 1 := by rw [hW]; simp
  have y0 : W.cell? ⟨w.heap.size, 0, none⟩ = some (.string k) := cell_at hbW 0
  have y1 : W.cell? ⟨w.heap.size, 1, none⟩ = some (.int .u64 v) := cell_at hbW 1
  have HOW := Lib.hid hoW
  have HBW := Lib.hid hbW
  clear hoW hbW
  clear h
  go_enter Tryz.func42, Tryz.ntmps42
  go_upto_region 1 with (fail)
  rw [← hW]
  clear hW
  go_wp2_with fail
  go_ret
  exact ⟨rfl, HOW.out⟩
set_option maxRecDepth 100000 in
theorem may3_any (w : World) (x : RecT) (h : rightR x = true) : Calls Tryz.prog 44 #[recT x] w fun e w' => e = .returned (.bool false) ∧ Only (fun _ => False) w w' := by
  have H := Lib.hid (fun w => right_yes w x h)
  clear h
  obtain ⟨k1, v1, o1, a1, g1, d1⟩ := x
  unfold recT at H ⊢
  simp only at H ⊢
  obtain ⟨W, hW⟩ : ∃ W, W = w.alloc (.cells #[.string k1, .int .u64 v1, .int .i64 o1, .int .i64 a1, .bool g1, .string d1] 48) := ⟨_, rfl⟩
  have hbW : W.heap[w.heap.size]? = some (.cells #[.string k1, .int .u64 v1, .int .i64 o1, .int .i64 a1, .bool g1, .string d1] 48 (0, 0)) := by rw [hW]; exact heap_alloc_new w _
  have hoW : Only (fun _ => False) w W := by rw [hW]; exact (Only.refl _ _).alloc _
  have hsW : W.heap.size = w.heap.size + 1 := by rw [hW]; simp
  have y0 : W.cell? ⟨w.heap.size, 0, none⟩ = some (.string k1) := cell_at hbW 0
  have y1 : W.cell? ⟨w.heap.size, 1, none⟩ = some (.int .u64 v1) := cell_at hbW 1
  have y2 : W.cell? ⟨w.heap.size, 2, none⟩ = some (.int .i64 o1) := cell_at hbW 2
  have y3 : W.cell? ⟨w.heap.size, 3, none⟩ = some (.int .i64 a1) := cell_at hbW 3
  have y4 : W.cell? ⟨w.heap.size, 4, none⟩ = some (.bool g1) := cell_at hbW 4
  have y5 : W.cell? ⟨w.heap.size, 5, none⟩ = some (.string d1) := cell_at hbW 5
  have HOW := Lib.hid hoW
  have HBW := Lib.hid hbW
  clear hoW hbW
  go_enter Tryz.func44, Tryz.ntmps44
  go_upto_region 1 with (fail)
  rw [← hW]
  clear hW
  go_wp2_with fail
  refine (H.out _).mono ?_
  rintro e w2 ⟨rfl, ho2⟩
  have hoA := HOW.out.trans ho2
  have HOA := Lib.hid hoA
  clear hoA
  clear ho2
  go_wp2_with fail
  go_ret
  exact ⟨rfl, HOA.out⟩
set_option maxRecDepth 100000 in
set_option maxHeartbeats 2000000 in
theorem may_yes (w : World) (v : Value) (m : MsgT) (h : MsgIs w v m) (hm : MayM m) : Calls Tryz.prog 27 #[v] w fun e w' => e = .returned (.bool true) ∧ Only (fun _ => False) w w' := by
  obtain ⟨vn, vi, vr, rfl, a1, a2, a3⟩ := h.out
  obtain ⟨kind, node, walk, high, nodes, ids, recs⟩ := m
  obtain ⟨⟨k1, k2⟩, ⟨n1, n2⟩, ⟨l1, l2⟩, s1, s2, s3, p1, p2, p3⟩ := hm
  simp only at a1 a2 a3 k1 k2 n1 n2 l1 l2 s1 s2 s3 p1 p2 p3
  have HN := Lib.hid (fun w' (ho : Only (fun _ => False) w w') (e : ∀ args w, (callFunc 40 args).run Tryz.prog w = .ok (.enter 40 args) w) => hasI_none w' vn nodes 40 (a1.new ho) e (fun x hx W _ => (may1_any W x (p1 x hx)).mono (fun e w' h9 => ⟨h9.1, h9.2 ▸ Only.refl _ _⟩)))
  have HD := Lib.hid (fun w' (ho : Only (fun _ => False) w w') (e : ∀ args w, (callFunc 42 args).run Tryz.prog w = .ok (.enter 42 args) w) => hasD_none w' vi ids 42 (a2.new ho) e (fun x hx W _ => may2_any W x (p2 x hx)))
  have HR := Lib.hid (fun w' (ho : Only (fun _ => False) w w') (e : ∀ args w, (callFunc 44 args).run Tryz.prog w = .ok (.enter 44 args) w) => hasR_none w' vr recs 44 (a3.new ho) e (fun x hx W _ => may3_any W x (p3 x hx)))
  obtain ⟨n1a, n1c, rfl, _⟩ := Sl.cells intC_length a1
  obtain ⟨i1a, i1c, rfl, _⟩ := Sl.cells idT_length a2
  obtain ⟨r1a, r1c, rfl, _⟩ := Sl.cells recC_length a3
  have hmf : ∀ (fn : Fn) (first cap : Array Value) (w : World), (Instr.makeFunc fn first cap).run Tryz.prog w = .ok (.func fn first cap) w := fun _ _ _ _ => rfl
  have t1 : ¬ (64 : Int) < nodes.length := by omega
  have t2 : ¬ (64 : Int) < ids.length := by omega
  have t3 : ¬ (16 : Int) < recs.length := by omega
  obtain ⟨W, hW⟩ : ∃ W, W = w.alloc (.cells #[.int .i64 kind, .int .i64 node, .int .i64 walk, .bool high, .slice n1a nodes.length n1c, .slice i1a ids.length i1c, .slice r1a recs.length r1c] 36) := ⟨_, rfl⟩
  have hbW : W.heap[w.heap.size]? = some (.cells #[.int .i64 kind, .int .i64 node, .int .i64 walk, .bool high, .slice n1a nodes.length n1c, .slice i1a ids.length i1c, .slice r1a recs.length r1c] 36 (0, 0)) := by rw [hW]; exact heap_alloc_new w _
  have hoW : Only (fun _ => False) w W := by rw [hW]; exact (Only.refl _ _).alloc _
  have hsW : W.heap.size = w.heap.size + 1 := by rw [hW]; simp
  have x0 : W.cell? ⟨w.heap.size, 0, none⟩ = some (.int .i64 kind) := cell_at hbW 0
  have x1 : W.cell? ⟨w.heap.size, 1, none⟩ = some (.int .i64 node) := cell_at hbW 1
  have x2 : W.cell? ⟨w.heap.size, 2, none⟩ = some (.int .i64 walk) := cell_at hbW 2
  have x3 : W.cell? ⟨w.heap.size, 3, none⟩ = some (.bool high) := cell_at hbW 3
  have x4 : W.cell? ⟨w.heap.size, 4, none⟩ = some (.slice n1a nodes.length n1c) := cell_at hbW 4
  have x5 : W.cell? ⟨w.heap.size, 5, none⟩ = some (.slice i1a ids.length i1c) := cell_at hbW 5
  have x6 : W.cell? ⟨w.heap.size, 6, none⟩ = some (.slice r1a recs.length r1c) := cell_at hbW 6
  have H1 := Lib.hid (fun w => in_yes w kind 1 14 k1 k2)
  have H2 := Lib.hid (fun w => in_yes w node 0 65535 n1 n2)
  have H3 := Lib.hid (fun w => in_yes w walk 0 15 l1 l2)
  have HOW := Lib.hid hoW
  have HBW := Lib.hid hbW
  clear hoW hbW
  clear h a1 a2 a3 s1 s2 s3 p1 p2 p3 hsW k1 k2 n1 n2 l1 l2
  go_enter Tryz.func27, Tryz.ntmps27
  go_upto_region 1 with (fail)
  rw [← hW]
  clear hW
  go_wp2_with fail
  refine (H1.out _).mono ?_
  rintro e w2 ⟨rfl, rfl⟩
  go_wp2_with fail
  refine (H2.out _).mono ?_
  rintro e w2 ⟨rfl, rfl⟩
  go_wp2_with fail
  refine (H3.out _).mono ?_
  rintro e w2 ⟨rfl, rfl⟩
  go_wp2_with fail
  refine (HN.out _ HOW.out (fun _ _ => by go_simp)).mono ?_
  rintro e w2 ⟨rfl, ho2⟩
  have hb2 := ho2.old HBW.out id
  have hoA := HOW.out.trans ho2
  clear x0 x1 x2 x3 x4 x5 x6
  have x0 : w2.cell? ⟨w.heap.size, 0, none⟩ = some (.int .i64 kind) := cell_at hb2 0
  have x1 : w2.cell? ⟨w.heap.size, 1, none⟩ = some (.int .i64 node) := cell_at hb2 1
  have x2 : w2.cell? ⟨w.heap.size, 2, none⟩ = some (.int .i64 walk) := cell_at hb2 2
  have x3 : w2.cell? ⟨w.heap.size, 3, none⟩ = some (.bool high) := cell_at hb2 3
  have x4 : w2.cell? ⟨w.heap.size, 4, none⟩ = some (.slice n1a nodes.length n1c) := cell_at hb2 4
  have x5 : w2.cell? ⟨w.heap.size, 5, none⟩ = some (.slice i1a ids.length i1c) := cell_at hb2 5
  have x6 : w2.cell? ⟨w.heap.size, 6, none⟩ = some (.slice r1a recs.length r1c) := cell_at hb2 6
  have HB2 := Lib.hid hb2
  have HOA := Lib.hid hoA
  clear hb2 hoA
  clear ho2
  go_wp2_with fail
  refine (HD.out _ HOA.out (fun _ _ => by go_simp)).mono ?_
  rintro e w3 ⟨rfl, ho3⟩
  have hb3 := ho3.old HB2.out id
  have hoB := HOA.out.trans ho3
  clear x0 x1 x2 x3 x4 x5 x6
  have x0 : w3.cell? ⟨w.heap.size, 0, none⟩ = some (.int .i64 kind) := cell_at hb3 0
  have x1 : w3.cell? ⟨w.heap.size, 1, none⟩ = some (.int .i64 node) := cell_at hb3 1
  have x2 : w3.cell? ⟨w.heap.size, 2, none⟩ = some (.int .i64 walk) := cell_at hb3 2
  have x3 : w3.cell? ⟨w.heap.size, 3, none⟩ = some (.bool high) := cell_at hb3 3
  have x4 : w3.cell? ⟨w.heap.size, 4, none⟩ = some (.slice n1a nodes.length n1c) := cell_at hb3 4
  have x5 : w3.cell? ⟨w.heap.size, 5, none⟩ = some (.slice i1a ids.length i1c) := cell_at hb3 5
  have x6 : w3.cell? ⟨w.heap.size, 6, none⟩ = some (.slice r1a recs.length r1c) := cell_at hb3 6
  have HOB := Lib.hid hoB
  clear hoB
  clear ho3 hb3
  go_wp2_with fail
  refine (HR.out _ HOB.out (fun _ _ => by go_simp)).mono ?_
  rintro e w4 ⟨rfl, ho4⟩
  have hoC := HOB.out.trans ho4
  have HOC := Lib.hid hoC
  clear hoC
  clear ho4
  go_wp2_with fail
  go_ret
  exact ⟨rfl, HOC.out⟩
end Go.Proofs.YtjdlcfllmpdffaaGreatDoor
/-! message: write: a message's bytes. -/
namespace Go.Proofs.YtjdlcfllmpdffaaGreatDoor
open Go.Conc Go.RowKit Go.Maps

theorem keepW {w0 W wr : World} {b base : Nat} {S : Nat → Prop} {l : List UInt8} (hp : WPost W wr b base S l) (ho : Only (fun _ => False) w0 W) (hS : ∀ x, S x → w0.heap.size ≤ x) {p : Addr} {v : Value} (h : w0.cell? p = some v) : wr.cell? p = some v :=
  hp.cell (ho.cell h id) (fun hs => by have h1 := World.block_lt_of_cell? _ _ h; have h2 := hS _ hs; omega)
theorem take_flat {α β : Type} (f : α → List β) (L : List α) (k : Nat) (hk : k < L.length) : (L.take (k + 1)).flatMap f = (L.take k).flatMap f ++ f L[k] := by
  rw [List.take_add_one, List.getElem?_eq_getElem hk, List.flatMap_append]
  simp
theorem WPost.of_eq {W wr : World} {b base : Nat} {S : Nat → Prop} {l m : List UInt8} (h : WPost W wr b base S l) (e : l = m) : WPost W wr b base S m := e ▸ h
theorem WPost.new {a w w' : World} {b base : Nat} {S : Nat → Prop} {l : List UInt8} (h : WPost a w b base S l) (ho : Only (fun _ => False) w w') : WPost a w' b base S l := by
  obtain ⟨S', k1, k2, k3⟩ := h
  exact ⟨S', k1.trans (ho.weaken (fun _ _ => False.elim)), k2.kept ho (fun _ _ => id), k3⟩
theorem u64_nat (n : Nat) (h : n < 18446744073709551616) : IntKind.u64.wrap (n : Int) = n := by simp [IntKind.wrap, IntKind.bits, IntKind.signed]; omega
theorem box_keep {W wr : World} {b base B : Nat} {S : Nat → Prop} {l : List UInt8} {cs : Array Value} {t : TypeId} (hp : WPost W wr b base S l) (h : W.heap[B]? = some (.cells cs t (0, 0))) (hn : ¬ S B) : wr.heap[B]? = some (.cells cs t (0, 0)) := by
  obtain ⟨S', k1, _, _⟩ := hp
  exact k1.old h hn
/-- The bytes of a message, in parts. -/
def preE (m : MsgT) : List UInt8 := beL m.kind.toNat 1 ++ beL m.node.toNat 2 ++ beL m.walk.toNat 1 ++ flagL m.high ++ beL m.nodes.length 1
def midE (m : MsgT) : List UInt8 := preE m ++ m.nodes.flatMap nodeL ++ beL m.ids.length 1
def lastE (m : MsgT) : List UInt8 := midE m ++ m.ids.flatMap idL ++ beL m.recs.length 1
theorem enc_parts (m : MsgT) : encL m = lastE m ++ m.recs.flatMap recL := rfl
theorem preE_len (m : MsgT) : (preE m).length = 6 := by unfold preE flagL; simp only [List.length_append, beL_len]
theorem nodes_len (L : List Int) : (L.flatMap nodeL).length ≤ 2 * L.length := flat_len nodeL 2 L (fun x _ => by unfold nodeL; rw [beL_len]; omega)
theorem ids_len (L : List (ByteArray × Nat)) (h : ∀ p ∈ L, p.1.size ≤ 64) : (L.flatMap idL).length ≤ 73 * L.length := flat_len idL 73 L (fun p hp => by have := h p hp; rw [idL_len]; omega)
theorem recs_len (L : List RecT) (h : ∀ x ∈ L, rightR x = true) : (L.flatMap recL).length ≤ 143 * L.length := flat_len recL 143 L (fun x hx => by
  have := h x hx
  unfold rightR at this
  simp only [Bool.and_eq_true, decide_eq_true_eq] at this
  rw [recL_len]
  omega)
theorem midE_len (m : MsgT) (h : MayM m) : (midE m).length ≤ 135 := by
  unfold midE
  have h1 := nodes_len m.nodes
  have h2 := h.nodesL
  simp only [List.length_append, beL_len, preE_len]
  omega
theorem lastE_len (m : MsgT) (h : MayM m) : (lastE m).length ≤ 4808 := by
  unfold lastE
  have h1 := ids_len m.ids h.ids
  have h2 := h.idsL
  have h3 := midE_len m h
  simp only [List.length_append, beL_len]
  omega
set_option maxRecDepth 100000 in
set_option maxHeartbeats 4000000 in
theorem mwrite_any (w0 w : World) (v : Value) (m : MsgT) (h : MsgIs w0 v m) (hm : MayM m) (ho : Only (fun _ => False) w0 w) (b base : Nat) (S : Nat → Prop) (hWr : WrAt w b base S []) (hS : ∀ x, S x → w0.heap.size ≤ x) (hb : base ≤ w.heap.size) :
    Calls Tryz.prog 29 #[v, .pointer (some ⟨b, 0, none⟩)] w fun e w' => e = .returned (.tuple #[]) ∧ WPost w w' b base S (encL m) := by
  obtain ⟨vn, vi, vr, rfl, a1, a2, a3⟩ := h.out
  have HML := Lib.hid (And.intro (midE_len m hm) (lastE_len m hm))
  have HEN := Lib.hid (enc_parts m)
  have HPE := Lib.hid (show preE m = beL m.kind.toNat 1 ++ beL m.node.toNat 2 ++ beL m.walk.toNat 1 ++ flagL m.high ++ beL m.nodes.length 1 from rfl)
  have HME := Lib.hid (show midE m = preE m ++ m.nodes.flatMap nodeL ++ beL m.ids.length 1 from rfl)
  have HLE := Lib.hid (show lastE m = midE m ++ m.ids.flatMap idL ++ beL m.recs.length 1 from rfl)
  have HPL := Lib.hid (preE_len m)
  generalize encL m = EN at *
  generalize preE m = PE at *
  generalize midE m = ME at *
  generalize lastE m = LE at *
  obtain ⟨kind, node, walk, high, nodes, ids, recs⟩ := m
  obtain ⟨⟨k1, k2⟩, ⟨n1, n2⟩, ⟨l1, l2⟩, s1, s2, s3, p1, p2, p3⟩ := hm
  simp only at a1 a2 a3 k1 k2 n1 n2 l1 l2 s1 s2 s3 p1 p2 p3 HEN HPE HME HLE
  obtain ⟨kind, rfl⟩ : ∃ k : Nat, kind = k := ⟨kind.toNat, by omega⟩
  obtain ⟨node, rfl⟩ : ∃ k : Nat, node = k := ⟨node.toNat, by omega⟩
  obtain ⟨walk, rfl⟩ : ∃ k : Nat, walk = k := ⟨walk.toNat, by omega⟩
  simp only [Int.toNat_natCast] at HPE
  obtain ⟨n1a, n1c, rfl, q1, q2, n1x⟩ := Sl.cells intC_length a1
  obtain ⟨i1a, i1c, rfl, q3, q4, i1x⟩ := Sl.cells idT_length a2
  obtain ⟨r1a, r1c, rfl, q5, q6, r1x⟩ := Sl.cells recC_length a3
  unfold maxLen at q2 q4 q6
  have hlt := hWr.lt
  obtain ⟨W, hW⟩ : ∃ W, W = w.alloc (.cells #[.int .i64 kind, .int .i64 node, .int .i64 walk, .bool high, .slice n1a nodes.length n1c, .slice i1a ids.length i1c, .slice r1a recs.length r1c] 36) := ⟨_, rfl⟩
  have hbW : W.heap[w.heap.size]? = some (.cells #[.int .i64 kind, .int .i64 node, .int .i64 walk, .bool high, .slice n1a nodes.length n1c, .slice i1a ids.length i1c, .slice r1a recs.length r1c] 36 (0, 0)) := by rw [hW]; exact heap_alloc_new w _
  have hoW : Only (fun _ => False) w W := by rw [hW]; exact (Only.refl _ _).alloc _
  have hsW : W.heap.size = w.heap.size + 1 := by rw [hW]; simp
  have hns : ¬ S w.heap.size := fun e => by have := hlt _ e; omega
  have hP0 := WPost.refl (hWr.kept hoW (fun _ _ => id))
  have hbW' : base ≤ W.heap.size := by have := hoW.size; omega
  have hOW := ho.trans hoW
  have HU1 := Lib.hid (And.intro s1 (And.intro s2 s3))
  have HKN := Lib.hid (fun wr (l : List UInt8) (hp : WPost W wr b base S l) => @keepW w0 W wr b base S l hp hOW hS)
  have hk64 := u64_nat kind (by omega)
  have hn64 := u64_nat node (by omega)
  have hw64 := u64_nat walk (by omega)
  have ha64 := u64_nat nodes.length (by omega)
  have hb64 := u64_nat ids.length (by omega)
  have hc64 := u64_nat recs.length (by omega)
  have H1 := Lib.hid (numW hP0 hbW' kind 1 (by omega) (by omega) (by omega) (by simp))
  have H2 := Lib.hid (fun wr l (hp : WPost W wr b base S l) (hl : l.length ≤ 9000) => numW hp hbW' node 2 (by omega) (by omega) (by omega) hl)
  have H3 := Lib.hid (fun wr l (hp : WPost W wr b base S l) (hl : l.length ≤ 9000) => numW hp hbW' walk 1 (by omega) (by omega) (by omega) hl)
  have H4 := Lib.hid (fun wr l (hp : WPost W wr b base S l) (hl : l.length ≤ 9000) => flagW hp hbW' high hl)
  have H5 := Lib.hid (fun wr l (hp : WPost W wr b base S l) (hl : l.length ≤ 9000) => numW hp hbW' nodes.length 1 (by omega) (by omega) (by omega) hl)
  have H6 := Lib.hid (fun wr l (hp : WPost W wr b base S l) (hl : l.length ≤ 9000) => numW hp hbW' ids.length 1 (by omega) (by omega) (by omega) hl)
  have H7 := Lib.hid (fun wr l (hp : WPost W wr b base S l) (hl : l.length ≤ 9000) => numW hp hbW' recs.length 1 (by omega) (by omega) (by omega) hl)
  have HNN := Lib.hid (fun wr l (hp : WPost W wr b base S l) (hl : l.length ≤ 9000) (n : Nat) (hn : n ≤ 65535) => numW hp hbW' n 2 (by omega) (by omega) (by omega) hl)
  have HID := Lib.hid (fun wr l (hp : WPost W wr b base S l) (hl : l.length ≤ 8000) k v (hk : ByteArray.size k ≤ 255) => idW hp hbW' k v hk hl)
  have HFL := Lib.hid (fun wr l (hp : WPost W wr b base S l) (hl : l.length ≤ 9000) g => flagW hp hbW' g hl)
  have HTX := Lib.hid (fun wr l (hp : WPost W wr b base S l) (hl : l.length ≤ 9000) (s : ByteArray) (hs : s.size ≤ 255) => textW hp hbW' s hs hl)
  have HNL := Lib.hid (fun k => nodes_len (nodes.take k))
  have HIL := Lib.hid (fun k => ids_len (ids.take k) (fun p hp => p2 p (List.mem_of_mem_take hp)))
  have HRL := Lib.hid (fun k => recs_len (recs.take k) (fun p hp => p3 p (List.mem_of_mem_take hp)))
  have HBS := Lib.hid hbW'
  have HOW := Lib.hid hoW
  have HBW := Lib.hid hbW
  have HNS := Lib.hid hns
  have HN := Lib.hid n1x
  have HI := Lib.hid i1x
  have HR := Lib.hid r1x
  have HP1 := Lib.hid p1
  have HP2 := Lib.hid p2
  have HP3 := Lib.hid p3
  have HFIN := Lib.hid hP0
  clear hoW hbW hns n1x i1x r1x p1 p2 p3 hP0
  clear h a1 a2 a3 hsW k1 k2 n1 n2 l1 l2 hlt hWr hS hb ho hOW hbW'
  have x0 : W.cell? ⟨w.heap.size, 0, none⟩ = some (.int .i64 kind) := cell_at HBW.out 0
  have x1 : W.cell? ⟨w.heap.size, 1, none⟩ = some (.int .i64 node) := cell_at HBW.out 1
  have x2 : W.cell? ⟨w.heap.size, 2, none⟩ = some (.int .i64 walk) := cell_at HBW.out 2
  have x3 : W.cell? ⟨w.heap.size, 3, none⟩ = some (.bool high) := cell_at HBW.out 3
  have x4 : W.cell? ⟨w.heap.size, 4, none⟩ = some (.slice n1a nodes.length n1c) := cell_at HBW.out 4
  have x5 : W.cell? ⟨w.heap.size, 5, none⟩ = some (.slice i1a ids.length i1c) := cell_at HBW.out 5
  have x6 : W.cell? ⟨w.heap.size, 6, none⟩ = some (.slice r1a recs.length r1c) := cell_at HBW.out 6
  have HW := Lib.hid hW
  clear hW s1 s2 s3
  go_enter Tryz.func29, Tryz.ntmps29
  go_upto_region 1 with (fail)
  rw [← HW.out]
  go_wp2_with fail
  refine (H1.out).mono ?_
  rintro e w1 ⟨rfl, hp1⟩
  clear x0 x1 x2 x3 x4 x5 x6
  have hbk := box_keep hp1 HBW.out HNS.out
  have x0 : w1.cell? ⟨w.heap.size, 0, none⟩ = some (.int .i64 kind) := cell_at hbk 0
  have x1 : w1.cell? ⟨w.heap.size, 1, none⟩ = some (.int .i64 node) := cell_at hbk 1
  have x2 : w1.cell? ⟨w.heap.size, 2, none⟩ = some (.int .i64 walk) := cell_at hbk 2
  have x3 : w1.cell? ⟨w.heap.size, 3, none⟩ = some (.bool high) := cell_at hbk 3
  have x4 : w1.cell? ⟨w.heap.size, 4, none⟩ = some (.slice n1a nodes.length n1c) := cell_at hbk 4
  have x5 : w1.cell? ⟨w.heap.size, 5, none⟩ = some (.slice i1a ids.length i1c) := cell_at hbk 5
  have x6 : w1.cell? ⟨w.heap.size, 6, none⟩ = some (.slice r1a recs.length r1c) := cell_at hbk 6
  clear hbk
  have K1 := Lib.hid (H2.out w1 _ hp1 (by simp [beL_len]))
  clear hp1
  go_wp2_with fail
  refine (K1.out).mono ?_
  rintro e w2 ⟨rfl, hp2⟩
  clear x0 x1 x2 x3 x4 x5 x6
  have hbk := box_keep hp2 HBW.out HNS.out
  have x0 : w2.cell? ⟨w.heap.size, 0, none⟩ = some (.int .i64 kind) := cell_at hbk 0
  have x1 : w2.cell? ⟨w.heap.size, 1, none⟩ = some (.int .i64 node) := cell_at hbk 1
  have x2 : w2.cell? ⟨w.heap.size, 2, none⟩ = some (.int .i64 walk) := cell_at hbk 2
  have x3 : w2.cell? ⟨w.heap.size, 3, none⟩ = some (.bool high) := cell_at hbk 3
  have x4 : w2.cell? ⟨w.heap.size, 4, none⟩ = some (.slice n1a nodes.length n1c) := cell_at hbk 4
  have x5 : w2.cell? ⟨w.heap.size, 5, none⟩ = some (.slice i1a ids.length i1c) := cell_at hbk 5
  have x6 : w2.cell? ⟨w.heap.size, 6, none⟩ = some (.slice r1a recs.length r1c) := cell_at hbk 6
  clear hbk
  have K2 := Lib.hid (H3.out w2 _ hp2 (by simp [beL_len]))
  clear hp2
  go_wp2_with fail
  refine (K2.out).mono ?_
  rintro e w3 ⟨rfl, hp3⟩
  clear x0 x1 x2 x3 x4 x5 x6
  have hbk := box_keep hp3 HBW.out HNS.out
  have x0 : w3.cell? ⟨w.heap.size, 0, none⟩ = some (.int .i64 kind) := cell_at hbk 0
  have x1 : w3.cell? ⟨w.heap.size, 1, none⟩ = some (.int .i64 node) := cell_at hbk 1
  have x2 : w3.cell? ⟨w.heap.size, 2, none⟩ = some (.int .i64 walk) := cell_at hbk 2
  have x3 : w3.cell? ⟨w.heap.size, 3, none⟩ = some (.bool high) := cell_at hbk 3
  have x4 : w3.cell? ⟨w.heap.size, 4, none⟩ = some (.slice n1a nodes.length n1c) := cell_at hbk 4
  have x5 : w3.cell? ⟨w.heap.size, 5, none⟩ = some (.slice i1a ids.length i1c) := cell_at hbk 5
  have x6 : w3.cell? ⟨w.heap.size, 6, none⟩ = some (.slice r1a recs.length r1c) := cell_at hbk 6
  clear hbk
  have K3 := Lib.hid (H4.out w3 _ hp3 (by simp [beL_len]))
  clear hp3
  go_wp2_with fail
  refine (K3.out).mono ?_
  rintro e w4 ⟨rfl, hp4⟩
  clear x0 x1 x2 x3 x4 x5 x6
  have hbk := box_keep hp4 HBW.out HNS.out
  have x0 : w4.cell? ⟨w.heap.size, 0, none⟩ = some (.int .i64 kind) := cell_at hbk 0
  have x1 : w4.cell? ⟨w.heap.size, 1, none⟩ = some (.int .i64 node) := cell_at hbk 1
  have x2 : w4.cell? ⟨w.heap.size, 2, none⟩ = some (.int .i64 walk) := cell_at hbk 2
  have x3 : w4.cell? ⟨w.heap.size, 3, none⟩ = some (.bool high) := cell_at hbk 3
  have x4 : w4.cell? ⟨w.heap.size, 4, none⟩ = some (.slice n1a nodes.length n1c) := cell_at hbk 4
  have x5 : w4.cell? ⟨w.heap.size, 5, none⟩ = some (.slice i1a ids.length i1c) := cell_at hbk 5
  have x6 : w4.cell? ⟨w.heap.size, 6, none⟩ = some (.slice r1a recs.length r1c) := cell_at hbk 6
  clear hbk
  have K4 := Lib.hid (H5.out w4 _ hp4 (by simp [beL_len, flagL]))
  clear hp4
  go_wp2_with fail
  refine (K4.out).mono ?_
  rintro e w5 ⟨rfl, hp5⟩
  have hp5' := hp5.of_eq (show _ = PE by rw [HPE.out, List.nil_append])
  clear x0 x1 x2 x3 x4 x5 x6
  have hbk := box_keep hp5' HBW.out HNS.out
  have x0 : w5.cell? ⟨w.heap.size, 0, none⟩ = some (.int .i64 kind) := cell_at hbk 0
  have x1 : w5.cell? ⟨w.heap.size, 1, none⟩ = some (.int .i64 node) := cell_at hbk 1
  have x2 : w5.cell? ⟨w.heap.size, 2, none⟩ = some (.int .i64 walk) := cell_at hbk 2
  have x3 : w5.cell? ⟨w.heap.size, 3, none⟩ = some (.bool high) := cell_at hbk 3
  have x4 : w5.cell? ⟨w.heap.size, 4, none⟩ = some (.slice n1a nodes.length n1c) := cell_at hbk 4
  have x5 : w5.cell? ⟨w.heap.size, 5, none⟩ = some (.slice i1a ids.length i1c) := cell_at hbk 5
  have x6 : w5.cell? ⟨w.heap.size, 6, none⟩ = some (.slice r1a recs.length r1c) := cell_at hbk 6
  clear hbk
  have HP5 := Lib.hid hp5'
  clear hp5'
  clear hp5 K1 K2 K3 K4 H1 H2 H3 H4 H5
  go_upto_block 0 with fail
  go_cut [38] (fun _ wx => WPost W wx b base S (PE ++ nodes.flatMap nodeL))
  case first =>
    go_wp2_with fail
    go_loopg [38] nodes.length (fun g v38 wr => ∃ j : Nat, v38 = .int .i64 j ∧ j ≤ nodes.length ∧ WPost W wr b base S (PE ++ (nodes.take j).flatMap nodeL) ∧ g = nodes.length - j)
    case atStart => exact ⟨0, rfl, Nat.zero_le _, by simpa using HP5.out, rfl⟩
    case round =>
      obtain ⟨j, rfl, hj, hp, hg⟩ := hrel
      have Hg := Lib.hid hg
      clear hg
      clear x0 x1 x2 x3 x4 x5 x6
      by_cases hlt : j < nodes.length
      · obtain ⟨bb, off, rfl, hc⟩ := HN.out.at j hlt
        have y0 := HKN.out wr _ hp (hc 0 _ rfl)
        simp only [Nat.add_zero, Nat.mul_one] at y0
        have hn := HP1.out _ (List.getElem_mem hlt)
        have HTF := Lib.hid (take_flat nodeL nodes j hlt)
        have hl9 : (PE ++ (nodes.take j).flatMap nodeL).length ≤ 9000 := by
          have h1 := HNL.out j
          have h2 := HPL.out
          have h3 := HU1.out.1
          rw [List.length_append]
          rw [List.length_take] at h1
          omega
        generalize nodes[j] = z at *
        obtain ⟨n, rfl⟩ : ∃ n : Nat, z = n := ⟨z.toNat, by omega⟩
        have hz64 := u64_nat n (by omega)
        have K := Lib.hid (HNN.out wr _ hp hl9 n (by omega))
        have hlt' : (j : Int) < (nodes.length : Int) := by omega
        clear hp hc hn hl9
        go_wp2_with fail
        refine (K.out).mono ?_
        rintro e w6 ⟨rfl, hp6⟩
        have hp7 := hp6.of_eq (show _ = PE ++ (nodes.take (j + 1)).flatMap nodeL by rw [HTF.out, List.append_assoc]; rfl)
        have HP7 := Lib.hid hp7
        clear hp7
        clear hp6 y0 hz64
        go_wp2_with fail
        go_roundg (nodes.length - (j + 1))
        case measure => rw [Hg.out]; omega
        case rel => exact ⟨j + 1, by go_num, by omega, HP7.out, rfl⟩
      · have hlt' : ¬ (j : Int) < (nodes.length : Int) := by omega
        have hp' := hp
        rw [List.take_of_length_le (by omega)] at hp'
        have HPF := Lib.hid hp'
        clear hp'
        clear hp
        go_wp2_with fail
        go_meet
        exact HPF.out
  case rest =>
  have hpn := hcut
  clear hcut
  have hn9 : (PE ++ nodes.flatMap nodeL).length ≤ 9000 := by
    have h1 := HML.out.1
    rw [HME.out, List.length_append] at h1
    omega
  have K := Lib.hid (H6.out _ _ hpn hn9)
  have hbk := box_keep hpn HBW.out HNS.out
  have x0 : wc.cell? ⟨w.heap.size, 0, none⟩ = some (.int .i64 kind) := cell_at hbk 0
  have x1 : wc.cell? ⟨w.heap.size, 1, none⟩ = some (.int .i64 node) := cell_at hbk 1
  have x2 : wc.cell? ⟨w.heap.size, 2, none⟩ = some (.int .i64 walk) := cell_at hbk 2
  have x3 : wc.cell? ⟨w.heap.size, 3, none⟩ = some (.bool high) := cell_at hbk 3
  have x4 : wc.cell? ⟨w.heap.size, 4, none⟩ = some (.slice n1a nodes.length n1c) := cell_at hbk 4
  have x5 : wc.cell? ⟨w.heap.size, 5, none⟩ = some (.slice i1a ids.length i1c) := cell_at hbk 5
  have x6 : wc.cell? ⟨w.heap.size, 6, none⟩ = some (.slice r1a recs.length r1c) := cell_at hbk 6
  clear hbk
  clear hpn hn9
  go_wp2_with fail
  refine (K.out).mono ?_
  rintro e w7 ⟨rfl, hp7⟩
  have hp7' := hp7.of_eq HME.out.symm
  clear x0 x1 x2 x3 x4 x5 x6
  have hbk := box_keep hp7' HBW.out HNS.out
  have x0 : w7.cell? ⟨w.heap.size, 0, none⟩ = some (.int .i64 kind) := cell_at hbk 0
  have x1 : w7.cell? ⟨w.heap.size, 1, none⟩ = some (.int .i64 node) := cell_at hbk 1
  have x2 : w7.cell? ⟨w.heap.size, 2, none⟩ = some (.int .i64 walk) := cell_at hbk 2
  have x3 : w7.cell? ⟨w.heap.size, 3, none⟩ = some (.bool high) := cell_at hbk 3
  have x4 : w7.cell? ⟨w.heap.size, 4, none⟩ = some (.slice n1a nodes.length n1c) := cell_at hbk 4
  have x5 : w7.cell? ⟨w.heap.size, 5, none⟩ = some (.slice i1a ids.length i1c) := cell_at hbk 5
  have x6 : w7.cell? ⟨w.heap.size, 6, none⟩ = some (.slice r1a recs.length r1c) := cell_at hbk 6
  clear hbk
  have HP7 := Lib.hid hp7'
  clear hp7'
  clear hp7 K
  go_upto_block 2 with fail
  go_cut [56] (fun _ wx => WPost W wx b base S (ME ++ ids.flatMap idL))
  case first =>
    go_wp2_with fail
    go_loopg [56] ids.length (fun g v56 wr => ∃ j : Nat, v56 = .int .i64 j ∧ j ≤ ids.length ∧ WPost W wr b base S (ME ++ (ids.take j).flatMap idL) ∧ g = ids.length - j)
    case atStart => exact ⟨0, rfl, Nat.zero_le _, by simpa using HP7.out, rfl⟩
    case round =>
      obtain ⟨j, rfl, hj, hp, hg⟩ := hrel
      have Hg := Lib.hid hg
      clear hg
      clear x0 x1 x2 x3 x4 x5 x6
      by_cases hlt : j < ids.length
      · obtain ⟨bb, off, rfl, hc⟩ := HI.out.at j hlt
        have y0 := HKN.out wr _ hp (hc 0 _ rfl)
        have y1 := HKN.out wr _ hp (hc 1 _ rfl)
        simp only [Nat.add_zero] at y0
        have hn := HP2.out _ (List.getElem_mem hlt)
        have HTF := Lib.hid (take_flat idL ids j hlt)
        have hl9 : (ME ++ (ids.take j).flatMap idL).length ≤ 8000 := by
          have h1 := HIL.out j
          have h2 := HML.out.1
          have h3 := HU1.out.2.1
          rw [List.length_append]
          rw [List.length_take] at h1
          omega
        generalize ids[j] = z at *
        obtain ⟨kz, vz⟩ := z
        simp only at y0 y1 hn
        have hlt' : (j : Int) < (ids.length : Int) := by omega
        have HP := Lib.hid hp
        have HL9 := Lib.hid hl9
        have HKZ := Lib.hid hn
        clear hp hl9 hn
        clear hc
        go_wp2_with fail
        refine (HID.out _ _ (HP.out.new ?ho) HL9.out kz vz (by have := HKZ.out; omega)).mono ?_
        case ho => (repeat (first | (with_reducible assumption) | (with_reducible exact Only.refl _ _) | (with_reducible refine Only.drew ?_) | (with_reducible refine Only.alloc ?_ _) | (with_reducible refine onlySet ?_ (by first | (with_reducible assumption) | omega) _) | (with_reducible refine Only.trans ?_ (by with_reducible assumption))))
        rintro e w8 ⟨rfl, hp8⟩
        have hp9 := hp8.of_eq (show _ = ME ++ (ids.take (j + 1)).flatMap idL by rw [HTF.out, List.append_assoc])
        have HP9 := Lib.hid hp9
        clear hp9
        clear hp8 y0 y1
        go_wp2_with fail
        go_roundg (ids.length - (j + 1))
        case measure => rw [Hg.out]; omega
        case rel => exact ⟨j + 1, by go_num, by omega, HP9.out, rfl⟩
      · have hlt' : ¬ (j : Int) < (ids.length : Int) := by omega
        have hp' := hp
        rw [List.take_of_length_le (by omega)] at hp'
        have HPF := Lib.hid hp'
        clear hp'
        clear hp
        go_wp2_with fail
        go_meet
        exact HPF.out
  case rest =>
  have hpi := hcut
  clear hcut
  generalize wc = wi at *
  have hn9 : (ME ++ ids.flatMap idL).length ≤ 9000 := by
    have h1 := HML.out.2
    rw [HLE.out, List.length_append] at h1
    omega
  have K := Lib.hid (H7.out _ _ hpi hn9)
  have hbk := box_keep hpi HBW.out HNS.out
  have x0 : wi.cell? ⟨w.heap.size, 0, none⟩ = some (.int .i64 kind) := cell_at hbk 0
  have x1 : wi.cell? ⟨w.heap.size, 1, none⟩ = some (.int .i64 node) := cell_at hbk 1
  have x2 : wi.cell? ⟨w.heap.size, 2, none⟩ = some (.int .i64 walk) := cell_at hbk 2
  have x3 : wi.cell? ⟨w.heap.size, 3, none⟩ = some (.bool high) := cell_at hbk 3
  have x4 : wi.cell? ⟨w.heap.size, 4, none⟩ = some (.slice n1a nodes.length n1c) := cell_at hbk 4
  have x5 : wi.cell? ⟨w.heap.size, 5, none⟩ = some (.slice i1a ids.length i1c) := cell_at hbk 5
  have x6 : wi.cell? ⟨w.heap.size, 6, none⟩ = some (.slice r1a recs.length r1c) := cell_at hbk 6
  clear hbk
  clear hpi hn9
  go_wp2_with fail
  refine (K.out).mono ?_
  rintro e w9 ⟨rfl, hp9⟩
  have hp9' := hp9.of_eq HLE.out.symm
  clear x0 x1 x2 x3 x4 x5 x6
  have hbk := box_keep hp9' HBW.out HNS.out
  have x0 : w9.cell? ⟨w.heap.size, 0, none⟩ = some (.int .i64 kind) := cell_at hbk 0
  have x1 : w9.cell? ⟨w.heap.size, 1, none⟩ = some (.int .i64 node) := cell_at hbk 1
  have x2 : w9.cell? ⟨w.heap.size, 2, none⟩ = some (.int .i64 walk) := cell_at hbk 2
  have x3 : w9.cell? ⟨w.heap.size, 3, none⟩ = some (.bool high) := cell_at hbk 3
  have x4 : w9.cell? ⟨w.heap.size, 4, none⟩ = some (.slice n1a nodes.length n1c) := cell_at hbk 4
  have x5 : w9.cell? ⟨w.heap.size, 5, none⟩ = some (.slice i1a ids.length i1c) := cell_at hbk 5
  have x6 : w9.cell? ⟨w.heap.size, 6, none⟩ = some (.slice r1a recs.length r1c) := cell_at hbk 6
  clear hbk
  have HP9 := Lib.hid hp9'
  clear hp9'
  clear hp9 K HP7
  go_wp2_with fail
  go_loopg [73] recs.length (fun g v73 wr => ∃ j : Nat, v73 = .int .i64 j ∧ j ≤ recs.length ∧ WPost W wr b base S (LE ++ (recs.take j).flatMap recL) ∧ g = recs.length - j)
  case atStart => exact ⟨0, rfl, Nat.zero_le _, by simpa using HP9.out, rfl⟩
  case round =>
    obtain ⟨j, rfl, hj, hp, hg⟩ := hrel
    have Hg := Lib.hid hg
    clear hg
    clear x0 x1 x2 x3 x4 x5 x6
    by_cases hlt : j < recs.length
    · obtain ⟨bb, off, rfl, hc⟩ := HR.out.at j hlt
      have hcr : ∀ i u, (recC recs[j])[i]? = some u → wr.cell? ⟨bb, off + j * 6 + i, none⟩ = some u := fun i u hu => HKN.out wr _ hp (hc i u hu)
      have hn := HP3.out _ (List.getElem_mem hlt)
      have HTF := Lib.hid (take_flat recL recs j hlt)
      have hl9 : (LE ++ (recs.take j).flatMap recL).length ≤ 7200 := by
        have h1 := HRL.out j
        have h2 := HML.out.2
        have h3 := HU1.out.2.2
        rw [List.length_append]
        rw [List.length_take] at h1
        omega
      generalize recs[j] = z at *
      obtain ⟨k1, v1, o1, a1, g1, d1⟩ := z
      unfold rightR at hn
      simp only [Bool.and_eq_true, decide_eq_true_eq] at hn
      obtain ⟨zk, zd, ⟨zo1, zo2⟩, za1, za2⟩ := hn
      obtain ⟨o1, rfl⟩ : ∃ n : Nat, o1 = n := ⟨o1.toNat, by omega⟩
      obtain ⟨a1, rfl⟩ : ∃ n : Nat, a1 = n := ⟨a1.toNat, by omega⟩
      have y0 := hcr 0 _ rfl
      have y1 := hcr 1 _ rfl
      have y2 := hcr 2 _ rfl
      have y3 := hcr 3 _ rfl
      have y4 := hcr 4 _ rfl
      have y5 := hcr 5 _ rfl
      simp only [Nat.add_zero] at y0
      simp only at y0 y1 y2 y3 y4 y5
      have ho64 := u64_nat o1 (by omega)
      have ha64' := u64_nat a1 (by omega)
      have hlt' : (j : Int) < (recs.length : Int) := by omega
      obtain ⟨P0, hP0⟩ : ∃ P0, P0 = LE ++ (recs.take j).flatMap recL := ⟨_, rfl⟩
      rw [← hP0] at hp hl9
      obtain ⟨V, hV⟩ : ∃ V, V = wr.alloc (.cells #[.string k1, .int .u64 v1, .int .i64 o1, .int .i64 a1, .bool g1, .string d1] 48) := ⟨_, rfl⟩
      have hbV : V.heap[wr.heap.size]? = some (.cells #[.string k1, .int .u64 v1, .int .i64 o1, .int .i64 a1, .bool g1, .string d1] 48 (0, 0)) := by rw [hV]; exact heap_alloc_new wr _
      have hoV : Only (fun _ => False) wr V := by rw [hV]; exact (Only.refl _ _).alloc _
      have hsV : V.heap.size = wr.heap.size + 1 := by rw [hV]; simp
      have HHP := Lib.hid hP0
      have HVE := Lib.hid hV
      have HP := Lib.hid hp
      have HL9 := Lib.hid hl9
      have HZK := Lib.hid zk
      have HZD := Lib.hid zd
      have HBV := Lib.hid hbV
      have HOV := Lib.hid hoV
      clear hp hl9 zk zd hbV hoV
      have hZ := And.intro zo2 za2
      have HZ := Lib.hid hZ
      clear hZ
      clear hc hcr hV hsV hP0 zo1 zo2 za1 za2
      go_upto_region 21 with (fail)
      rw [← HVE.out]
      have s1 := HBV.out
      have c0 : V.cell? ⟨wr.heap.size, 0, none⟩ = some (.string k1) := cell_at s1 0
      have c1 : V.cell? ⟨wr.heap.size, 1, none⟩ = some (.int .u64 v1) := cell_at s1 1
      have c2 : V.cell? ⟨wr.heap.size, 2, none⟩ = some (.int .i64 o1) := cell_at s1 2
      have c3 : V.cell? ⟨wr.heap.size, 3, none⟩ = some (.int .i64 a1) := cell_at s1 3
      have c4 : V.cell? ⟨wr.heap.size, 4, none⟩ = some (.bool g1) := cell_at s1 4
      have c5 : V.cell? ⟨wr.heap.size, 5, none⟩ = some (.string d1) := cell_at s1 5
      have hoz := HOV.out
      have hpz := HP.out.new hoz
      obtain ⟨S2, g1', g2', g3'⟩ := hpz
      have hnv : ¬ S2 wr.heap.size := g2'.at (by decide) (by decide) s1
      have hbz : base ≤ V.heap.size := Nat.le_trans HBS.out g1'.size
      have K1 := Lib.hid (idW (WPost.refl g2') hbz k1 v1 (by have := HZK.out; omega) (by have := HL9.out; omega))
      have K2 := Lib.hid (fun wq l (hp : WPost V wq b base S2 l) (hl : l.length ≤ 9000) => numW hp hbz o1 2 (by omega) (by omega) (by have := HZ.out.1; omega) hl)
      have K3 := Lib.hid (fun wq l (hp : WPost V wq b base S2 l) (hl : l.length ≤ 9000) => numW hp hbz a1 2 (by omega) (by omega) (by have := HZ.out.2; omega) hl)
      have K4 := Lib.hid (fun wq l (hp : WPost V wq b base S2 l) (hl : l.length ≤ 9000) => flagW hp hbz g1 hl)
      have K5 := Lib.hid (fun wq l (hp : WPost V wq b base S2 l) (hl : l.length ≤ 9000) => textW hp hbz d1 (by have := HZD.out; omega) hl)
      have G1 := Lib.hid g1'
      have G3 := Lib.hid g3'
      have HS1 := Lib.hid s1
      have HNV := Lib.hid hnv
      have HOZ := Lib.hid hoz
      clear g1' g3' s1 hnv hoz
      have hsk : (idL (k1, v1)).length ≤ 100 := by rw [idL_len]; have := HZK.out; simp; omega
      have HSK := Lib.hid hsk
      clear hsk
      clear g2' hbz y0 y1 y2 y3 y4 y5
      go_wp2_with fail
      refine (K1.out).mono ?_
      rintro e wa ⟨rfl, hpa⟩
      clear c0 c1 c2 c3 c4 c5
      have hbk := box_keep hpa HS1.out HNV.out
      have c0 : wa.cell? ⟨wr.heap.size, 0, none⟩ = some (.string k1) := cell_at hbk 0
      have c1 : wa.cell? ⟨wr.heap.size, 1, none⟩ = some (.int .u64 v1) := cell_at hbk 1
      have c2 : wa.cell? ⟨wr.heap.size, 2, none⟩ = some (.int .i64 o1) := cell_at hbk 2
      have c3 : wa.cell? ⟨wr.heap.size, 3, none⟩ = some (.int .i64 a1) := cell_at hbk 3
      have c4 : wa.cell? ⟨wr.heap.size, 4, none⟩ = some (.bool g1) := cell_at hbk 4
      have c5 : wa.cell? ⟨wr.heap.size, 5, none⟩ = some (.string d1) := cell_at hbk 5
      clear hbk
      have M2 := Lib.hid (K2.out wa _ hpa (by have h1 := HL9.out; have h2 := HSK.out; rw [List.length_append]; omega))
      clear hpa
      go_wp2_with fail
      refine (M2.out).mono ?_
      rintro e wb ⟨rfl, hpb⟩
      clear c0 c1 c2 c3 c4 c5
      have hbk := box_keep hpb HS1.out HNV.out
      have c0 : wb.cell? ⟨wr.heap.size, 0, none⟩ = some (.string k1) := cell_at hbk 0
      have c1 : wb.cell? ⟨wr.heap.size, 1, none⟩ = some (.int .u64 v1) := cell_at hbk 1
      have c2 : wb.cell? ⟨wr.heap.size, 2, none⟩ = some (.int .i64 o1) := cell_at hbk 2
      have c3 : wb.cell? ⟨wr.heap.size, 3, none⟩ = some (.int .i64 a1) := cell_at hbk 3
      have c4 : wb.cell? ⟨wr.heap.size, 4, none⟩ = some (.bool g1) := cell_at hbk 4
      have c5 : wb.cell? ⟨wr.heap.size, 5, none⟩ = some (.string d1) := cell_at hbk 5
      clear hbk
      have M3 := Lib.hid (K3.out wb _ hpb (by have h1 := HL9.out; have h2 := HSK.out; simp only [List.length_append, beL_len]; omega))
      clear hpb
      go_wp2_with fail
      refine (M3.out).mono ?_
      rintro e wd ⟨rfl, hpd⟩
      clear c0 c1 c2 c3 c4 c5
      have hbk := box_keep hpd HS1.out HNV.out
      have c0 : wd.cell? ⟨wr.heap.size, 0, none⟩ = some (.string k1) := cell_at hbk 0
      have c1 : wd.cell? ⟨wr.heap.size, 1, none⟩ = some (.int .u64 v1) := cell_at hbk 1
      have c2 : wd.cell? ⟨wr.heap.size, 2, none⟩ = some (.int .i64 o1) := cell_at hbk 2
      have c3 : wd.cell? ⟨wr.heap.size, 3, none⟩ = some (.int .i64 a1) := cell_at hbk 3
      have c4 : wd.cell? ⟨wr.heap.size, 4, none⟩ = some (.bool g1) := cell_at hbk 4
      have c5 : wd.cell? ⟨wr.heap.size, 5, none⟩ = some (.string d1) := cell_at hbk 5
      clear hbk
      have M4 := Lib.hid (K4.out wd _ hpd (by have h1 := HL9.out; have h2 := HSK.out; simp only [List.length_append, beL_len]; omega))
      clear hpd
      go_wp2_with fail
      refine (M4.out).mono ?_
      rintro e we ⟨rfl, hpe⟩
      clear c0 c1 c2 c3 c4 c5
      have hbk := box_keep hpe HS1.out HNV.out
      have c0 : we.cell? ⟨wr.heap.size, 0, none⟩ = some (.string k1) := cell_at hbk 0
      have c1 : we.cell? ⟨wr.heap.size, 1, none⟩ = some (.int .u64 v1) := cell_at hbk 1
      have c2 : we.cell? ⟨wr.heap.size, 2, none⟩ = some (.int .i64 o1) := cell_at hbk 2
      have c3 : we.cell? ⟨wr.heap.size, 3, none⟩ = some (.int .i64 a1) := cell_at hbk 3
      have c4 : we.cell? ⟨wr.heap.size, 4, none⟩ = some (.bool g1) := cell_at hbk 4
      have c5 : we.cell? ⟨wr.heap.size, 5, none⟩ = some (.string d1) := cell_at hbk 5
      clear hbk
      have M5 := Lib.hid (K5.out we _ hpe (by have h1 := HL9.out; have h2 := HSK.out; simp only [List.length_append, beL_len, flagL]; omega))
      clear hpe
      go_wp2_with fail
      refine (M5.out).mono ?_
      rintro e wf ⟨rfl, hpf⟩
      have hpg := (WPost.next G1.out G3.out hpf).of_eq (show _ = LE ++ (recs.take (j + 1)).flatMap recL by
        rw [HTF.out, HHP.out]
        unfold recL
        simp only [List.append_assoc, Int.toNat_natCast])
      have HPG := Lib.hid hpg
      clear hpg
      clear hpf c0 c1 c2 c3 c4 c5
      go_wp2_with fail
      go_roundg (recs.length - (j + 1))
      case measure => rw [Hg.out]; omega
      case rel => exact ⟨j + 1, by go_num, by omega, HPG.out, rfl⟩
    · have hlt' : ¬ (j : Int) < (recs.length : Int) := by omega
      have hp' := hp
      rw [List.take_of_length_le (by omega), ← HEN.out] at hp'
      have hF : WPost w wr b base S EN := WPost.next (HOW.out.weaken (fun _ _ => False.elim)) (fun x hx => .inl hx) hp'
      have HPF := Lib.hid hF
      clear hF
      clear hp hp'
      go_wp2_with fail
      go_end0
      exact ⟨rfl, HPF.out⟩
end Go.Proofs.YtjdlcfllmpdffaaGreatDoor
/-! message: Encode: of a message that may be sent and that is not too long. -/
namespace Go.Proofs.YtjdlcfllmpdffaaGreatDoor
open Go.Conc Go.RowKit Go.Maps

theorem encL_pos (m : MsgT) : encL m ≠ [] := fun h => by
  have : (encL m).length = 0 := by rw [h]; rfl
  unfold encL at this
  simp only [List.length_append, beL_len] at this
  omega
theorem size_bytes (l : List UInt8) : (⟨l.toArray⟩ : ByteArray).size = l.length := by show l.toArray.size = _; simp
set_option maxRecDepth 100000 in
set_option maxHeartbeats 1000000 in
theorem mencode_any (w : World) (v : Value) (m : MsgT) (h : MsgIs w v m) (hm : MayM m) (hl : (encL m).length ≤ 4096) :
    Calls Tryz.prog 11 #[v] w fun e w' => e = .returned (.tuple #[.string ⟨(encL m).toArray⟩, .int .i64 0]) ∧ Only (fun _ => False) w w' := by
  have HMY := Lib.hid (fun w' (ho : Only (fun _ => False) w w') => may_yes w' v m (h.new ho) hm)
  have HWR := Lib.hid (fun w' (ho : Only (fun _ => False) w w') (e : ∀ args w, (callFunc 29 args).run Tryz.prog w = .ok (.enter 29 args) w) => writef_ok w' 29 #[v] (encL m) e (encL_pos m) (fun w1 b S ho1 hw hS hsz => mwrite_any w' w1 v m (h.new ho) hm ho1 b w'.heap.size S hw hS hsz))
  have hll : ¬ (4096 : Int) < ((⟨(encL m).toArray⟩ : ByteArray).size : Int) := by rw [size_bytes]; omega
  have hmf : ∀ (fn : Fn) (first cap : Array Value) (w : World), (Instr.makeFunc fn first cap).run Tryz.prog w = .ok (.func fn first cap) w := fun _ _ _ _ => rfl
  generalize (⟨(encL m).toArray⟩ : ByteArray) = EN at *
  obtain ⟨vn, vi, vr, rfl, a1, a2, a3⟩ := h.out
  obtain ⟨kind, node, walk, high, nodes, ids, recs⟩ := m
  simp only at a1 a2 a3 HMY HWR
  obtain ⟨n1a, n1c, rfl, _⟩ := Sl.cells intC_length a1
  obtain ⟨i1a, i1c, rfl, _⟩ := Sl.cells idT_length a2
  obtain ⟨r1a, r1c, rfl, _⟩ := Sl.cells recC_length a3
  obtain ⟨W, hW⟩ : ∃ W, W = w.alloc (.cells #[.int .i64 kind, .int .i64 node, .int .i64 walk, .bool high, .slice n1a nodes.length n1c, .slice i1a ids.length i1c, .slice r1a recs.length r1c] 36) := ⟨_, rfl⟩
  have hbW : W.heap[w.heap.size]? = some (.cells #[.int .i64 kind, .int .i64 node, .int .i64 walk, .bool high, .slice n1a nodes.length n1c, .slice i1a ids.length i1c, .slice r1a recs.length r1c] 36 (0, 0)) := by rw [hW]; exact heap_alloc_new w _
  have hoW : Only (fun _ => False) w W := by rw [hW]; exact (Only.refl _ _).alloc _
  have hsW : W.heap.size = w.heap.size + 1 := by rw [hW]; simp
  have x0 : W.cell? ⟨w.heap.size, 0, none⟩ = some (.int .i64 kind) := cell_at hbW 0
  have x1 : W.cell? ⟨w.heap.size, 1, none⟩ = some (.int .i64 node) := cell_at hbW 1
  have x2 : W.cell? ⟨w.heap.size, 2, none⟩ = some (.int .i64 walk) := cell_at hbW 2
  have x3 : W.cell? ⟨w.heap.size, 3, none⟩ = some (.bool high) := cell_at hbW 3
  have x4 : W.cell? ⟨w.heap.size, 4, none⟩ = some (.slice n1a nodes.length n1c) := cell_at hbW 4
  have x5 : W.cell? ⟨w.heap.size, 5, none⟩ = some (.slice i1a ids.length i1c) := cell_at hbW 5
  have x6 : W.cell? ⟨w.heap.size, 6, none⟩ = some (.slice r1a recs.length r1c) := cell_at hbW 6
  have HW := Lib.hid hW
  have HOW := Lib.hid hoW
  have HBW := Lib.hid hbW
  clear hoW hbW
  clear h a1 a2 a3 hsW hm hl hW
  go_enter Tryz.func11, Tryz.ntmps11
  go_upto_region 1 with (fail)
  rw [← HW.out]
  go_wp2_with fail
  refine (HMY.out _ HOW.out).mono ?_
  rintro e w2 ⟨rfl, ho2⟩
  have hb2 := ho2.old HBW.out id
  have hoA := HOW.out.trans ho2
  clear x0 x1 x2 x3 x4 x5 x6
  have x0 : w2.cell? ⟨w.heap.size, 0, none⟩ = some (.int .i64 kind) := cell_at hb2 0
  have x1 : w2.cell? ⟨w.heap.size, 1, none⟩ = some (.int .i64 node) := cell_at hb2 1
  have x2 : w2.cell? ⟨w.heap.size, 2, none⟩ = some (.int .i64 walk) := cell_at hb2 2
  have x3 : w2.cell? ⟨w.heap.size, 3, none⟩ = some (.bool high) := cell_at hb2 3
  have x4 : w2.cell? ⟨w.heap.size, 4, none⟩ = some (.slice n1a nodes.length n1c) := cell_at hb2 4
  have x5 : w2.cell? ⟨w.heap.size, 5, none⟩ = some (.slice i1a ids.length i1c) := cell_at hb2 5
  have x6 : w2.cell? ⟨w.heap.size, 6, none⟩ = some (.slice r1a recs.length r1c) := cell_at hb2 6
  have HOA := Lib.hid hoA
  clear hoA
  clear ho2 hb2 HMY
  go_wp2_with fail
  refine (HWR.out _ HOA.out (fun _ _ => by go_simp)).mono ?_
  rintro e w3 ⟨rfl, ho3⟩
  have hoB := HOA.out.trans ho3
  have HOB := Lib.hid hoB
  clear hoB
  clear ho3 HWR x0 x1 x2 x3 x4 x5 x6
  go_wp2_with fail
  go_ret2
  exact ⟨rfl, HOB.out⟩
end Go.Proofs.YtjdlcfllmpdffaaGreatDoor
