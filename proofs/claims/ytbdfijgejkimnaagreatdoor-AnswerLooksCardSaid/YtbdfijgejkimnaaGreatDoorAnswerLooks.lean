/- AnswerLooks is true of every input: of a store of any records, to a name in whatever letters and of any type, the records that answer it and whether it is known are those of the reference; the same in small letters; of no store nothing. No condition; the package variables that it names are tied to the text. -/
import Derived.Test.YtbdfijgejkimnaaGreatDoorNI
import Derived.Test.YtbdfijgejkimnaaGreatDoorNN
import Derived.Test.YtbdfijgejkimnaaGreatDoorNP
import Derived.Test.YtbdfijgejkimnaaGreatDoorNF
import Derived.Test.YtbdfijgejkimnaaGreatDoorNQ
import Derived.ChangeMaps5
import Derived.Test.YtbdfijgejkimnaaGreatDoorCards
import Derived.Test.YtbdfijgejkimnaaGreatDoorTie
/-! What the Answer laws share: bounds of made (the same as in Lw5, Rf2, Rf5: never imported beside those). -/
namespace Go.Proofs.YtbdfijgejkimnaaGreatDoor
open Go.Conc Go.RowKit Go.Maps

theorem mem_ins_or {x y : RecT} : ∀ {L : List RecT}, y ∈ insS x L → y = x ∨ y ∈ L
  | [], h => by simp [insS] at h; exact .inl h
  | z :: L, h => by
    unfold insS at h
    split at h
    · rcases List.mem_cons.1 h with h | h
      · exact .inl h
      · exact .inr (List.mem_cons_of_mem _ h)
    · split at h
      · rcases List.mem_cons.1 h with h | h
        · exact .inl h
        · exact .inr h
      · rcases List.mem_cons.1 h with h | h
        · exact .inr (by rw [h]; exact List.mem_cons_self)
        · rcases mem_ins_or h with h | h
          · exact .inl h
          · exact .inr (List.mem_cons_of_mem _ h)
theorem made_bd (l : List RecB) : ∀ k, ∀ x ∈ made25 l k, x.ver < 2 ^ 64 := by
  intro k
  unfold made25
  generalize l.take k = t
  have : ∀ (M : List RecT) (A : List RecB), (∀ x ∈ M, x.ver < 2 ^ 64) → ∀ x ∈ (A.map rec25).foldl (putS 48 100) M, x.ver < 2 ^ 64 := by
    intro M A
    induction A generalizing M with
    | nil => intro h; exact h
    | cons a A ih =>
      intro h
      rw [List.map_cons, List.foldl_cons]
      refine ih _ (fun x hx => ?_)
      unfold putS at hx
      split at hx
      · rcases mem_ins_or hx with rfl | hx
        · exact (rec25_bd a).1
        · exact h x hx
      · exact h x hx
  exact this [] t (fun x hx => by cases hx)
theorem tell_of {ttl : Int} {x : RecT} (hg : goodR x = true ∧ x.age < ttl) (hv : x.ver < 2 ^ 64) (h : x.gone = false) : TellOk ttl x := ⟨hg.1, h, hg.2, hv⟩
theorem head_bytes (m : ByteArray) : (headD m).resp = decide (128 ≤ bA m 2) ∧ (headD m).op = bA m 2 / 8 % 16 := by
  have h2 := bA_lt m 2
  have h3 := bA_lt m 3
  constructor
  · show decide (gA m 2 / 32768 % 2 = 1) = _
    rw [Bool.eq_iff_iff, decide_eq_true_iff, decide_eq_true_iff]
    show (bA m 2 * 256 + bA m 3) / 32768 % 2 = 1 ↔ _
    omega
  · show (bA m 2 * 256 + bA m 3) / 2048 % 16 = _
    omega
theorem fin_facts {ttl : Int} {L : List RecT} (q : QT) (code : Nat) (hc : code ≤ 15) (hask : code = 0 → q.asked = true) (ht : ttl ≤ 65535) (hl : L.length ≤ 48) (hL : ∀ x ∈ L, x.gone = false → TellOk ttl x) (hn : ∀ x ∈ L, 1 ≤ x.o ∧ x.o ≤ 65535) :
    (∀ r ∈ (finL ttl L (q, code)).1, RROk r) ∧ (finL ttl L (q, code)).1.length ≤ 1000 ∧ (finL ttl L (q, code)).2 ≤ 15 ∧ (q.asked = true ∨ (finL ttl L (q, code)).1 = []) := by
  unfold finL
  dsimp only
  by_cases h : code = 0
  · rw [if_pos h]
    refine ⟨look_ok ht hL hn, ?_, ?_, .inl (hask h)⟩
    · have := look_len ttl L (q.name.map foldS) q.typ
      dsimp only
      omega
    · dsimp only
      split <;> omega
  · rw [if_neg h]
    refine ⟨fun r hr => ?_, Nat.zero_le _, hc, .inr rfl⟩
    cases hr
end Go.Proofs.YtbdfijgejkimnaaGreatDoor
/-! AnswerLooks: the walk. -/
namespace Go.Proofs.YtbdfijgejkimnaaGreatDoor
open Go.Conc Go.RowKit Go.Maps

/-- A name's label as the law cuts it. -/
def cut64 (s : ByteArray) : ByteArray := s.extract 0 (min s.size 64)
theorem cut64_size (s : ByteArray) : (cut64 s).size ≤ 64 := by unfold cut64; rw [ByteArray.size_extract]; omega
def allL (N : List ByteArray) (k : Nat) : List ByteArray := (N.take k).map cut64
theorem allL_snoc (N : List ByteArray) (k : Nat) (hk : k < N.length) : allL N (k + 1) = allL N k ++ [cut64 N[k]] := by
  unfold allL
  rw [List.take_add_one, List.getElem?_eq_getElem hk, List.map_append]
  rfl
theorem allL_len (N : List ByteArray) (k : Nat) (hk : k ≤ N.length) : (allL N k).length = k := by unfold allL; simp; omega
theorem allL_end {N : List ByteArray} {k : Nat} (hk : k ≤ N.length) (hk2 : k ≤ 6) (h : ¬ (k < N.length ∧ k < 6)) : allL N k = allL N 6 := by
  unfold allL
  rcases (by omega : k = N.length ∨ k = 6) with e | e
  · rw [e, List.take_length, List.take_of_length_le (by omega)]
  · rw [e]
theorem foldU_idem (b : UInt8) : foldU (foldU b) = foldU b := by
  by_cases h : 65 ≤ b.toNat ∧ b.toNat ≤ 90
  · have e : foldU b = UInt8.ofNat (b.toNat + 32) := by unfold foldU; rw [if_pos h]
    have e2 : (UInt8.ofNat (b.toNat + 32)).toNat = b.toNat + 32 := by rw [UInt8.toNat_ofNat']; omega
    rw [e]
    unfold foldU
    rw [if_neg (by rw [e2]; omega)]
  · have e : foldU b = b := by unfold foldU; rw [if_neg h]
    rw [e, e]
theorem foldS_idem (s : ByteArray) : foldS (foldS s) = foldS s := by
  apply str_ext
  rw [foldS_data, foldS_data, List.map_map]
  exact List.map_congr_left (fun b _ => foldU_idem b)
theorem exec_load_cells {P : Program} {o : Oper} {ev : Operand → Value} {w : World} (ty : TypeId) (x : Operand) (ho : o.op = .load ty x) (a : Addr) (hx : ev x = .pointer (some a)) (cs : List Value) (d : TypeDesc)
    (hu : P.underlying ty = some d) (hd : (match d with | .struct _ | .array _ _ => true | _ => false) = true) (hi : (P.info? ty).map (·.size) = some cs.length) (hc : ∀ j v, cs[j]? = some v → w.cell? (a.add j) = some v) :
    (execOp ev o).run P w = .ok (.value (.agg cs.toArray)) w := by
  have hl := run_loadCells_list (P := P) w a cs hc
  have hlv : (loadVar ty a).run P w = .ok (.agg cs.toArray) w := by
    cases hq : P.info? ty with
    | none => simp [hq] at hi
    | some i =>
      have hs : i.size = cs.length := by simpa [hq] using hi
      have hagg : (isAgg ty).run P w = .ok true w := by
        unfold isAgg
        rw [Sem.run_bind, run_underlying hu w]
        cases d <;> simp_all
      simp [loadVar, Sem.run_bind, hagg, sizeOf, typeInfo, hq, hs, hl]
  unfold execOp
  simp only [ho, hx, Instr.loadAt, Instr.sureAddr, Sem.run_bind, Sem.run_pure, Result.andThen_ok, hlv]
theorem neArr (w : World) (x y z u : Nat) : (binOp BinOp.neq 44 (.agg #[.int .u8 x, .int .u8 y, .int .u8 z, .int .u8 u]) (.agg #[.int .u8 x, .int .u8 y, .int .u8 z, .int .u8 u])).run Tryz.prog w = .ok (.bool false) w := by
  have hc : Tryz.prog.cellsOf 5 = 1 := by kernel_rfl
  have hsz : ∀ w, (Go.sizeOf 5).run Tryz.prog w = .ok 1 w := fun w => by kernel_rfl
  have info : (Tryz.prog.info? 5).map (fun i => (i.zero, i.size, i.bytes)) = some (some (.int .u8 0), 1, 1) := by kernel_rfl
  obtain ⟨i, hi, _⟩ := info_parts info
  rw [run_neq_struct, run_equalIn_array (P := Tryz.prog) w 9999 _ _ Tryz.underlying44 hi]
  simp [Op.eqItems, List.range, List.range.loop, hc, part, hsz, go_sem]
theorem infoRr24 (x : RRv) : (Tryz.prog.info? 48).map (·.size) = some (rr24C x).toArray.size := by kernel_rfl
/-- The two records that are held against each other, in blocks. -/
def RecsAt (W wx : World) (v u : Value) (e f : RRv) : Prop := ∃ B C, v = .pointer (some ⟨B, 0, none⟩) ∧ u = .pointer (some ⟨C, 0, none⟩) ∧ wx.heap[B]? = some (.cells (rrC e).toArray 46 (0, 0)) ∧ wx.heap[C]? = some (.cells (rr24C f).toArray 48 (0, 0)) ∧ Only (fun _ => False) W wx
/-- The two lists of labels that the law makes. -/
structure TwoRows (w : World) (base : Nat) (v u : Value) (A : List ByteArray) : Prop where
  all : w.ownsRow base 9 1 v A.length (A.map .string)
  fold : w.ownsRow base 9 1 u A.length ((A.map foldS).map .string)
  apart : Apart v u
set_option maxRecDepth 100000 in
set_option maxHeartbeats 4000000 in
theorem looks25_any (w : World) (m : Int) (hE : EnvW w m) (v : Value) (l : List RecB) (vn : Value) (N : List ByteArray) (typ : Nat) (hl : Sl w 6 v l.length (l.flatMap recBC)) (hb : ∀ a ∈ l, rowB a) (hN : Sl w 1 vn N.length (N.map .string)) (hNs : ∀ s ∈ N, s.size ≤ maxLen) (ht : typ < 65536) :
    Calls Tryz.prog 4 #[v, vn, .int .u16 typ] w fun e w' => e = .returned (.bool true) ∧ Only (fun _ => False) w w' := by
  obtain ⟨i0, hi0, hz0, hz1, hz2⟩ := info_parts infoStr25
  have hsp := speaks25_any w m hE
  have hmade := fun W (ho : Only (fun _ => False) w W) => made25_any W m (hE.new ho).max v l (hl.new ho) hb
  obtain ⟨_, va, vc, rfl, _⟩ := id hl
  obtain ⟨_, na, nc, rfl, hnc1, hnc2, hnn⟩ := id hN
  unfold maxLen at hnc2
  have HSP := Lib.hid hsp
  have HMADE := Lib.hid hmade
  have HE := Lib.hid hE
  have HN := Lib.hid hN
  have HNN := Lib.hid hnn
  have HNS := Lib.hid hNs
  clear hsp hmade hE hN hnn hNs
  clear hl
  go_enter Tryz.func4, Tryz.ntmps4
  go_wp2_with fail
  refine HSP.out.mono ?_
  rintro e w1 ⟨rfl, ho1⟩
  have HO1 := Lib.hid ho1
  clear ho1
  go_wp2_with fail
  refine (HMADE.out w1 HO1.out).mono ?_
  rintro e w2 ⟨s, b, r, r', v2, rfl, ho2, hs2, hb2, hst2, hr1, hr2, hr3, hr4, hsl2⟩
  obtain ⟨p2, c2, rfl, _⟩ := Sl.cells recC_length hsl2
  unfold rstV
  obtain ⟨W3, hW3⟩ : ∃ W3, W3 = w2.alloc (.cells #[.int .i64 48, .int .i64 100, .slice p2 (made25 l 50).length c2, .int .i64 r'] 27) := ⟨_, rfl⟩
  have hbW3 : W3.heap[w2.heap.size]? = some (.cells #[.int .i64 48, .int .i64 100, .slice p2 (made25 l 50).length c2, .int .i64 r'] 27 (0, 0)) := by rw [hW3]; exact heap_alloc_new w2 _
  have hoW3 : Only (fun _ => False) w2 W3 := by rw [hW3]; exact (Only.refl _ _).alloc _
  have hsW3 : W3.heap.size = w2.heap.size + 1 := by rw [hW3]; simp
  have HO3 := Lib.hid ((HO1.out.trans ho2).trans hoW3)
  have HE3 := Lib.hid (HE.out.new HO3.out)
  have HSE := Lib.hid (sees_store (hst2.new hoW3) HE3.out.max (made_bd l 50))
  have HOKS := Lib.hid hst2.ok
  have HRS := Lib.hid (hsl2.new hoW3)
  have HVR := Lib.hid (made_bd l 50)
  have HB3 := Lib.hid hbW3
  have HBL := Lib.hid (show w2.heap.size < W3.heap.size by omega)
  clear ho2 hs2 hb2 hst2 hr1 hr2 hr3 hr4 hsl2 hoW3 hsW3 hbW3 HSP HMADE HE
  generalize made25 l 50 = L at *
  go_upto_region 5 with (fail)
  rw [← hW3]
  clear hW3
  generalize w2.heap.size = P at *
  go_upto_block 0 with fail
  go_cut [9, 10] (fun v9 v10 wx => Only (fun _ => False) W3 wx ∧ TwoRows wx W3.heap.size v9 v10 (allL N 6))
  case first =>
    go_wp2_with fail
    go_loopg [9, 10, 11] 6 (fun g v9 v10 v11 wr => ∃ k : Nat, v11 = .int .i64 k ∧ k ≤ N.length ∧ k ≤ 6 ∧ Only (fun _ => False) W3 wr ∧ TwoRows wr W3.heap.size v9 v10 (allL N k) ∧ g = 6 - k)
    case atStart => exact ⟨0, rfl, Nat.zero_le _, Nat.zero_le _, Only.refl _ _, ⟨World.ownsRow_nil _ _ _ _, World.ownsRow_nil _ _ _ _, Apart.nil _⟩, rfl⟩
    case round =>
      obtain ⟨k, rfl, hk, hk6, ho, ⟨hA, hF, hap⟩, hg⟩ := hrel
      have Hg := Lib.hid hg
      have HO := Lib.hid ho
      clear hg ho
      by_cases hlt : k < N.length ∧ k < 6
      · -- round
        obtain ⟨hlt, hlt6⟩ := hlt
        obtain ⟨nb, noff, rfl, hcn⟩ := HNN.out.resolve_left (by omega)
        have hck : wr.cell? ⟨nb, noff + k, none⟩ = some (.string N[k]) := (HO3.out.trans HO.out).cell (hcn k _ (by simp [hlt])) id
        have hsz := HNS.out _ (List.getElem_mem hlt)
        have HSN := Lib.hid (allL_snoc N k hlt)
        have hal := allL_len N k hk
        have hc6 := cut64_size N[k]
        have hcu : cut64 N[k] = N[k].extract 0 (min N[k].size 64) := rfl
        unfold maxLen at hsz
        generalize N[k] = x at *
        generalize allL N k = A at *
        obtain ⟨_, a9, c9, rfl, _⟩ := id (Sl.of_owns hA)
        obtain ⟨_, a10, c10, rfl, _⟩ := id (Sl.of_owns hF)
        have hm1 : (0 : Int) ≤ min (x.size : Int) 64 := by omega
        have hm2 : min (x.size : Int) 64 ≤ (x.size : Int) := by omega
        have hlt' : (k : Int) < (N.length : Int) := by omega
        have hlt6' : (k : Int) < 6 := by omega
        have HA := Lib.hid hA
        have HF := Lib.hid hF
        have HAP := Lib.hid hap
        have HAL := Lib.hid hal
        have HC6 := Lib.hid hc6
        have HCU := Lib.hid hcu
        clear hA hF hap hal hc6 hcu
        have HY := Lib.hid (show x.extract 0 (min (x.size : Int) 64).toNat = cut64 x by rw [HCU.out, show (min (x.size : Int) 64).toNat = min x.size 64 by omega])
        go_upto_region 8 with (fail)
        go_cut [9] (fun v9 wx => Only (fun _ => False) W3 wx ∧ wx.ownsRow W3.heap.size 9 1 v9 (A.length + 1) (A.map .string ++ [.string (cut64 x)]) ∧ wx.ownsRow W3.heap.size 9 1 (.slice a10 A.length c10) A.length ((A.map foldS).map .string) ∧ Apart v9 (.slice a10 A.length c10))
        case first =>
          go_region_law (refine stepAppend rfl (.tmp 40) (.tmp 52) 34 34 rfl W3.heap.size 9 i0 _ 1 16 Tryz.underlying34 hi0 hz0 hz1 hz2 rfl (.slice a9 A.length c9) A.length (A.map .string) rfl (ownsAl (ownsDr HA.out) _) _ 1 [.string (x.extract 0 (min (x.size : Int) 64).toNat)] rfl (Src.ofSlice _ Tryz.underlying34 _ _ _ _ rfl (news_new _ _ _) (str_one [x.extract 0 (min (x.size : Int) 64).toNat])) (by have := HAL.out; unfold maxLen; omega) (by have := HAL.out; omega) (by have := HO.out.size; simp; omega) ?_
                         intro v5 w5 own5 gr5 hv5)
          all_goals
            go_wp2_with fail
            go_meet
            have hon : Only (fun _ => False) W3 (wr.drew.alloc (.cells #[.string (x.extract 0 (min (x.size : Int) 64).toNat)] 9)) := (HO.out.drew).alloc _
            rw [← HY.out]
            refine ⟨Only.grown hon gr5 (fun j e => .inl (HA.out.lt j e).1), own5, HAP.out.kept (ownsAl (ownsDr HF.out) _) gr5, HAP.out.next (ownsAl (ownsDr HF.out) _) hv5⟩
        case rest =>
        rename World => w5
        obtain ⟨ho5, own5, hF5, hap5⟩ := hcut
        obtain ⟨_, a5, c5, rfl, hq1, hq2, hqn⟩ := id (Sl.of_owns own5)
        obtain ⟨qb, qo, rfl, hcq⟩ := hqn.resolve_left (by omega)
        have hcy : w5.cell? ⟨qb, qo + k, none⟩ = some (.string (cut64 x)) := hcq k _ (by rw [← HAL.out, List.getElem?_append_right (by simp)]; simp)
        have hfo := fun W => rfold_any W (cut64 x) (by have := HC6.out; omega)
        have hk9 : (k : Int) < (A.length : Int) + 1 := by have := HAL.out; omega
        have hk9' : k < A.length + 1 := by have := HAL.out; omega
        have HO5 := Lib.hid ho5
        have HA5 := Lib.hid own5
        have HF5 := Lib.hid hF5
        have HAP5 := Lib.hid hap5
        have HFO := Lib.hid hfo
        clear ho5 own5 hF5 hap5 hfo
        clear hq1 hq2 hqn hcq hck hm1 hm2 hsz
        generalize cut64 x = y at *
        go_wp2_with fail
        refine (HFO.out _).mono ?_
        rintro e w6 ⟨rfl, ho6⟩
        have HO6 := Lib.hid (HO5.out.trans ho6)
        have HA6 := Lib.hid (owns_kept HA5.out ho6 (fun _ _ => id))
        have HF6 := Lib.hid (owns_kept HF5.out ho6 (fun _ _ => id))
        have HS6 := Lib.hid HO6.out.size
        clear ho6 hcy
        go_wp2_with (at_builtin; refine Wait.mk ?_)
        refine Wait.go (wpList_append_src _ rfl _ _ 34 34 rfl W3.heap.size 9 i0 _ 1 16 Tryz.underlying34 hi0 hz0 hz1 hz2 rfl (.slice a10 A.length c10) A.length ((A.map foldS).map .string) rfl (HF6.out.alloc _) _ 1 [.string (foldS y)] rfl (Src.ofSlice _ Tryz.underlying34 _ _ _ _ rfl (news_new _ _ _) (str_one [foldS y])) (by have := HAL.out; unfold maxLen; omega) (by have := HAL.out; omega) (by have := HS6.out; simp; omega) ?_)
        intro v7 w7 own7 gr7 hv7
        have hap6 : Apart (.slice a10 A.length c10) (.slice (some ⟨qb, qo, none⟩) (A.length + 1) c5) := HAP5.out.symm
        have hAk := hap6.kept (HA6.out.alloc _) gr7
        have hApk := hap6.next (HA6.out.alloc _) hv7
        have hok := Only.grown (HO6.out.alloc _) gr7 (fun j e => .inl (HF6.out.lt j e).1)
        have HAK := Lib.hid hAk
        have HAPK := Lib.hid hApk
        have HOK7 := Lib.hid hok
        have HF7 := Lib.hid own7
        clear hAk hApk hok own7
        clear gr7 hv7 hap6
        go_wp2_with fail
        go_roundg (6 - (k + 1))
        case measure => rw [Hg.out]; omega
        case rel =>
          refine ⟨k + 1, by go_num, by omega, by omega, HOK7.out, ?_, rfl⟩
          rw [HSN.out]
          refine ⟨?_, ?_, HAPK.out.symm⟩
          · have h := HAK.out
            rw [List.length_append, List.map_append]
            exact h
          · have h := HF7.out
            rw [List.length_append, List.map_append, List.map_append]
            exact h
      · have HEQ := Lib.hid (allL_end hk hk6 hlt)
        rcases (by omega : (¬ (k : Int) < (N.length : Int)) ∨ ((k : Int) < (N.length : Int) ∧ ¬ (k : Int) < 6)) with e1 | ⟨e1, e2⟩
        all_goals
          clear hlt
          go_wp2_with fail
          go_meet
          exact ⟨HO.out, by rw [← HEQ.out]; exact ⟨hA, hF, hap⟩⟩
  case rest =>
  rename World => w4
  obtain ⟨ho4, hA, hF, _⟩ := hcut
  obtain ⟨A, hAA⟩ : ∃ A, A = allL N 6 := ⟨_, rfl⟩
  have hAl : A.length ≤ 1000 := by rw [hAA]; unfold allL; rw [List.length_map, List.length_take]; omega
  have hAs : ∀ s ∈ A, s.size ≤ 90 := by
    intro s hs
    rw [hAA] at hs
    unfold allL at hs
    obtain ⟨z, _, rfl⟩ := List.mem_map.1 hs
    have := cut64_size z
    omega
  rw [← hAA] at hA hF
  obtain ⟨_, a9, c9, rfl, _⟩ := id (Sl.of_owns hA)
  obtain ⟨_, a10, c10, rfl, _⟩ := id (Sl.of_owns hF)
  have HO4 := Lib.hid (HO3.out.trans ho4)
  have HE4 := Lib.hid (HE3.out.new ho4)
  have HS4 := Lib.hid (HSE.out.new ho4)
  have HR4 := Lib.hid (HRS.out.new ho4)
  have HB4 := Lib.hid (ho4.old HB3.out id)
  have HSA := Lib.hid (Sl.of_owns hA)
  have HSF := Lib.hid (Sl.of_owns hF)
  have HAL := Lib.hid hAl
  have HAS := Lib.hid hAs
  clear hAl hAs
  clear ho4 hA hF hAA HE3 HSE HRS HB3 HO3
  have hlk := lookup_any w4 m 100 (.pointer (some ⟨s, 0, none⟩)) (.slice a9 A.length c9) L A typ HE4.out HS4.out ⟨_, rfl⟩ HSA.out HAL.out HAS.out
  have hrl := fun W ho => rlookup_any W 48 100 r' (.slice p2 L.length c2) (.slice a9 A.length c9) L A typ (HR4.out.new ho) HOKS.out.len (by decide) (fun x hx hg => tell_of (HOKS.out.goods x hx) (HVR.out x hx) hg) (fun x hx => (HOKS.out.goods x hx).1) (HSA.out.new ho) HAL.out HAS.out ht
  have hff : (A.map foldS).map foldS = A.map foldS := by
    rw [List.map_map]
    exact List.map_congr_left (fun s _ => foldS_idem s)
  have hlf := fun W ho => lookup_any W m 100 (.pointer (some ⟨s, 0, none⟩)) (.slice a10 A.length c10) L (A.map foldS) typ (HE4.out.new ho) (HS4.out.new ho) ⟨_, rfl⟩ (by have h := HSF.out.new ho; rw [List.length_map]; exact h) (by rw [List.length_map]; exact HAL.out) (by
    intro s hs
    obtain ⟨z, hz, rfl⟩ := List.mem_map.1 hs
    rw [foldS_size]
    exact HAS.out z hz)
  have hln := fun W ho => lookup_any W m 0 (.pointer none) (.slice a9 A.length c9) [] A typ (HE4.out.new ho) (sees_nil W) ⟨_, rfl⟩ (HSA.out.new ho) HAL.out HAS.out
  rw [hff] at hlf
  rw [held_nil] at hln
  have hlM := look_len 100 L (A.map foldS) typ
  have HTY := Lib.hid (show ∀ x ∈ lookM 100 L (A.map foldS) typ, x.typ < 65536 from fun x hx => by have h := (look_ok (by decide) HS4.out.tell HS4.out.node x hx).typ; omega)
  have hLl := HOKS.out.len
  generalize lookM 100 L (A.map foldS) typ = M at *
  generalize lookM 0 [] (A.map foldS) typ = M0 at *
  obtain ⟨kn, hkn⟩ : ∃ kn, kn = decide (heldM L (A.map foldS) ≠ []) := ⟨_, rfl⟩
  rw [← hkn] at hlk hrl hlf
  rw [show decide (([] : List RecT) ≠ []) = false by simp] at hln
  unfold rstV at hrl
  have hMl : M.length ≤ 48 := by omega
  have HLK := Lib.hid hlk
  have HRL := Lib.hid hrl
  have HLF := Lib.hid hlf
  have HLN := Lib.hid hln
  clear hlk hrl hlf hln
  clear hff hlM hLl hkn
  go_wp2_with fail
  refine HLK.out.mono ?_
  rintro e w5 ⟨v5, E5, rfl, ho5, hrow5, hmap5⟩
  have HO5 := Lib.hid (HO4.out.trans ho5)
  have hE5 : E5.length = M.length := by rw [← hmap5, List.length_map]
  obtain ⟨a5, c5, rfl, k1, k2, k3⟩ := Sl.cells rrC_length (Sl.of_owns hrow5.row)
  have hb5 := ho5.old HB4.out id
  have x0 : w5.cell? ⟨P, 0, none⟩ = some (.int .i64 48) := cell_at hb5 0
  have x1 : w5.cell? ⟨P, 1, none⟩ = some (.int .i64 100) := cell_at hb5 1
  have x2 : w5.cell? ⟨P, 2, none⟩ = some (.slice p2 L.length c2) := cell_at hb5 2
  have x3 : w5.cell? ⟨P, 3, none⟩ = some (.int .i64 r') := cell_at hb5 3
  have hwt : IntKind.i64.wrap (typ : Int) = typ := IntWalk.i64_in _ (by omega)
  have HO45 := Lib.hid ho5
  have HROW5 := Lib.hid hrow5
  have HMAP5 := Lib.hid hmap5
  have HE5 := Lib.hid hE5
  have HC5 := Lib.hid k3
  clear ho5 hrow5 hmap5 hE5 k3
  clear hb5
  go_wp2_with fail
  refine (HRL.out _ HO45.out).mono ?_
  rintro e w6 ⟨v6, E6, rfl, ho6, hrow6, hmap6⟩
  have HO6 := Lib.hid (HO5.out.trans ho6)
  have hE6 : E6.length = M.length := by rw [← hmap6, List.length_map]
  obtain ⟨a6, c6, rfl, l1, l2, l3⟩ := Sl.cells rr24C_length (Sl.of_owns hrow6.row)
  have HO46 := Lib.hid (HO45.out.trans ho6)
  have HROW5' := Lib.hid (HROW5.out.new ho6)
  have HC5' := Lib.hid (HC5.out.new ho6 (fun _ _ _ => id))
  have HROW6 := Lib.hid hrow6
  have HMAP6 := Lib.hid hmap6
  have HE6 := Lib.hid hE6
  have HC6 := Lib.hid l3
  clear hrow6 hmap6 hE6 l3
  clear ho6 x0 x1 x2 x3
  have hel : ((E5.length : Int) != (E6.length : Int)) = false := by rw [HE5.out, HE6.out]; simp
  go_upto_region 14 with (fail)
  clear hel
  go_upto_block 2 with fail
  go_cut [16] (fun _ wx => Only (fun _ => False) w6 wx)
  case first =>
    go_wp2_with fail
    go_loopg [16] M.length (fun g v16 wr => ∃ k : Nat, v16 = .int .i64 k ∧ k ≤ M.length ∧ Only (fun _ => False) w6 wr ∧ g = M.length - k)
    case atStart => exact ⟨0, rfl, Nat.zero_le _, Only.refl _ _, rfl⟩
    case round =>
      obtain ⟨k, rfl, hk, ho, hg⟩ := hrel
      have Hg := Lib.hid hg
      have HO := Lib.hid ho
      clear hg ho
      by_cases hlt : k < M.length
      · -- recround
        have hk6 : k < E6.length := by have := HE6.out; omega
        have hlt5 : (k : Int) < (E5.length : Int) := by have := HE5.out; omega
        have hlt6 : (k : Int) < (E6.length : Int) := by omega
        have hk5 : k < E5.length := by have := HE5.out; omega
        obtain ⟨b5, o5, rfl, hc5⟩ := HC5'.out.at k hk5
        obtain ⟨b6, o6, rfl, hc6⟩ := HC6.out.at k hk6
        have hx5 : E5[k].r = E6[k].r := by
          have e1 : (E5.map (·.r))[k]'(by rw [List.length_map]; exact hk5) = E5[k].r := by simp
          have e2 : (E6.map (·.r))[k]'(by rw [List.length_map]; exact hk6) = E6[k].r := by simp
          rw [← e1, ← e2]
          congr 1
          rw [HMAP5.out, HMAP6.out]
        have HIN := Lib.hid (show E5[k].r ∈ M by rw [← HMAP5.out]; exact List.mem_map_of_mem (List.getElem_mem hk5))
        have ht5 := HROW5'.out.tgt _ (List.getElem_mem hk5)
        have ht6 := HROW6.out.tgt _ (List.getElem_mem hk6)
        have hone5 := rrC_one ht5
        have hone6 := rr24C_one ht6
        generalize E5[k] = x5 at *
        generalize E6[k] = x6 at *
        have HF5 := Lib.hid (fun (W : World) (h : Only (fun _ => False) wr W) => show ∀ j v, (rrC x5)[j]? = some v → W.cell? ((⟨b5, o5 + k * 10, none⟩ : Addr).add j) = some v from fun j v hv => by rw [Addr.add_lit]; exact h.cell (HO.out.cell (hc5 j v hv) id) id)
        have HF6 := Lib.hid (fun (W : World) (h : Only (fun _ => False) wr W) => show ∀ j v, (rr24C x6)[j]? = some v → W.cell? ((⟨b6, o6 + k * 10, none⟩ : Addr).add j) = some v from fun j v hv => by rw [Addr.add_lit]; exact h.cell (HO.out.cell (hc6 j v hv) id) id)
        have h1a : (rrC x5).toArray.all (·.oneCell') = true := by rw [List.all_toArray, List.all_eq_true]; exact hone5
        have h1b : (rr24C x6).toArray.all (·.oneCell') = true := by rw [List.all_toArray, List.all_eq_true]; exact hone6
        have HX5 := Lib.hid hx5
        have HT5 := Lib.hid ht5
        have HT6 := Lib.hid ht6
        have H1A := Lib.hid h1a
        have H1B := Lib.hid h1b
        clear hx5 ht5 ht6 h1a h1b
        clear hc5 hc6 hone5 hone6
        go_upto_region 17 with (fail)
        go_cut [17, 18] (fun v u wx => RecsAt wr wx v u x5 x6)
        case first =>
          refine wp_region_held_drew (S := fun w' => Only (fun _ => False) wr w') (by kernel_rfl) ((Only.refl _ _).drew) (fun hHeld => ?_)
          refine wpAnyH_takeD (d := some 93) (i := 0) (oi := _) (v := ?sv0) rfl (by kernel_rfl) (by kernel_rfl) (by kernel_rfl) (by kernel_rfl) (fun _ _ _ h => h) (Or.inl ⟨by rfl, ?sy0⟩) hHeld ?sr0
          case sy0 =>
            intro w hSw
            clear hSw
            go_simp
            try with_reducible rfl
          refine wpAnyH_act (a' := ?sn0) ?se0 ?st0
          case se0 =>
            try simp [Act.put]
            try rfl
          refine wpAnyH_takeD (d := some 94) (i := 1) (oi := _) (v := ?sv1) rfl (by kernel_rfl) (by kernel_rfl) (by kernel_rfl) (by kernel_rfl) (fun _ _ _ h => h) (Or.inl ⟨by rfl, ?sy1⟩) hHeld ?sr1
          case sy1 =>
            intro w hSw
            clear hSw
            go_simp
            try with_reducible rfl
          refine wpAnyH_act (a' := ?sn1) ?se1 ?st1
          case se1 =>
            try simp [Act.put]
            try rfl
          refine wpAnyH_takeD (d := some 95) (i := 2) (oi := _) (v := ?sv2) rfl (by kernel_rfl) (by kernel_rfl) (by kernel_rfl) (by kernel_rfl) (fun _ _ _ h => h) (Or.inl ⟨by rfl, ?sy2⟩) hHeld ?sr2
          case sy2 =>
            intro w hSw
            clear hSw
            go_simp
            try with_reducible rfl
          refine wpAnyH_act (a' := ?sn2) ?se2 ?st2
          case se2 =>
            try simp [Act.put]
            try rfl
          refine wpAnyH_takeD (d := some 96) (i := 3) (oi := _) (v := .agg (rrC x5).toArray) rfl (by kernel_rfl) (by kernel_rfl) (by kernel_rfl) (by kernel_rfl) (fun _ _ _ h => h) (Or.inl ⟨by rfl, fun w hSw => exec_load_cells 46 (.tmp 95) rfl ⟨b5, o5 + k * 10, none⟩ rfl (rrC x5) _ Tryz.underlying46 rfl (infoRr x5) (HF5.out w hSw)⟩) hHeld ?sr3
          refine wpAnyH_act (a' := ?sn3) ?se3 ?st3
          case se3 =>
            try simp [Act.put]
            try rfl
          refine wpAnyH_takeD (d := some 97) (i := 4) (oi := _) (v := ?sv4) rfl (by kernel_rfl) (by kernel_rfl) (by kernel_rfl) (by kernel_rfl) (fun _ _ _ h => h) (Or.inl ⟨by rfl, ?sy4⟩) hHeld ?sr4
          case sy4 =>
            intro w hSw
            clear hSw
            go_simp
            try with_reducible rfl
          refine wpAnyH_act (a' := ?sn4) ?se4 ?st4
          case se4 =>
            try simp [Act.put]
            try rfl
          refine wpAnyH_takeD (d := some 98) (i := 5) (oi := _) (v := ?sv5) rfl (by kernel_rfl) (by kernel_rfl) (by kernel_rfl) (by kernel_rfl) (fun _ _ _ h => h) (Or.inl ⟨by rfl, ?sy5⟩) hHeld ?sr5
          case sy5 =>
            intro w hSw
            clear hSw
            go_simp
            try with_reducible rfl
          refine wpAnyH_act (a' := ?sn5) ?se5 ?st5
          case se5 =>
            try simp [Act.put]
            try rfl
          refine wpAnyH_takeD (d := some 99) (i := 6) (oi := _) (v := ?sv6) rfl (by kernel_rfl) (by kernel_rfl) (by kernel_rfl) (by kernel_rfl) (fun _ _ _ h => h) (Or.inl ⟨by rfl, ?sy6⟩) hHeld ?sr6
          case sy6 =>
            intro w hSw
            clear hSw
            go_simp
            try with_reducible rfl
          refine wpAnyH_act (a' := ?sn6) ?se6 ?st6
          case se6 =>
            try simp [Act.put]
            try rfl
          refine wpAnyH_takeD (d := some 100) (i := 7) (oi := _) (v := .agg (rr24C x6).toArray) rfl (by kernel_rfl) (by kernel_rfl) (by kernel_rfl) (by kernel_rfl) (fun _ _ _ h => h) (Or.inl ⟨by rfl, fun w hSw => exec_load_cells 48 (.tmp 99) rfl ⟨b6, o6 + k * 10, none⟩ rfl (rr24C x6) _ Tryz.underlying48 rfl (infoRr24 x6) (HF6.out w hSw)⟩) hHeld ?sr7
          refine wpAnyH_act (a' := ?sn7) ?se7 ?st7
          case se7 =>
            try simp [Act.put]
            try rfl
          refine wpAnyH_ready (rs := [8, 9]) (by kernel_rfl) (by simp) ?_
          refine AllReadyH.cons (o := _) rfl (fun K hK => ?_) (AllReadyH.cons (o := _) rfl (fun K hK => ?_) AllReadyH.nil)
          · go_simp
            refine hK.out _ _ (((Only.refl _ _).alloc _).drew) (fun hNew => ?_)
            clear hK K hHeld
            have hHeld := hNew
            clear hNew
            refine wpAnyH_act (a' := ?sn101) ?se101 ?st101
            case se101 =>
              try simp [Act.put]
              try rfl
            refine wpAnyH_ready (rs := [9]) (by kernel_rfl) (by simp) ?_
            refine AllReadyH.cons (o := _) rfl (fun K hK => ?_) AllReadyH.nil
            go_simp
            obtain ⟨V, hV⟩ : ∃ V, V = ((wr.alloc (.cells #[.int .u16 0, .int .u32 0, .int .u8 0, .int .u8 0, .int .u8 0, .int .u8 0, .int .u16 0, .int .u16 0, .int .u16 0, .slice none 0 0] 46)).alloc (.cells #[.int .i64 0, .int .u32 0, .int .u8 0, .int .u8 0, .int .u8 0, .int .u8 0, .int .u16 0, .int .u16 0, .int .u16 0, .slice none 0 0] 48)).drew := ⟨_, rfl⟩
            have hB : V.heap[wr.heap.size]? = some (.cells #[.int .u16 0, .int .u32 0, .int .u8 0, .int .u8 0, .int .u8 0, .int .u8 0, .int .u16 0, .int .u16 0, .int .u16 0, .slice none 0 0] 46 (0, 0)) := by rw [hV]; exact ((Only.refl (fun _ => False) _).alloc _).drew.old (heap_alloc_new wr _) id
            have hC : V.heap[wr.heap.size + 1]? = some (.cells #[.int .i64 0, .int .u32 0, .int .u8 0, .int .u8 0, .int .u8 0, .int .u8 0, .int .u16 0, .int .u16 0, .int .u16 0, .slice none 0 0] 48 (0, 0)) := by rw [hV]; exact show ((wr.alloc _).alloc _).heap[wr.heap.size + 1]? = _ from (by have h := heap_alloc_new (wr.alloc (.cells #[.int .u16 0, .int .u32 0, .int .u8 0, .int .u8 0, .int .u8 0, .int .u8 0, .int .u16 0, .int .u16 0, .int .u16 0, .slice none 0 0] 46)) (.cells #[.int .i64 0, .int .u32 0, .int .u8 0, .int .u8 0, .int .u8 0, .int .u8 0, .int .u16 0, .int .u16 0, .int .u16 0, .slice none 0 0] 48); simpa using h)
            have hoV : Only (fun _ => False) wr V := by rw [hV]; exact (((Only.refl _ _).alloc _).alloc _).drew
            rw [← hV]
            clear hV
            refine hK.out _ _ hoV (fun hNew => ?_)
            clear hK K hHeld
            have hHeld := hNew
            clear hNew
            refine wpAnyH_act (a' := ?sn102) ?se102 ?st102
            case se102 =>
              try simp [Act.put]
              try rfl
            refine wpAnyH_ready (rs := [10]) (by kernel_rfl) (by simp) ?_
            refine AllReadyH.cons (o := _) rfl (fun K hK => ?_) AllReadyH.nil
            refine step_store_row rfl 46 (.tmp 17) (.tmp 96) rfl (wr.heap.size) ((rrC x5).toArray) rfl rfl 46 _ hB (infoRr x5) rfl H1A.out ?_
            have hB2 := row_set hB (rrC x5).toArray
            have hoB : Only (fun i => i = wr.heap.size) V (V.setRow (wr.heap.size) (rrC x5).toArray) := (Only.refl (fun i => i = wr.heap.size) V).setRow (b := wr.heap.size) (.inr rfl) _
            have hoV2 : Only (fun _ => False) wr (V.setRow (wr.heap.size) (rrC x5).toArray) := hoV.setRow (.inl (by omega)) _
            have hC2 := hoB.old hC (by omega)
            generalize V.setRow (wr.heap.size) (rrC x5).toArray = V2 at *
            refine hK.out _ _ hoV2 (fun hNew => ?_)
            clear hB hC hoV hoB
            clear hK K hHeld
            have hHeld := hNew
            clear hNew
            refine wpAnyH_act (a' := ?sn103) ?se103 ?st103
            case se103 =>
              try simp [Act.put]
              try rfl
            refine wpAnyH_ready (rs := [11]) (by kernel_rfl) (by simp) ?_
            refine AllReadyH.cons (o := _) rfl (fun K hK => ?_) AllReadyH.nil
            refine step_store_row rfl 48 (.tmp 18) (.tmp 100) rfl (wr.heap.size + 1) ((rr24C x6).toArray) rfl rfl 48 _ hC2 (infoRr24 x6) rfl H1B.out ?_
            have hC3 := row_set hC2 (rr24C x6).toArray
            have hoC : Only (fun i => i = wr.heap.size + 1) V2 (V2.setRow (wr.heap.size + 1) (rr24C x6).toArray) := (Only.refl (fun i => i = wr.heap.size + 1) V2).setRow (b := wr.heap.size + 1) (.inr rfl) _
            have hoV3 : Only (fun _ => False) wr (V2.setRow (wr.heap.size + 1) (rr24C x6).toArray) := hoV2.setRow (.inl (by omega)) _
            have hB3 := hoC.old hB2 (by omega)
            generalize V2.setRow (wr.heap.size + 1) (rr24C x6).toArray = V3 at *
            refine hK.out _ _ hoV3 (fun hNew => ?_)
            clear hK K hHeld
            have hHeld := hNew
            clear hNew
            refine wpAnyH_act (a' := ?sn104) ?se104 ?st104
            case se104 =>
              try simp [Act.put]
              try rfl
            refine wpAnyH_done (by kernel_rfl) ?_ _
            go_wp2_with fail
            go_meet
            exact ⟨wr.heap.size, wr.heap.size + 1, rfl, rfl, hB3, hC3, hoV3⟩
          · go_simp
            refine hK.out _ _ (((Only.refl _ _).alloc _).drew) (fun hNew => ?_)
            clear hK K hHeld
            have hHeld := hNew
            clear hNew
            refine wpAnyH_act (a' := ?sn105) ?se105 ?st105
            case se105 =>
              try simp [Act.put]
              try rfl
            refine wpAnyH_ready (rs := [8]) (by kernel_rfl) (by simp) ?_
            refine AllReadyH.cons (o := _) rfl (fun K hK => ?_) AllReadyH.nil
            go_simp
            obtain ⟨V, hV⟩ : ∃ V, V = ((wr.alloc (.cells #[.int .i64 0, .int .u32 0, .int .u8 0, .int .u8 0, .int .u8 0, .int .u8 0, .int .u16 0, .int .u16 0, .int .u16 0, .slice none 0 0] 48)).alloc (.cells #[.int .u16 0, .int .u32 0, .int .u8 0, .int .u8 0, .int .u8 0, .int .u8 0, .int .u16 0, .int .u16 0, .int .u16 0, .slice none 0 0] 46)).drew := ⟨_, rfl⟩
            have hB : V.heap[wr.heap.size + 1]? = some (.cells #[.int .u16 0, .int .u32 0, .int .u8 0, .int .u8 0, .int .u8 0, .int .u8 0, .int .u16 0, .int .u16 0, .int .u16 0, .slice none 0 0] 46 (0, 0)) := by rw [hV]; exact show ((wr.alloc _).alloc _).heap[wr.heap.size + 1]? = _ from (by have h := heap_alloc_new (wr.alloc (.cells #[.int .i64 0, .int .u32 0, .int .u8 0, .int .u8 0, .int .u8 0, .int .u8 0, .int .u16 0, .int .u16 0, .int .u16 0, .slice none 0 0] 48)) (.cells #[.int .u16 0, .int .u32 0, .int .u8 0, .int .u8 0, .int .u8 0, .int .u8 0, .int .u16 0, .int .u16 0, .int .u16 0, .slice none 0 0] 46); simpa using h)
            have hC : V.heap[wr.heap.size]? = some (.cells #[.int .i64 0, .int .u32 0, .int .u8 0, .int .u8 0, .int .u8 0, .int .u8 0, .int .u16 0, .int .u16 0, .int .u16 0, .slice none 0 0] 48 (0, 0)) := by rw [hV]; exact ((Only.refl (fun _ => False) _).alloc _).drew.old (heap_alloc_new wr _) id
            have hoV : Only (fun _ => False) wr V := by rw [hV]; exact (((Only.refl _ _).alloc _).alloc _).drew
            rw [← hV]
            clear hV
            refine hK.out _ _ hoV (fun hNew => ?_)
            clear hK K hHeld
            have hHeld := hNew
            clear hNew
            refine wpAnyH_act (a' := ?sn106) ?se106 ?st106
            case se106 =>
              try simp [Act.put]
              try rfl
            refine wpAnyH_ready (rs := [10]) (by kernel_rfl) (by simp) ?_
            refine AllReadyH.cons (o := _) rfl (fun K hK => ?_) AllReadyH.nil
            refine step_store_row rfl 46 (.tmp 17) (.tmp 96) rfl (wr.heap.size + 1) ((rrC x5).toArray) rfl rfl 46 _ hB (infoRr x5) rfl H1A.out ?_
            have hB2 := row_set hB (rrC x5).toArray
            have hoB : Only (fun i => i = wr.heap.size + 1) V (V.setRow (wr.heap.size + 1) (rrC x5).toArray) := (Only.refl (fun i => i = wr.heap.size + 1) V).setRow (b := wr.heap.size + 1) (.inr rfl) _
            have hoV2 : Only (fun _ => False) wr (V.setRow (wr.heap.size + 1) (rrC x5).toArray) := hoV.setRow (.inl (by omega)) _
            have hC2 := hoB.old hC (by omega)
            generalize V.setRow (wr.heap.size + 1) (rrC x5).toArray = V2 at *
            refine hK.out _ _ hoV2 (fun hNew => ?_)
            clear hB hC hoV hoB
            clear hK K hHeld
            have hHeld := hNew
            clear hNew
            refine wpAnyH_act (a' := ?sn107) ?se107 ?st107
            case se107 =>
              try simp [Act.put]
              try rfl
            refine wpAnyH_ready (rs := [11]) (by kernel_rfl) (by simp) ?_
            refine AllReadyH.cons (o := _) rfl (fun K hK => ?_) AllReadyH.nil
            refine step_store_row rfl 48 (.tmp 18) (.tmp 100) rfl (wr.heap.size) ((rr24C x6).toArray) rfl rfl 48 _ hC2 (infoRr24 x6) rfl H1B.out ?_
            have hC3 := row_set hC2 (rr24C x6).toArray
            have hoC : Only (fun i => i = wr.heap.size) V2 (V2.setRow (wr.heap.size) (rr24C x6).toArray) := (Only.refl (fun i => i = wr.heap.size) V2).setRow (b := wr.heap.size) (.inr rfl) _
            have hoV3 : Only (fun _ => False) wr (V2.setRow (wr.heap.size) (rr24C x6).toArray) := hoV2.setRow (.inl (by omega)) _
            have hB3 := hoC.old hB2 (by omega)
            generalize V2.setRow (wr.heap.size) (rr24C x6).toArray = V3 at *
            refine hK.out _ _ hoV3 (fun hNew => ?_)
            clear hK K hHeld
            have hHeld := hNew
            clear hNew
            refine wpAnyH_act (a' := ?sn108) ?se108 ?st108
            case se108 =>
              try simp [Act.put]
              try rfl
            refine wpAnyH_done (by kernel_rfl) ?_ _
            go_wp2_with fail
            go_meet
            exact ⟨wr.heap.size + 1, wr.heap.size, rfl, rfl, hB3, hC3, hoV3⟩
        case rest =>
        rename World => w9
        obtain ⟨B, C, rfl, rfl, hB, hC, ho9⟩ := hcut
        have HS5 := Lib.hid (Sl.of_owns (owns_kept (HT5.out) (HO.out.trans ho9) (fun _ _ => id)))
        have HS6 := Lib.hid (Sl.of_owns (owns_kept (HT6.out) (HO.out.trans ho9) (fun _ _ => id)))
        have hx := HX5.out
        obtain ⟨rx, tv5⟩ := x5
        obtain ⟨rx6, tv6⟩ := x6
        dsimp only at hx
        subst hx
        obtain ⟨_, ta5, tc5, e5, _⟩ := id HS5.out
        obtain ⟨_, ta6, tc6, e6, _⟩ := id HS6.out
        dsimp only at e5 e6
        subst e5 e6
        have hsm := same_any w9 _ _ rx.tgt rx.tgt HS5.out HS6.out
        rw [decide_eq_true rfl] at hsm
        obtain ⟨ty, ttl, ⟨a0, a1, a2, a3⟩, pr, wt, po, tgt⟩ := rx
        have htyp : IntKind.i64.wrap (ty : Int) = ty := by
          have h1 := HTY.out ⟨ty, ttl, (a0, a1, a2, a3), pr, wt, po, tgt⟩ HIN.out
          exact IntWalk.i64_in _ (by dsimp only at h1; omega)
        have hne := fun W : World => neArr W a0 a1 a2 a3
        unfold rrC at hB
        unfold rr24C at hC
        dsimp only at hB hC hsm
        have x0 : w9.cell? ⟨B, 0, none⟩ = some (.int .u16 ty) := cell_at hB 0
        have x1 : w9.cell? ⟨B, 1, none⟩ = some (.int .u32 ttl) := cell_at hB 1
        have x2 : w9.cell? ⟨B, 2, none⟩ = some (.int .u8 a0) := cell_at hB 2
        have x3 : w9.cell? ⟨B, 3, none⟩ = some (.int .u8 a1) := cell_at hB 3
        have x4 : w9.cell? ⟨B, 4, none⟩ = some (.int .u8 a2) := cell_at hB 4
        have x5 : w9.cell? ⟨B, 5, none⟩ = some (.int .u8 a3) := cell_at hB 5
        have x6 : w9.cell? ⟨B, 6, none⟩ = some (.int .u16 pr) := cell_at hB 6
        have x7 : w9.cell? ⟨B, 7, none⟩ = some (.int .u16 wt) := cell_at hB 7
        have x8 : w9.cell? ⟨B, 8, none⟩ = some (.int .u16 po) := cell_at hB 8
        have x9 : w9.cell? ⟨B, 9, none⟩ = some (.slice ta5 tgt.length tc5) := cell_at hB 9
        have y0 : w9.cell? ⟨C, 0, none⟩ = some (.int .i64 ty) := cell_at hC 0
        have y1 : w9.cell? ⟨C, 1, none⟩ = some (.int .u32 ttl) := cell_at hC 1
        have y2 : w9.cell? ⟨C, 2, none⟩ = some (.int .u8 a0) := cell_at hC 2
        have y3 : w9.cell? ⟨C, 3, none⟩ = some (.int .u8 a1) := cell_at hC 3
        have y4 : w9.cell? ⟨C, 4, none⟩ = some (.int .u8 a2) := cell_at hC 4
        have y5 : w9.cell? ⟨C, 5, none⟩ = some (.int .u8 a3) := cell_at hC 5
        have y6 : w9.cell? ⟨C, 6, none⟩ = some (.int .u16 pr) := cell_at hC 6
        have y7 : w9.cell? ⟨C, 7, none⟩ = some (.int .u16 wt) := cell_at hC 7
        have y8 : w9.cell? ⟨C, 8, none⟩ = some (.int .u16 po) := cell_at hC 8
        have y9 : w9.cell? ⟨C, 9, none⟩ = some (.slice ta6 tgt.length tc6) := cell_at hC 9
        have HO9 := Lib.hid (HO.out.trans ho9)
        have HSM := Lib.hid hsm
        clear hsm
        clear hB hC ho9
        go_wp2_with ((with_reducible refine HSM.out.mono ?_); rintro e wx ⟨rfl, hox⟩)
        go_roundg (M.length - (k + 1))
        case measure => rw [Hg.out]; omega
        case rel => exact ⟨k + 1, by go_num, by omega, HO9.out.trans hox, rfl⟩
      · have hke : ¬ (k : Int) < (E5.length : Int) := by have := HE5.out; omega
        have hke' : ¬ k < E5.length := by have := HE5.out; omega
        go_wp2_with fail
        go_meet
        exact HO.out
  case rest =>
  rename World => w7
  have HO7 := Lib.hid (HO6.out.trans hcut)
  have HO47 := Lib.hid (HO46.out.trans hcut)
  clear hcut
  have hlf := HLF.out w7 HO47.out
  have HLF7 := Lib.hid hlf
  clear hlf
  go_wp2_with fail
  refine HLF7.out.mono ?_
  rintro e w8 ⟨v8, E8, rfl, ho8, hrow8, hmap8⟩
  have HO8 := Lib.hid (HO7.out.trans ho8)
  have hln := HLN.out w8 (HO47.out.trans ho8)
  have hE8 : E8.length = M.length := by rw [← hmap8, List.length_map]
  obtain ⟨_, a8, c8, rfl, _⟩ := id (Sl.of_owns hrow8.row)
  have HLN8 := Lib.hid hln
  have HE8 := Lib.hid hE8
  clear hln hE8
  clear ho8 hrow8 hmap8
  go_wp2_with fail
  refine HLN8.out.mono ?_
  rintro e w9 ⟨v9, E9, rfl, ho9, hrow9, hmap9⟩
  have HO9 := Lib.hid (HO8.out.trans ho9)
  have hle : ((E8.length : Int) == (E5.length : Int)) = true := by rw [HE8.out, HE5.out]; simp
  clear ho9 hrow9 hmap9
  go_wp2_with fail
  go_ret
  exact ⟨rfl, HO9.out⟩
end Go.Proofs.YtbdfijgejkimnaaGreatDoor
/-! AnswerLooks is true of every input: of a store of any records, to a name in whatever letters and of any type, the records that answer it and whether it is known are those of the reference; the same in small letters; of no store nothing. No condition; the package variables that it names are tied to the text. -/
namespace Go.Proofs.YtbdfijgejkimnaaGreatDoor.looksLaw
open Go.Conc Go.RowKit Go.ChangeShapes Go.WideShapes Go.ChangeAt Go.ChangeMaps

theorem cellsTstring : Tryz.prog.cellsOf 9 = 1 := by kernel_rfl
theorem reads : ∀ t ∈ Tryz.f4.params.toList, Tryz.prog.readableRec t = true ∧ t < Tryz.prog.types.size := by
  intro t ht
  have h1 : ([22, 34, 35].all fun u => Tryz.prog.readableRec u && decide (u < Tryz.prog.types.size)) = true := by kernel_rfl
  rw [Tryz.params4] at ht
  have := List.all_eq_true.1 h1 t ht
  simpa using this
set_option maxRecDepth 100000 in
set_option maxHeartbeats 8000000 in
theorem lifted (os : Os) (started : os.Started) (H : Type) (enc : TypeId × Value → H) :
    ReturnsInHanded {} Tryz.checked os 4 .any (fun w args => (Rows.answerLooksSpec.pre enc Tryz.prog Tryz.f4 Rows.answerLooksRow.domain false w args ∧ laidMetH Tryz.prog Rows.answerLooksRow.laid w) ∧ sizedMet enc Tryz.prog Tryz.f4 (OpenSpec.ofChange Rows.answerLooksSpec) false w args)
      (Rows.answerLooksSpec.post enc Tryz.prog Tryz.f4 false true false false) := by
  refine returns_laid (C := Tryz.checked) (X := fun w _ => laidMetH Tryz.prog Rows.answerLooksRow.laid w) (fun _ _ _ hh h => h.of_heap hh) ownD started (by kernel_rfl) Tryz.func4
    (ChangeSpec.witness_shaped (enc := enc) (C := Tryz.checked) (os := os) (X := fun w _ => laidMetH Tryz.prog Rows.answerLooksRow.laid w) false (World.laidAll Tryz.prog os Rows.answerLooksRow.laid) #[.slice none 0 0, .slice none 0 0, .int .u16 0] 8 (World.laidAll_os _ _ _)
      (World.shaped_of_ZipB (by kernel_rfl) (by kernel_rfl)) (by kernel_rfl) (by kernel_rfl) (by kernel_rfl)
      (by rw [MakeChecks.laidMetH_plain _ _ _ (by kernel_rfl)]; exact laidMet_laidAll _ (by kernel_rfl) (by kernel_rfl))) ?_
  intro W base args ds gs before hval0 hW hlaid hsh
  have hval : ∀ (j : Nat) t v, Tryz.f4.params[j]? = some t → args[j]? = some v → Value.okWide Tryz.prog W .any base t v := hval0
  have hW' := hW
  obtain ⟨m0, hm0⟩ := maxLen_cell W hsh
  obtain ⟨p, q, hA0, hV, rfl, _, _⟩ := hW
  have hA : DataW.TrodAll enc Tryz.prog W 0 (fun _ => true) true Tryz.f4.params.toList args.toList ds p := hA0
  rw [Tryz.params4] at hA hval
  obtain ⟨v0, vs0, d0, ds0, p0, q0, hargs, rfl, rfl, h0, r0⟩ := trodAll_cons hA
  obtain ⟨v1, vs1, d1, ds1, p1, q1, rfl, rfl, rfl, h1, r1⟩ := trodAll_cons r0
  obtain ⟨v2, vs2, d2, ds2, p2, q2, rfl, rfl, rfl, h2, r2⟩ := trodAll_cons r1
  obtain ⟨rfl, rfl, rfl⟩ := trodAll_nil r2
  obtain rfl : args = #[v0, v1, v2] := by cases args; simp_all
  obtain ⟨x0, s0, b0⟩ := sl_recs25 (hval 0 22 v0 rfl rfl) h0
  obtain ⟨x1, s1, b1⟩ := sl_strs Tryz.underlying34 Tryz.underlying9 cellsTstring (hval 1 34 v1 rfl rfl) h1
  obtain ⟨x2, rfl, rfl, rfl, b2⟩ := open_int Tryz.underlying35 (hval 2 35 v2 rfl rfl) h2
  obtain ⟨n2, rfl, w2⟩ := nat_u16 b2
  obtain ⟨rfl, rfl⟩ := trodVars_none hV
  refine (looks25_any W m0 (envW_of W m0 hm0 hlaid) v0 x0 v1 x1 n2 s0 b0 s1 b1 w2).mono fun e W' ⟨he, ho⟩ => ?_
  subst he
  exact ⟨_, rfl, law_post hW' (ho.below (Nat.le_refl _) (fun _ _ => id)) laidOutD reads rfl Tryz.underlying4 rfl rfl rfl rfl⟩

theorem said : Rows.AnswerLooksSaid :=
  OpenClaim.holds_of_wide 4 Tryz.f4 rfl rfl rfl rfl rfl rfl rfl ⟨rfl, rfl, rfl, rfl, rfl⟩ rfl rfl rfl rfl rfl (by kernel_rfl) Tryz.func4 (by kernel_rfl)
    (of_decide_eq_true (by kernel_rfl)) (by unfold Func.isWrapper; first | (rw [if_pos (by decide +kernel)]; kernel_rfl) | (rw [if_neg (by decide +kernel)]; exact ⟨rfl, rfl⟩))
    (fun os started H enc _ => lifted os started H enc)
theorem looks (f : FuncId) (fn : Func) (hf : Tryz.pinned.checked.prog.funcNamed "bellhop/bellhoplaw25.AnswerLooks" = some f) (hfn : Tryz.pinned.checked.prog.funcs[f]? = some fn) :
    true = Tryz.pinned.checked.prog.looks [] ∧ ∀ (j : Nat) t, fn.params[j]? = some t → Tryz.pinned.checked.prog.wantsStandIn t = false := by
  obtain rfl : f = 4 := Option.some.inj ((show Tryz.prog.funcNamed "bellhop/bellhoplaw25.AnswerLooks" = some 4 by kernel_rfl).symm.trans hf) |>.symm
  obtain rfl : fn = Tryz.f4 := (Option.some.inj (Tryz.func4.symm.trans hfn)).symm
  refine ⟨by kernel_rfl, fun j t ht => ?_⟩
  rw [Tryz.params4] at ht
  have hm : t ∈ [22, 34, 35] := by simpa using Array.mem_of_getElem? ht
  have hall : ([22, 34, 35].all fun u => !Tryz.prog.wantsStandIn u) = true := by kernel_rfl
  exact (show Tryz.prog.wantsStandIn t = false by simpa using List.all_eq_true.1 hall t hm)
theorem card : Rows.AnswerLooksCardSaid :=
  Claim7.holds_tied_plain_at .later [] _ _ _ _ said (fun _ h => by cases h) (by kernel_rfl) (fun _ h => by cases h) answerLooks_row_tie rfl ⟨rfl, rfl⟩ (by kernel_rfl) rfl looks (by kernel_rfl)
#print axioms card
end Go.Proofs.YtbdfijgejkimnaaGreatDoor.looksLaw
