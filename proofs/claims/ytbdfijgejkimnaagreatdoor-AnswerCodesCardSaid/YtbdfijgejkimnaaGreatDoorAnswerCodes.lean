/- AnswerCodes is true of every input: a reply has the ID of the question and a specified code, and records only with the first; what is too short, or a response, has no reply. No condition; the package variables that it names are tied to the text. -/
import Derived.Test.YtbdfijgejkimnaaGreatDoorNI
import Derived.Test.YtbdfijgejkimnaaGreatDoorNN
import Derived.Test.YtbdfijgejkimnaaGreatDoorNP
import Derived.Test.YtbdfijgejkimnaaGreatDoorNQ
import Derived.ChangeMaps5
import Derived.Test.YtbdfijgejkimnaaGreatDoorCards
import Derived.Test.YtbdfijgejkimnaaGreatDoorTie
/-! What the Answer laws share: bounds of made (the same as in Lw5, Rf2, Rf5: never imported beside those). -/
namespace Go.Proofs.YtbdfijgejkimnaaGreatDoor
open Go.Conc Go.RowKit Go.Maps

theorem mem_ins_or {x y : RecT} : ∀ {L : List RecT}, y ∈ insS x L → y = x ∨ y ∈ L
  | [], h => by simp [insS] at h; exact .inl h
  | z :: L, h => by
    unfold insS at h
    split at h
    · rcases List.mem_cons.1 h with h | h
      · exact .inl h
      · exact .inr (List.mem_cons_of_mem _ h)
    · split at h
      · rcases List.mem_cons.1 h with h | h
        · exact .inl h
        · exact .inr h
      · rcases List.mem_cons.1 h with h | h
        · exact .inr (by rw [h]; exact List.mem_cons_self)
        · rcases mem_ins_or h with h | h
          · exact .inl h
          · exact .inr (List.mem_cons_of_mem _ h)
theorem made_bd (l : List RecB) : ∀ k, ∀ x ∈ made25 l k, x.ver < 2 ^ 64 := by
  intro k
  unfold made25
  generalize l.take k = t
  have : ∀ (M : List RecT) (A : List RecB), (∀ x ∈ M, x.ver < 2 ^ 64) → ∀ x ∈ (A.map rec25).foldl (putS 48 100) M, x.ver < 2 ^ 64 := by
    intro M A
    induction A generalizing M with
    | nil => intro h; exact h
    | cons a A ih =>
      intro h
      rw [List.map_cons, List.foldl_cons]
      refine ih _ (fun x hx => ?_)
      unfold putS at hx
      split at hx
      · rcases mem_ins_or hx with rfl | hx
        · exact (rec25_bd a).1
        · exact h x hx
      · exact h x hx
  exact this [] t (fun x hx => by cases hx)
theorem tell_of {ttl : Int} {x : RecT} (hg : goodR x = true ∧ x.age < ttl) (hv : x.ver < 2 ^ 64) (h : x.gone = false) : TellOk ttl x := ⟨hg.1, h, hg.2, hv⟩
theorem head_bytes (m : ByteArray) : (headD m).resp = decide (128 ≤ bA m 2) ∧ (headD m).op = bA m 2 / 8 % 16 := by
  have h2 := bA_lt m 2
  have h3 := bA_lt m 3
  constructor
  · show decide (gA m 2 / 32768 % 2 = 1) = _
    rw [Bool.eq_iff_iff, decide_eq_true_iff, decide_eq_true_iff]
    show (bA m 2 * 256 + bA m 3) / 32768 % 2 = 1 ↔ _
    omega
  · show (bA m 2 * 256 + bA m 3) / 2048 % 16 = _
    omega
theorem fin_facts {ttl : Int} {L : List RecT} (q : QT) (code : Nat) (hc : code ≤ 15) (hask : code = 0 → q.asked = true) (ht : ttl ≤ 65535) (hl : L.length ≤ 48) (hL : ∀ x ∈ L, x.gone = false → TellOk ttl x) (hn : ∀ x ∈ L, 1 ≤ x.o ∧ x.o ≤ 65535) :
    (∀ r ∈ (finL ttl L (q, code)).1, RROk r) ∧ (finL ttl L (q, code)).1.length ≤ 1000 ∧ (finL ttl L (q, code)).2 ≤ 15 ∧ (q.asked = true ∨ (finL ttl L (q, code)).1 = []) := by
  unfold finL
  dsimp only
  by_cases h : code = 0
  · rw [if_pos h]
    refine ⟨look_ok ht hL hn, ?_, ?_, .inl (hask h)⟩
    · have := look_len ttl L (q.name.map foldS) q.typ
      dsimp only
      omega
    · dsimp only
      split <;> omega
  · rw [if_neg h]
    refine ⟨fun r hr => ?_, Nat.zero_le _, hc, .inr rfl⟩
    cases hr
end Go.Proofs.YtbdfijgejkimnaaGreatDoor
/-! AnswerCodes: the plain law and the walk. -/
namespace Go.Proofs.YtbdfijgejkimnaaGreatDoor
open Go.Conc Go.RowKit Go.Maps

theorem addA_more (ttl : Int) (x : RecT) (E : List RR) : E ≠ [] → addA ttl E x ≠ [] := by
  intro h
  unfold addA
  split
  · exact h
  · simp
theorem fold_ne (ttl : Int) : ∀ (H : List RecT) (E : List RR), E ≠ [] → H.foldl (addA ttl) E ≠ []
  | [], _, h => h
  | y :: H, E, h => by
    rw [List.foldl_cons]
    exact fold_ne ttl H _ (addA_more ttl y E h)
theorem addrs_ne {ttl : Int} : ∀ {H : List RecT}, H ≠ [] → addrsM ttl H ≠ []
  | [], h => absurd rfl h
  | x :: H, _ => by
    unfold addrsM
    rw [List.foldl_cons]
    exact fold_ne ttl H _ (by unfold addA hasA; simp)
theorem qM_facts (m : ByteArray) : ((qM m).1.asked = false → (qM m).1.typ = 0 ∧ (qM m).1.cls = 0 ∧ (qM m).1.name = []) ∧
    (((qM m).2 = 0 ∧ (qM m).1.asked = true ∧ ((qM m).1.typ = 1 ∨ (qM m).1.typ = 33)) ∨ ((qM m).2 = 1 ∧ (qM m).1.asked = false) ∨ (qM m).2 = 4) := by
  unfold qM
  by_cases ho : (headD m).op ≠ 0
  · rw [if_pos ho]
    exact ⟨fun _ => ⟨rfl, rfl, rfl⟩, .inr (.inr rfl)⟩
  · rw [if_neg ho]
    cases askM m with
    | none => exact ⟨fun _ => ⟨rfl, rfl, rfl⟩, .inr (.inl ⟨rfl, rfl⟩)⟩
    | some z =>
      obtain ⟨l, t, c⟩ := z
      refine ⟨fun h => (Bool.noConfusion (show true = false from h)), ?_⟩
      dsimp only
      by_cases h : (t = 1 ∨ t = 33) ∧ c = 1
      · rw [if_pos h]; exact .inl ⟨rfl, rfl, h.1⟩
      · rw [if_neg h]; exact .inr (.inr rfl)
theorem codes_facts (ttl : Int) (L : List RecT) (m : ByteArray) :
    ((finL ttl L (qM m)).2 = 0 ∧ (qM m).1.asked = true ∧ (((finL ttl L (qM m)).1.take (fitN (qM m).1 (finL ttl L (qM m)).1)).length ≠ 0 ∨ (qM m).1.typ = 33 ∨ fitN (qM m).1 (finL ttl L (qM m)).1 < (finL ttl L (qM m)).1.length)) ∨
    ((finL ttl L (qM m)).2 = 1 ∧ (qM m).1.asked = false ∧ (finL ttl L (qM m)).1 = []) ∨ (((finL ttl L (qM m)).2 = 3 ∨ (finL ttl L (qM m)).2 = 4) ∧ (finL ttl L (qM m)).1 = []) := by
  obtain ⟨_, h⟩ := qM_facts m
  generalize qM m = r at *
  obtain ⟨q, c⟩ := r
  dsimp only at h ⊢
  unfold finL
  dsimp only
  rcases h with ⟨rfl, ha, ht⟩ | ⟨rfl, ha⟩ | rfl
  · rw [if_pos rfl]
    dsimp only
    by_cases hh : heldM L (q.name.map foldS) ≠ []
    · rw [if_pos hh]
      refine .inl ⟨rfl, ha, ?_⟩
      rcases ht with ht | ht
      · have hM : lookM ttl L (q.name.map foldS) q.typ ≠ [] := by
          unfold lookM
          rw [if_pos ht]
          exact addrs_ne hh
        generalize lookM ttl L (q.name.map foldS) q.typ = M at *
        by_cases hf : fitN q M < M.length
        · exact .inr (.inr hf)
        · refine .inl ?_
          rw [List.take_of_length_le (by omega)]
          exact fun e => hM (List.length_eq_zero_iff.1 e)
      · exact .inr (.inl ht)
    · rw [if_neg hh]
      have h0 : heldM L (q.name.map foldS) = [] := by
        cases hx : heldM L (q.name.map foldS) with
        | nil => rfl
        | cons a b => rw [hx] at hh; exact absurd (by simp) hh
      exact .inr (.inr ⟨.inl rfl, lookM_nil h0⟩)
  · rw [if_neg (by decide)]
    exact .inr (.inl ⟨rfl, ha, rfl⟩)
  · rw [if_neg (by decide)]
    exact .inr (.inr ⟨.inr rfl, rfl⟩)
theorem front2 (m : ByteArray) (h : 2 ≤ m.size) : m.extract 0 2 = ⟨(beL (gA m 0) 2).toArray⟩ := by
  have hd : 2 ≤ m.data.toList.length := h
  obtain ⟨a, b, r, hl⟩ : ∃ a b r, m.data.toList = a :: b :: r := by
    match hx : m.data.toList, hd with
    | a :: b :: r, _ => exact ⟨a, b, r, rfl⟩
  have e0 : bA m 0 = a.toNat := by rw [← bA_get m 0 (by omega)]; show (m.data.toList[0]'(by omega)).toNat = _; simp [hl]
  have e1 : bA m 1 = b.toNat := by rw [← bA_get m 1 (by omega)]; show (m.data.toList[1]'(by omega)).toNat = _; simp [hl]
  apply str_ext
  rw [ByteArray.data_extract, Array.toList_extract, hl]
  show _ = beL (bA m 0 * 256 + bA m 1) 2
  rw [e0, e1, beL2_of]
  rfl
theorem reply_front (m : ByteArray) (q : QT) (hq : q.id = gA m 0) (code : Nat) (L : List RR) (h : 2 ≤ m.size) : (⟨(repB q code L).toArray⟩ : ByteArray).extract 0 2 = m.extract 0 2 := by
  rw [front2 m h, ← hq]
  have e : repB q code L = beL q.id 2 ++ ((beL (flagN (repH q code (fitN q L) (decide (fitN q L < L.length)))) 2 ++ (beL q.asked.toNat 2 ++ (beL (fitN q L) 2 ++ (beL 0 2 ++ beL 0 2)))) ++ bodyB q L) := by
    unfold repB headB repH
    simp
  rw [e]
  exact ext_front _ _ 2 (beL_length _ _)
theorem qM_id (m : ByteArray) : (qM m).1.id = gA m 0 := by
  unfold qM
  split
  · rfl
  · split <;> rfl
end Go.Proofs.YtbdfijgejkimnaaGreatDoor
/-! AnswerCodes: the walk. -/
namespace Go.Proofs.YtbdfijgejkimnaaGreatDoor
open Go.Conc Go.RowKit Go.Maps

set_option maxRecDepth 100000 in
set_option maxHeartbeats 4000000 in
theorem codes25_any (w : World) (m : Int) (hE : EnvW w m) (v : Value) (l : List RecB) (msg : ByteArray) (hl : Sl w 6 v l.length (l.flatMap recBC)) (hb : ∀ a ∈ l, rowB a) (hz : msg.size ≤ maxLen) :
    Calls Tryz.prog 5 #[v, .string msg] w fun e w' => e = .returned (.bool true) ∧ Only (fun _ => False) w w' := by
  have hsp := speaks25_any w m hE
  have hmade := fun W (ho : Only (fun _ => False) w W) => made25_any W m (hE.new ho).max v l (hl.new ho) hb
  obtain ⟨_, va, vc, rfl, _⟩ := id hl
  obtain ⟨ms, hms⟩ : ∃ ms : ByteArray, ms = msg.extract 0 (min msg.size 300) := ⟨_, rfl⟩
  have hmz : ms.size ≤ 300 := by rw [hms, ByteArray.size_extract]; omega
  unfold maxLen at hz
  have HSP := Lib.hid hsp
  have HMADE := Lib.hid hmade
  have HMS := Lib.hid hms
  have HE := Lib.hid hE
  clear hsp hmade hms hE
  clear hl
  go_enter Tryz.func5, Tryz.ntmps5
  go_wp2_with fail
  refine HSP.out.mono ?_
  rintro e w1 ⟨rfl, ho1⟩
  have HO1 := Lib.hid ho1
  clear ho1
  go_wp2_with fail
  refine (HMADE.out w1 HO1.out).mono ?_
  rintro e w2 ⟨s, b, r, r', v2, rfl, ho2, hs2, hb2, hst2, hr1, hr2, hr3, hr4, hsl2⟩
  obtain ⟨p2, c2, rfl, _⟩ := Sl.cells recC_length hsl2
  unfold rstV
  obtain ⟨W3, hW3⟩ : ∃ W3, W3 = w2.alloc (.cells #[.int .i64 48, .int .i64 100, .slice p2 (made25 l 50).length c2, .int .i64 r'] 27) := ⟨_, rfl⟩
  have hbW3 : W3.heap[w2.heap.size]? = some (.cells #[.int .i64 48, .int .i64 100, .slice p2 (made25 l 50).length c2, .int .i64 r'] 27 (0, 0)) := by rw [hW3]; exact heap_alloc_new w2 _
  have hoW3 : Only (fun _ => False) w2 W3 := by rw [hW3]; exact (Only.refl _ _).alloc _
  have hsW3 : W3.heap.size = w2.heap.size + 1 := by rw [hW3]; simp
  have HO3 := Lib.hid ((HO1.out.trans ho2).trans hoW3)
  have HE3 := Lib.hid (HE.out.new HO3.out)
  have HSE := Lib.hid (sees_store (hst2.new hoW3) HE3.out.max (made_bd l 50))
  have HOKS := Lib.hid hst2.ok
  clear ho2 hs2 hb2 hst2 hr1 hr2 hr3 hr4 hsl2 hoW3 hsW3 hbW3 HSP HMADE HE
  generalize made25 l 50 = L at *
  go_upto_region 4 with (fail)
  rw [← hW3]
  clear hW3
  go_cut [1] (fun v1 wx => v1 = .string ms ∧ W3 = wx)
  case first =>
    go_wp2_with fail
    go_meet
    exact ⟨by rw [HMS.out, show (min (msg.size : Int) 300).toNat = min msg.size 300 by omega], rfl⟩
  case rest =>
  obtain ⟨rfl, rfl⟩ := hcut
  by_cases h12 : ms.size < 12
  · -- short
    have hn := respond_none W3 (.pointer (some ⟨s, 0, none⟩)) ms (.inl h12)
    have e1 : decide ((ms.size : Int) < 12) = true := by simp; omega
    have e1' : decide (ms.size < 12) = true := by simp; omega
    have HN := Lib.hid hn
    clear hn
    clear h12
    go_wp2_with ((with_reducible refine HN.out.mono ?_); rintro e w5 ⟨rfl, ho5⟩)
    go_ret
    exact ⟨rfl, HO3.out.trans ho5⟩
  · obtain ⟨k1, _⟩ := head_bytes ms
    have hbm : ((ms[2]'(by omega)).toNat : Int) = (bA ms 2 : Int) := congrArg _ (bA_get ms 2 (by omega))
    have e1 : decide ((ms.size : Int) < 12) = false := by simp; omega
    have e1' : decide (ms.size < 12) = false := by simp; omega
    have hlt2 : 2 < ms.size := by omega
    by_cases hr : (headD ms).resp = true
    · -- resp
      have hn := respond_none W3 (.pointer (some ⟨s, 0, none⟩)) ms (.inr hr)
      rw [k1] at hr
      have e2 : decide ((128 : Int) ≤ (bA ms 2 : Int)) = true := by simp at hr ⊢; omega
      have HN := Lib.hid hn
      clear hn
      clear hr k1
      generalize bA ms 2 = y at *
      go_wp2_with ((with_reducible refine HN.out.mono ?_); rintro e w5 ⟨rfl, ho5⟩)
      go_ret
      exact ⟨rfl, HO3.out.trans ho5⟩
    · -- reply
      have hr : (headD ms).resp = false := by
        cases hh : (headD ms).resp with
        | true => exact absurd hh hr
        | false => rfl
      have hn := respond_any W3 m 100 (.pointer (some ⟨s, 0, none⟩)) L ms HE3.out HSE.out ⟨_, rfl⟩ (by omega) (by omega) hr
      rw [k1] at hr
      have e2 : decide ((128 : Int) ≤ (bA ms 2 : Int)) = false := by simp at hr ⊢; omega
      have hgo := HOKS.out.goods
      obtain ⟨ok, hc15⟩ := qM_ok ms
      obtain ⟨hta, _⟩ := qM_facts ms
      have hcf := codes_facts 100 L ms
      have hff := fin_facts (ttl := 100) (L := L) (qM ms).1 (qM ms).2 hc15 (@qM_asked ms) (by decide) HOKS.out.len HSE.out.tell HSE.out.node
      rw [show ((qM ms).1, (qM ms).2) = qM ms from rfl] at hff
      obtain ⟨f1, f2, f3, f4⟩ := hff
      have hfr := reply_front ms (qM ms).1 (qM_id ms) (finL 100 L (qM ms)).2 (finL 100 L (qM ms)).1 (by omega)
      have hpa := fun W => repParse_any W (qM ms).1 ok hta (finL 100 L (qM ms)).2 f3 (finL 100 L (qM ms)).1 f1 f2 f4
      have hrl := repB_len ok (finL 100 L (qM ms)).2 (finL 100 L (qM ms)).1
      unfold respB at hn
      clear hgo hc15 f1 f2 f3 f4 k1 hr hta
      generalize finL 100 L (qM ms) = F at *
      obtain ⟨M, C⟩ := F
      dsimp only at hn hcf hfr hpa hrl
      generalize (qM ms).1 = q at *
      generalize bA ms 2 = y at *
      obtain ⟨cut, hcut⟩ : ∃ cut, cut = decide (fitN q M < M.length) := ⟨_, rfl⟩
      rw [← hcut] at hpa
      obtain ⟨LT, hLT⟩ : ∃ LT, LT = M.take (fitN q M) := ⟨_, rfl⟩
      rw [← hLT] at hpa hcf
      unfold ParseP at hpa
      obtain ⟨RS, hRS⟩ : ∃ RS : ByteArray, RS = ⟨(repB q C M).toArray⟩ := ⟨_, rfl⟩
      have hRz : RS.size = (repB q C M).length := by rw [hRS]; simp [ByteArray.size]
      have hR2 : (2 : Int) ≤ (RS.size : Int) := by
        have : 12 ≤ (repB q C M).length := by unfold repB; rw [List.length_append, headB_length]; omega
        omega
      have hm2 : (2 : Int) ≤ (ms.size : Int) := by omega
      rw [← hRS] at hn hpa hfr
      have HN := Lib.hid hn
      have HPA := Lib.hid hpa
      have HCF := Lib.hid hcf
      have HCUT := Lib.hid hcut
      have HLT := Lib.hid hLT
      have HOKQ := Lib.hid ok
      have HRZ := Lib.hid hRz
      clear hn hpa hcf hcut hLT ok hRz
      clear hrl hRS
      go_wp2_with ((with_reducible refine HN.out.mono ?_); rintro e w5 ⟨rfl, ho5⟩)
      refine (HPA.out w5).mono ?_
      rintro e w6 ⟨v6, nv, E, rfl, ho6, hrow6, hmap6, own6⟩
      obtain ⟨_, na, nc, rfl, _⟩ := id (Sl.of_owns own6)
      obtain ⟨_, ra, rc, rfl, _⟩ := id (Sl.of_owns hrow6.row)
      have HO6 := Lib.hid ((HO3.out.trans ho5).trans ho6)
      have hEl : E.length = LT.length := by rw [← hmap6, List.length_map]
      have HEL := Lib.hid hEl
      clear hEl
      clear hrow6 hmap6 own6 ho5 ho6
      go_upto_region 9 with ((with_reducible refine wpList_store_row (o := ⟨none, .store 55 (.tmp 9) (.tmp 49), _, _, _, none⟩) rfl _ _ _ rfl (w6.heap.size) ((qC (hdQ q q.asked.toNat) q.asked (.slice na q.name.length nc) q.typ q.cls).toArray) ?_ ?_ 55 _ (heap_alloc_new w6 _) (infoQq _ _ _ _ _) ?_ (qC_one _ _ _ _ _ rfl) ?_); (· rfl); (· rfl); (· rfl))
      have hb7 := row_set (heap_alloc_new w6 (.cells #[.int .u16 0, .bool false, .int .u8 0, .bool false, .bool false, .bool false, .bool false, .int .u8 0, .int .u8 0, .int .u16 0, .int .u16 0, .int .u16 0, .int .u16 0, .bool false, .slice none 0 0, .int .u16 0, .int .u16 0] 55)) (qC (hdQ q q.asked.toNat) q.asked (.slice na q.name.length nc) q.typ q.cls).toArray
      have ho7 : Only (fun _ => False) w6 ((w6.alloc (.cells #[.int .u16 0, .bool false, .int .u8 0, .bool false, .bool false, .bool false, .bool false, .int .u8 0, .int .u8 0, .int .u16 0, .int .u16 0, .int .u16 0, .int .u16 0, .bool false, .slice none 0 0, .int .u16 0, .int .u16 0] 55)).setRow w6.heap.size (qC (hdQ q q.asked.toNat) q.asked (.slice na q.name.length nc) q.typ q.cls).toArray) := ((Only.refl _ _).alloc _).setRow (.inl (Nat.le_refl _)) _
      generalize (w6.alloc (.cells #[.int .u16 0, .bool false, .int .u8 0, .bool false, .bool false, .bool false, .bool false, .int .u8 0, .int .u8 0, .int .u16 0, .int .u16 0, .int .u16 0, .int .u16 0, .bool false, .slice none 0 0, .int .u16 0, .int .u16 0] 55)).setRow w6.heap.size (qC (hdQ q q.asked.toNat) q.asked (.slice na q.name.length nc) q.typ q.cls).toArray = w7 at *
      have HO7 := Lib.hid (HO6.out.trans ho7)
      have HB7 := Lib.hid hb7
      clear hb7
      clear ho7
      go_cut [66] (fun v wx => v = .bool false ∧ Only (fun _ => False) w7 wx)
      case first =>
        go_region
        all_goals
          go_wp2_with fail
          go_meet
          exact ⟨rfl, by (repeat (first | (with_reducible assumption) | (with_reducible exact Only.refl _ _) | (with_reducible refine Only.drew ?_) | (with_reducible refine Only.alloc ?_ _) | (with_reducible refine onlySet ?_ (by first | (with_reducible assumption) | omega) _) | (with_reducible refine Only.trans ?_ (by with_reducible assumption))))⟩
      case rest =>
      rename World => w8
      obtain ⟨rfl, ho8⟩ := hcut
      have hb8 := ho8.old HB7.out id
      have x13 : w8.cell? ⟨w6.heap.size, 13, none⟩ = some (.bool q.asked) := (cell_at hb8 13).trans rfl
      have x15 : w8.cell? ⟨w6.heap.size, 15, none⟩ = some (.int .u16 q.typ) := (cell_at hb8 15).trans rfl
      have HO8 := Lib.hid (HO7.out.trans ho8)
      clear hb8 ho8 hfr hR2 hm2
      rcases HCF.out with ⟨hc, hqa, hor⟩ | ⟨hc, hqa, hM⟩ | ⟨hc, hM⟩
      · have e0 : ((C : Int) == 0) = true := by simp; exact hc
        rw [hqa] at x13
        by_cases hl : LT.length = 0
        · have e3 : decide ((0 : Int) < (E.length : Int)) = false := by rw [HEL.out, hl]; rfl
          have e3' : decide (0 < E.length) = false := by rw [HEL.out, hl]; rfl
          by_cases ht : q.typ = 33
          · have e4 : ((q.typ : Int) == 33) = true := by simp; omega
            clear hc hqa hor hl ht
            go_wp2_with fail
            go_ret
            exact ⟨rfl, HO8.out⟩
          · have e4 : ((q.typ : Int) == 33) = false := by simp; omega
            have hcu : cut = true := by
              rcases hor with h | h | h
              · exact absurd hl h
              · exact absurd h ht
              · rw [HCUT.out, decide_eq_true h]
            have HCU := Lib.hid hcu
            clear hc hqa hor hl ht hcu
            go_wp2_with fail
            go_ret
            exact ⟨by rw [HCU.out]; rfl, HO8.out⟩
        · have e3 : decide ((0 : Int) < (E.length : Int)) = true := by rw [HEL.out]; simp; omega
          have e3' : decide (0 < E.length) = true := by rw [HEL.out]; simp; omega
          clear hc hqa hor hl
          go_wp2_with fail
          go_ret
          exact ⟨rfl, HO8.out⟩
      · have e0 : ((C : Int) == 0) = false := by simp; omega
        have e1 : ((C : Int) == 1) = true := by simp; omega
        rw [hqa] at x13
        have hL0 : LT = [] := by rw [HLT.out, hM]; simp
        have hcu : cut = false := by rw [HCUT.out, hM]; simp
        have e3 : ((E.length : Int) == 0) = true := by rw [HEL.out, hL0]; rfl
        have HCU := Lib.hid hcu
        clear hc hqa hM hL0 hcu
        go_wp2_with fail
        go_ret
        exact ⟨by rw [HCU.out]; rfl, HO8.out⟩
      · have hL0 : LT = [] := by rw [HLT.out, hM]; simp
        have hcu : cut = false := by rw [HCUT.out, hM]; simp
        have e3 : ((E.length : Int) == 0) = true := by rw [HEL.out, hL0]; rfl
        have HCU := Lib.hid hcu
        have e0 : ((C : Int) == 0) = false := by simp; omega
        have e1 : ((C : Int) == 1) = false := by simp; omega
        clear hM hL0 hcu
        rcases hc with hc | hc
        · have e5 : ((C : Int) == 3) = true := by simp; omega
          clear hc
          go_wp2_with fail
          go_ret
          exact ⟨by rw [HCU.out]; rfl, HO8.out⟩
        · have e5 : ((C : Int) == 3) = false := by simp; omega
          have e6 : ((C : Int) == 4) = true := by simp; omega
          clear hc
          go_wp2_with fail
          go_ret
          exact ⟨by rw [HCU.out]; rfl, HO8.out⟩
end Go.Proofs.YtbdfijgejkimnaaGreatDoor
/-! AnswerCodes is true of every input: a reply has the ID of the question and a specified code, and records only with the first; what is too short, or a response, has no reply. No condition; the package variables that it names are tied to the text. -/
namespace Go.Proofs.YtbdfijgejkimnaaGreatDoor.codesLaw25
open Go.Conc Go.RowKit Go.ChangeShapes Go.WideShapes Go.ChangeAt Go.ChangeMaps

theorem reads : ∀ t ∈ Tryz.f5.params.toList, Tryz.prog.readableRec t = true ∧ t < Tryz.prog.types.size := by
  intro t ht
  have h1 : ([22, 9].all fun u => Tryz.prog.readableRec u && decide (u < Tryz.prog.types.size)) = true := by kernel_rfl
  rw [Tryz.params5] at ht
  have := List.all_eq_true.1 h1 t ht
  simpa using this
set_option maxRecDepth 100000 in
set_option maxHeartbeats 8000000 in
theorem lifted (os : Os) (started : os.Started) (H : Type) (enc : TypeId × Value → H) :
    ReturnsInHanded {} Tryz.checked os 5 .any (fun w args => (Rows.answerCodesSpec.pre enc Tryz.prog Tryz.f5 Rows.answerCodesRow.domain false w args ∧ laidMetH Tryz.prog Rows.answerCodesRow.laid w) ∧ sizedMet enc Tryz.prog Tryz.f5 (OpenSpec.ofChange Rows.answerCodesSpec) false w args)
      (Rows.answerCodesSpec.post enc Tryz.prog Tryz.f5 false true false false) := by
  refine returns_laid (C := Tryz.checked) (X := fun w _ => laidMetH Tryz.prog Rows.answerCodesRow.laid w) (fun _ _ _ hh h => h.of_heap hh) ownD started (by kernel_rfl) Tryz.func5
    (ChangeSpec.witness_shaped (enc := enc) (C := Tryz.checked) (os := os) (X := fun w _ => laidMetH Tryz.prog Rows.answerCodesRow.laid w) false (World.laidAll Tryz.prog os Rows.answerCodesRow.laid) #[.slice none 0 0, .string ⟨#[]⟩] 8 (World.laidAll_os _ _ _)
      (World.shaped_of_ZipB (by kernel_rfl) (by kernel_rfl)) (by kernel_rfl) (by kernel_rfl) (by kernel_rfl)
      (by rw [MakeChecks.laidMetH_plain _ _ _ (by kernel_rfl)]; exact laidMet_laidAll _ (by kernel_rfl) (by kernel_rfl))) ?_
  intro W base args ds gs before hval0 hW hlaid hsh
  have hval : ∀ (j : Nat) t v, Tryz.f5.params[j]? = some t → args[j]? = some v → Value.okWide Tryz.prog W .any base t v := hval0
  have hW' := hW
  obtain ⟨m0, hm0⟩ := maxLen_cell W hsh
  obtain ⟨p, q, hA0, hV, rfl, _, _⟩ := hW
  have hA : DataW.TrodAll enc Tryz.prog W 0 (fun _ => true) true Tryz.f5.params.toList args.toList ds p := hA0
  rw [Tryz.params5] at hA hval
  obtain ⟨v0, vs0, d0, ds0, p0, q0, hargs, rfl, rfl, h0, r0⟩ := trodAll_cons hA
  obtain ⟨v1, vs1, d1, ds1, p1, q1, rfl, rfl, rfl, h1, r1⟩ := trodAll_cons r0
  obtain ⟨rfl, rfl, rfl⟩ := trodAll_nil r1
  obtain rfl : args = #[v0, v1] := by cases args; simp_all
  obtain ⟨x0, s0, b0⟩ := sl_recs25 (hval 0 22 v0 rfl rfl) h0
  obtain ⟨x1, rfl, rfl, rfl, b1⟩ := open_string Tryz.underlying9 (hval 1 9 v1 rfl rfl) h1
  obtain ⟨rfl, rfl⟩ := trodVars_none hV
  refine (codes25_any W m0 (envW_of W m0 hm0 hlaid) v0 x0 x1 s0 b0 b1).mono fun e W' ⟨he, ho⟩ => ?_
  subst he
  exact ⟨_, rfl, law_post hW' (ho.below (Nat.le_refl _) (fun _ _ => id)) laidOutD reads rfl Tryz.underlying4 rfl rfl rfl rfl⟩

theorem said : Rows.AnswerCodesSaid :=
  OpenClaim.holds_of_wide 5 Tryz.f5 rfl rfl rfl rfl rfl rfl rfl ⟨rfl, rfl, rfl, rfl, rfl⟩ rfl rfl rfl rfl rfl (by kernel_rfl) Tryz.func5 (by kernel_rfl)
    (of_decide_eq_true (by kernel_rfl)) (by unfold Func.isWrapper; first | (rw [if_pos (by decide +kernel)]; kernel_rfl) | (rw [if_neg (by decide +kernel)]; exact ⟨rfl, rfl⟩))
    (fun os started H enc _ => lifted os started H enc)
theorem looks (f : FuncId) (fn : Func) (hf : Tryz.pinned.checked.prog.funcNamed "bellhop/bellhoplaw25.AnswerCodes" = some f) (hfn : Tryz.pinned.checked.prog.funcs[f]? = some fn) :
    true = Tryz.pinned.checked.prog.looks [] ∧ ∀ (j : Nat) t, fn.params[j]? = some t → Tryz.pinned.checked.prog.wantsStandIn t = false := by
  obtain rfl : f = 5 := Option.some.inj ((show Tryz.prog.funcNamed "bellhop/bellhoplaw25.AnswerCodes" = some 5 by kernel_rfl).symm.trans hf) |>.symm
  obtain rfl : fn = Tryz.f5 := (Option.some.inj (Tryz.func5.symm.trans hfn)).symm
  refine ⟨by kernel_rfl, fun j t ht => ?_⟩
  rw [Tryz.params5] at ht
  have hm : t ∈ [22, 9] := by simpa using Array.mem_of_getElem? ht
  have hall : ([22, 9].all fun u => !Tryz.prog.wantsStandIn u) = true := by kernel_rfl
  exact (show Tryz.prog.wantsStandIn t = false by simpa using List.all_eq_true.1 hall t hm)
theorem card : Rows.AnswerCodesCardSaid :=
  Claim7.holds_tied_plain_at .later [] _ _ _ _ said (fun _ h => by cases h) (by kernel_rfl) (fun _ h => by cases h) answerCodes_row_tie rfl ⟨rfl, rfl⟩ (by kernel_rfl) rfl looks (by kernel_rfl)
#print axioms card
end Go.Proofs.YtbdfijgejkimnaaGreatDoor.codesLaw25
