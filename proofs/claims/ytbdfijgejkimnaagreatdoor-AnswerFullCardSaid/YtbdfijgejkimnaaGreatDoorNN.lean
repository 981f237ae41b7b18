/- A question that Ask wrote, parsed: the plain law. -/
import Derived.Test.YtbdfijgejkimnaaGreatDoorNM
import Derived.Test.YtbdfijgejkimnaaGreatDoorNJ
import Derived.Test.YtbdfijgejkimnaaGreatDoorNC
import Derived.Test.YtbdfijgejkimnaaGreatDoorND
import Derived.Test.YtbdfijgejkimnaaGreatDoorNG
import Derived.Test.YtbdfijgejkimnaaGreatDoorNL
/-! reply: the data of a service's record, read. -/
namespace Go.Proofs.YtbdfijgejkimnaaGreatDoor
open Go.Conc Go.RowKit

theorem RdAt.drew {w : World} {b : Nat} {s : ByteArray} (h : RdAt w b s) : RdAt w.drew b s := h
/-- A name that was written is read. -/
theorem rdP_new (l : List ByteArray) (hm : mayGo 0 l = true) : rdP (⟨((bytesL l).data.toList ++ [0]).toArray⟩ : ByteArray) 0 0 [] = ⟨l, ((bytesL l).size + 1 : Nat), 0⟩ := by
  have h := rdP_written ⟨#[]⟩ ⟨#[]⟩ l [] 0 (by simpa using hm)
  have e1 : (⟨#[]⟩ ++ (bytesL ([] ++ l) ++ (⟨#[0]⟩ ++ ⟨#[]⟩)) : ByteArray) = ⟨((bytesL l).data.toList ++ [0]).toArray⟩ := by
    apply str_ext
    simp [ByteArray.data_append]
  rw [e1] at h
  have e2 : (⟨#[]⟩ : ByteArray).size + (bytesL []).size = 0 := rfl
  rw [e2] at h
  rw [h]
  show (⟨[] ++ l, _, 0⟩ : Rd) = _
  rw [List.nil_append]
  congr 1
  show ((((⟨#[]⟩ : ByteArray).size + (bytesL l).size + 1 : Nat)) : Int) = _
  rw [show (⟨#[]⟩ : ByteArray).size = 0 from rfl, Nat.zero_add]
set_option maxRecDepth 100000 in
set_option maxHeartbeats 4000000 in
theorem service1_any (w : World) (b pv px : Nat) (typ ttl pr wt po : Nat) (l : List ByteArray) (hm : mayGo 0 l = true) (hp : pr < 65536) (hwt : wt < 65536) (hpo : po < 65536)
    (h : RdAt w b ⟨(beL pr 2 ++ (beL wt 2 ++ (beL po 2 ++ ((bytesL l).data.toList ++ [0])))).toArray⟩) (hv : w.heap[pv]? = some (.cells #[.pointer (some ⟨px, 0, none⟩)] 207 (0, 0)))
    (hx : w.heap[px]? = some (.cells (rrC ⟨⟨typ, ttl, (0, 0, 0, 0), 0, 0, 0, []⟩, .slice none 0 0⟩).toArray 46 (0, 0))) :
    Calls Tryz.prog 140 #[.pointer (some ⟨b, 0, none⟩), .pointer (some ⟨pv, 0, none⟩)] w fun e w' => ∃ tv, e = .returned (.tuple #[]) ∧ Only (fun x => x = b ∨ x = px) w w' ∧ RdAt w' b ⟨#[]⟩ ∧
      w'.heap[px]? = some (.cells (rrC ⟨⟨typ, ttl, (0, 0, 0, 0), pr, wt, po, l⟩, tv⟩).toArray 46 (0, 0)) ∧ w'.ownsRow w.heap.size 9 1 tv l.length (l.map .string) := by
  have n1 : pv ≠ b := by rintro rfl; rw [RdAt, hv] at h; simp at h
  have n2 : px ≠ b := by rintro rfl; rw [RdAt, hx] at h; simp at h
  have n3 : pv ≠ px := by rintro rfl; rw [hx] at hv; simp at hv
  obtain ⟨NB, hNB⟩ : ∃ NB, NB = (bytesL l).data.toList ++ [0] := ⟨_, rfl⟩
  rw [← hNB] at h
  unfold rrC at hx ⊢
  dsimp only at hx ⊢
  have HO0 := Lib.hid (Only.refl (fun x => x = b ∨ x = px) w)
  have HR0 := Lib.hid h
  have HV0 := Lib.hid hv
  have HX0 := Lib.hid hx
  have HNB := Lib.hid hNB
  clear h hv hx hNB
  go_enter Tryz.func140, Tryz.ntmps140
  go_wp2_with fail
  have cv : w.cell? ⟨pv, 0, none⟩ = some (.pointer (some ⟨px, 0, none⟩)) := cell_at HV0.out 0
  have x6 : w.cell? ⟨px, 6, none⟩ = some (.int .u16 0) := cell_at HX0.out 6
  have f6 : w.frozen? ⟨px, 6, none⟩ = false := free_at HX0.out 6
  have HC := Lib.hid (rnumB w.drew b pr 2 (beL wt 2 ++ (beL po 2 ++ NB)) HR0.out.drew (by decide) (by decide) (by omega))
  have hwr : IntKind.u16.wrap (pr : Int) = pr := by show (pr : Int) % 65536 = pr; omega
  go_cut [8] (fun _ wx => Only (fun x => x = b ∨ x = px) w wx ∧ RdAt wx b ⟨(beL wt 2 ++ (beL po 2 ++ NB)).toArray⟩ ∧ wx.heap[pv]? = some (.cells #[.pointer (some ⟨px, 0, none⟩)] 207 (0, 0)) ∧ wx.heap[px]? = some (.cells #[.int .u16 typ, .int .u32 ttl, .int .u8 0, .int .u8 0, .int .u8 0, .int .u8 0, .int .u16 pr, .int .u16 0, .int .u16 0, .slice none 0 0] 46 (0, 0)))
  case first =>
    go_region_law (first
      | (go_simp
         refine HC.out.mono ?_
         rintro e wa ⟨rfl, hoa, hra⟩
         have cva : wa.cell? ⟨pv, 0, none⟩ = some (.pointer (some ⟨px, 0, none⟩)) := Only.cell hoa cv (by simpa using n1)
         have x6a : wa.cell? ⟨px, 6, none⟩ = some (.int .u16 0) := Only.cell hoa x6 (by simpa using n2)
         have f6a : wa.frozen? ⟨px, 6, none⟩ = false := free_at (Only.old hoa (show w.drew.heap[px]? = _ from HX0.out) n2) 6))
    all_goals (
      go_wp2_with fail
      go_meet
      have hq : Only (fun x => x = px) wa (wa.setCell ⟨px, 6, none⟩ (.int .u16 pr)) := (Only.refl (fun x => x = px) wa).setCell (p := ⟨px, 6, none⟩) (.inr rfl) _
      exact ⟨(HO0.out.drew.trans (hoa.weaken (fun _ _ e => .inl e))).trans (hq.weaken (fun _ _ e => .inr e)), hra.kept hq (fun e => n2 e.symm), hq.old (Only.old hoa (show w.drew.heap[pv]? = _ from HV0.out) n1) n3, set_at (Only.old hoa (show w.drew.heap[px]? = _ from HX0.out) n2) 6 _⟩)
  case rest =>
  rename World => w1
  obtain ⟨ho1, hr1, hv1, hx1⟩ := hcut
  have HO1 := Lib.hid ho1
  have HR1 := Lib.hid hr1
  have HV1 := Lib.hid hv1
  have HX1 := Lib.hid hx1
  clear ho1 hr1 hv1 hx1
  clear cv x6 f6 HC hwr
  go_wp2_with fail
  have cv : w1.cell? ⟨pv, 0, none⟩ = some (.pointer (some ⟨px, 0, none⟩)) := cell_at HV1.out 0
  have x6 : w1.cell? ⟨px, 7, none⟩ = some (.int .u16 0) := cell_at HX1.out 7
  have f6 : w1.frozen? ⟨px, 7, none⟩ = false := free_at HX1.out 7
  have HC := Lib.hid (rnumB w1.drew b wt 2 (beL po 2 ++ NB) HR1.out.drew (by decide) (by decide) (by omega))
  have hwr : IntKind.u16.wrap (wt : Int) = wt := by show (wt : Int) % 65536 = wt; omega
  go_cut [14] (fun _ wx => Only (fun x => x = b ∨ x = px) w wx ∧ RdAt wx b ⟨(beL po 2 ++ NB).toArray⟩ ∧ wx.heap[pv]? = some (.cells #[.pointer (some ⟨px, 0, none⟩)] 207 (0, 0)) ∧ wx.heap[px]? = some (.cells #[.int .u16 typ, .int .u32 ttl, .int .u8 0, .int .u8 0, .int .u8 0, .int .u8 0, .int .u16 pr, .int .u16 wt, .int .u16 0, .slice none 0 0] 46 (0, 0)))
  case first =>
    go_region_law (first
      | (go_simp
         refine HC.out.mono ?_
         rintro e wa ⟨rfl, hoa, hra⟩
         have cva : wa.cell? ⟨pv, 0, none⟩ = some (.pointer (some ⟨px, 0, none⟩)) := Only.cell hoa cv (by simpa using n1)
         have x6a : wa.cell? ⟨px, 7, none⟩ = some (.int .u16 0) := Only.cell hoa x6 (by simpa using n2)
         have f6a : wa.frozen? ⟨px, 7, none⟩ = false := free_at (Only.old hoa (show w1.drew.heap[px]? = _ from HX1.out) n2) 7))
    all_goals (
      go_wp2_with fail
      go_meet
      have hq : Only (fun x => x = px) wa (wa.setCell ⟨px, 7, none⟩ (.int .u16 wt)) := (Only.refl (fun x => x = px) wa).setCell (p := ⟨px, 7, none⟩) (.inr rfl) _
      exact ⟨(HO1.out.drew.trans (hoa.weaken (fun _ _ e => .inl e))).trans (hq.weaken (fun _ _ e => .inr e)), hra.kept hq (fun e => n2 e.symm), hq.old (Only.old hoa (show w1.drew.heap[pv]? = _ from HV1.out) n1) n3, set_at (Only.old hoa (show w1.drew.heap[px]? = _ from HX1.out) n2) 7 _⟩)
  case rest =>
  rename World => w2
  obtain ⟨ho2, hr2, hv2, hx2⟩ := hcut
  have HO2 := Lib.hid ho2
  have HR2 := Lib.hid hr2
  have HV2 := Lib.hid hv2
  have HX2 := Lib.hid hx2
  clear ho2 hr2 hv2 hx2
  clear cv x6 f6 HC hwr
  go_wp2_with fail
  have cv : w2.cell? ⟨pv, 0, none⟩ = some (.pointer (some ⟨px, 0, none⟩)) := cell_at HV2.out 0
  have x6 : w2.cell? ⟨px, 8, none⟩ = some (.int .u16 0) := cell_at HX2.out 8
  have f6 : w2.frozen? ⟨px, 8, none⟩ = false := free_at HX2.out 8
  have HC := Lib.hid (rnumB w2.drew b po 2 (NB) HR2.out.drew (by decide) (by decide) (by omega))
  have hwr : IntKind.u16.wrap (po : Int) = po := by show (po : Int) % 65536 = po; omega
  go_cut [20] (fun _ wx => Only (fun x => x = b ∨ x = px) w wx ∧ RdAt wx b ⟨(NB).toArray⟩ ∧ wx.heap[pv]? = some (.cells #[.pointer (some ⟨px, 0, none⟩)] 207 (0, 0)) ∧ wx.heap[px]? = some (.cells #[.int .u16 typ, .int .u32 ttl, .int .u8 0, .int .u8 0, .int .u8 0, .int .u8 0, .int .u16 pr, .int .u16 wt, .int .u16 po, .slice none 0 0] 46 (0, 0)))
  case first =>
    go_region_law (first
      | (go_simp
         refine HC.out.mono ?_
         rintro e wa ⟨rfl, hoa, hra⟩
         have cva : wa.cell? ⟨pv, 0, none⟩ = some (.pointer (some ⟨px, 0, none⟩)) := Only.cell hoa cv (by simpa using n1)
         have x6a : wa.cell? ⟨px, 8, none⟩ = some (.int .u16 0) := Only.cell hoa x6 (by simpa using n2)
         have f6a : wa.frozen? ⟨px, 8, none⟩ = false := free_at (Only.old hoa (show w2.drew.heap[px]? = _ from HX2.out) n2) 8))
    all_goals (
      go_wp2_with fail
      go_meet
      have hq : Only (fun x => x = px) wa (wa.setCell ⟨px, 8, none⟩ (.int .u16 po)) := (Only.refl (fun x => x = px) wa).setCell (p := ⟨px, 8, none⟩) (.inr rfl) _
      exact ⟨(HO2.out.drew.trans (hoa.weaken (fun _ _ e => .inl e))).trans (hq.weaken (fun _ _ e => .inr e)), hra.kept hq (fun e => n2 e.symm), hq.old (Only.old hoa (show w2.drew.heap[pv]? = _ from HV2.out) n1) n3, set_at (Only.old hoa (show w2.drew.heap[px]? = _ from HX2.out) n2) 8 _⟩)
  case rest =>
  rename World => w3
  obtain ⟨ho3, hr3, hv3, hx3⟩ := hcut
  have HO3 := Lib.hid ho3
  have HR3 := Lib.hid hr3
  have HV3 := Lib.hid hv3
  have HX3 := Lib.hid hx3
  clear ho3 hr3 hv3 hx3
  clear cv x6 f6 HC hwr
  have hl := left_any w3 b _ HR3.out
  have hr := rraw_ok w3 b _ (⟨NB.toArray⟩ : ByteArray).size HR3.out (Nat.le_refl _)
  have he : (⟨NB.toArray⟩ : ByteArray).extract (⟨NB.toArray⟩ : ByteArray).size (⟨NB.toArray⟩ : ByteArray).size = ⟨#[]⟩ := by apply str_ext; simp
  have he2 : (⟨NB.toArray⟩ : ByteArray).extract 0 (⟨NB.toArray⟩ : ByteArray).size = ⟨NB.toArray⟩ := by apply str_ext; rw [ByteArray.data_extract, Array.toList_extract]; simp [ByteArray.size]
  rw [he, he2] at hr
  have hsz := (may_size hm).1
  have hnb : (⟨NB.toArray⟩ : ByteArray).size = (bytesL l).size + 1 := by
    have e : (⟨NB.toArray⟩ : ByteArray).size = NB.length := rfl
    rw [e, HNB.out, List.length_append]
    rfl
  have hrd := fun W : World => read_own W ⟨NB.toArray⟩ 0 (by omega) (by omega)
  rw [show rdP (⟨NB.toArray⟩ : ByteArray) 0 0 [] = ⟨l, ((bytesL l).size + 1 : Nat), 0⟩ by rw [HNB.out]; exact rdP_new l hm] at hrd
  generalize (⟨NB.toArray⟩ : ByteArray) = NS at *
  have HL := Lib.hid hl
  have HR := Lib.hid hr
  have HRD := Lib.hid hrd
  clear hl hr hrd
  clear he he2 hsz hnb
  go_wp2_with fail
  refine HL.out.mono ?_
  rintro e w4 ⟨rfl, rfl⟩
  go_wp2_with fail
  refine HR.out.mono ?_
  rintro e w4 ⟨rfl, ho4, hr4⟩
  go_wp2_with fail
  refine (HRD.out w4).mono ?_
  rintro e w5 ⟨tv, rfl, ho5, hsl⟩
  dsimp only at hsl
  obtain ⟨_, ta, tc, rfl, _⟩ := id (Sl.of_owns hsl)
  have HB4 := Lib.hid (show w.heap.size ≤ w4.heap.size from Nat.le_trans HO3.out.size ho4.size)
  have HPX := Lib.hid (lt_of_block (ho4.old HX3.out n2))
  have hv5 := ho5.old (ho4.old HV3.out n1) id
  have hx5 := ho5.old (ho4.old HX3.out n2) id
  have cv : w5.cell? ⟨pv, 0, none⟩ = some (.pointer (some ⟨px, 0, none⟩)) := cell_at hv5 0
  have x9 : w5.cell? ⟨px, 9, none⟩ = some (.slice none 0 0) := cell_at hx5 9
  have f9 : w5.frozen? ⟨px, 9, none⟩ = false := free_at hx5 9
  have HO5 := Lib.hid ((HO3.out.trans (ho4.weaken (fun x _ (e : x = b) => (.inl e : x = b ∨ x = px)))).trans (ho5.weaken (fun _ _ e => e.elim)))
  have HR5 := Lib.hid (hr4.kept ho5 id)
  have HX5 := Lib.hid hx5
  have HSL := Lib.hid hsl
  clear hx5 hsl
  clear ho4 hr4 ho5 hv5
  go_wp2_with fail
  go_end0
  have hq : Only (fun x => x = px) w5 (w5.setCell ⟨px, 9, none⟩ (.slice ta l.length tc)) := (Only.refl (fun x => x = px) w5).setCell (p := ⟨px, 9, none⟩) (.inr rfl) _
  refine ⟨.slice ta l.length tc, rfl, HO5.out.trans (hq.weaken (fun _ _ e => .inr e)), HR5.out.kept hq (fun e => n2 e.symm), set_at HX5.out 9 _, ?_⟩
  refine ownsBase1 (owns_only HSL.out hq (fun k hk e => ?_)) HB4.out
  have := HPX.out
  omega
end Go.Proofs.YtbdfijgejkimnaaGreatDoor
/-! pack.Read, once more. -/
namespace Go.Proofs.YtbdfijgejkimnaaGreatDoor
open Go.Conc Go.RowKit

set_option maxRecDepth 100000 in
set_option maxHeartbeats 1000000 in
/-- Read: a call that returns; what it leaves is only told to stand where one block of an error may change. T: the blocks that it may have written besides. -/
theorem read_ok2 (w : World) (s : ByteArray) (k : Nat) (cap : Array Value) (T : Nat → Prop) (rest : ByteArray) (X : World → Prop) (he : ∀ args w, (callFunc k args).run Tryz.prog w = .ok (.enter k args) w)
    (hX : ∀ a c k, X a → a.heap[k]? = some (.cells #[.int .i64 0] 56 (0, 0)) → Only (fun x => x = k) a c → X c)
    (h : ∀ (w1 : World) (b : Nat), Only (fun _ => False) w w1 → RdAt w1 b s → w.heap.size ≤ b → Calls Tryz.prog k (#[.pointer (some ⟨b, 0, none⟩)] ++ cap) w1 fun e w' => e = .returned (.tuple #[]) ∧ Only (fun x => x = b ∨ (T x ∧ x < w.heap.size)) w1 w' ∧ RdAt w' b rest ∧ X w') :
    Calls Tryz.prog 80 #[.string s, .func (.func k) #[] cap] w fun e w' => e = .returned (.int .i64 (if rest.size = 0 then 0 else 3)) ∧ Only T w w' ∧ X w' := by
  have hmf : ∀ (fn : Fn) (first cap : Array Value) (w : World), (Instr.makeFunc fn first cap).run Tryz.prog w = .ok (.func fn first cap) w := fun _ _ _ _ => rfl
  obtain ⟨z, hz⟩ : ∃ z : Int, z = if rest.size = 0 then 0 else 3 := ⟨_, rfl⟩
  rw [← hz]
  have Hz := Lib.hid hz
  clear hz
  have H := Lib.hid h
  have HE := Lib.hid he
  have HX := Lib.hid hX
  clear h he hX
  go_enter Tryz.func80, Tryz.ntmps80
  go_wp2_with fail
  obtain ⟨W, hW⟩ : ∃ W, W = (((w.alloc (.cells #[.func (.func k) #[] cap] 154)).alloc (.cells #[.string s] 185)).alloc (.cells #[.pointer (some ⟨w.heap.size + 1, 0, none⟩)] 151)) := ⟨_, rfl⟩
  rw [← hW]
  obtain ⟨W1, hW1⟩ : ∃ W1, W1 = W.alloc (.cells #[.int .i64 0] 56) := ⟨_, rfl⟩
  obtain ⟨z0, z1, z2, z3, z4, z5⟩ := write_blocks w _ _ _ W W1 hW _ hW1
  have hcall := H.out W1 (w.heap.size + 1) z5 z2 (by omega)
  have hw1 := r1_any W1 w.heap.size (w.heap.size + 1 + 1) (w.heap.size + 1) k cap _ HE.out z1 z3 hcall (fun e w' h => .inl h.1)
  rw [hW1] at hw1
  refine (run_ok W 120 _ _ (fun _ _ => by go_simp) hw1 (fun w' h => ?_)).mono ?_
  · obtain ⟨h1, _⟩ := h
    rw [← hW1] at h1
    exact h1.old z4 (by omega)
  rintro e wz ⟨rfl, w2, ⟨h1, h2, h3⟩, h4⟩
  rw [← hW1] at h1
  have hz3 : wz.heap[w.heap.size + 1 + 1]? = _ := h4.old (h1.old z3 (by omega)) (by omega)
  have hwz := h2.kept h4 (by omega)
  have hc : wz.cell? ⟨w.heap.size + 1 + 1, 0, none⟩ = some (.pointer (some ⟨w.heap.size + 1, 0, none⟩)) := cell_at hz3 0
  have hc2 : wz.cell? ⟨w.heap.size + 1, 0, none⟩ = some (.string rest) := cell_at hwz 0
  have ho : Only T w wz := ((z5.weaken (fun _ _ h => h.elim)).tr h1 (fun i hi e => by rcases e with e | e; omega; exact e.1)).tr h4 (fun i hi e => by omega)
  have hx := HX.out _ _ _ h3 (h1.old z4 (by omega)) h4
  have HXX := Lib.hid hx
  have HO := Lib.hid ho
  clear z0 z1 z2 z3 z4 z5 hcall hw1 h1 h2 h3 h4 hz3 hwz ho hx hW hW1
  by_cases hr : rest.size = 0
  · have e0 := empty_true hr
    have e1 : (!rest.toList.isEmpty) = false := by rw [e0]; rfl
    have HR := Lib.hid hr
    clear hr
    go_wp2_with fail
    go_ret
    exact ⟨ret_int (by rw [Hz.out, if_pos HR.out]), HO.out, HXX.out⟩
  · have e0 := empty_false hr
    have e1 : (!rest.toList.isEmpty) = true := by rw [e0]; rfl
    have HR := Lib.hid hr
    clear hr
    go_wp2_with fail
    go_ret
    exact ⟨ret_int (by rw [Hz.out, if_neg HR.out]), HO.out, HXX.out⟩
end Go.Proofs.YtbdfijgejkimnaaGreatDoor
/-! reply: service. -/
namespace Go.Proofs.YtbdfijgejkimnaaGreatDoor
open Go.Conc Go.RowKit

/-- A service's record that was read. -/
def SvcX (base px typ ttl pr wt po : Nat) (l : List ByteArray) (w : World) : Prop :=
  ∃ tv, w.heap[px]? = some (.cells (rrC ⟨⟨typ, ttl, (0, 0, 0, 0), pr, wt, po, l⟩, tv⟩).toArray 46 (0, 0)) ∧ w.ownsRow base 9 1 tv l.length (l.map .string)
def svcB (pr wt po : Nat) (l : List ByteArray) : List UInt8 := beL pr 2 ++ (beL wt 2 ++ (beL po 2 ++ ((bytesL l).data.toList ++ [0])))
theorem SvcX.errno {base px typ ttl pr wt po : Nat} {l : List ByteArray} {a c : World} {k : Nat} (h : SvcX base px typ ttl pr wt po l a) (hk : a.heap[k]? = some (.cells #[.int .i64 0] 56 (0, 0))) (ho : Only (fun x => x = k) a c) : SvcX base px typ ttl pr wt po l c := by
  obtain ⟨tv, h1, h2⟩ := h
  have hn : px ≠ k := by rintro rfl; rw [hk] at h1; simp at h1
  exact ⟨tv, ho.old h1 hn, owns_ty h2 ho (fun j hj cs f e => by subst hj; rw [hk] at e; simp at e)⟩
set_option maxRecDepth 100000 in
set_option maxHeartbeats 2000000 in
theorem service_any' (w : World) (px : Nat) (typ ttl pr wt po : Nat) (l : List ByteArray) (hm : mayGo 0 l = true) (hp : pr < 65536) (hwt : wt < 65536) (hpo : po < 65536)
    (hx : w.heap[px]? = some (.cells (rrC ⟨⟨typ, ttl, (0, 0, 0, 0), 0, 0, 0, []⟩, .slice none 0 0⟩).toArray 46 (0, 0))) :
    Calls Tryz.prog 122 #[.pointer (some ⟨px, 0, none⟩), .string ⟨(svcB pr wt po l).toArray⟩] w fun e w' => e = .returned (.tuple #[]) ∧ Only (fun x => x = px) w w' ∧ SvcX w.heap.size px typ ttl pr wt po l w' := by
  have hmf : ∀ (fn : Fn) (first cap : Array Value) (w : World), (Instr.makeFunc fn first cap).run Tryz.prog w = .ok (.func fn first cap) w := fun _ _ _ _ => rfl
  have hen : ∀ args w, (callFunc 140 args).run Tryz.prog w = .ok (.enter 140 args) w := fun _ _ => by go_simp
  have hlt := lt_of_block hx
  go_enter Tryz.func122, Tryz.ntmps122
  obtain ⟨W, hW⟩ : ∃ W, W = w.alloc (.cells #[.pointer (some ⟨px, 0, none⟩)] 207) := ⟨_, rfl⟩
  have hbW : W.heap[w.heap.size]? = some (.cells #[.pointer (some ⟨px, 0, none⟩)] 207 (0, 0)) := by rw [hW]; exact heap_alloc_new w _
  have hoW : Only (fun _ => False) w W := by rw [hW]; exact (Only.refl _ _).alloc _
  have hsW : W.heap.size = w.heap.size + 1 := by rw [hW]; simp
  have hx2 := hoW.old hx id
  have hrd := read_ok2 W ⟨(svcB pr wt po l).toArray⟩ 140 #[.pointer (some ⟨w.heap.size, 0, none⟩)] (fun x => x = px) ⟨#[]⟩ (SvcX w.heap.size px typ ttl pr wt po l) hen (fun a c k h1 h2 h3 => h1.errno h2 h3) (fun w1 b ho hr hb => by
    refine (service1_any w1 b w.heap.size px typ ttl pr wt po l hm hp hwt hpo hr (ho.old hbW id) (ho.old hx2 id)).mono ?_
    rintro e w2 ⟨tv, k1, k2, k3, k4, k5⟩
    exact ⟨k1, k2.weaken (fun x _ e => e.elim .inl (fun e => .inr ⟨e, by omega⟩)), k3, tv, k4, ownsBase1 k5 (by have := ho.size; omega)⟩)
  rw [if_pos (show (⟨#[]⟩ : ByteArray).size = 0 from rfl)] at hrd
  generalize (⟨(svcB pr wt po l).toArray⟩ : ByteArray) = DS at *
  have RD := Lib.hid hrd
  have HO := Lib.hid hoW
  clear hrd hoW
  clear hbW hsW hx hx2 hen
  go_upto_region 1 with (fail)
  rw [← hW]
  clear hW
  go_wp2_with fail
  refine RD.out.mono ?_
  rintro e w1 ⟨rfl, ho1, hx1⟩
  have HX1 := Lib.hid hx1
  have HO1 := Lib.hid ho1
  clear hx1 ho1
  go_wp2_with fail
  go_end0
  exact ⟨rfl, (HO.out.weaken (fun _ _ e => e.elim)).trans HO1.out, HX1.out⟩
end Go.Proofs.YtbdfijgejkimnaaGreatDoor
/-! reply: the record that is next. -/
namespace Go.Proofs.YtbdfijgejkimnaaGreatDoor
open Go.Conc Go.RowKit

theorem rrC_all (x : RRv) (hv : x.v.oneCell' = true) : (rrC x).toArray.all (·.oneCell') = true := by
  rw [List.all_toArray]
  simp only [rrC, List.all_cons, List.all_nil, hv, Bool.and_true]
  rfl
theorem rec_put {w : World} {px typ ttl : Nat} {a : Nat × Nat × Nat × Nat} (h : w.heap[px]? = some (.cells #[.int .u16 typ, .int .u32 ttl, .int .u8 0, .int .u8 0, .int .u8 0, .int .u8 0, .int .u16 0, .int .u16 0, .int .u16 0, .slice none 0 0] 46 (0, 0)))
    (ha : a.1 < 256 ∧ a.2.1 < 256 ∧ a.2.2.1 < 256 ∧ a.2.2.2 < 256) (D : List UInt8) (hd : D = [UInt8.ofNat a.1, UInt8.ofNat a.2.1, UInt8.ofNat a.2.2.1, UInt8.ofNat a.2.2.2]) :
    (w.setCells px 2 (List.map (fun x => Value.int IntKind.u8 (x.toNat : Int)) D)).heap[px]? = some (.cells (rrC ⟨⟨typ, ttl, a, 0, 0, 0, []⟩, .slice none 0 0⟩).toArray 46 (0, 0)) ∧
      Only (fun y => y = px) w (w.setCells px 2 (List.map (fun x => Value.int IntKind.u8 (x.toNat : Int)) D)) := by
  obtain ⟨a0, a1, a2, a3⟩ := a
  dsimp only at ha hd
  obtain ⟨h0, h1, h2, h3⟩ := ha
  have e (n : Nat) (hn : n < 256) : (UInt8.ofNat n).toNat = n := by rw [UInt8.toNat_ofNat']; omega
  refine ⟨?_, setCells_only px _ 2 w⟩
  rw [hd]
  simp only [List.map_cons, List.map_nil, e _ h0, e _ h1, e _ h2, e _ h3]
  have g1 := set_at h 2 (.int .u8 a0)
  have g2 := set_at g1 3 (.int .u8 a1)
  have g3 := set_at g2 4 (.int .u8 a2)
  exact set_at g3 5 (.int .u8 a3)
/-- A record that was read. -/
def RecordP (w w' : World) (b : Nat) (x : RR) (rest : List UInt8) (e : Ending) : Prop :=
  ∃ tv, e = .returned (.agg (rrC ⟨x, tv⟩).toArray) ∧ Only (fun y => y = b) w w' ∧ RdAt w' b ⟨rest.toArray⟩ ∧ w'.ownsRow w.heap.size 9 1 tv x.tgt.length (x.tgt.map .string)
set_option maxRecDepth 100000 in
set_option maxHeartbeats 4000000 in
theorem record_any (w : World) (b : Nat) (x : RR) (ok : RROk x) (rest : List UInt8) (h : RdAt w b ⟨(rrB x ++ rest).toArray⟩) :
    Calls Tryz.prog 85 #[.pointer (some ⟨b, 0, none⟩)] w fun e w' => RecordP w w' b x rest e := by
  have hdl := rdata_len ok
  have hblt := lt_of_block h
  obtain ⟨D, hD⟩ : ∃ D, D = rdataB x := ⟨_, rfl⟩
  have hrr : rrB x ++ rest = beL 49164 2 ++ (beL x.typ 2 ++ (beL 1 2 ++ (beL x.ttl 4 ++ (beL D.length 2 ++ (D ++ rest))))) := by simp [rrB, hD]
  rw [hrr] at h
  rw [← hD] at hdl
  have hty : x.typ < 65536 := by rcases ok.typ with e | e <;> omega
  have htt := ok.ttl
  have hdl2 : D.length < 65536 := by omega
  have hdl0 : (0 : Int) ≤ (D.length : Int) := by omega
  have HD := Lib.hid hD
  have H := Lib.hid h
  have HOK := Lib.hid ok
  clear hD h ok
  clear hrr
  go_enter Tryz.func85, Tryz.ntmps85
  obtain ⟨W, hW⟩ : ∃ W, W = w.alloc (.cells #[.int .u16 0, .int .u32 0, .int .u8 0, .int .u8 0, .int .u8 0, .int .u8 0, .int .u16 0, .int .u16 0, .int .u16 0, .slice none 0 0] 46) := ⟨_, rfl⟩
  have hbW : W.heap[w.heap.size]? = some (.cells #[.int .u16 0, .int .u32 0, .int .u8 0, .int .u8 0, .int .u8 0, .int .u8 0, .int .u16 0, .int .u16 0, .int .u16 0, .slice none 0 0] 46 (0, 0)) := by rw [hW]; exact heap_alloc_new w _
  have hoW : Only (fun _ => False) w W := by rw [hW]; exact (Only.refl _ _).alloc _
  have hsW : W.heap.size = w.heap.size + 1 := by rw [hW]; simp
  have HO0 := Lib.hid (hoW.weaken (T := fun y => y = b) (fun _ _ e => e.elim))
  have HRS := Lib.hid hbW
  have HR0 := Lib.hid (H.out.kept hoW id)
  have hnw : w.heap.size ≠ b := by omega
  have HSW := Lib.hid hsW
  clear hsW
  clear hoW hbW
  go_upto_region 1 with (fail)
  rw [← hW]
  clear hW
  go_wp2_with fail
  refine (rrawB W b 2 (beL 49164 2) _ HR0.out rfl).mono ?_
  rintro e v1 ⟨rfl, ho1, hr1⟩
  have hs1 := ho1.size
  have HO1 := Lib.hid (HO0.out.trans ho1)
  have HQ1 := Lib.hid ho1
  have HR1 := Lib.hid hr1
  clear hr1
  clear ho1
  have HRS1 := Lib.hid (HQ1.out.old HRS.out hnw)
  go_wp2_with fail
  refine (rnumB v1 b x.typ 2 _ HR1.out (by decide) (by decide) (by omega)).mono ?_
  rintro e v2 ⟨rfl, ho2, hr2⟩
  have hs2 := ho2.size
  have HO2 := Lib.hid (HO1.out.trans ho2)
  have HQ2 := Lib.hid ho2
  have HR2 := Lib.hid hr2
  clear hr2
  clear ho2
  have HRS2 := Lib.hid (HQ2.out.old HRS1.out hnw)
  obtain ⟨W3, hW3⟩ : ∃ W3, W3 = v2.alloc (.cells #[.int .u16 x.typ, .int .u32 0, .int .u8 0, .int .u8 0, .int .u8 0, .int .u8 0, .int .u16 0, .int .u16 0, .int .u16 0, .slice none 0 0] 46) := ⟨_, rfl⟩
  have hbW3 : W3.heap[v2.heap.size]? = some (.cells #[.int .u16 x.typ, .int .u32 0, .int .u8 0, .int .u8 0, .int .u8 0, .int .u8 0, .int .u16 0, .int .u16 0, .int .u16 0, .slice none 0 0] 46 (0, 0)) := by rw [hW3]; exact heap_alloc_new v2 _
  have hoW3 : Only (fun _ => False) v2 W3 := by rw [hW3]; exact (Only.refl _ _).alloc _
  have hsW3 : W3.heap.size = v2.heap.size + 1 := by rw [hW3]; simp
  have HO3 := Lib.hid (HO2.out.trans (hoW3.weaken (T := fun y => y = b) (fun _ _ e => e.elim)))
  have HRS3 := Lib.hid (hoW3.old HRS2.out id)
  have HR3 := Lib.hid (HR2.out.kept hoW3 id)
  have HX3 := Lib.hid hbW3
  have hnx : v2.heap.size ≠ b := by have := HSW.out; omega
  have hnr : v2.heap.size ≠ w.heap.size := by have := HSW.out; omega
  clear hoW3 hbW3
  go_upto_region 3 with (fail)
  rw [← hW3]
  clear hW3
  go_wp2_with fail
  refine (rrawB W3 b 2 (beL 1 2) _ HR3.out rfl).mono ?_
  rintro e v4 ⟨rfl, ho4, hr4⟩
  have hs4 := ho4.size
  have HO4 := Lib.hid (HO3.out.trans ho4)
  have HQ4 := Lib.hid ho4
  have HR4 := Lib.hid hr4
  clear hr4
  clear ho4
  have HRS4 := Lib.hid (HQ4.out.old HRS3.out hnw)
  have HX4 := Lib.hid (HQ4.out.old HX3.out hnx)
  go_wp2_with fail
  refine (rnumB v4 b x.ttl 4 _ HR4.out (by decide) (by decide) (by omega)).mono ?_
  rintro e v5 ⟨rfl, ho5, hr5⟩
  have hs5 := ho5.size
  have HO5 := Lib.hid (HO4.out.trans ho5)
  have HQ5 := Lib.hid ho5
  have HR5 := Lib.hid hr5
  clear hr5
  clear ho5
  have hx5 := HQ5.out.old HX4.out hnx
  have HRS5 := Lib.hid (HQ5.out.old HRS4.out hnw)
  have c1 : v5.cell? ⟨v2.heap.size, 1, none⟩ = some (.int .u32 0) := cell_at hx5 1
  have f1 : v5.frozen? ⟨v2.heap.size, 1, none⟩ = false := free_at hx5 1
  have HX5 := Lib.hid hx5
  clear hx5
  go_upto_region 5 with (fail)
  have q6 : Only (fun y => y = v2.heap.size) v5 (v5.setCell ⟨v2.heap.size, 1, none⟩ (.int .u32 x.ttl)) := (Only.refl (fun y => y = v2.heap.size) v5).setCell (p := ⟨v2.heap.size, 1, none⟩) (.inr rfl) _
  have hx6 := set_at HX5.out 1 (.int .u32 x.ttl)
  have HX6 := Lib.hid (show (v5.setCell ⟨v2.heap.size, 1, none⟩ (.int .u32 x.ttl)).heap[v2.heap.size]? = some (.cells #[.int .u16 x.typ, .int .u32 x.ttl, .int .u8 0, .int .u8 0, .int .u8 0, .int .u8 0, .int .u16 0, .int .u16 0, .int .u16 0, .slice none 0 0] 46 (0, 0)) from hx6)
  have hsz2 : w.heap.size < v2.heap.size := by have := HSW.out; omega
  have HO6 := Lib.hid (HO5.out.tr q6 (fun y hy e => by omega))
  have HRS6 := Lib.hid (q6.old HRS5.out (fun e => hnr e.symm))
  have HR6 := Lib.hid (HR5.out.kept q6 (fun e => hnx e.symm))
  clear q6 hx6 c1 f1
  generalize v5.setCell ⟨v2.heap.size, 1, none⟩ (.int .u32 x.ttl) = v6 at *
  go_wp2_with fail
  refine (rnumB v6 b D.length 2 _ HR6.out (by decide) (by decide) (by omega)).mono ?_
  rintro e v7 ⟨rfl, ho7, hr7⟩
  have hs7 := ho7.size
  have HO7 := Lib.hid (HO6.out.trans ho7)
  have HQ7 := Lib.hid ho7
  have HR7 := Lib.hid hr7
  clear hr7
  clear ho7
  have HRS7 := Lib.hid (HQ7.out.old HRS6.out hnw)
  have HX7 := Lib.hid (HQ7.out.old HX6.out hnx)
  go_wp2_with fail
  refine (rrawB v7 b D.length D rest HR7.out rfl).mono ?_
  rintro e v8 ⟨rfl, ho8, hr8⟩
  have hs8 := ho8.size
  have HO8 := Lib.hid (HO7.out.trans ho8)
  have HQ8 := Lib.hid ho8
  have HR8 := Lib.hid hr8
  clear hr8
  clear ho8
  have HRS8 := Lib.hid (HQ8.out.old HRS7.out hnw)
  have hx8 := HQ8.out.old HX7.out hnx
  have c0 : v8.cell? ⟨v2.heap.size, 0, none⟩ = some (.int .u16 x.typ) := cell_at hx8 0
  have HX8 := Lib.hid hx8
  clear hx8
  have hDs : (⟨D.toArray⟩ : ByteArray).size = D.length := rfl
  rcases HOK.out.typ with h1 | h33
  · have e1 : ((x.typ : Int) == 1) = true := by simp; omega
    have hd : D = [UInt8.ofNat x.a.1, UInt8.ofNat x.a.2.1, UInt8.ofNat x.a.2.2.1, UInt8.ofNat x.a.2.2.2] := by rw [HD.out, rdataB, if_pos h1]
    have hl4 : ((⟨D.toArray⟩ : ByteArray).size : Int) = 4 := by rw [hd]; rfl
    have hl4n : (⟨D.toArray⟩ : ByteArray).size = 4 := by rw [hd]; rfl
    have hcp := fun ty : TypeId => run_copy_string (P := Tryz.prog) v8 61 9 ty 5 v2.heap.size 2 4 4 ⟨D.toArray⟩ Tryz.underlying61 sizeU8 (by omega)
      (fun j hj => by
        rw [cell_at HX8.out]
        have : j < 4 := by omega
        match j, this with
        | 0, _ => rfl
        | 1, _ => rfl
        | 2, _ => rfl
        | 3, _ => rfl) (fun j _ => free_at HX8.out _)
    have hl5 : (((⟨D.toArray⟩ : ByteArray).size : Int) == 4) = true := by rw [hl4]; rfl
    have hl6 : ((D.length : Int) == 4) = true := by rw [hd]; rfl
    have H1 := Lib.hid h1
    have HDD := Lib.hid hd
    clear hd h1 hDs hl4n
    go_upto_region 8 with (fail)
    go_upto_region 11 with (fail)
    obtain ⟨hx9, hq9⟩ := rec_put HX8.out HOK.out.a D HDD.out
    generalize v8.setCells v2.heap.size 2 (List.map (fun x => Value.int IntKind.u8 (x.toNat : Int)) D) = v9 at *
    have hrs9 := hq9.old HRS8.out (fun e => hnr e.symm)
    have HO9 := Lib.hid (HO8.out.tr hq9 (fun y hy e => by omega))
    have HR9 := Lib.hid (HR8.out.kept hq9 (fun e => hnx e.symm))
    have hlt9 : w.heap.size < v9.heap.size := lt_of_block hrs9
    have hlx9 : v2.heap.size < v9.heap.size := lt_of_block hx9
    have HX9 := Lib.hid hx9
    have HRS9 := Lib.hid hrs9
    clear hx9 hrs9
    clear hq9 hcp hl4 hl5 hl6
    go_wp2_with (first
      | ((with_reducible refine wpList_load_row (o := ⟨some 42, .load 46 (.tmp 3), _, _, _, none⟩) rfl _ _ rfl (v2.heap.size) ?_ 46 _ (0, 0) _ HX9.out Tryz.underlying46 ?_ (infoRr _) ?_); (· rfl); (· rfl))
      | ((with_reducible refine wpList_store_row (o := ⟨none, .store 46 (.tmp 2) (.tmp 42), _, _, _, none⟩) rfl _ _ _ rfl (w.heap.size) ((rrC ⟨⟨x.typ, x.ttl, x.a, 0, 0, 0, []⟩, .slice none 0 0⟩).toArray) ?_ ?_ 46 _ HRS9.out (infoRr _) ?_ (rrC_all _ rfl) ?_); (· rfl); (· rfl); (· rfl)))
    have hb9 := row_set HRS9.out (rrC ⟨⟨x.typ, x.ttl, x.a, 0, 0, 0, []⟩, .slice none 0 0⟩).toArray
    have hq9 : Only (fun y => y = w.heap.size) v9 (v9.setRow w.heap.size (rrC ⟨⟨x.typ, x.ttl, x.a, 0, 0, 0, []⟩, .slice none 0 0⟩).toArray) := (Only.refl (fun y => y = w.heap.size) v9).setRow (b := w.heap.size) (.inr rfl) _
    refine bodyPost_ret (results_row rfl _ _ w.heap.size 46 _ (0, 0) _ rfl hb9 Tryz.underlying46 rfl (infoRr _)) rfl ?_
    obtain ⟨ha1, ha2, ha3, ha4⟩ := HOK.out.one H1.out
    obtain ⟨typ, ttl, a, pr, wt, po, tgt⟩ := x
    dsimp only at ha1 ha2 ha3 ha4
    subst ha1 ha2 ha3 ha4
    exact ⟨_, rfl, HO9.out.tr hq9 (fun y hy e => by omega), HR9.out.kept hq9 (fun e => hnw e.symm), World.ownsRow_nil _ _ _ _⟩
  · have e1 : ((x.typ : Int) == 1) = false := by simp; omega
    have e2 : ((x.typ : Int) == 33) = true := by simp; omega
    have hd : D = svcB x.pr x.wt x.po x.tgt := by rw [HD.out, rdataB, if_neg (by omega)]; rfl
    have hsv := service_any' v8 v2.heap.size x.typ x.ttl x.pr x.wt x.po x.tgt HOK.out.tgt HOK.out.pr HOK.out.wt HOK.out.po HX8.out
    rw [← hd] at hsv
    have H33 := Lib.hid h33
    have HSV := Lib.hid hsv
    clear hsv
    clear hd h33 hDs
    go_upto_region 11 with ((with_reducible refine HSV.out.mono ?_); rintro e v9 ⟨rfl, ho9, hsx⟩)
    obtain ⟨tv, hx9, own9⟩ := hsx
    obtain ⟨_, ta, tc, rfl, _⟩ := id (Sl.of_owns own9)
    have hrs9 := ho9.old HRS8.out (fun e => hnr e.symm)
    have HO9 := Lib.hid (HO8.out.tr ho9 (fun y hy e => by omega))
    have HR9 := Lib.hid (HR8.out.kept ho9 (fun e => hnx e.symm))
    have hlt9 : w.heap.size < v9.heap.size := lt_of_block hrs9
    have hlx9 : v2.heap.size < v9.heap.size := lt_of_block hx9
    have hs89 : w.heap.size ≤ v8.heap.size := HO8.out.size
    have HX9 := Lib.hid hx9
    have HRS9 := Lib.hid hrs9
    have HOWN := Lib.hid own9
    clear hx9 hrs9 own9
    clear ho9
    go_wp2_with (first
      | ((with_reducible refine wpList_load_row (o := ⟨some 42, .load 46 (.tmp 3), _, _, _, none⟩) rfl _ _ rfl (v2.heap.size) ?_ 46 _ (0, 0) _ HX9.out Tryz.underlying46 ?_ (infoRr _) ?_); (· rfl); (· rfl))
      | ((with_reducible refine wpList_store_row (o := ⟨none, .store 46 (.tmp 2) (.tmp 42), _, _, _, none⟩) rfl _ _ _ rfl (w.heap.size) ((rrC ⟨⟨x.typ, x.ttl, (0, 0, 0, 0), x.pr, x.wt, x.po, x.tgt⟩, .slice ta x.tgt.length tc⟩).toArray) ?_ ?_ 46 _ HRS9.out (infoRr _) ?_ (rrC_all _ rfl) ?_); (· rfl); (· rfl); (· rfl)))
    have hb9 := row_set HRS9.out (rrC ⟨⟨x.typ, x.ttl, (0, 0, 0, 0), x.pr, x.wt, x.po, x.tgt⟩, .slice ta x.tgt.length tc⟩).toArray
    have hq9 : Only (fun y => y = w.heap.size) v9 (v9.setRow w.heap.size (rrC ⟨⟨x.typ, x.ttl, (0, 0, 0, 0), x.pr, x.wt, x.po, x.tgt⟩, .slice ta x.tgt.length tc⟩).toArray) := (Only.refl (fun y => y = w.heap.size) v9).setRow (b := w.heap.size) (.inr rfl) _
    refine bodyPost_ret (results_row rfl _ _ w.heap.size 46 _ (0, 0) _ rfl hb9 Tryz.underlying46 rfl (infoRr _)) rfl ?_
    have hax := HOK.out.srv H33.out
    obtain ⟨typ, ttl, a, pr, wt, po, tgt⟩ := x
    dsimp only at hax
    subst hax
    refine ⟨_, rfl, HO9.out.tr hq9 (fun y hy e => by omega), HR9.out.kept hq9 (fun e => hnw e.symm), ?_⟩
    have hv8 : w.heap.size < v8.heap.size := lt_of_block HRS8.out
    exact ownsBase1 (owns_only HOWN.out hq9 (fun k hk e => by omega)) hs89
end Go.Proofs.YtbdfijgejkimnaaGreatDoor
/-! reply.read's closure: the question's type and class, the records. -/
namespace Go.Proofs.YtbdfijgejkimnaaGreatDoor
open Go.Conc Go.RowKit

/-- What read's closure leaves: the query, the records. -/
structure ReadX (base pq po : Nat) (h : HeadT) (a : Bool) (nv : Value) (t c : Nat) (L : List RR) (w : World) : Prop where
  q : w.heap[pq]? = some (.cells (qC h a nv t c).toArray 55 (0, 0))
  o : ∃ v E, w.heap[po]? = some (.cells #[v] 37 (0, 0)) ∧ RpRow w base v E ∧ E.map (·.r) = L
theorem RpRow.ty {S : Nat → Prop} {w w' : World} {base : Nat} {v : Value} {E : List RRv} (h : RpRow w base v E) (ho : Only S w w') (h1 : ∀ k, S k → ∀ cs f, w.heap[k]? ≠ some (.cells cs 46 f)) (h2 : ∀ k, S k → ∀ cs f, w.heap[k]? ≠ some (.cells cs 9 f)) : RpRow w' base v E :=
  ⟨owns_ty h.row ho h1, fun e he => owns_ty (h.tgt e he) ho h2⟩
theorem ReadX.errno {base pq po : Nat} {h : HeadT} {a : Bool} {nv : Value} {t c : Nat} {L : List RR} {w w' : World} {k : Nat} (x : ReadX base pq po h a nv t c L w) (hk : w.heap[k]? = some (.cells #[.int .i64 0] 56 (0, 0))) (ho : Only (fun x => x = k) w w') : ReadX base pq po h a nv t c L w' := by
  obtain ⟨h1, v, E, h2, h3, h4⟩ := x
  have n1 : pq ≠ k := by rintro rfl; rw [hk] at h1; simp at h1
  have n2 : po ≠ k := by rintro rfl; rw [hk] at h2; simp at h2
  exact ⟨ho.old h1 n1, v, E, ho.old h2 n2, h3.ty ho (fun j hj cs f e => by subst hj; rw [hk] at e; simp at e) (fun j hj cs f e => by subst hj; rw [hk] at e; simp at e), h4⟩
/-- The bytes behind a question's name. -/
def tailB (a : Bool) (t c : Nat) : List UInt8 := if a then beL t 2 ++ beL c 2 else []
set_option maxRecDepth 100000 in
set_option maxHeartbeats 4000000 in
theorem read1r_any (w : World) (b pv pq pc po : Nat) (hh : HeadT) (a : Bool) (nv : Value) (t c : Nat) (L : List RR) (c0 c2 c3 : Nat) (ht : t < 65536) (hc : c < 65536) (hta : a = false → t = 0 ∧ c = 0)
    (h : RdAt w b ⟨(tailB a t c ++ rrsB L).toArray⟩) (hv : w.heap[pv]? = some (.cells #[.pointer (some ⟨pq, 0, none⟩)] 109 (0, 0)))
    (hx : w.heap[pq]? = some (.cells (qC hh a nv 0 0).toArray 55 (0, 0)))
    (hcs : w.heap[pc]? = some (.cells #[.int .u16 c0, .int .u16 L.length, .int .u16 c2, .int .u16 c3] 51 (0, 0)))
    (hpo : w.heap[po]? = some (.cells #[.slice none 0 0] 37 (0, 0))) (ok : ∀ x ∈ L, RROk x) (hl : L.length ≤ 1000) :
    Calls Tryz.prog 84 #[.pointer (some ⟨b, 0, none⟩), .pointer (some ⟨pv, 0, none⟩), .pointer (some ⟨pc, 0, none⟩), .pointer (some ⟨po, 0, none⟩)] w fun e w' => e = .returned (.tuple #[]) ∧ Only (fun x => x = b ∨ x = pq ∨ x = po) w w' ∧ RdAt w' b ⟨#[]⟩ ∧ ReadX w.heap.size pq po hh a nv t c L w' := by
  obtain ⟨i0, hi0, iz0, iz1, iz2⟩ := info_parts infoRR
  have n1 : pv ≠ b := by rintro rfl; rw [RdAt, hv] at h; simp at h
  have n2 : pq ≠ b := by rintro rfl; rw [RdAt, hx] at h; simp at h
  have n3 : pv ≠ pq := by rintro rfl; rw [hx] at hv; simp at hv
  have n4 : pc ≠ b := by rintro rfl; rw [RdAt, hcs] at h; simp at h
  have n5 : po ≠ b := by rintro rfl; rw [RdAt, hpo] at h; simp at h
  have n6 : pc ≠ pq := by rintro rfl; rw [hx] at hcs; simp at hcs
  have n7 : po ≠ pq := by rintro rfl; rw [hx] at hpo; simp at hpo
  have n8 : pc ≠ po := by rintro rfl; rw [hpo] at hcs; simp at hcs
  have n9 : pv ≠ po := by rintro rfl; rw [hpo] at hv; simp at hv
  have HO0 := Lib.hid (Only.refl (fun x => x = b ∨ x = pq) w)
  have x13 : w.cell? ⟨pq, 13, none⟩ = some (.bool a) := (cell_at hx 13).trans rfl
  have cv0 : w.cell? ⟨pv, 0, none⟩ = some (.pointer (some ⟨pq, 0, none⟩)) := cell_at hv 0
  have HR0 := Lib.hid h
  have HV0 := Lib.hid hv
  have HX0 := Lib.hid hx
  have HCS := Lib.hid hcs
  have HPO := Lib.hid hpo
  have HOK := Lib.hid ok
  have HTA := Lib.hid hta
  clear h hv hx hcs hpo ok hta
  go_enter Tryz.func84, Tryz.ntmps84
  go_upto_if 8 with (fail)
  clear cv0 x13
  go_cut [8] (fun _ wx => Only (fun x => x = b ∨ x = pq) w wx ∧ RdAt wx b ⟨(rrsB L).toArray⟩ ∧ wx.heap[pq]? = some (.cells (qC hh a nv t c).toArray 55 (0, 0)))
  case first =>
    cases a with
    | true =>
      have h0 := HR0.out
      unfold tailB at h0
      rw [if_pos rfl, List.append_assoc] at h0
      clear HR0
      have HR0 := Lib.hid h0
      clear h0
      go_wp2_with fail
      have cv : w.cell? ⟨pv, 0, none⟩ = some (.pointer (some ⟨pq, 0, none⟩)) := cell_at HV0.out 0
      have x6 : w.cell? ⟨pq, 15, none⟩ = some (.int .u16 0) := (cell_at HX0.out 15).trans rfl
      have f6 : w.frozen? ⟨pq, 15, none⟩ = false := free_at HX0.out 15
      have HC := Lib.hid (rnumB w.drew b t 2 (beL c 2 ++ rrsB L) HR0.out.drew (by decide) (by decide) (by omega))
      have hwr : IntKind.u16.wrap (t : Int) = t := by show (t : Int) % 65536 = t; omega
      go_cut [9] (fun _ wx => Only (fun x => x = b ∨ x = pq) w wx ∧ RdAt wx b ⟨(beL c 2 ++ rrsB L).toArray⟩ ∧ wx.heap[pv]? = some (.cells #[.pointer (some ⟨pq, 0, none⟩)] 109 (0, 0)) ∧ wx.heap[pq]? = some (.cells (qC hh true nv t 0).toArray 55 (0, 0)))
      case first =>
        go_region_law (first
          | (go_simp
             refine HC.out.mono ?_
             rintro e wa ⟨rfl, hoa, hra⟩
             have cva : wa.cell? ⟨pv, 0, none⟩ = some (.pointer (some ⟨pq, 0, none⟩)) := Only.cell hoa cv (by simpa using n1)
             have x6a : wa.cell? ⟨pq, 15, none⟩ = some (.int .u16 0) := Only.cell hoa x6 (by simpa using n2)
             have f6a : wa.frozen? ⟨pq, 15, none⟩ = false := free_at (Only.old hoa (show w.drew.heap[pq]? = _ from HX0.out) n2) 15))
        all_goals (
          go_wp2_with fail
          go_meet
          have hq : Only (fun x => x = pq) wa (wa.setCell ⟨pq, 15, none⟩ (.int .u16 t)) := (Only.refl (fun x => x = pq) wa).setCell (p := ⟨pq, 15, none⟩) (.inr rfl) _
          exact ⟨(HO0.out.drew.trans (hoa.weaken (fun _ _ e => .inl e))).trans (hq.weaken (fun _ _ e => .inr e)), hra.kept hq (fun e => n2 e.symm), hq.old (Only.old hoa (show w.drew.heap[pv]? = _ from HV0.out) n1) n3, set_at (Only.old hoa (show w.drew.heap[pq]? = _ from HX0.out) n2) 15 _⟩)
      case rest =>
      rename World => w1
      obtain ⟨ho1, hr1, hv1, hx1⟩ := hcut
      have HO1 := Lib.hid ho1
      have HR1 := Lib.hid hr1
      have HV1 := Lib.hid hv1
      have HX1 := Lib.hid hx1
      clear ho1 hr1 hv1 hx1
      clear cv x6 f6 HC hwr
      go_wp2_with fail
      have cv : w1.cell? ⟨pv, 0, none⟩ = some (.pointer (some ⟨pq, 0, none⟩)) := cell_at HV1.out 0
      have x6 : w1.cell? ⟨pq, 16, none⟩ = some (.int .u16 0) := (cell_at HX1.out 16).trans rfl
      have f6 : w1.frozen? ⟨pq, 16, none⟩ = false := free_at HX1.out 16
      have HC := Lib.hid (rnumB w1.drew b c 2 (rrsB L) HR1.out.drew (by decide) (by decide) (by omega))
      have hwr : IntKind.u16.wrap (c : Int) = c := by show (c : Int) % 65536 = c; omega
      go_cut [15] (fun _ wx => Only (fun x => x = b ∨ x = pq) w wx ∧ RdAt wx b ⟨(rrsB L).toArray⟩ ∧ wx.heap[pv]? = some (.cells #[.pointer (some ⟨pq, 0, none⟩)] 109 (0, 0)) ∧ wx.heap[pq]? = some (.cells (qC hh true nv t c).toArray 55 (0, 0)))
      case first =>
        go_region_law (first
          | (go_simp
             refine HC.out.mono ?_
             rintro e wa ⟨rfl, hoa, hra⟩
             have cva : wa.cell? ⟨pv, 0, none⟩ = some (.pointer (some ⟨pq, 0, none⟩)) := Only.cell hoa cv (by simpa using n1)
             have x6a : wa.cell? ⟨pq, 16, none⟩ = some (.int .u16 0) := Only.cell hoa x6 (by simpa using n2)
             have f6a : wa.frozen? ⟨pq, 16, none⟩ = false := free_at (Only.old hoa (show w1.drew.heap[pq]? = _ from HX1.out) n2) 16))
        all_goals (
          go_wp2_with fail
          go_meet
          have hq : Only (fun x => x = pq) wa (wa.setCell ⟨pq, 16, none⟩ (.int .u16 c)) := (Only.refl (fun x => x = pq) wa).setCell (p := ⟨pq, 16, none⟩) (.inr rfl) _
          exact ⟨(HO1.out.drew.trans (hoa.weaken (fun _ _ e => .inl e))).trans (hq.weaken (fun _ _ e => .inr e)), hra.kept hq (fun e => n2 e.symm), hq.old (Only.old hoa (show w1.drew.heap[pv]? = _ from HV1.out) n1) n3, set_at (Only.old hoa (show w1.drew.heap[pq]? = _ from HX1.out) n2) 16 _⟩)
      case rest =>
      rename World => w2
      obtain ⟨ho2, hr2, hv2, hx2⟩ := hcut
      have HO2 := Lib.hid ho2
      have HR2 := Lib.hid hr2
      have HV2 := Lib.hid hv2
      have HX2 := Lib.hid hx2
      clear ho2 hr2 hv2 hx2
      clear cv x6 f6 HC hwr
      go_wp2_with fail
      go_meet
      exact ⟨HO2.out, HR2.out, HX2.out⟩
    | false =>
      obtain ⟨rfl, rfl⟩ := HTA.out rfl
      go_wp2_with fail
      go_meet
      exact ⟨HO0.out, HR0.out, HX0.out⟩
  case rest =>
  rename World => w3
  obtain ⟨ho3, hr3, hx3⟩ := hcut
  have hcs3 := ho3.old HCS.out (fun e => e.elim n4 n6)
  have hpo3 := ho3.old HPO.out (fun e => e.elim n5 n7)
  have z1 : w3.cell? ⟨pc, 1, none⟩ = some (.int .u16 L.length) := cell_at hcs3 1
  have HO3 := Lib.hid ho3
  have HR3 := Lib.hid hr3
  have HX3 := Lib.hid hx3
  have HPO3 := Lib.hid hpo3
  clear ho3 hr3 hx3 hpo3
  clear hcs3
  go_wp2_with fail
  clear z1
  go_loopg [23] L.length (fun g v23 wr => ∃ k : Nat, v23 = .int .u16 k ∧ k ≤ L.length ∧ Only (fun x => x = b ∨ x = pq ∨ x = po) w wr ∧ RdAt wr b ⟨(rrsB (L.drop k)).toArray⟩ ∧ ReadX w.heap.size pq po hh a nv t c (L.take k) wr ∧ g = L.length - k)
  case atStart => exact ⟨0, rfl, Nat.zero_le _, HO3.out.weaken (fun x _ e => e.elim .inl (fun e => .inr (.inl e))), HR3.out, ⟨HX3.out, _, [], HPO3.out, RpRow.nil _ _, rfl⟩, rfl⟩
  case round =>
    obtain ⟨k, rfl, hk, ho, hr, hX, hg⟩ := hrel
    have Hg := Lib.hid hg
    clear hg
    by_cases hlt : k < L.length
    · have hlt' : (k : Int) < (L.length : Int) := by omega
      have hdr : rrsB (L.drop k) = rrB L[k] ++ rrsB (L.drop (k + 1)) := by rw [List.drop_eq_getElem_cons hlt]; rfl
      rw [hdr] at hr
      have hokx := HOK.out _ (List.getElem_mem hlt)
      have hsn : L.take (k + 1) = L.take k ++ [L[k]] := List.take_succ_eq_append_getElem hlt
      generalize L[k] = x at *
      obtain ⟨hq, v, E, hp, hrow, hE⟩ := hX
      have hEl : E.length = k := by
        have h1 := congrArg List.length hE
        rw [List.length_map, List.length_take] at h1
        omega
      obtain ⟨_, ra, rc, hra, _⟩ := id (Sl.of_owns hrow.row)
      subst hra
      have hszw := ho.size
      have hrec := record_any wr.drew b x hokx _ hr.drew
      have cpo : wr.cell? ⟨po, 0, none⟩ = some (.slice ra E.length rc) := cell_at hp 0
      obtain ⟨typ, ttl, ⟨a0, a1, a2, a3⟩, pr, wt, pt, tgt⟩ := x
      unfold RecordP rrC at hrec
      dsimp only at hrec
      have HREC := Lib.hid hrec
      have HO := Lib.hid ho
      have HR := Lib.hid hr
      have HQ := Lib.hid hq
      have HP := Lib.hid hp
      have HROW := Lib.hid hrow
      have HEE := Lib.hid hE
      have HEL := Lib.hid hEl
      have HSN := Lib.hid hsn
      clear hrec ho hr hq hp hrow hE hEl hsn
      clear hdr hokx
      go_upto_region 5 with (fail)
      go_region_law (first
        | (refine step_append_src rfl (.tmp 25) (.tmp 28) 37 37 rfl w.heap.size 46 i0 _ 10 48 Tryz.underlying37 hi0 iz0 iz1 iz2 rfl (.slice ra E.length rc) E.length (E.flatMap rrC) rfl (rowA.row.alloc _) _ 1 (rrC ⟨⟨typ, ttl, (a0, a1, a2, a3), pr, wt, pt, tgt⟩, tv⟩) rfl (Src.ofSlice _ Tryz.underlying37 _ _ _ _ rfl (news_new _ _ _) (rrC_one (w := wa) (base := w.heap.size) hot)) (by have := HEL.out; unfold maxLen; omega) (by have := HEL.out; omega) (by simp; omega) ?_
           intro v1 w4 own4 gr4 hv4
           obtain ⟨_, va, vcc, rfl, _⟩ := id (Sl.of_owns own4)
           have hp4 : w4.heap[po]? = some (.cells #[.slice ra E.length rc] 37 (0, 0)) := blkGr (Only.old ((Only.refl (fun _ => False) _).alloc _) hpa id) (rowA.row.alloc _) (by decide) gr4
           have cpo4 : w4.cell? ⟨po, 0, none⟩ = some (.slice ra E.length rc) := cell_at hp4 0
           have fpo4 : w4.frozen? ⟨po, 0, none⟩ = false := free_at hp4 0)
        | (go_simp
           refine HREC.out.mono ?_
           rintro e wa ⟨tv, rfl, hoa, hra, howna⟩
           have hpa : wa.heap[po]? = some (.cells #[.slice ra E.length rc] 37 (0, 0)) := hoa.old (show wr.drew.heap[po]? = _ from HP.out) n5
           have hpl : po < wa.heap.size := lt_of_block hpa
           have hqa : wa.heap[pq]? = some (.cells (qC hh a nv t c).toArray 55 (0, 0)) := hoa.old (show wr.drew.heap[pq]? = _ from HQ.out) n2
           have cpoa : wa.cell? ⟨po, 0, none⟩ = some (.slice ra E.length rc) := cell_at hpa 0
           have hot : TgtRow wa w.heap.size ⟨⟨typ, ttl, (a0, a1, a2, a3), pr, wt, pt, tgt⟩, tv⟩ := ownsBase howna hszw
           have rowA : RpRow wa w.heap.size (.slice ra E.length rc) E := (show RpRow wr.drew w.heap.size (.slice ra E.length rc) E from HROW.out.dr).ty hoa (fun j hj cs f e => by subst hj; have h9 := HR.out; unfold RdAt at h9; rw [show wr.drew.heap = wr.heap from rfl, h9] at e; simp at e) (fun j hj cs f e => by subst hj; have h9 := HR.out; unfold RdAt at h9; rw [show wr.drew.heap = wr.heap from rfl, h9] at e; simp at e)
           have hsza : w.heap.size ≤ wa.heap.size := Nat.le_trans hszw hoa.size))
      all_goals (
        have hq4 := blkGr (Only.old ((Only.refl (fun _ => False) _).alloc _) hqa id) (rowA.row.alloc _) (by decide) gr4
        have hr4 : RdAt w4 b ⟨(rrsB (L.drop (k + 1))).toArray⟩ := blkGr (Only.old ((Only.refl (fun _ => False) _).alloc _) hra id) (rowA.row.alloc _) (by decide) gr4
        have ho4 : Only (fun x => x = b ∨ x = pq ∨ x = po) w w4 := Only.grown (((HO.out.drew.trans (hoa.weaken (fun _ _ e => .inl e))).alloc _)) gr4 (fun j e => .inl (hv4 j e))
        have hq9 : Only (fun x => x = po) w4 (w4.setCell ⟨po, 0, none⟩ (.slice va (E.length + 1) vcc)) := (Only.refl (fun x => x = po) w4).setCell (p := ⟨po, 0, none⟩) (.inr rfl) _
        have hrf : RpRow w4 w.heap.size (.slice va (E.length + 1) vcc) (E ++ [⟨⟨typ, ttl, (a0, a1, a2, a3), pr, wt, pt, tgt⟩, tv⟩]) := RpRow.app (rowA.al _) (hot.alloc _) rfl own4 gr4
        go_wp2_with fail
        go_roundg (L.length - (k + 1))
        case measure => rw [Hg.out]; omega
        case rel =>
          refine ⟨k + 1, by go_num, by omega, ho4.trans (hq9.weaken (fun _ _ e => .inr (.inr e))), hr4.kept hq9 (fun e => n5 e.symm), ⟨hq9.old hq4 (fun e => n7 e.symm), _, _, set_at hp4 0 _, hrf.ty hq9 (fun j hj cs f e => by subst hj; rw [hp4] at e; simp at e) (fun j hj cs f e => by subst hj; rw [hp4] at e; simp at e), ?_⟩, rfl⟩
          rw [List.map_append, HEE.out, HSN.out]
          rfl)
    · have hke : k = L.length := by omega
      have hlt' : ¬ (k : Int) < (L.length : Int) := by omega
      rw [hke, List.drop_length] at hr
      rw [hke, List.take_length] at hX
      have HX := Lib.hid hX
      have HR := Lib.hid hr
      have HO := Lib.hid ho
      clear hX hr ho
      go_wp2_with fail
      go_end0
      exact ⟨rfl, HO.out, HR.out, HX.out⟩
end Go.Proofs.YtbdfijgejkimnaaGreatDoor
/-! reply.read: a reply behind its head. -/
namespace Go.Proofs.YtbdfijgejkimnaaGreatDoor
open Go.Conc Go.RowKit

/-- The head that a parsed reply's query has. -/
def hdQ (q : QT) (n : Nat) : HeadT := ⟨q.id, false, q.op, false, false, q.des, false, 0, 0, (n, 0, 0, 0)⟩
theorem rdP_rep (q : QT) (ok : QTOk q) (ha : q.asked = true) (H R : List UInt8) (hH : H.length = 12) : rdP ⟨(H ++ (askB q ++ R)).toArray⟩ 12 12 [] = ⟨q.name, ((12 + (bytesL q.name).size + 1 : Nat) : Int), 0⟩ := by
  have h := rdP_written ⟨H.toArray⟩ ⟨(beL q.typ 2 ++ (beL q.cls 2 ++ R)).toArray⟩ q.name [] 12 (by simpa using ok.name ha)
  have e1 : (⟨H.toArray⟩ ++ (bytesL ([] ++ q.name) ++ (⟨#[0]⟩ ++ ⟨(beL q.typ 2 ++ (beL q.cls 2 ++ R)).toArray⟩)) : ByteArray) = ⟨(H ++ (askB q ++ R)).toArray⟩ := by
    apply str_ext
    unfold askB
    rw [if_pos ha]
    simp [ByteArray.data_append]
  rw [e1] at h
  have e2 : (⟨H.toArray⟩ : ByteArray).size = 12 := by simp [ByteArray.size, hH]
  have e3 : (bytesL []).size = 0 := rfl
  rw [e2, e3] at h
  rw [show (12 : Nat) = 12 + 0 from rfl]
  rw [h]
  show (⟨[] ++ q.name, _, 0⟩ : Rd) = _
  rw [List.nil_append]
  congr 1
theorem rest_rep (q : QT) (H R : List UInt8) (hH : H.length = 12) : (⟨(H ++ (askB q ++ R)).toArray⟩ : ByteArray).extract (if q.asked then 12 + (bytesL q.name).size + 1 else 12) (⟨(H ++ (askB q ++ R)).toArray⟩ : ByteArray).size = ⟨(tailB q.asked q.typ q.cls ++ R).toArray⟩ := by
  have hs : ∀ l : List UInt8, (⟨l.toArray⟩ : ByteArray).size = l.length := fun l => by simp [ByteArray.size]
  unfold askB tailB
  split
  · have e : (bytesL q.name).data.toList.length = (bytesL q.name).size := rfl
    have hl : H ++ (((bytesL q.name).data.toList ++ ([0] ++ (beL q.typ 2 ++ beL q.cls 2))) ++ R) = (H ++ ((bytesL q.name).data.toList ++ [0])) ++ ((beL q.typ 2 ++ beL q.cls 2) ++ R) := by simp
    rw [hl]
    exact ext_back _ _ _ _ (by simp only [List.length_append, e, List.length_cons, List.length_nil]; omega) (hs _)
  · rw [List.nil_append]
    exact ext_back _ _ _ _ hH (hs _)
theorem ReadX.base {B base pq po : Nat} {h : HeadT} {a : Bool} {nv : Value} {t c : Nat} {L : List RR} {w : World} (x : ReadX base pq po h a nv t c L w) (hb : B ≤ base) : ReadX B pq po h a nv t c L w := by
  obtain ⟨h1, v, E, h2, h3, h4⟩ := x
  exact ⟨h1, v, E, h2, h3.base hb, h4⟩
/-- The question's name was read. -/
def Rd5C (W wx : World) (pq : Nat) (q : QT) : Prop := Only (fun x => x = pq) W wx ∧ ∃ a c, wx.heap[pq]? = some (.cells (qC (hdQ q q.asked.toNat) q.asked (.slice a q.name.length c) 0 0).toArray 55 (0, 0)) ∧ wx.ownsRow W.heap.size 9 1 (.slice a q.name.length c) q.name.length (q.name.map .string)
/-- What read hands on. -/
def ReadR (w w' : World) (pq : Nat) (q : QT) (L : List RR) (e : Ending) : Prop :=
  ∃ v nv E, e = .returned (.tuple #[v, .int .i64 0]) ∧ Only (fun x => x = pq) w w' ∧ w'.heap[pq]? = some (.cells (qC (hdQ q q.asked.toNat) q.asked nv q.typ q.cls).toArray 55 (0, 0)) ∧ RpRow w' w.heap.size v E ∧ E.map (·.r) = L ∧ w'.ownsRow w.heap.size 9 1 nv q.name.length (q.name.map .string)
set_option maxRecDepth 100000 in
set_option maxHeartbeats 4000000 in
theorem rread5_any (w : World) (pq : Nat) (q : QT) (ok : QTOk q) (hta : q.asked = false → q.typ = 0 ∧ q.cls = 0 ∧ q.name = []) (L : List RR) (okL : ∀ x ∈ L, RROk x) (hl : L.length ≤ 1000) (c2 c3 : Nat) (H : List UInt8) (hH : H.length = 12)
    (hsz : (H ++ (askB q ++ rrsB L)).length ≤ 600) (hx : w.heap[pq]? = some (.cells (qC (hdQ q 0) false (.slice none 0 0) 0 0).toArray 55 (0, 0))) :
    Calls Tryz.prog 45 #[.string ⟨(H ++ (askB q ++ rrsB L)).toArray⟩, .pointer (some ⟨pq, 0, none⟩), .agg #[.int .u16 q.asked.toNat, .int .u16 L.length, .int .u16 c2, .int .u16 c3]] w fun e w' => ReadR w w' pq q L e := by
  have hmf : ∀ (fn : Fn) (first cap : Array Value) (w : World), (Instr.makeFunc fn first cap).run Tryz.prog w = .ok (.func fn first cap) w := fun _ _ _ _ => rfl
  have hen : ∀ args w, (callFunc 84 args).run Tryz.prog w = .ok (.enter 84 args) w := fun _ _ => by go_simp
  have hss : (⟨(H ++ (askB q ++ rrsB L)).toArray⟩ : ByteArray).size = (H ++ (askB q ++ rrsB L)).length := by simp [ByteArray.size]
  have hlen : (H ++ (askB q ++ rrsB L)).length = 12 + (askB q).length + (rrsB L).length := by simp only [List.length_append, hH]; omega
  have hrd := fun ha => rdP_rep q ok ha H (rrsB L) hH
  have hrs := rest_rep q H (rrsB L) hH
  have hal : q.asked = true → (askB q).length = (bytesL q.name).size + 5 := fun ha => by
    have e : (bytesL q.name).data.toList.length = (bytesL q.name).size := rfl
    unfold askB
    rw [if_pos ha]
    simp only [List.length_append, e, beL, List.length_cons, List.length_nil]
  generalize (⟨(H ++ (askB q ++ rrsB L)).toArray⟩ : ByteArray) = S at *
  have hsz2 : S.size ≤ 600 := by omega
  have hltp := lt_of_block hx
  obtain ⟨AT, hAT⟩ : ∃ AT : Nat, AT = if q.asked then 12 + (bytesL q.name).size + 1 else 12 := ⟨_, rfl⟩
  rw [← hAT] at hrs
  have hat : AT ≤ S.size := by
    rw [hAT]
    split
    · rename_i ha
      have := hal ha
      omega
    · omega
  have hro : ∀ W : World, Calls Tryz.prog 83 #[.string S, .int .i64 12] W fun e w' => ReadOwn W (rdP S 12 12 []) e w' := fun W : World => read_own W S 12 (by omega) (by omega)
  have hat0 : (0 : Int) ≤ (AT : Int) := by omega
  have hat2 : (AT : Int) ≤ (S.size : Int) := by omega
  have HRO := Lib.hid hro
  have HRD := Lib.hid hrd
  have HRS := Lib.hid hrs
  have HTA := Lib.hid hta
  have HAL := Lib.hid hal
  have HAT := Lib.hid hAT
  have HOKL := Lib.hid okL
  have HOK := Lib.hid ok
  have HEN := Lib.hid hen
  clear hro hrd hrs hta hal hAT okL ok hen
  clear hsz hss hlen
  go_enter Tryz.func45, Tryz.ntmps45
  obtain ⟨W, hW⟩ : ∃ W, W = w.alloc (.cells #[.pointer (some ⟨pq, 0, none⟩)] 109) := ⟨_, rfl⟩
  have hbW : W.heap[w.heap.size]? = some (.cells #[.pointer (some ⟨pq, 0, none⟩)] 109 (0, 0)) := by rw [hW]; exact heap_alloc_new w _
  have hoW : Only (fun _ => False) w W := by rw [hW]; exact (Only.refl _ _).alloc _
  have hsW : W.heap.size = w.heap.size + 1 := by rw [hW]; simp
  obtain ⟨V, hV⟩ : ∃ V, V = W.alloc (.cells #[.int .u16 q.asked.toNat, .int .u16 L.length, .int .u16 c2, .int .u16 c3] 51) := ⟨_, rfl⟩
  have hbV : V.heap[W.heap.size]? = some (.cells #[.int .u16 q.asked.toNat, .int .u16 L.length, .int .u16 c2, .int .u16 c3] 51 (0, 0)) := by rw [hV]; exact heap_alloc_new W _
  have hoV : Only (fun _ => False) W V := by rw [hV]; exact (Only.refl _ _).alloc _
  have hsV : V.heap.size = W.heap.size + 1 := by rw [hV]; simp
  have hpv := hoV.old hbW id
  have hx2 := (hoW.trans hoV).old hx id
  have HOV := Lib.hid (hoW.trans hoV)
  rw [hsW] at hbV
  have z0 : V.cell? ⟨w.heap.size + 1, 0, none⟩ = some (.int .u16 q.asked.toNat) := cell_at hbV 0
  have cpv : V.cell? ⟨w.heap.size, 0, none⟩ = some (.pointer (some ⟨pq, 0, none⟩)) := cell_at hpv 0
  have nqv : pq ≠ w.heap.size := by omega
  have HPV := Lib.hid hpv
  have HPC := Lib.hid hbV
  have HX := Lib.hid hx2
  clear hpv hbV hx2
  clear hbW hoW hoV hx hsW hsV
  go_upto_region 1 with (fail)
  rw [← hW, ← hV]
  clear hW hV
  obtain ⟨ask, hask⟩ : ∃ ask, ask = q.asked := ⟨_, rfl⟩
  rw [← hask] at z0
  have e0 : ((ask.toNat : Int) == 1) = ask := by cases ask <;> rfl
  have hn9 : ¬ (S.size < AT) := by omega
  have HASK := Lib.hid hask
  clear hask
  go_upto_if 16 with (fail)
  go_cut [8] (fun v wx => v = .int .i64 AT ∧ Rd5C V wx pq q)
  case first =>
    cases ask with
    | false =>
      obtain ⟨ht, hc, hnm⟩ := HTA.out HASK.out.symm
      have hA : (AT : Int) = 12 := by rw [HAT.out, ← HASK.out]; rfl
      have HA := Lib.hid hA
      have HNM := Lib.hid hnm
      clear hA hnm
      clear ht hc
      go_wp2_with fail
      go_meet
      refine ⟨by rw [HA.out], Only.refl _ _, none, 0, ?_, ?_⟩
      · rw [← HASK.out, HNM.out]; exact HX.out
      · rw [HNM.out]; exact World.ownsRow_nil _ _ _ _
    | true =>
      have hr := HRO.out V
      rw [HRD.out HASK.out.symm] at hr
      have hA : ((12 + (bytesL q.name).size + 1 : Nat) : Int) = AT := by rw [HAT.out, ← HASK.out]; rfl
      rw [hA] at hr
      have HR := Lib.hid hr
      clear hr
      clear hA e0 z0
      go_upto_region 3 with (fail)
      go_wp2_with fail
      refine HR.out.mono ?_
      rintro e w2 ⟨nv, rfl, ho2, own2⟩
      dsimp only at own2
      obtain ⟨_, na, nc, rfl, _⟩ := id (Sl.of_owns own2)
      have hpv2 := ho2.old HPV.out id
      have hx2 := ho2.old HX.out id
      have cpv2 : w2.cell? ⟨w.heap.size, 0, none⟩ = some (.pointer (some ⟨pq, 0, none⟩)) := cell_at hpv2 0
      have x13 : w2.cell? ⟨pq, 13, none⟩ = some (.bool false) := (cell_at hx2 13).trans rfl
      have x14 : w2.cell? ⟨pq, 14, none⟩ = some (.slice none 0 0) := (cell_at hx2 14).trans rfl
      have xf : ∀ i, w2.frozen? ⟨pq, i, none⟩ = false := free_at hx2
      have HO2 := Lib.hid ho2
      have HOWN := Lib.hid own2
      have HPV2 := Lib.hid hpv2
      have HX2 := Lib.hid hx2
      clear hpv2 hx2
      clear ho2 own2 cpv
      go_upto_region 6 with (fail)
      go_cut [8] (fun v wx => v = .int .i64 AT ∧ Only (fun x => x = pq) w2 wx ∧ wx.heap[pq]? = some (.cells (qC (hdQ q 0) true (.slice na q.name.length nc) 0 0).toArray 55 (0, 0)))
      case first =>
        have hx2 := HX2.out
        go_region
        all_goals
          go_wp2_with fail
          go_meet
          refine ⟨rfl, ?_, ?_⟩
          · (repeat (first | (with_reducible exact Only.refl _ _) | (with_reducible refine Only.drew ?_) | (with_reducible refine onlyQ ?_ _ _)))
          · (apply Eq.trans; (case h₁ => repeat (first | (with_reducible assumption) | (with_reducible exact heap_alloc_new _ _) | (with_reducible apply blk_new; (repeat (first | (with_reducible rfl) | (with_reducible apply sz_set) | (with_reducible apply sz_alloc) | (with_reducible apply sz_drew))); done) | (with_reducible apply blk_same) | (with_reducible apply blk_ne; case hn => (first | assumption | omega)) | (with_reducible apply blk_old) | (with_reducible apply blk_drew))); (case h₂ => rfl))
      case rest =>
      rename World => w3
      obtain ⟨rfl, ho3, hx3⟩ := hcut
      have hpv3 := ho3.old HPV2.out (fun e => nqv e.symm)
      have own3 := owns_ty HOWN.out ho3 (fun j hj cs f e => by subst hj; rw [HX2.out] at e; simp at e)
      have cpv3 : w3.cell? ⟨w.heap.size, 0, none⟩ = some (.pointer (some ⟨pq, 0, none⟩)) := cell_at hpv3 0
      have x9 : w3.cell? ⟨pq, 9, none⟩ = some (.int .u16 0) := (cell_at hx3 9).trans rfl
      have xg : w3.frozen? ⟨pq, 9, none⟩ = false := free_at hx3 9
      have HO3 := Lib.hid ((HO2.out.weaken (T := fun x => x = pq) (fun _ _ e => e.elim)).trans ho3)
      have HX3 := Lib.hid hx3
      have HOWN3 := Lib.hid own3
      clear hx3 own3
      clear ho3 cpv2 x13 x14 xf hpv3
      go_wp2_with fail
      go_meet
      have hq9 : Only (fun x => x = pq) w3 (w3.setCell ⟨pq, 9, none⟩ (.int .u16 1)) := (Only.refl (fun x => x = pq) w3).setCell (p := ⟨pq, 9, none⟩) (.inr rfl) _
      refine ⟨rfl, HO3.out.trans hq9, na, nc, ?_, owns_ty HOWN3.out hq9 (fun j hj cs f e => by subst hj; rw [HX3.out] at e; simp at e)⟩
      rw [← HASK.out]
      exact set_at HX3.out 9 _
  case rest =>
  rename World => w4
  obtain ⟨rfl, ho4, na, nc, hx4, own4⟩ := hcut
  have hpv4 := ho4.old HPV.out (fun e => nqv e.symm)
  have hpc4 := ho4.old HPC.out (fun e => by omega)
  have hs4 := ho4.size
  obtain ⟨W5, hW5⟩ : ∃ W5, W5 = w4.alloc (.cells #[.slice none 0 0] 37) := ⟨_, rfl⟩
  have hbW5 : W5.heap[w4.heap.size]? = some (.cells #[.slice none 0 0] 37 (0, 0)) := by rw [hW5]; exact heap_alloc_new w4 _
  have hoW5 : Only (fun _ => False) w4 W5 := by rw [hW5]; exact (Only.refl _ _).alloc _
  have hsW5 : W5.heap.size = w4.heap.size + 1 := by rw [hW5]; simp
  have hpv5 := hoW5.old hpv4 id
  have hpc5 := hoW5.old hpc4 id
  have hx5 := hoW5.old hx4 id
  have own5 := owns_kept own4 hoW5 (fun _ _ => id)
  have n45 : pq ≠ w4.heap.size := by have := lt_of_block hx4; omega
  have hrd := read_ok2 W5 ⟨(tailB q.asked q.typ q.cls ++ rrsB L).toArray⟩ 84 #[.pointer (some ⟨w.heap.size, 0, none⟩), .pointer (some ⟨w.heap.size + 1, 0, none⟩), .pointer (some ⟨w4.heap.size, 0, none⟩)] (fun x => x = pq ∨ x = w4.heap.size) ⟨#[]⟩
    (ReadX W5.heap.size pq w4.heap.size (hdQ q q.asked.toNat) q.asked (.slice na q.name.length nc) q.typ q.cls L) HEN.out (fun a c k h1 h2 h3 => h1.errno h2 h3) (fun w1 b ho hr hb => by
      refine (read1r_any w1 b w.heap.size pq (w.heap.size + 1) w4.heap.size (hdQ q q.asked.toNat) q.asked (.slice na q.name.length nc) q.typ q.cls L q.asked.toNat c2 c3 HOK.out.typ HOK.out.cls (fun e => ⟨(HTA.out e).1, (HTA.out e).2.1⟩) hr (ho.old hpv5 id) (ho.old hx5 id) (ho.old hpc5 id) (ho.old hbW5 id) HOKL.out hl).mono ?_
      rintro e w2 ⟨k1, k2, k3, k4⟩
      have hb5 := lt_of_block hx5
      exact ⟨k1, k2.weaken (fun x _ e => by rcases e with e | e | e; exact .inl e; exact .inr ⟨.inl e, by omega⟩; exact .inr ⟨.inr e, by omega⟩), k3, k4.base ho.size⟩)
  rw [if_pos (show (⟨#[]⟩ : ByteArray).size = 0 from rfl)] at hrd
  rw [← HRS.out] at hrd
  have HO4 := Lib.hid ((HOV.out.weaken (T := fun x => x = pq) (fun _ _ e => e.elim)).trans (ho4.trans (hoW5.weaken (fun _ _ e => e.elim))))
  have HSW4 := Lib.hid (Nat.le_trans HOV.out.size hs4)
  have HRD5 := Lib.hid hrd
  have HX5 := Lib.hid hx5
  have HOWN5 := Lib.hid own5
  have HB5 := Lib.hid hbW5
  clear hrd hx5 own5 hbW5
  clear hpv4 hpc4 hx4 own4 hpv5 hpc5 hoW5 ho4 hs4 hsW5
  go_upto_region 9 with (fail)
  rw [← hW5]
  clear hW5
  go_wp2_with fail
  refine HRD5.out.mono ?_
  rintro e w6 ⟨rfl, ho6, hX⟩
  obtain ⟨hq6, v, E, hp6, hrow6, hE6⟩ := hX
  obtain ⟨_, va, vc, rfl, _⟩ := id (Sl.of_owns hrow6.row)
  have cpo : w6.cell? ⟨w4.heap.size, 0, none⟩ = some (.slice va E.length vc) := cell_at hp6 0
  have own6 := owns_ty HOWN5.out ho6 (fun j hj cs f e => by
    rcases hj with rfl | rfl
    · rw [HX5.out] at e; simp at e
    · rw [HB5.out] at e; simp at e)
  have HO6 := Lib.hid ho6
  have HQ6 := Lib.hid hq6
  have HROW := Lib.hid hrow6
  have HE6 := Lib.hid hE6
  have HOWN6 := Lib.hid own6
  clear hq6 hrow6 hE6 own6
  clear ho6 hp6
  go_wp2_with fail
  go_ret2
  have hwV := HOV.out.size
  have hw5 := HO4.out.size
  have hw4 := HSW4.out
  exact ⟨_, _, E, rfl, HO4.out.tr HO6.out (fun i hi e => by rcases e with e | e; exact e; omega), HQ6.out, HROW.out.base hw5, HE6.out, ownsBase1 HOWN6.out hwV⟩
end Go.Proofs.YtbdfijgejkimnaaGreatDoor
/-! answer.Respond. -/
namespace Go.Proofs.YtbdfijgejkimnaaGreatDoor
open Go.Conc Go.RowKit Go.Lib

/-- What is answered to a query: the records, the code. -/
def finL (ttl : Int) (L : List RecT) (r : QT × Nat) : List RR × Nat :=
  if r.2 = 0 then (lookM ttl L (r.1.name.map foldS) r.1.typ, if heldM L (r.1.name.map foldS) ≠ [] then 0 else 3) else ([], r.2)
def respB (ttl : Int) (L : List RecT) (m : ByteArray) : List UInt8 := repB (qM m).1 (finL ttl L (qM m)).2 (finL ttl L (qM m)).1
theorem tgt_may {n : Nat} (h2 : n ≤ 65535) : mayGo 0 (tgtL n) = true := by
  have hd := nDig5 h2
  have h0 : decDigits n ≠ [] := dec_ne n
  have hs : (itoaB n).size = (decDigits n).length := by simp [itoaB, ByteArray.size]
  have h0' : 0 < (decDigits n).length := List.length_pos_iff.2 h0
  unfold tgtL
  rw [mayGo_step (by omega) (by omega) (by omega), mayGo_step (by decide) (by decide) (by omega), mayGo_step (by decide) (by decide) (by show 0 + 1 + (itoaB n).size + 1 + 4 ≤ _; omega)]
  show decide (_ ≤ 254) = true
  rw [decide_eq_true_iff]
  show 0 + 1 + (itoaB n).size + 1 + 4 + 1 + 4 ≤ 254
  omega
theorem rrA_ok {ttl : Int} {x : RecT} (h : TellOk ttl x) (ht : ttl ≤ 65535) : RROk (rrA ttl x) := by
  have hf := h.facts
  exact ⟨.inl rfl, by show (ttl - x.age).toNat < _; omega, ⟨bA_lt _ _, bA_lt _ _, bA_lt _ _, bA_lt _ _⟩, by show 0 < _; omega, by show 0 < _; omega, by show 0 < _; omega, rfl, fun _ => ⟨rfl, rfl, rfl, rfl⟩, fun e => absurd e (by show ¬ (1 = 33); omega)⟩
theorem rrS_ok {ttl : Int} {x : RecT} (h : TellOk ttl x) (ht : ttl ≤ 65535) (ho : 1 ≤ x.o ∧ x.o ≤ 65535) : RROk (rrS ttl x) := by
  have hf := h.facts
  have b := bA_lt x.data
  exact ⟨.inr rfl, by show (ttl - x.age).toNat < _; omega, ⟨by show 0 < 256; omega, by show 0 < 256; omega, by show 0 < 256; omega, by show 0 < 256; omega⟩, by show bA x.data 6 * 256 + bA x.data 7 < _; have := b 6; have := b 7; omega, by show bA x.data 8 * 256 + bA x.data 9 < _; have := b 8; have := b 9; omega, by show bA x.data 4 * 256 + bA x.data 5 < _; have := b 4; have := b 5; omega,
    tgt_may (by omega), fun e => absurd e (by show ¬ (33 = 1); omega), fun _ => rfl⟩
theorem addA_ok {ttl : Int} (ht : ttl ≤ 65535) : ∀ (H : List RecT) (E : List RR), (∀ x ∈ H, TellOk ttl x) → (∀ r ∈ E, RROk r) → ∀ r ∈ H.foldl (addA ttl) E, RROk r
  | [], _, _, hE => hE
  | x :: H, E, hH, hE => by
    rw [List.foldl_cons]
    refine addA_ok ht H _ (fun y hy => hH y (by simp [hy])) (fun r hr => ?_)
    unfold addA at hr
    split at hr
    · exact hE r hr
    · rcases List.mem_append.1 hr with hr | hr
      · exact hE r hr
      · rw [List.mem_singleton] at hr
        subst hr
        exact rrA_ok (hH x (by simp)) ht
theorem look_ok {ttl : Int} {L : List RecT} {l : List ByteArray} {typ : Nat} (ht : ttl ≤ 65535) (hL : ∀ x ∈ L, x.gone = false → TellOk ttl x) (hn : ∀ x ∈ L, 1 ≤ x.o ∧ x.o ≤ 65535) : ∀ r ∈ lookM ttl L l typ, RROk r := by
  have hH : ∀ x ∈ heldM L l, TellOk ttl x := fun x hx => hL x (held_in x hx).1 (held_in x hx).2
  unfold lookM
  split
  · exact addA_ok ht _ [] hH (fun _ h => by cases h)
  · split
    · intro r hr
      obtain ⟨x, hx, rfl⟩ := List.mem_map.1 hr
      exact rrS_ok (hH x hx) ht (hn x (held_in x hx).1)
    · intro r hr; cases hr
theorem look_len (ttl : Int) (L : List RecT) (l : List ByteArray) (typ : Nat) : (lookM ttl L l typ).length ≤ L.length := by
  have h := held_len L l
  unfold lookM
  split
  · have := addrs_len ttl (heldM L l) (heldM L l).length (Nat.le_refl _)
    rw [List.take_length] at this
    omega
  · split
    · rw [List.length_map]; exact h
    · simp
theorem qM_asked {m : ByteArray} (h : (qM m).2 = 0) : (qM m).1.asked = true := by
  unfold qM at h ⊢
  split at h
  · simp at h
  · rename_i h1
    rw [if_neg h1]
    split at h
    · simp at h
    · rfl
theorem may_labels {l : List ByteArray} (h : mayGo 0 l = true) : l.length ≤ 1000 ∧ ∀ s ∈ l, s.size ≤ 90 := by
  obtain ⟨h1, h2, h3⟩ := mayGo_all l 0 h
  exact ⟨by omega, fun s hs => by have := (h1 s hs).2; omega⟩
set_option maxRecDepth 100000 in
set_option maxHeartbeats 2000000 in
theorem respond_none (w : World) (sv : Value) (m : ByteArray) (hm : m.size < 12 ∨ (headD m).resp = true) :
    Calls Tryz.prog 10 #[sv, .string m] w fun e w' => e = .returned (.tuple #[.string ⟨#[]⟩, .bool false]) ∧ Only (fun _ => False) w w' := by
  have hd : ∃ E : Int, E ≠ 0 ∧ Calls Tryz.prog 27 #[.string m] w fun e w' => e = .returned (.tuple #[qV hdZ false (.slice none 0 0) 0 0, .int .i64 0, .int .i64 E]) ∧ Only (fun _ => False) w w' := by
    by_cases h : m.size < 12
    · exact ⟨2, by decide, qparse_short w m h⟩
    · exact ⟨8, by decide, qparse_resp w m (by omega) (hm.resolve_left h)⟩
  obtain ⟨E, hE, hd⟩ := hd
  have e0 : (E == 0) = false := by simp; exact hE
  unfold qV at hd
  have HD := Lib.hid hd
  clear hd
  clear hm hE
  go_enter Tryz.func10, Tryz.ntmps10
  go_wp2_with fail
  refine HD.out.mono ?_
  rintro e w1 ⟨rfl, ho1⟩
  have HO1 := Lib.hid ho1
  clear ho1
  go_upto_region 2 with (first
    | ((with_reducible refine wpList_store_row (o := ⟨none, .store 55 (.tmp 6) (.tmp 15), _, _, _, none⟩) rfl _ _ _ rfl (w1.heap.size) ((qC hdZ false (.slice none 0 0) 0 0).toArray) ?_ ?_ 55 _ (heap_alloc_new w1 _) (infoQq _ _ _ _ _) ?_ (qC_one _ _ _ _ _ rfl) ?_); (· rfl); (· rfl); (· rfl))
    | fail)
  have hb2 := row_set (heap_alloc_new w1 (.cells #[.int .u16 0, .bool false, .int .u8 0, .bool false, .bool false, .bool false, .bool false, .int .u8 0, .int .u8 0, .int .u16 0, .int .u16 0, .int .u16 0, .int .u16 0, .bool false, .slice none 0 0, .int .u16 0, .int .u16 0] 55)) (qC hdZ false (.slice none 0 0) 0 0).toArray
  have ho2 : Only (fun _ => False) w1 ((w1.alloc (.cells #[.int .u16 0, .bool false, .int .u8 0, .bool false, .bool false, .bool false, .bool false, .int .u8 0, .int .u8 0, .int .u16 0, .int .u16 0, .int .u16 0, .int .u16 0, .bool false, .slice none 0 0, .int .u16 0, .int .u16 0] 55)).setRow w1.heap.size (qC hdZ false (.slice none 0 0) 0 0).toArray) := ((Only.refl _ _).alloc _).setRow (.inl (Nat.le_refl _)) _
  generalize (w1.alloc (.cells #[.int .u16 0, .bool false, .int .u8 0, .bool false, .bool false, .bool false, .bool false, .int .u8 0, .int .u8 0, .int .u16 0, .int .u16 0, .int .u16 0, .int .u16 0, .bool false, .slice none 0 0, .int .u16 0, .int .u16 0] 55)).setRow w1.heap.size (qC hdZ false (.slice none 0 0) 0 0).toArray = w2 at *
  have HO2 := Lib.hid (HO1.out.trans ho2)
  clear ho2 hb2
  go_wp2_with fail
  go_ret2
  exact ⟨rfl, HO2.out⟩
set_option maxRecDepth 100000 in
set_option maxHeartbeats 4000000 in
theorem respond_any (w : World) (mm ttl : Int) (sv : Value) (L : List RecT) (m : ByteArray) (hE : EnvW w mm) (hS : SeesAt w sv ttl L) (hsv : ∃ a, sv = .pointer a) (hm : 12 ≤ m.size) (hm2 : m.size ≤ 100000) (hr : (headD m).resp = false) :
    Calls Tryz.prog 10 #[sv, .string m] w fun e w' => e = .returned (.tuple #[.string ⟨(respB ttl L m).toArray⟩, .bool true]) ∧ Only (fun _ => False) w w' := by
  have hd := qparse_any w m hm hm2 hr
  obtain ⟨ok, hcode⟩ := qM_ok m
  have hask := @qM_asked m
  have hqid : (qM m).1.id = (headD m).id ∧ (qM m).1.op = (headD m).op ∧ (qM m).1.des = (headD m).des := by
    unfold qM
    split
    · exact ⟨rfl, rfl, rfl⟩
    · split <;> exact ⟨rfl, rfl, rfl⟩
  unfold respB
  generalize qM m = r at *
  generalize headD m = h at *
  obtain ⟨q, code⟩ := r
  obtain ⟨sva, rfl⟩ := hsv
  dsimp only at ok hcode hask hqid
  unfold QPostP qV at hd
  dsimp only at hd
  obtain ⟨RES, hRES⟩ : ∃ RES, RES = finL ttl L (q, code) := ⟨_, rfl⟩
  rw [← hRES]
  unfold finL at hRES
  dsimp only at hRES
  have HD := Lib.hid hd
  have HE := Lib.hid hE
  have HS := Lib.hid hS
  have HRES := Lib.hid hRES
  have HOK := Lib.hid ok
  have HASK := Lib.hid hask
  have HQID := Lib.hid hqid
  have HCODE := Lib.hid hcode
  clear hd hE hS hRES ok hask hqid hcode
  clear hm hm2 hr
  go_enter Tryz.func10, Tryz.ntmps10
  go_wp2_with fail
  refine HD.out.mono ?_
  rintro e w1 ⟨nv, rfl, ho1, hsl⟩
  obtain ⟨_, na, nc, rfl, _⟩ := id hsl
  have HO1 := Lib.hid ho1
  clear ho1 HD
  go_upto_region 2 with (first
    | ((with_reducible refine wpList_store_row (o := ⟨none, .store 55 (.tmp 6) (.tmp 15), _, _, _, none⟩) rfl _ _ _ rfl (w1.heap.size) ((qC h q.asked (.slice na q.name.length nc) q.typ q.cls).toArray) ?_ ?_ 55 _ (heap_alloc_new w1 _) (infoQq _ _ _ _ _) ?_ (qC_one _ _ _ _ _ rfl) ?_); (· rfl); (· rfl); (· rfl))
    | fail)
  have hb2 := row_set (heap_alloc_new w1 (.cells #[.int .u16 0, .bool false, .int .u8 0, .bool false, .bool false, .bool false, .bool false, .int .u8 0, .int .u8 0, .int .u16 0, .int .u16 0, .int .u16 0, .int .u16 0, .bool false, .slice none 0 0, .int .u16 0, .int .u16 0] 55)) (qC h q.asked (.slice na q.name.length nc) q.typ q.cls).toArray
  have ho2 : Only (fun _ => False) w1 ((w1.alloc (.cells #[.int .u16 0, .bool false, .int .u8 0, .bool false, .bool false, .bool false, .bool false, .int .u8 0, .int .u8 0, .int .u16 0, .int .u16 0, .int .u16 0, .int .u16 0, .bool false, .slice none 0 0, .int .u16 0, .int .u16 0] 55)).setRow w1.heap.size (qC h q.asked (.slice na q.name.length nc) q.typ q.cls).toArray) := ((Only.refl _ _).alloc _).setRow (.inl (Nat.le_refl _)) _
  generalize (w1.alloc (.cells #[.int .u16 0, .bool false, .int .u8 0, .bool false, .bool false, .bool false, .bool false, .int .u8 0, .int .u8 0, .int .u16 0, .int .u16 0, .int .u16 0, .int .u16 0, .bool false, .slice none 0 0, .int .u16 0, .int .u16 0] 55)).setRow w1.heap.size (qC h q.asked (.slice na q.name.length nc) q.typ q.cls).toArray = w2 at *
  have HO2 := Lib.hid (HO1.out.trans ho2)
  have HSL := Lib.hid (hsl.new ho2)
  have x14 : w2.cell? ⟨w1.heap.size, 14, none⟩ = some (.slice na q.name.length nc) := (cell_at hb2 14).trans rfl
  have x15 : w2.cell? ⟨w1.heap.size, 15, none⟩ = some (.int .u16 q.typ) := (cell_at hb2 15).trans rfl
  have HB2 := Lib.hid hb2
  clear hb2
  clear ho2 hsl
  have hid := HQID.out
  by_cases hc0 : code = 0
  · have hres := HRES.out
    rw [if_pos hc0] at hres
    have e0 : ((code : Int) == 0) = true := by simp; omega
    have hml := may_labels (HOK.out.name (HASK.out hc0))
    have hlk := lookup_any w2 mm ttl (.pointer sva) _ L q.name q.typ (HE.out.new HO2.out) (HS.out.new HO2.out) ⟨_, rfl⟩ HSL.out hml.1 hml.2
    have hlo := look_ok (l := q.name.map foldS) (typ := q.typ) HS.out.young HS.out.tell HS.out.node
    have hln := look_len ttl L (q.name.map foldS) q.typ
    generalize lookM ttl L (q.name.map foldS) q.typ = M at *
    obtain ⟨kn, hkn⟩ : ∃ kn, kn = decide (heldM L (q.name.map foldS) ≠ []) := ⟨_, rfl⟩
    rw [← hkn] at hlk
    have hres2 : RES = (M, if kn = true then 0 else 3) := by
      rw [hres, hkn]
      congr 1
      by_cases hh : heldM L (q.name.map foldS) ≠ []
      · rw [if_pos hh, decide_eq_true hh]; rfl
      · rw [if_neg hh, decide_eq_false hh]; rfl
    have HLK := Lib.hid hlk
    have HLO := Lib.hid hlo
    have HLN := Lib.hid hln
    have HR2 := Lib.hid hres2
    have HID := Lib.hid hid
    clear hlk hlo hln hres2 hid
    have HASKED := Lib.hid (HASK.out hc0)
    have HC0 := Lib.hid hc0
    clear hc0 hres hkn hml
    go_upto_region 8 with ((with_reducible refine HLK.out.mono ?_); rintro e w3 ⟨v, E, rfl, ho3, hrow, hmap⟩)
    have HO3 := Lib.hid (HO2.out.trans ho3)
    have HB3 := Lib.hid (ho3.old HB2.out id)
    have HSL3 := Lib.hid (HSL.out.new ho3)
    obtain ⟨_, va, vc, rfl, _⟩ := id (Sl.of_owns hrow.row)
    have hEr : ∀ x ∈ E, RROk x.r ∧ Sl w3 1 x.v x.r.tgt.length (x.r.tgt.map .string) := fun x hx => ⟨HLO.out _ (by rw [← hmap]; exact List.mem_map_of_mem hx), Sl.of_owns (hrow.tgt x hx)⟩
    have hEl : E.length ≤ 1000 := by
      have h1 := HLN.out
      have h2 := HS.out.len
      rw [← hmap, List.length_map] at h1
      omega
    have HBD := Lib.hid (fun (c : Nat) (hc : c ≤ 15) => build_any w3 h _ _ q c E HOK.out HID.out.1.symm HID.out.2.1.symm HID.out.2.2.symm hc HSL3.out (Sl.of_owns hrow.row) hEr hEl (.inl HASKED.out))
    rw [hmap] at HBD
    clear ho3 hrow hmap hEr hEl x14 x15
    cases kn with
    | true =>
      go_upto_region 11 with (first
        | ((with_reducible refine wpList_load_row (o := ⟨some 34, .load 55 (.tmp 6), _, _, _, none⟩) rfl _ _ rfl (w1.heap.size) ?_ 55 _ (0, 0) _ HB3.out Tryz.underlying55 ?_ (infoQq _ _ _ _ _) ?_); (· rfl); (· rfl))
        | ((with_reducible refine (HBD.out code HCODE.out).mono ?_); rintro e w9 ⟨rfl, ho9⟩))
      have HO9 := Lib.hid (HO3.out.trans ho9)
      clear ho9
      go_wp2_with fail
      go_ret2
      rw [HR2.out, HC0.out]
      exact ⟨rfl, HO9.out⟩
    | false =>
      have h3 := HBD.out 3 (by decide)
      rw [show ((3 : Nat) : Int) = 3 from rfl] at h3
      have HB33 := Lib.hid h3
      clear h3
      go_upto_region 11 with (first
        | ((with_reducible refine wpList_load_row (o := ⟨some 34, .load 55 (.tmp 6), _, _, _, none⟩) rfl _ _ rfl (w1.heap.size) ?_ 55 _ (0, 0) _ HB3.out Tryz.underlying55 ?_ (infoQq _ _ _ _ _) ?_); (· rfl); (· rfl))
        | ((with_reducible refine (HB33.out).mono ?_); rintro e w9 ⟨rfl, ho9⟩))
      have HO9 := Lib.hid (HO3.out.trans ho9)
      clear ho9
      go_wp2_with fail
      go_ret2
      rw [HR2.out]
      exact ⟨rfl, HO9.out⟩
  · have hres := HRES.out
    rw [if_neg hc0] at hres
    have e0 : ((code : Int) == 0) = false := by simp; omega
    have HBD := Lib.hid (build_any w2 h _ (.slice none 0 0) q code [] HOK.out hid.1.symm hid.2.1.symm hid.2.2.symm HCODE.out HSL.out (Sl.nil _ _) (fun _ hx => by cases hx) (by decide) (.inr rfl))
    have HR2 := Lib.hid hres
    clear hres
    clear hc0 hid x14 x15
    go_upto_region 11 with (first
      | ((with_reducible refine wpList_load_row (o := ⟨some 34, .load 55 (.tmp 6), _, _, _, none⟩) rfl _ _ rfl (w1.heap.size) ?_ 55 _ (0, 0) _ HB2.out Tryz.underlying55 ?_ (infoQq _ _ _ _ _) ?_); (· rfl); (· rfl))
      | ((with_reducible refine (HBD.out).mono ?_); rintro e w9 ⟨rfl, ho9⟩))
    have HO9 := Lib.hid (HO2.out.trans ho9)
    clear ho9
    go_wp2_with fail
    go_ret2
    rw [HR2.out]
    exact ⟨rfl, HO9.out⟩
end Go.Proofs.YtbdfijgejkimnaaGreatDoor
/-! A question that Ask wrote, parsed: the plain law. -/
namespace Go.Proofs.YtbdfijgejkimnaaGreatDoor
open Go.Conc Go.RowKit

def askQ (n : Nat) (l : List ByteArray) (t : Nat) : QT := ⟨n, 0, true, true, l, t, 1⟩
theorem askQ_ok {n t : Nat} {l : List ByteArray} (hn : n < 65536) (ht : t < 65536) (hm : mayGo 0 l = true) : QTOk (askQ n l t) := ⟨hn, Nat.zero_le _, fun _ => hm, ht, by show 1 < 65536; decide⟩
theorem askMsg_form (n t : Nat) (l : List ByteArray) : askMsg n l t = headB (askHd n) ++ (askB (askQ n l t) ++ []) := by
  unfold askMsg askB askQ
  simp
theorem askMsg_len (n t : Nat) (l : List ByteArray) : (askMsg n l t).length = 12 + (bytesL l).size + 5 := by
  have e : (bytesL l).data.toList.length = (bytesL l).size := rfl
  unfold askMsg
  simp only [List.length_append, headB_length, e, beL, List.length_cons, List.length_nil]
  omega
theorem headD_ask {n : Nat} (hn : n < 65536) (l : List ByteArray) (t : Nat) : headD ⟨(askMsg n l t).toArray⟩ = askHd n := headD_of _ (askHd_ok hn) _
theorem qM_ask (n t : Nat) (l : List ByteArray) (hn : n < 65536) (ht : t = 1 ∨ t = 33) (hm : mayGo 0 l = true) : qM ⟨(askMsg n l t).toArray⟩ = (askQ n l t, 0) := by
  have ht2 : t < 65536 := by omega
  have hh := headD_ask hn l t
  have hr := rdP_rep (askQ n l t) (askQ_ok hn ht2 hm) rfl (headB (askHd n)) [] (headB_length _)
  rw [← askMsg_form] at hr
  have hs : (⟨(askMsg n l t).toArray⟩ : ByteArray).size = 12 + (bytesL l).size + 5 := by rw [← askMsg_len n t l]; simp [ByteArray.size]
  have g1 : gA ⟨(askMsg n l t).toArray⟩ (12 + (bytesL l).size + 1) = t := by
    have h := gA_of (headB (askHd n) ++ ((bytesL l).data.toList ++ [0])) (beL 1 2) t (12 + (bytesL l).size + 1) ht2 (by
      have e : (bytesL l).data.toList.length = (bytesL l).size := rfl
      simp only [List.length_append, headB_length, e, List.length_cons, List.length_nil]; omega)
    have e2 : headB (askHd n) ++ ((bytesL l).data.toList ++ [0]) ++ (beL t 2 ++ beL 1 2) = askMsg n l t := by unfold askMsg; simp
    rw [e2] at h
    exact h
  have g2 : gA ⟨(askMsg n l t).toArray⟩ (12 + (bytesL l).size + 1 + 2) = 1 := by
    have h := gA_of (headB (askHd n) ++ ((bytesL l).data.toList ++ ([0] ++ beL t 2))) [] 1 (12 + (bytesL l).size + 1 + 2) (by decide) (by
      have e : (bytesL l).data.toList.length = (bytesL l).size := rfl
      simp only [List.length_append, headB_length, e, beL, List.length_cons, List.length_nil]; omega)
    have e2 : headB (askHd n) ++ ((bytesL l).data.toList ++ ([0] ++ beL t 2)) ++ (beL 1 2 ++ []) = askMsg n l t := by unfold askMsg; simp
    rw [e2] at h
    exact h
  generalize (⟨(askMsg n l t).toArray⟩ : ByteArray) = m at *
  have c0 : gA m 4 = 1 := congrArg (fun h => h.cts.1) hh
  have c1 : gA m 6 = 0 := congrArg (fun h => h.cts.2.1) hh
  have c2 : gA m 8 = 0 := congrArg (fun h => h.cts.2.2.1) hh
  have hask : askM m = some (l, t, 1) := by
    unfold askM
    have r1 : (rdP m 12 12 []).err = 0 := by rw [hr]
    have r2 : (rdP m 12 12 []).stop.toNat = 12 + (bytesL l).size + 1 := by rw [hr]; rfl
    have r3 : (rdP m 12 12 []).ls = l := by rw [hr]; rfl
    rw [if_pos ⟨c0, c1, c2⟩, if_neg (by rw [r1, r2]; omega), r2, r3, g1, g2]
  unfold qM
  rw [hh, hask, if_neg (by show ¬ (0 : Nat) ≠ 0; simp)]
  show (askQ n l t, if (t = 1 ∨ t = 33) ∧ 1 = 1 then 0 else 4) = _
  rw [if_pos ⟨ht, rfl⟩]
end Go.Proofs.YtbdfijgejkimnaaGreatDoor
