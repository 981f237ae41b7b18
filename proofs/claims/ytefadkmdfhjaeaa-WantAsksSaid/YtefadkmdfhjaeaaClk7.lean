/- A clock's Due. -/
import Derived.Test.YtefadkmdfhjaeaaClk6
namespace Go.Proofs.Ytefadkmdfhjaeaa
open Go.Conc Go.RowKit Go.Maps Go.Sort Go.Shelf

theorem enter_due2 : ∀ args w, (callFunc 42 args).run Try.prog w = .ok (.enter 42 args) w := enters_of Try.func42 (by kernel_rfl) rfl
def late (L : List (ByteArray × (Int × Int))) (now : Int) (x : ByteArray) : Bool := decide (now < (entAt L x).1)
set_option maxRecDepth 100000 in
set_option maxHeartbeats 2000000 in
theorem del_clk (W : World) (base B1 B2 c b : Nat) (L : List (ByteArray × (Int × Int))) (now : Int) (hm : CMap W b L) (h1 : W.cell? ⟨B1, 0, none⟩ = some (.pointer (some ⟨c, 0, none⟩))) (h2 : W.cell? ⟨B2, 0, none⟩ = some (.int .i64 now))
    (hc : W.cell? ⟨c, 0, none⟩ = some (.map (some b))) (v : Value) (d : List ByteArray) (hs : ∀ x ∈ d, x.size ≤ maxLen) (hd : d.length < 1000000) (hrow : W.ownsRow base 9 1 v d.length (d.map Value.string))
    (n1 : B1 < base) (n2 : B2 < base) (n3 : c < base) (n4 : b < base) :
    Calls Try.prog 41 #[v, .func (.func 42) #[] #[.pointer (some ⟨B1, 0, none⟩), .pointer (some ⟨B2, 0, none⟩)]] W fun e w' => ∃ v', e = .returned v' ∧ Only (fun i => base ≤ i) W w' ∧
      w'.ownsRow base 9 1 v' (d.filter (fun x => !late L now x)).length ((d.filter (fun x => !late L now x)).map Value.string) := by
  rcases hrow.2 with ⟨h3, h4⟩ | ⟨g, cap, cur, rfl, hb, hg, hnc, hcm, hcs, ht⟩
  · subst h3
    have hd0 : d = [] := List.length_eq_zero_iff.1 h4
    subst hd0
    have hi := AnyE.slices_IndexFunc_empty (P := Try.prog) (ρ := Try.delFS_ren) { Try.delFS with } none 0 (.func (.func 42) #[] #[.pointer (some ⟨B1, 0, none⟩), .pointer (some ⟨B2, 0, none⟩)]) W
    change Calls Try.prog 52 _ _ _ at hi
    go_enter Try.func41, Try.ntmps41
    go_wp2_with (first | (go_at_call 52; refine hi.mono ?_; rintro e w1 ⟨rfl, rfl⟩))
    go_ret
    exact ⟨_, rfl, Only.refl _ _, hrow⟩
  obtain ⟨dk, hdk⟩ := keysB d hs
  subst hdk
  have hrow2 : W.ownsRow base 9 1 (.slice (some ⟨g, 0, none⟩) dk.toArray.size cap) dk.toArray.size (dk.toArray.toList.map encK) := by
    have := hrow
    rw [List.length_map, List.map_map] at this
    exact this
  obtain ⟨hH, hgl, _⟩ := row_holds hrow2
  have hp : PredAt Try.prog 42 #[.pointer (some ⟨B1, 0, none⟩), .pointer (some ⟨B2, 0, none⟩)] encK (fun x => late L now x.val) W := by
    intro W' x hb'
    have ho : Only (fun _ => False) W W' := Only.of_below hb'
    exact due2_any W' B1 B2 c b L now (ho.cell h1 id) (ho.cell h2 id) (ho.cell hc id) (hm.kept ho id) x.val x.ok
  have hpo : PredOver Try.prog 42 #[.pointer (some ⟨B1, 0, none⟩), .pointer (some ⟨B2, 0, none⟩)] encK (fun x => late L now x.val) g 0 dk.toArray.size W := by
    intro m os dk' x _
    have ho := sortWorld_only encK W g m dk' os
    exact due2_any _ B1 B2 c b L now (ho.cell h1 (by show ¬ B1 = g; omega)) (ho.cell h2 (by show ¬ B2 = g; omega)) (ho.cell hc (by show ¬ c = g; omega)) (hm.kept ho (by omega)) x.val x.ok
  have hcon := AnyE.slices_DeleteFunc Try.delFS encK (fun _ => rfl) (fun x => late L now x.val) 42 #[.pointer (some ⟨B1, 0, none⟩), .pointer (some ⟨B2, 0, none⟩)] enter_due2 ⟨⟨#[]⟩, Nat.zero_le _⟩ Try.zeroValue9 g 0 cap dk.toArray W hp hpo hH (by simp at hd ⊢; omega) (by simpa using hnc)
  have e1 : (dk.map KeyB.val).length = dk.toArray.size := by simp
  rw [e1]
  refine hcon.mono ?_
  rintro e w' ⟨rfl, q, rfl⟩
  have hfl : (dk.map KeyB.val).filter (fun x => !late L now x) = (dk.filter (fun x => !late L now x.val)).map KeyB.val := by rw [List.filter_map]; rfl
  refine ⟨_, rfl, ((ahead_only W q).weaken (fun _ _ => False.elim)).trans ((put_only encK _ g _).weaken (fun i _ e => by show base ≤ i; omega)), ?_⟩
  rw [hfl]
  generalize hK : dk.filter (fun x => !late L now x.val) = K
  have hKl : K.length ≤ dk.length := by rw [← hK]; exact List.length_filter_le _ _
  have r1 := put_row (w := Sort.ahead W q) (enc := encK) hrow2 rfl (K ++ List.replicate (dk.length - K.length) (⟨⟨#[]⟩, Nat.zero_le _⟩ : KeyB)).toArray (by simp; omega) K.length (by simp)
  rw [show ((K ++ List.replicate (dk.length - K.length) (⟨⟨#[]⟩, Nat.zero_le _⟩ : KeyB)).toArray.toList.take K.length) = K by simp] at r1
  have e2 : (K.map KeyB.val).length = K.length := by simp
  have e3 : (K.map KeyB.val).map Value.string = K.map encK := by rw [List.map_map]; rfl
  rw [e2, e3]
  exact r1

def dropAll (L : List (ByteArray × (Int × Int))) (ds : List ByteArray) : List (ByteArray × (Int × Int)) := ds.foldl dropL L
theorem dropAll_snoc (L : List (ByteArray × (Int × Int))) (ds : List ByteArray) (x : ByteArray) : dropAll L (ds ++ [x]) = dropL (dropAll L ds) x := by simp [dropAll]
theorem dropAll_filter : ∀ (ds : List ByteArray) (L : List (ByteArray × (Int × Int))), dropAll L ds = L.filter (fun p => !ds.any (fun y => decide (p.1 = y)))
  | [], L => (List.filter_eq_self.2 (by simp)).symm
  | x :: ds, L => by
    rw [dropAll, List.foldl_cons, ← dropAll, dropAll_filter ds, dropL, List.filter_filter]
    refine List.filter_congr (fun p _ => ?_)
    rw [List.any_cons, Bool.not_or, Bool.and_comm]
theorem any_iff (ds : List ByteArray) (x : ByteArray) : ds.any (fun y => decide (x = y)) = true ↔ x ∈ ds := by
  rw [List.any_eq_true]
  constructor
  · rintro ⟨y, hy, e⟩
    obtain rfl : x = y := by simpa using e
    exact hy
  · intro h
    exact ⟨x, h, by simp⟩
theorem late_mem {L : List (ByteArray × (Int × Int))} (ha : L.Pairwise (fun p q => p.1 ≠ q.1)) (now : Int) {p : ByteArray × (Int × Int)} (hp : p ∈ L) : late L now p.1 = decide (now < p.2.1) := by
  have : lookL L p.1 = some p.2 := lookL_of_mem ha hp
  simp [late, entAt, this]
theorem out_perm {L : List (ByteArray × (Int × Int))} (ha : L.Pairwise (fun p q => p.1 ≠ q.1)) (now : Int) {d out : List ByteArray} (hp : d.Perm (L.map (·.1))) (ho : d.filter (fun x => !late L now x) = out) :
    out.Perm ((L.filter (fun p => !decide (now < p.2.1))).map (·.1)) := by
  rw [← ho]
  refine (hp.filter _).trans (List.Perm.of_eq ?_)
  rw [List.filter_map]
  congr 1
  refine List.filter_congr (fun p hp => ?_)
  simp only [Function.comp_apply, late_mem ha now hp]
theorem dropAll_out {L : List (ByteArray × (Int × Int))} (ha : L.Pairwise (fun p q => p.1 ≠ q.1)) (now : Int) {out : List ByteArray} (hp : out.Perm ((L.filter (fun p => !decide (now < p.2.1))).map (·.1))) :
    dropAll L out = L.filter (fun p => decide (now < p.2.1)) := by
  rw [dropAll_filter]
  refine List.filter_congr (fun p hp' => ?_)
  have : p.1 ∈ out ↔ ¬ now < p.2.1 := by
    rw [hp.mem_iff, List.mem_map]
    constructor
    · rintro ⟨q, hq, e⟩
      obtain ⟨hq1, hq2⟩ := List.mem_filter.1 hq
      have h1 : lookL L q.1 = some q.2 := lookL_of_mem ha hq1
      have h2 : lookL L p.1 = some p.2 := lookL_of_mem ha hp'
      rw [e, h2] at h1
      have h3 : p.2 = q.2 := Option.some.inj h1
      rw [h3]
      simpa using hq2
    · intro hn
      exact ⟨p, List.mem_filter.2 ⟨hp', by simpa using hn⟩, rfl⟩
  rw [← any_iff] at this
  cases hA : out.any (fun y => decide (p.1 = y))
  · rw [hA] at this
    by_cases h : now < p.2.1
    · simp [h]
    · exact absurd (this.2 h) (by simp)
  · rw [hA] at this
    have h := this.1 rfl
    simp [h]
def DuePost (w : World) (c b : Nat) (most cnt : Int) (L : List (ByteArray × (Int × Int))) (now : Int) (e : Ending) (w' : World) : Prop :=
  ∃ v out, e = .returned v ∧ out.Perm ((L.filter (fun p => !decide (now < p.2.1))).map (·.1)) ∧ DueSorted L out ∧ w'.ownsRow w.heap.size 9 1 v out.length (out.map Value.string) ∧
    Only (fun i => i = b) w w' ∧ ClkIs w' c b most cnt (L.filter (fun p => decide (now < p.2.1)))
set_option maxRecDepth 100000 in
set_option maxHeartbeats 2000000 in
theorem due_clk (w : World) (c b : Nat) (most cnt : Int) (L : List (ByteArray × (Int × Int))) (now : Int) (h : ClkIs w c b most cnt L) (hs : ∀ p ∈ L, p.1.size ≤ maxLen) (hL : L.length < 1000000) :
    Calls Try.prog 23 #[.pointer (some ⟨c, 0, none⟩), .int .i64 now] w fun e w' => DuePost w c b most cnt L now e w' := by
  have hmf : ∀ (fn : Fn) (first cap : Array Value) (w : World), (Instr.makeFunc fn first cap).run Try.prog w = .ok (.func fn first cap) w := fun _ _ _ _ => rfl
  have H := Lib.hid h
  obtain ⟨W, hW⟩ : ∃ W, W = (w.alloc (.cells #[.pointer (some ⟨c, 0, none⟩)] 65)).alloc (.cells #[.int .i64 now] 2) := ⟨_, rfl⟩
  have ho : Only (fun _ => False) w W := by rw [hW]; exact ((Only.refl _ _).alloc _).alloc _
  have b1 : W.heap[w.heap.size]? = some (.cells #[.pointer (some ⟨c, 0, none⟩)] 65 (0, 0)) := by
    rw [hW]
    exact (Only.refl (fun _ => False) (w.alloc (.cells #[.pointer (some ⟨c, 0, none⟩)] 65))).alloc _ |>.new id
  have b2 : W.heap[w.heap.size + 1]? = some (.cells #[.int .i64 now] 2 (0, 0)) := by
    rw [hW, show w.heap.size + 1 = (w.alloc (.cells #[.pointer (some ⟨c, 0, none⟩)] 65)).heap.size by simp]
    exact heap_alloc_new _ _
  have hsz : W.heap.size = w.heap.size + 2 := by rw [hW]; simp
  have hc := h.kept ho id id
  have g1 : W.cell? ⟨w.heap.size, 0, none⟩ = some (.pointer (some ⟨c, 0, none⟩)) := cell_at b1 0
  have g2 : W.cell? ⟨w.heap.size + 1, 0, none⟩ = some (.int .i64 now) := cell_at b2 0
  have c0 : W.cell? ⟨c, 0, none⟩ = some (.map (some b)) := cell_at hc.blk 0
  have HC := Lib.hid hc
  have HO := Lib.hid ho
  have hlt : c < w.heap.size ∧ b < w.heap.size := ⟨lt_of_block h.blk, h.map.lt⟩
  have cK : Calls Try.prog 36 #[.map (some b)] W fun e w' => e = .returned (.func (.func 49) #[] #[.pointer (some ⟨W.heap.size, 0, none⟩)]) ∧ w' = W.alloc (.cells #[.map (some b)] 90) :=
    callsIn_wide.1 (AnyZ.keys_in Try.keysS Fence.wide 5 trivial rfl (some b) W)
  obtain ⟨W1, hW1⟩ : ∃ W1, W1 = W.alloc (.cells #[.map (some b)] 90) := ⟨_, rfl⟩
  have ho1 : Only (fun _ => False) W W1 := by rw [hW1]; exact (Only.refl _ _).alloc _
  have b3 : W1.heap[W.heap.size]? = some (.cells #[.map (some b)] 90 (0, 0)) := by rw [hW1]; exact heap_alloc_new _ _
  have cS := sorted_clk W1 W.heap.size w.heap.size c b L (hc.map.kept ho1 id) (cell_at b3 0) (ho1.cell g1 id) (ho1.cell c0 id) hs hL
  rw [← hW1, hsz] at cK
  rw [hsz] at cS
  have HSZ := Lib.hid hsz
  have HO1 := Lib.hid ho1
  have HSZ1 := Lib.hid (show W1.heap.size = w.heap.size + 3 by rw [hW1]; simp [hsz])
  clear h hW1 hc ho ho1 b1 b2 b3 hsz
  go_enter Try.func23, Try.ntmps23
  go_upto_region 3 with (fail)
  rw [← hW]
  clear hW
  go_wp2_with fail
  refine cK.mono ?_
  rintro e w1 ⟨rfl, rfl⟩
  go_wp2_with fail
  refine cS.mono ?_
  rintro e w2 ⟨v, d, rfl, hp, hds, ho2, hrow, hnil⟩
  have ho02 := (HO1.out.trans ho2)
  have hc2 := HC.out.kept ho02 id id
  have g1' := ho02.cell g1 id
  have g2' := ho02.cell g2 id
  have c0' : w2.cell? ⟨c, 0, none⟩ = some (.map (some b)) := cell_at hc2.blk 0
  have hds' : ∀ x ∈ d, x.size ≤ maxLen := fun x hx => by
    obtain ⟨p, hp', rfl⟩ := List.mem_map.1 (hp.mem_iff.1 hx)
    exact hs p hp'
  have hsz2 : w.heap.size + 2 < w1.heap.size := by
    have := HSZ1.out; omega
  have cD := del_clk w2 w1.heap.size w.heap.size (w.heap.size + 1) c b L now hc2.map g1' g2' c0' v d hds' (by have := hp.length_eq; simp at this; omega) hrow (by omega) (by omega) (by omega) (by omega)
  have HP := Lib.hid hp
  have HDS := Lib.hid hds
  have HO2 := Lib.hid ho02
  have HC2 := Lib.hid hc2
  clear g1 g2 c0 hp hds ho2 hrow hnil ho02 hc2 hds'
  go_wp2_with fail
  refine cD.mono ?_
  rintro e w3 ⟨v', rfl, ho3, hrow3⟩
  generalize hout : d.filter (fun x => !late L now x) = out at hrow3
  have ho03 : Only (fun i => w1.heap.size ≤ i) W w3 := (HO2.out.weaken (fun _ _ => False.elim)).trans ho3
  have hsl := Sl.of_owns hrow3
  obtain ⟨_, a, cap, rfl, hnc, hcm, hcells⟩ := hsl
  unfold maxLen at hcm
  have HR3 := Lib.hid hrow3
  have HCE := Lib.hid hcells
  have HOUT := Lib.hid hout
  have HO3 := Lib.hid ho03
  have hm3 := HC2.out.kept ho3 (by omega) (by omega)
  have c0 : w3.cell? ⟨c, 0, none⟩ = some (.map (some b)) := cell_at hm3.blk 0
  have HM3 := Lib.hid hm3
  have HG3 := Lib.hid (ho3.cell g1' (by show ¬ w1.heap.size ≤ w.heap.size; omega))
  clear hrow3 hcells hout ho03 ho3 hm3 cD cS cK g1' g2' c0'
  go_wp2_with fail
  go_loopg [22] out.length (fun g v22 wx => ∃ k : Nat, v22 = .int .i64 k ∧ k ≤ out.length ∧ Only (fun i => i = b) w3 wx ∧ CMap wx b (dropAll L (out.take k)) ∧ g = out.length - k)
  case atStart => exact ⟨0, rfl, Nat.zero_le _, Only.refl _ _, HM3.out.map, rfl⟩
  case round =>
    obtain ⟨k, rfl, hk, hox, hmx, hg⟩ := hrel
    have Hg := Lib.hid hg
    have HOX := Lib.hid hox
    have hcx : wr.cell? ⟨c, 0, none⟩ = some (.map (some b)) := hox.cell c0 HM3.out.ne
    have gr : wr.cell? ⟨w.heap.size, 0, none⟩ = some (.pointer (some ⟨c, 0, none⟩)) := hox.cell HG3.out (by show ¬ w.heap.size = b; omega)
    clear hg hox c0
    by_cases hlt : k < out.length
    · obtain ⟨b', off, ha, hcc⟩ := HCE.out.resolve_left (by omega)
      subst ha
      have hz : w3.cell? ⟨b', off + k, none⟩ = some (.string out[k]) := hcc k _ (by simp [hlt])
      have hz' := HOX.out.cell hz (fun e => by
        have e' : b' = b := e
        subst e'
        obtain ⟨es, clock, hbm, _⟩ := HM3.out.map.own
        simp [World.cell?, hbm] at hz)
      have hkk : (out[k]).size ≤ maxLen := by
        have h1 : out[k] ∈ d := by
          have h2 : out[k] ∈ d.filter (fun x => !late L now x) := by rw [HOUT.out]; exact List.getElem_mem hlt
          exact (List.mem_filter.1 h2).1
        obtain ⟨p, hp', e1⟩ := List.mem_map.1 (HP.out.mem_iff.1 h1)
        rw [← e1]
        exact hs p hp'
      have htk : out.take (k + 1) = out.take k ++ [out[k]] := by rw [List.take_add_one, List.getElem?_eq_getElem hlt]; rfl
      have HTK := Lib.hid htk
      generalize out[k] = x at *
      have hz2 : wr.cell? ⟨b', off + k, none⟩ = some (.string x) := hz'
      clear hz hz' hcc htk
      have hlt' : (k : Int) < (out.length : Int) := by omega
      go_wp2_with (first | (at_delete; refine wpList_mapDrop rfl _ _ _ rfl hmx strKeyed strInj Try.underlying90 rfl rfl (strOk hkk) ?_; intro w2' hm2' ho2'))
      go_roundg (out.length - (k + 1))
      case measure => rw [Hg.out]; omega
      case rel =>
        refine ⟨k + 1, by go_num, by omega, HOX.out.trans ho2', ?_, rfl⟩
        rw [HTK.out, dropAll_snoc]
        exact hm2'
    · have hke : k = out.length := by omega
      have hlt' : ¬ (k : Int) < (out.length : Int) := by omega
      rw [hke, List.take_length] at hmx
      have HMX := Lib.hid hmx
      clear hmx
      go_wp2_with fail
      go_ret
      have hap := H.out.map.apart
      have hpo := out_perm hap now HP.out HOUT.out
      have hbw : b < w.heap.size := H.out.map.lt
      refine ⟨_, out, rfl, hpo, ?_, ?_, ?_, ?_⟩
      · have := HDS.out.filter (fun x => !late L now x)
        rw [HOUT.out] at this
        exact this
      · have h1 := owns_kept HR3.out HOX.out (fun k hk e => by
          subst e
          have h2 := HR3.out
          rcases h2.2 with ⟨h3, _⟩ | ⟨g, cap', cur, h3, h4, h5, _⟩
          · rw [h3] at hk; simp [Value.ownBlock] at hk
          · rw [h3] at hk
            simp [Value.ownBlock] at hk
            omega)
        exact ownsRow_base_a h1 (by omega)
      · exact ((HO.out.weaken (fun _ _ => False.elim)).tr HO3.out (fun i hi e => by omega)).trans HOX.out
      · rw [← dropAll_out hap now hpo]
        exact ⟨HOX.out.old HM3.out.blk HM3.out.ne, HMX.out⟩
end Go.Proofs.Ytefadkmdfhjaeaa
