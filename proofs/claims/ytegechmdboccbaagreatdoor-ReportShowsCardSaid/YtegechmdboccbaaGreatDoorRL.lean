/- report: a new cluster is quiet; so is none. -/
import Derived.Test.YtegechmdboccbaaGreatDoorRK
import Derived.Test.YtegechmdboccbaaGreatDoorRB
import Derived.Test.YtegechmdboccbaaGreatDoorIterI
import Derived.Shelf.SortM.Plain
import Derived.Test.YtegechmdboccbaaGreatDoorRI
/-! report: Parts of a cluster whose nodes know nobody. -/
namespace Go.Proofs.YtegechmdboccbaaGreatDoor
open Go.Conc Go.RowKit Go.Maps Go.Sort

set_option maxRecDepth 100000 in
theorem rlinked_any (w : World) (cv : Value) (l : List Int) (A : Int → Nat) (h : QC w cv l A) (n b : Int) (hn : n ∈ l) (B1 B2 : Nat) (h1 : w.cell? ⟨B1, 0, none⟩ = some cv) (h2 : w.cell? ⟨B2, 0, none⟩ = some (.int .i64 n)) :
    Calls Tryz.prog 24 #[.int .i64 b, .pointer (some ⟨B1, 0, none⟩), .pointer (some ⟨B2, 0, none⟩)] w fun e w' => e = .returned (.bool false) ∧ Only (fun _ => False) w w' := by
  have HA := Lib.hid (ractive_any w cv l A h n b hn)
  clear h
  go_enter Tryz.func24, Tryz.ntmps24
  go_wp2_with fail
  refine HA.out.mono ?_
  rintro e w' ⟨rfl, ho⟩
  have HO := Lib.hid ho
  clear ho
  go_wp2_with fail
  go_ret
  exact ⟨rfl, HO.out⟩
theorem enter_rlinked : ∀ args w, (callFunc 24 args).run Tryz.prog w = .ok (.enter 24 args) w := enters_of Tryz.func24 (by kernel_rfl) rfl
theorem sort_one (w : World) (P : Nat) (x : Int) (h : w.heap[P]? = some (.cells #[.int .i64 x] 3 (0, 0))) :
    Calls Tryz.prog 26 #[.slice (some ⟨P, 0, none⟩) 1 1] w fun e w' => e = .returned (.tuple #[]) ∧ Only (fun i => i = P) w w' ∧ ∃ cs, w'.heap[P]? = some (.cells cs 3 (0, 0)) := by
  have hH : Holds (Value.int .i64) w P 0 #[x] := fun j hj => by
    obtain rfl : j = 0 := by simp at hj; omega
    exact ⟨cell_at h 0, free_at h 0⟩
  refine (AnyM.slices_Sort_int Tryz.sortI P 0 1 [x] w hH (lt_of_block h) (by show 1 < _; decide)).mono ?_
  rintro e w' ⟨rfl, n, os, rfl⟩
  refine ⟨rfl, ?_, ?_⟩
  · exact ((ahead_only w n).weaken (fun _ _ => False.elim)).trans (((put_only (Value.int .i64) _ P _)).trans ((grow_only _ os).weaken (fun _ _ => False.elim)))
  · have h1 : (Sort.ahead w n).heap[P]? = some (.cells #[.int .i64 x] 3 (0, 0)) := (ahead_only w n).old h id
    exact ⟨_, (grow_only _ os).old (put_block (Value.int .i64) _ P _ h1) id⟩
theorem infoIntsS : (Tryz.prog.info? 37).map (fun i => (i.zero, i.size, i.bytes)) = some (some (.slice none 0 0), 1, 24) := by kernel_rfl
set_option maxRecDepth 100000 in
set_option maxHeartbeats 4000000 in
theorem rparts_any (w : World) (p : Option Addr) (l : List Int) (A : Int → Nat) (h : QC w (.pointer p) l A) (hl : l.length ≤ 1000) :
    Calls Tryz.prog 8 #[.pointer p] w fun e w' => ∃ a cap, e = .returned (.slice a l.length cap) ∧ Only (fun _ => False) w w' := by
  obtain ⟨i0, hii0, iz0, iz1, iz2⟩ := info_parts infoIntsS
  obtain ⟨W, hW⟩ : ∃ W, W = w.alloc (.cells #[.pointer p] 33) := ⟨_, rfl⟩
  have hbW : W.heap[w.heap.size]? = some (.cells #[.pointer p] 33 (0, 0)) := by rw [hW]; exact heap_alloc_new w _
  have hoW : Only (fun _ => False) w W := by rw [hW]; exact (Only.refl _ _).alloc _
  have hsW : W.heap.size = w.heap.size + 1 := by rw [hW]; simp
  have y0 : W.cell? ⟨w.heap.size, 0, none⟩ = some (.pointer p) := cell_at hbW 0
  have hlv := h.live W hoW
  have HQ := Lib.hid h
  have HBW := Lib.hid hbW
  have HOW := Lib.hid hoW
  have HLV := Lib.hid hlv
  clear h hbW hoW hlv
  clear hsW
  go_enter Tryz.func8, Tryz.ntmps8
  go_upto_region 2 with (fail)
  rw [← hW]
  clear hW
  go_wp2_with fail
  refine HLV.out.mono ?_
  rintro e w1 ⟨v, rfl, hr1, ho1⟩
  obtain ⟨a0, cap0, rfl, hc1, hc2, hat⟩ := (IR.of hr1).form
  unfold maxLen at hc2
  have HY := Lib.hid (ho1.cell y0 id)
  have HO1 := Lib.hid (HOW.out.trans ho1)
  have HAT := Lib.hid hat
  have HR1 := Lib.hid hr1
  clear ho1 hr1 hat y0
  go_wp2_with fail
  go_loopg [3, 4] l.length (fun g v3 v4 wr => ∃ (k : Nat) (a : Option Addr) (cap : Nat) (xs : List Value) (va : Option Addr) (vc : Nat), wr.ownsRow w1.heap.size 37 1 (.slice va k vc) k xs ∧ v3 = .slice va k vc ∧ v4 = .slice a (l.length - k : Nat) cap ∧ l.length - k ≤ cap ∧ cap ≤ 9223372036854775807 ∧ IntsAt w1 a (l.drop k) ∧ Only (fun _ => False) w1 wr ∧ k ≤ l.length ∧ g = l.length - k)
  case atStart => exact ⟨0, a0, cap0, [], none, 0, World.ownsRow_nil _ _ _ _, rfl, by simp, by simpa using hc1, hc2, by simpa using HAT.out, Only.refl _ _, Nat.zero_le _, rfl⟩
  case round =>
    obtain ⟨wo, rfl⟩ : ∃ wo : World, wo = wr := ⟨_, rfl⟩
    obtain ⟨k, a, cap, xs, va, vc, hown, rfl, rfl, hcl, hcm, hat, ho, hk, hg⟩ := hrel
    have HOWN := Lib.hid hown
    have HA := Lib.hid hat
    have HO := Lib.hid ho
    have Hg := Lib.hid hg
    clear hown hat ho hg
    by_cases hlt : k < l.length
    · have hd0 : 0 < (l.drop k).length := by rw [List.length_drop]; omega
      obtain ⟨b, off, rfl, p0⟩ := (HA.out.new HO.out).at 0 hd0
      have hx : (l.drop k)[0] ∈ l := List.mem_of_mem_drop (List.getElem_mem hd0)
      obtain ⟨x, hxe⟩ : ∃ x, x = (l.drop k)[0] := ⟨_, rfl⟩
      rw [← hxe] at p0 hx
      have hnl : (0 : Int) < ((l.length - k : Nat) : Int) := by omega
      obtain ⟨n, hn⟩ : ∃ n, n = l.length - k := ⟨_, rfl⟩
      rw [← hn] at hnl hcl
      have HN := Lib.hid hn
      clear hxe hd0
      simp only [Nat.add_zero] at p0
      have hl0 : decide ((0 : Int) < (n : Int)) = true := decide_eq_true (by omega)
      rw [← HN.out]
      clear hn
      go_upto_region 5 with (fail)
      obtain ⟨V, hV⟩ : ∃ V, V = wo.alloc (.cells #[.int .i64 x] 3) := ⟨_, rfl⟩
      have hbV : V.heap[wo.heap.size]? = some (.cells #[.int .i64 x] 3 (0, 0)) := by rw [hV]; exact heap_alloc_new wo _
      have hoV : Only (fun _ => False) wo V := by rw [hV]; exact (Only.refl _ _).alloc _
      have hsV : V.heap.size = wo.heap.size + 1 := by rw [hV]; simp
      rw [← hV]
      have HBV := Lib.hid hbV
      have HOV := Lib.hid (HO.out.trans hoV)
      have HVO := Lib.hid hoV
      have HSO := Lib.hid HO.out.size
      have HSV := Lib.hid hsV
      clear hV hbV hoV hsV p0
      have hdr : l.drop (k + 1) = (l.drop k).drop 1 := by rw [List.drop_drop]
      have hdn : ∀ j (hj : j < (l.drop (k + 1)).length), ∃ hj2 : j + 1 < (l.drop k).length, (l.drop (k + 1))[j] = (l.drop k)[j + 1] := by
        intro j hj
        refine ⟨by rw [List.length_drop] at hj ⊢; omega, ?_⟩
        simp only [List.getElem_drop]
        congr 1
        omega
      have HDN := Lib.hid hdn
      clear hdn
      clear hdr
      go_cut [4] (fun v4 wx => (∃ (a2 : Option Addr) (cap2 : Nat), v4 = .slice a2 (n - 1 : Nat) cap2 ∧ n - 1 ≤ cap2 ∧ cap2 ≤ 9223372036854775807 ∧ IntsAt w1 a2 (l.drop (k + 1))) ∧ V = wx)
      case first =>
        have hn1 : 1 ≤ n := by omega
        by_cases hc : cap = 1
        · subst hc
          obtain rfl : n = 1 := by omega
          go_wp2_with fail
          go_meet
          exact ⟨⟨_, 0, rfl, Nat.le_refl _, Nat.zero_le _, ⟨.inl (by rw [List.length_drop]; have := HN.out; omega)⟩⟩, rfl⟩
        · have hc2 : ¬ (cap : Int) = 1 := by omega
          have hc3 : 1 ≤ cap := by omega
          go_wp2_with fail
          go_meet
          refine ⟨⟨_, cap - 1, rfl, by omega, by omega, ⟨?_⟩⟩, rfl⟩
          by_cases hz : (l.drop (k + 1)).length = 0
          · exact .inl hz
          · refine .inr ⟨b, off + 1, rfl, fun j hj => ?_⟩
            obtain ⟨hj2, e2⟩ := HDN.out j hj
            obtain ⟨b', off', e3, hc4⟩ := HA.out.at (j + 1) hj2
            simp only [Option.some.injEq, Addr.mk.injEq, and_true] at e3
            obtain ⟨rfl, rfl⟩ := e3
            rw [e2, ← hc4]
            congr 2
            omega
      case rest =>
      obtain ⟨⟨a2, cap2, rfl, hca, hcb, hia⟩, rfl⟩ := hcut
      have hlen2 : (l.drop (k + 1)).length = n - 1 := by rw [List.length_drop]; have := HN.out; omega
      have hmem : ∀ y ∈ l.drop (k + 1), y ∈ l := fun y hy => List.mem_of_mem_drop hy
      generalize hmd : l.drop (k + 1) = m at *
      have HMD := Lib.hid hmd
      clear hmd
      have hm2 : m.length ≤ 9223372036854775807 := by omega
      rw [← hlen2] at hca ⊢
      have HI := Lib.hid hia
      have HM := Lib.hid hlen2
      have HMEM := Lib.hid hmem
      clear hia hlen2 hmem
      clear HDN
      go_wp2_with fail
      go_loopg [4, 5, 6] 1 (fun g v4 v5 v6 wy => ∃ i : Nat, v6 = .int .i64 i ∧ i ≤ 1 ∧ v4 = .slice a2 m.length cap2 ∧ v5 = .slice (some ⟨wo.heap.size, 0, none⟩) 1 1 ∧ Only (fun _ => False) V wy ∧ g = 1 - i)
      case atStart => exact ⟨0, rfl, Nat.zero_le _, rfl, rfl, Only.refl _ _, rfl⟩
      case round =>
        obtain ⟨wq, rfl⟩ : ∃ wq : World, wq = wr := ⟨_, rfl⟩
        obtain ⟨i, rfl, hi, rfl, rfl, hoy, hg2⟩ := hrel
        have HOY := Lib.hid hoy
        have Hg2 := Lib.hid hg2
        clear hoy hg2
        by_cases hi0 : i < 1
        · obtain rfl : i = 0 := by omega
          have q0 : _ := cell_at (HOY.out.old HBV.out id) 0
          simp only [List.getElem?_toArray, List.getElem?_cons_zero] at q0
          go_upto_region 10 with (fail)
          obtain ⟨Y, hY⟩ : ∃ Y, Y = wq.alloc (.cells #[.int .i64 x] 3) := ⟨_, rfl⟩
          have hbY : Y.heap[wq.heap.size]? = some (.cells #[.int .i64 x] 3 (0, 0)) := by rw [hY]; exact heap_alloc_new wq _
          have hoY : Only (fun _ => False) wq Y := by rw [hY]; exact (Only.refl _ _).alloc _
          have hsY : Y.heap.size = wq.heap.size + 1 := by rw [hY]; simp
          rw [← hY]
          have HBY := Lib.hid hbY
          have HOZ := Lib.hid (HOY.out.trans hoY)
          clear hY hbY hoY hsY q0
          have hoA : Only (fun _ => False) w Y := HO1.out.trans (HOV.out.trans HOZ.out)
          have hoB : Only (fun _ => False) w1 Y := HOV.out.trans HOZ.out
          have hlk : ∀ W (b : Int), Only (fun _ => False) Y W → Calls Tryz.prog 24 #[.int .i64 b, .pointer (some ⟨w.heap.size, 0, none⟩), .pointer (some ⟨wq.heap.size, 0, none⟩)] W fun e w' => e = .returned (.bool false) ∧ Only (fun _ => False) W w' :=
            fun W b hW => rlinked_any W (.pointer p) l A (HQ.out.new (hoA.trans hW)) x b hx w.heap.size wq.heap.size (hW.cell (hoB.cell HY.out id) id) (hW.cell (cell_at HBY.out 0) id)
          have HLK := Lib.hid hlk
          have HOB := Lib.hid hoB
          have HOA := Lib.hid hoA
          clear hlk hoB hoA
          go_wp2_with fail
          go_loopg [5, 35] m.length (fun g v5 v35 wr => ∃ j : Nat, v35 = .int .i64 j ∧ j ≤ m.length ∧ v5 = .slice (some ⟨wo.heap.size, 0, none⟩) 1 1 ∧ Only (fun _ => False) Y wr ∧ g = m.length - j)
          case atStart => exact ⟨0, rfl, Nat.zero_le _, rfl, Only.refl _ _, rfl⟩
          case round =>
            obtain ⟨j, rfl, hj, rfl, hoj, hg3⟩ := hrel
            have HOJ := Lib.hid hoj
            have Hg3 := Lib.hid hg3
            clear hoj hg3
            by_cases hjl : j < m.length
            · have hjl' : (j : Int) < (m.length : Int) := by omega
              obtain ⟨b3, off3, rfl, r0⟩ := (HI.out.new (HOB.out.trans HOJ.out)).at j hjl
              generalize m[j] = y at *
              have hc3 := HLK.out wr y HOJ.out
              have HC3 := Lib.hid hc3
              clear hc3
              go_wp2_with fail
              refine HC3.out.mono ?_
              rintro e w5 ⟨rfl, ho5⟩
              have HO5 := Lib.hid (HOJ.out.trans ho5)
              clear ho5 r0
              go_wp2_with fail
              go_roundg (m.length - (j + 1))
              case measure => rw [Hg3.out]; omega
              case rel => exact ⟨j + 1, by go_num, by omega, rfl, HO5.out, rfl⟩
            · have hjl' : ¬ (j : Int) < (m.length : Int) := by omega
              have hdl := del_none wr a2 cap2 m 24 #[.pointer (some ⟨w.heap.size, 0, none⟩), .pointer (some ⟨wq.heap.size, 0, none⟩)] (HI.out.new (HOB.out.trans HOJ.out)) hm2 enter_rlinked (fun y _ W hW => HLK.out W y (HOJ.out.trans hW))
              have HDL := Lib.hid hdl
              clear hdl
              go_wp2_with fail
              refine HDL.out.mono ?_
              rintro e w6 ⟨rfl, ho6⟩
              have HO6 := Lib.hid (HOZ.out.trans (HOJ.out.trans ho6))
              clear ho6
              go_wp2_with fail
              go_roundg 0
              case measure => rw [Hg2.out]; omega
              case rel => exact ⟨1, by go_num, by omega, rfl, rfl, HO6.out, rfl⟩
        · obtain rfl : i = 1 := by omega
          have hB9 := HOY.out.old HBV.out id
          have hst := sort_one wq wo.heap.size x hB9
          have HST := Lib.hid hst
          clear hst
          go_wp2_with fail
          refine HST.out.mono ?_
          rintro e w7 ⟨rfl, ho7, cs, hb7⟩
          have hown7 := owns_ty (owns_only HOWN.out (HVO.out.trans HOY.out) (fun _ _ => id)) ho7 (cells_not hB9 (by decide))
          have hoC : Only (fun _ => False) w1 w7 := (HOV.out.trans HOY.out).tr ho7 (fun i hi e => by have := HSO.out; omega)
          have hkn : k < l.length := hlt
          have HOC := Lib.hid hoC
          have HO7 := Lib.hid hown7
          clear hoC hown7
          clear ho7 hb7 hB9
          go_wp2_with (at_builtin; refine Wait.mk ?_)
          refine Wait.go (wpList_append_src _ rfl (.tmp 52) (.tmp 54) 30 30 rfl w1.heap.size 37 i0 _ 1 24 Tryz.underlying30 hii0 iz0 iz1 iz2 rfl (.slice va k vc) k xs rfl (HO7.out.alloc _) _ 1 [.slice (some ⟨wo.heap.size, 0, none⟩) 1 1] rfl ?src9 ?m9 ?b9 ?base9 ?_)
          case src9 => exact Src.ofSlice _ Tryz.underlying30 _ _ _ _ rfl (news_new _ _ _) (by intro u hu; simp at hu; subst hu; rfl)
          case m9 => unfold maxLen; omega
          case b9 => omega
          case base9 => have := HOC.out.size; simp; omega
          intro v8 w8 own8 gr8 hv8
          have ho8 : Only (fun _ => False) w1 w8 := (HOC.out.alloc _).grown gr8 (fun q e => .inl (by have := (HO7.out.lt q e).1; omega))
          obtain ⟨va8, vc8, rfl⟩ : ∃ a c, v8 = .slice a (k + 1) c := by obtain ⟨_, a, c, e, _⟩ := Sl.of_owns own8; exact ⟨a, c, e⟩
          have HO8 := Lib.hid ho8
          have HOWN8 := Lib.hid own8
          clear ho8 own8
          clear gr8 hv8
          go_wp2_with fail
          go_roundg (l.length - (k + 1))
          case measure => rw [Hg.out]; omega
          case rel => exact ⟨k + 1, a2, cap2, _, va8, vc8, HOWN8.out, rfl, by rw [HM.out, HN.out, Nat.sub_sub], by have := HN.out; have := HM.out; omega, hcb, by rw [HMD.out]; exact HI.out, HO8.out, by omega, rfl⟩
    · have hkl : k = l.length := by omega
      subst hkl
      have hl0 : l.length - l.length = 0 := by omega
      rw [hl0]
      clear hl0 hlt hcl
      go_wp2_with fail
      go_ret
      exact ⟨_, _, rfl, HO1.out.trans HO.out⟩
end Go.Proofs.YtegechmdboccbaaGreatDoor
/-! report.Of of a cluster whose nodes hold nothing and know nobody. -/
namespace Go.Proofs.YtegechmdboccbaaGreatDoor
open Go.Conc Go.RowKit Go.Maps

def reportC (a b c d e f g h : Int) : List Value := [.int .i64 a, .int .i64 b, .int .i64 c, .int .i64 d, .int .i64 e, .int .i64 f, .int .i64 g, .int .i64 h]
theorem infoReport (a b c d e f g h : Int) : (Tryz.prog.info? 25).map (·.size) = some (reportC a b c d e f g h).toArray.size := by kernel_rfl
theorem infoReportL (a b c d e f g h : Int) : (Tryz.prog.info? 25).map (·.size) = some (#[Value.int .i64 a, .int .i64 b, .int .i64 c, .int .i64 d, .int .i64 e, .int .i64 f, .int .i64 g, .int .i64 h] : Array Value).size := by kernel_rfl
theorem reportC_one (a b c d e f g h : Int) : (reportC a b c d e f g h).toArray.all (·.oneCell') = true := by
  rw [List.all_toArray]; rfl
/-- A quiet cluster, wherever only what is new or one block has changed. -/
def QCR (w : World) (R : Nat) (cv : Value) (l : List Int) (A : Int → Nat) : Prop := ∀ W, Only (fun i => i = R) w W → QC W cv l A
set_option maxRecDepth 100000 in
set_option maxHeartbeats 8000000 in
theorem rof_any (w : World) (p : Option Addr) (l : List Int) (A : Int → Nat) (h : ∀ R, w.heap.size ≤ R → ∀ W, Only (fun _ => False) w W → QCR W R (.pointer p) l A) (hl : l.length ≤ 1000) :
    Calls Tryz.prog 7 #[.pointer p] w fun e w' => e = .returned (.agg (reportC l.length l.length 0 l.length 0 0 0 0).toArray) ∧ Only (fun _ => False) w w' := by
  obtain ⟨W0, hW0⟩ : ∃ W0, W0 = w.alloc (.cells #[.int .i64 0, .int .i64 0, .int .i64 0, .int .i64 0, .int .i64 0, .int .i64 0, .int .i64 0, .int .i64 0] 25) := ⟨_, rfl⟩
  have hbW0 : W0.heap[w.heap.size]? = some (.cells #[.int .i64 0, .int .i64 0, .int .i64 0, .int .i64 0, .int .i64 0, .int .i64 0, .int .i64 0, .int .i64 0] 25 (0, 0)) := by rw [hW0]; exact heap_alloc_new w _
  have hoW0 : Only (fun _ => False) w W0 := by rw [hW0]; exact (Only.refl _ _).alloc _
  have hsW0 : W0.heap.size = w.heap.size + 1 := by rw [hW0]; simp
  have HQ := Lib.hid (fun W (hW : Only (fun _ => False) w W) => h w.heap.size (Nat.le_refl _) W hW W (Only.refl _ _))
  have HQR := Lib.hid h
  have HBW0 := Lib.hid hbW0
  have HOW0 := Lib.hid hoW0
  have HS0 := Lib.hid hsW0
  clear h hbW0 hoW0 hsW0
  have hlv := (HQ.out W0 HOW0.out).live W0 (Only.refl _ _)
  have HLV := Lib.hid hlv
  clear hlv
  go_enter Tryz.func7, Tryz.ntmps7
  go_upto_region 1 with (fail)
  rw [← hW0]
  clear hW0
  go_wp2_with fail
  refine HLV.out.mono ?_
  rintro e w1 ⟨v, rfl, hr1, ho1⟩
  obtain ⟨a, cap, rfl, hc1, hc2, hat⟩ := (IR.of hr1).form
  unfold maxLen at hc2
  have ho01 := HOW0.out.trans ho1
  have hhd := rheld_any w1 (.pointer p) l A (HQ.out w1 ho01)
  have HHD := Lib.hid hhd
  have HO1 := Lib.hid ho01
  have HAT := Lib.hid hat
  have HO1b := Lib.hid ho1
  clear hhd ho01 hat ho1
  clear hr1
  go_wp2_with fail
  refine HHD.out.mono ?_
  rintro e w2 ⟨mb, rfl, hmb, ho2⟩
  have ho02 := HO1.out.trans ho2
  have hpt := rparts_any w2 p l A (HQ.out w2 ho02) hl
  have HPT := Lib.hid hpt
  have HMB := Lib.hid hmb
  have HO2 := Lib.hid ho02
  have HO2b := Lib.hid ho2
  clear hpt hmb ho02 ho2
  go_wp2_with fail
  refine HPT.out.mono ?_
  rintro e w3 ⟨pa, pcap, rfl, ho3⟩
  have hmb3 := ho3.old HMB.out id
  have hlen := (MapIs.empty (P := Tryz.prog) (k := 9) (κ := Value.string) (ε := fun v : Value => v) hmb3).len Tryz.underlying53
  simp only [List.length_nil] at hlen
  have ho03 := HO2.out.trans ho3
  have HMB3 := Lib.hid hmb3
  have HO3 := Lib.hid ho03
  have HO3b := Lib.hid ho3
  clear hmb3 ho03 ho3
  go_upto_region 4 with (fail)
  obtain ⟨w4, hw4⟩ : ∃ w4, w4 = w3.alloc (.cells #[.int .i64 l.length, .int .i64 0, .int .i64 0, .int .i64 l.length, .int .i64 0, .int .i64 0, .int .i64 0, .int .i64 0] 25) := ⟨_, rfl⟩
  have hbw4 : w4.heap[w3.heap.size]? = some (.cells #[.int .i64 l.length, .int .i64 0, .int .i64 0, .int .i64 l.length, .int .i64 0, .int .i64 0, .int .i64 0, .int .i64 0] 25 (0, 0)) := by rw [hw4]; exact heap_alloc_new w3 _
  have how4 : Only (fun _ => False) w3 w4 := by rw [hw4]; exact (Only.refl _ _).alloc _
  have hsw4 : w4.heap.size = w3.heap.size + 1 := by rw [hw4]; simp
  rw [← hw4]
  obtain ⟨R, hR⟩ : ∃ R, R = w3.heap.size := ⟨_, rfl⟩
  rw [← hR] at hbw4
  have hwR : w.heap.size < R := by
    have h1 := HO1b.out.size
    have h2 := HO2b.out.size
    have h3 := HO3b.out.size
    have h4 := HS0.out
    omega
  have ho04 := HO3.out.trans how4
  have ho14 := HO2b.out.trans (HO3b.out.trans how4)
  have hra : w1.heap.size ≤ R := by
    have h2 := HO2b.out.size
    have h3 := HO3b.out.size
    omega
  have hmb4 := how4.old HMB3.out id
  have hmbR : mb ≠ R := fun e => by have := lt_of_block HMB3.out; omega
  have hqr := HQR.out R (by omega) w4 ho04
  have hb04 := (HO1b.out.trans (HO2b.out.trans (HO3b.out.trans how4))).old HBW0.out id
  have HBR := Lib.hid hbw4
  have HO4 := Lib.hid ho04
  have HO14 := Lib.hid ho14
  have HRA := Lib.hid hra
  have HMB4 := Lib.hid hmb4
  have HQ4 := Lib.hid hqr
  have HB04 := Lib.hid hb04
  have HWR := Lib.hid hwR
  clear hbw4 ho04 ho14 hra hmb4 hqr hb04 hwR
  clear hw4 how4 hsw4 hlen
  rw [← hR]
  clear hR
  go_wp2_with fail
  go_loopg [28] l.length (fun g v28 wr => ∃ k : Nat, v28 = .int .i64 k ∧ k ≤ l.length ∧ wr.heap[R]? = some (.cells #[.int .i64 l.length, .int .i64 k, .int .i64 0, .int .i64 l.length, .int .i64 0, .int .i64 0, .int .i64 0, .int .i64 0] 25 (0, 0)) ∧ Only (fun i => i = R) w4 wr ∧ g = l.length - k)
  case atStart => exact ⟨0, rfl, Nat.zero_le _, HBR.out, Only.refl _ _, rfl⟩
  case round =>
    obtain ⟨k, rfl, hk, hbr, ho, hg⟩ := hrel
    obtain ⟨wo, rfl⟩ : ∃ wo : World, wo = wr := ⟨_, rfl⟩
    have HBK := Lib.hid hbr
    have HO := Lib.hid ho
    have Hg := Lib.hid hg
    clear hbr ho hg
    by_cases hlt : k < l.length
    · have hlt' : (k : Int) < (l.length : Int) := by omega
      obtain ⟨b, off, rfl, p0⟩ := HAT.out.at k hlt
      have hbl := World.block_lt_of_cell? _ _ p0
      have hnR : ¬ b = R := fun e => by have := HRA.out; simp only at hbl; omega
      have p1 := HO.out.cell (HO14.out.cell p0 id) hnR
      have hag := (HQ4.out wo HO.out).agent l[k] (List.getElem_mem hlt) wo (Only.refl _ _)
      have haq := fun V (hV : Only (fun i => i = R) w4 V) => (HQ4.out V hV).aq l[k] (List.getElem_mem hlt)
      have hvw := (haq wo HO.out).view wo (Only.refl _ _)
      have hbe := fun V (hV : Only (fun i => i = R) w4 V) => rbehind_any V (.pointer p) l A (HQ4.out V hV) mb (hV.old HMB4.out hmbR) l[k] (List.getElem_mem hlt)
      generalize l[k] = n at *
      have HAG := Lib.hid hag
      have HBH := Lib.hid hbe
      have HAQ := Lib.hid haq
      have HVW := Lib.hid hvw
      clear hag hbe haq hvw
      clear p0 hbl hnR
      go_wp2_with fail
      refine HAG.out.mono ?_
      rintro e w' ⟨rfl, rfl⟩
      generalize A n = ag at *
      go_wp2_with fail
      refine HVW.out.mono ?_
      rintro e w5 ⟨self, am, pm, va, vp, rfl, hir, hip, ho5⟩
      obtain ⟨aa, ac, rfl, _, _, _⟩ := id hir.form
      obtain ⟨pa2, pc2, rfl, _, _, _⟩ := id hip.form
      have hf := view_act self (.slice aa 0 ac) am (.slice pa2 0 pc2) pm
      have hall := nsall_any w5 _ am [] hir (by decide)
      unfold setV at hall
      simp only [List.length_nil] at hall
      have HALL := Lib.hid hall
      have HO5 := Lib.hid ho5
      clear hall ho5
      clear hir hip
      go_wp2_with fail
      clear hf
      refine HALL.out.mono ?_
      rintro e w6 ⟨v6, rfl, hr6, ho6⟩
      obtain ⟨a6, c6, rfl, _, _, _⟩ := (IR.of hr6).form
      have hb6 := (HO5.out.trans ho6).old HBK.out id
      have y0 : w6.cell? ⟨R, 0, none⟩ = some (.int .i64 l.length) := cell_at hb6 0
      have y1 : w6.cell? ⟨R, 1, none⟩ = some (.int .i64 k) := cell_at hb6 1
      have y2 : w6.cell? ⟨R, 2, none⟩ = some (.int .i64 0) := cell_at hb6 2
      have y3 : w6.cell? ⟨R, 3, none⟩ = some (.int .i64 l.length) := cell_at hb6 3
      have y4 : w6.cell? ⟨R, 4, none⟩ = some (.int .i64 0) := cell_at hb6 4
      have y5 : w6.cell? ⟨R, 5, none⟩ = some (.int .i64 0) := cell_at hb6 5
      have y6 : w6.cell? ⟨R, 6, none⟩ = some (.int .i64 0) := cell_at hb6 6
      have y7 : w6.cell? ⟨R, 7, none⟩ = some (.int .i64 0) := cell_at hb6 7
      have yf : ∀ i, w6.frozen? ⟨R, i, none⟩ = false := free_at hb6
      have yl : R < w6.heap.size := lt_of_block hb6
      have ho46 : Only (fun i => i = R) w4 w6 := HO.out.trans ((HO5.out.trans ho6).weaken (fun _ _ => False.elim))
      have HB6 := Lib.hid hb6
      have HO46 := Lib.hid ho46
      clear hb6 ho46
      clear hr6 ho6 p1
      go_upto_region 11 with (fail)
      obtain ⟨X, hX⟩ : ∃ X, X = w6.setCell ⟨R, 1, none⟩ (.int .i64 ((k : Int) + 1)) := ⟨_, rfl⟩
      have hbX : X.heap[R]? = some (.cells #[.int .i64 l.length, .int .i64 (k + 1 : Nat), .int .i64 0, .int .i64 l.length, .int .i64 0, .int .i64 0, .int .i64 0, .int .i64 0] 25 (0, 0)) := by rw [hX]; exact (set_at HB6.out 1 _).trans rfl
      have hoX : Only (fun i => i = R) w4 X := by
        rw [hX]
        exact HO46.out.setCell (p := ⟨R, 1, none⟩) (.inr rfl) _
      rw [← hX]
      have HBX := Lib.hid hbX
      have HOX := Lib.hid hoX
      clear hbX hoX
      clear hX y0 y1 y2 y3 y4 y5 y6 y7 yf yl
      go_wp2_with fail
      go_loopg [48] 0 (fun g v48 wr => v48 = .int .i64 0 ∧ X = wr)
      case atStart => exact ⟨rfl, rfl⟩
      case round =>
        obtain ⟨rfl, hXr⟩ := hrel
        obtain ⟨W, rfl⟩ : ∃ W : World, W = wr := ⟨_, rfl⟩
        have hbW : W.heap[R]? = _ := hXr ▸ HBX.out
        have hoW : Only (fun i => i = R) w4 W := hXr ▸ HOX.out
        have hc5 : ∀ w', Only (fun _ => False) W w' → w'.cell? ⟨R, 5, none⟩ = some (.int .i64 0) := fun w' h => h.cell (cell_at hbW 5) id
        have hfr : ∀ w', Only (fun _ => False) W w' → w'.frozen? ⟨R, 5, none⟩ = false := fun w' h => free_at (h.old hbW id) 5
        have hlr : ∀ w', Only (fun _ => False) W w' → R < w'.heap.size := fun w' h => lt_of_block (h.old hbW id)
        have hbe2 : ∀ V, Only (fun _ => False) W V → Calls Tryz.prog 20 #[.pointer p, .int .i64 n, .map (some mb)] V fun e w' => e = .returned (.int .i64 0) ∧ Only (fun _ => False) V w' := fun V hV => HBH.out V (hoW.trans (hV.weaken (fun _ _ => False.elim)))
        have HBW := Lib.hid hbW
        have HOW := Lib.hid hoW
        have HC5 := Lib.hid hc5
        have HFR := Lib.hid hfr
        have HLR := Lib.hid hlr
        have HBE := Lib.hid hbe2
        clear hbW hoW hc5 hfr hlr hbe2
        clear hXr
        go_upto_region 17 with (fail)
        refine wp_region_G_drew (fun w' => w'.cell? ⟨R, 5, none⟩ = some (.int .i64 0)) (fun w' => True) 8 (by kernel_rfl) (by exact HC5.out _ (by (repeat (first | (with_reducible assumption) | (with_reducible exact Only.refl _ _) | (with_reducible refine Only.drew ?_) | (with_reducible refine Only.alloc ?_ _) | (with_reducible refine onlySet ?_ (by first | (with_reducible assumption) | omega) _) | (with_reducible refine Only.trans ?_ (by with_reducible assumption)))))) (fun hHeld => ?_)
        refine wpAnyG_takeWD (d := some 62) (i := 0) (oi := _) (v := ?v1) rfl (by kernel_rfl) (by kernel_rfl) (by kernel_rfl) (by kernel_rfl) (by kernel_rfl) (fun _ _ _ h => h) (Or.inl ⟨by rfl, ?hy1⟩) (Gn.start (by kernel_rfl) hHeld) ?rest1
        case hy1 =>
          intro w _
          go_simp
          try with_reducible rfl
        refine wpAnyG_act (a' := ?na1) ?ne1 ?nr1
        case ne1 =>
          try simp [Act.put]
          try rfl
        refine wpAnyG_takeD (d := some 63) (i := 1) (oi := _) (v := ?v2) rfl (by kernel_rfl) (by kernel_rfl) (by kernel_rfl) (by kernel_rfl) (by kernel_rfl) rfl (by rfl) (fun _ _ _ h => h) (Or.inl ⟨by rfl, ?hy2⟩) hHeld ?rest2
        case hy2 =>
          intro w hSw
          try dsimp only at hSw
          go_simp
          try with_reducible rfl
        refine wpAnyG_act (a' := ?na2) ?ne2 ?nr2
        case ne2 =>
          try simp [Act.put]
          try rfl
        refine wpAnyG_takeWD (d := some 64) (i := 2) (oi := _) (v := ?v3) rfl (by kernel_rfl) (by kernel_rfl) (by kernel_rfl) (by kernel_rfl) (by kernel_rfl) (fun _ _ _ h => h) (Or.inl ⟨by rfl, ?hy3⟩) (Gn.start (by kernel_rfl) hHeld) ?rest3
        case hy3 =>
          intro w _
          go_simp
          try with_reducible rfl
        refine wpAnyG_act (a' := ?na3) ?ne3 ?nr3
        case ne3 =>
          try simp [Act.put]
          try rfl
        refine wpAnyG_takeWD (d := some 65) (i := 3) (oi := _) (v := ?v4) rfl (by kernel_rfl) (by kernel_rfl) (by kernel_rfl) (by kernel_rfl) (by kernel_rfl) (fun _ _ _ h => h) (Or.inl ⟨by rfl, ?hy4⟩) (Gn.start (by kernel_rfl) hHeld) ?rest4
        case hy4 =>
          intro w _
          go_simp
          try with_reducible rfl
        refine wpAnyG_act (a' := ?na4) ?ne4 ?nr4
        case ne4 =>
          try simp [Act.put]
          try rfl
        refine wpAnyG_takeWD (d := some 66) (i := 4) (oi := _) (v := ?v5) rfl (by kernel_rfl) (by kernel_rfl) (by kernel_rfl) (by kernel_rfl) (by kernel_rfl) (fun _ _ _ h => h) (Or.inl ⟨by rfl, ?hy5⟩) (Gn.start (by kernel_rfl) hHeld) ?rest5
        case hy5 =>
          intro w _
          go_simp
          try with_reducible rfl
        refine wpAnyG_act (a' := ?na5) ?ne5 ?nr5
        case ne5 =>
          try simp [Act.put]
          try rfl
        refine wpAnyG_ready (rs := [5]) (by kernel_rfl) (by simp) ?_
        refine AllReadyG.cons (o := _) rfl (fun K hK => ?_) AllReadyG.nil
        go_simp
        refine (HBE.out _ (by (repeat (first | (with_reducible assumption) | (with_reducible exact Only.refl _ _) | (with_reducible refine Only.drew ?_) | (with_reducible refine Only.alloc ?_ _) | (with_reducible refine onlySet ?_ (by first | (with_reducible assumption) | omega) _) | (with_reducible refine Only.trans ?_ (by with_reducible assumption)))))).mono ?_
        rintro e9 w6 ⟨rfl, ho6⟩
        have x6 := HC5.out w6 (by (repeat (first | (with_reducible assumption) | (with_reducible exact Only.refl _ _) | (with_reducible refine Only.drew ?_) | (with_reducible refine Only.alloc ?_ _) | (with_reducible refine onlySet ?_ (by first | (with_reducible assumption) | omega) _) | (with_reducible refine Only.trans ?_ (by with_reducible assumption)))))
        have f6 := HFR.out w6 (by (repeat (first | (with_reducible assumption) | (with_reducible exact Only.refl _ _) | (with_reducible refine Only.drew ?_) | (with_reducible refine Only.alloc ?_ _) | (with_reducible refine onlySet ?_ (by first | (with_reducible assumption) | omega) _) | (with_reducible refine Only.trans ?_ (by with_reducible assumption)))))
        have l6 := HLR.out w6 (by (repeat (first | (with_reducible assumption) | (with_reducible exact Only.refl _ _) | (with_reducible refine Only.drew ?_) | (with_reducible refine Only.alloc ?_ _) | (with_reducible refine onlySet ?_ (by first | (with_reducible assumption) | omega) _) | (with_reducible refine Only.trans ?_ (by with_reducible assumption)))))
        go_wp2_with fail
        refine hK.out _ _ (Gn.start (by kernel_rfl) (by exact HC5.out _ (by (repeat (first | (with_reducible assumption) | (with_reducible exact Only.refl _ _) | (with_reducible refine Only.drew ?_) | (with_reducible refine Only.alloc ?_ _) | (with_reducible refine onlySet ?_ (by first | (with_reducible assumption) | omega) _) | (with_reducible refine Only.trans ?_ (by with_reducible assumption))))))) (fun hNew => ?_)
        clear hK K hHeld
        have hHeld := Gn.outS (by kernel_rfl) hNew
        clear hNew
        refine wpAnyG_act (a' := ?na6) ?ne6 ?nr6
        case ne6 =>
          try simp [Act.put]
          try rfl
        refine wpAnyG_takeWD (d := some 68) (i := 6) (oi := _) (v := ?v6) rfl (by kernel_rfl) (by kernel_rfl) (by kernel_rfl) (by kernel_rfl) (by kernel_rfl) (fun _ _ _ h => h) (Or.inl ⟨by rfl, ?hy6⟩) (Gn.start (by kernel_rfl) hHeld) ?rest6
        case hy6 =>
          intro w _
          go_simp
          try with_reducible rfl
        refine wpAnyG_act (a' := ?na7) ?ne7 ?nr7
        case ne7 =>
          try simp [Act.put]
          try rfl
        refine wpAnyG_takeWD (d := some 69) (i := 7) (oi := _) (v := ?v7) rfl (by kernel_rfl) (by kernel_rfl) (by kernel_rfl) (by kernel_rfl) (by kernel_rfl) (fun _ _ _ h => h) (Or.inl ⟨by rfl, ?hy7⟩) (Gn.start (by kernel_rfl) hHeld) ?rest7
        case hy7 =>
          intro w _
          go_simp
          try with_reducible rfl
        refine wpAnyG_act (a' := ?na8) ?ne8 ?nr8
        case ne8 =>
          try simp [Act.put]
          try rfl
        refine wpAnyG_ready (rs := [8]) (by kernel_rfl) (by simp) ?_
        refine AllReadyG.cons (o := _) rfl (fun K hK => ?_) AllReadyG.nil
        go_simp
        refine hK.out _ _ (Gn.tail (by kernel_rfl) (trivial)) (fun hNew => ?_)
        clear hK K hHeld hNew
        refine wpAnyG_act (a' := ?na9) ?ne9 ?nr9
        case ne9 =>
          try simp [Act.put]
          try rfl
        refine wpAnyG_done (by kernel_rfl) ?_ _
        have hoW6 : Only (fun _ => False) W w6 := by (repeat (first | (with_reducible assumption) | (with_reducible exact Only.refl _ _) | (with_reducible refine Only.drew ?_) | (with_reducible refine Only.alloc ?_ _) | (with_reducible refine onlySet ?_ (by first | (with_reducible assumption) | omega) _) | (with_reducible refine Only.trans ?_ (by with_reducible assumption))))
        have hb6 := hoW6.old HBW.out id
        obtain ⟨V, hV⟩ : ∃ V, V = w6.setCell ⟨R, 5, none⟩ (.int .i64 0) := ⟨_, rfl⟩
        have hbV : V.heap[R]? = some (.cells #[.int .i64 l.length, .int .i64 (k + 1 : Nat), .int .i64 0, .int .i64 l.length, .int .i64 0, .int .i64 0, .int .i64 0, .int .i64 0] 25 (0, 0)) := by rw [hV]; exact set_at hb6 5 _
        have hoV : Only (fun i => i = R) w4 V := by
          rw [hV]
          exact (HOW.out.trans (hoW6.weaken (fun _ _ => False.elim))).setCell (p := ⟨R, 5, none⟩) (.inr rfl) _
        have hc7 : ∀ w', Only (fun _ => False) V w' → w'.cell? ⟨R, 7, none⟩ = some (.int .i64 0) := fun w' h => h.cell (cell_at hbV 7) id
        have hfs : ∀ w', Only (fun _ => False) V w' → w'.frozen? ⟨R, 7, none⟩ = false := fun w' h => free_at (h.old hbV id) 7
        have hls : ∀ w', Only (fun _ => False) V w' → R < w'.heap.size := fun w' h => lt_of_block (h.old hbV id)
        have hre : ∀ V', Only (fun _ => False) V V' → Calls Tryz.prog 21 #[.pointer (some ⟨ag, 0, none⟩)] V' fun e w' => e = .returned (.int .i64 0) ∧ Only (fun _ => False) V' w' := fun V' h => (HAQ.out V (hoV)).ref V' h
        have HBV := Lib.hid hbV
        have HOV := Lib.hid hoV
        have HC7 := Lib.hid hc7
        have HFS := Lib.hid hfs
        have HLS := Lib.hid hls
        have HRE := Lib.hid hre
        clear hbV hoV hc7 hfs hls hre
        clear hb6 hoW6
        go_upto_region 18 with (fail)
        rw [show IntKind.i64.wrap 0 = 0 from rfl, ← hV]
        clear hV
        refine wp_region_G_drew (fun w' => w'.cell? ⟨R, 7, none⟩ = some (.int .i64 0)) (fun w' => True) 6 (by kernel_rfl) (by exact HC7.out _ (by (repeat (first | (with_reducible assumption) | (with_reducible exact Only.refl _ _) | (with_reducible refine Only.drew ?_) | (with_reducible refine Only.alloc ?_ _) | (with_reducible refine onlySet ?_ (by first | (with_reducible assumption) | omega) _) | (with_reducible refine Only.trans ?_ (by with_reducible assumption)))))) (fun hHeld => ?_)
        refine wpAnyG_takeWD (d := some 70) (i := 0) (oi := _) (v := ?vz1) rfl (by kernel_rfl) (by kernel_rfl) (by kernel_rfl) (by kernel_rfl) (by kernel_rfl) (fun _ _ _ h => h) (Or.inl ⟨by rfl, ?hyz1⟩) (Gn.start (by kernel_rfl) hHeld) ?restz1
        case hyz1 =>
          intro w _
          go_simp
          try with_reducible rfl
        refine wpAnyG_act (a' := ?naz1) ?nez1 ?nrz1
        case nez1 =>
          try simp [Act.put]
          try rfl
        refine wpAnyG_takeD (d := some 71) (i := 1) (oi := _) (v := ?vz2) rfl (by kernel_rfl) (by kernel_rfl) (by kernel_rfl) (by kernel_rfl) (by kernel_rfl) rfl (by rfl) (fun _ _ _ h => h) (Or.inl ⟨by rfl, ?hyz2⟩) hHeld ?restz2
        case hyz2 =>
          intro w hSw
          try dsimp only at hSw
          go_simp
          try with_reducible rfl
        refine wpAnyG_act (a' := ?naz2) ?nez2 ?nrz2
        case nez2 =>
          try simp [Act.put]
          try rfl
        refine wpAnyG_takeWD (d := some 72) (i := 2) (oi := _) (v := ?vz3) rfl (by kernel_rfl) (by kernel_rfl) (by kernel_rfl) (by kernel_rfl) (by kernel_rfl) (fun _ _ _ h => h) (Or.inl ⟨by rfl, ?hyz3⟩) (Gn.start (by kernel_rfl) hHeld) ?restz3
        case hyz3 =>
          intro w _
          go_simp
          try with_reducible rfl
        refine wpAnyG_act (a' := ?naz3) ?nez3 ?nrz3
        case nez3 =>
          try simp [Act.put]
          try rfl
        refine wpAnyG_ready (rs := [3]) (by kernel_rfl) (by simp) ?_
        refine AllReadyG.cons (o := _) rfl (fun K hK => ?_) AllReadyG.nil
        go_simp
        refine (HRE.out _ (by (repeat (first | (with_reducible assumption) | (with_reducible exact Only.refl _ _) | (with_reducible refine Only.drew ?_) | (with_reducible refine Only.alloc ?_ _) | (with_reducible refine onlySet ?_ (by first | (with_reducible assumption) | omega) _) | (with_reducible refine Only.trans ?_ (by with_reducible assumption)))))).mono ?_
        rintro e9 w7 ⟨rfl, ho7⟩
        have x7 := HC7.out w7 (by (repeat (first | (with_reducible assumption) | (with_reducible exact Only.refl _ _) | (with_reducible refine Only.drew ?_) | (with_reducible refine Only.alloc ?_ _) | (with_reducible refine onlySet ?_ (by first | (with_reducible assumption) | omega) _) | (with_reducible refine Only.trans ?_ (by with_reducible assumption)))))
        have f7 := HFS.out w7 (by (repeat (first | (with_reducible assumption) | (with_reducible exact Only.refl _ _) | (with_reducible refine Only.drew ?_) | (with_reducible refine Only.alloc ?_ _) | (with_reducible refine onlySet ?_ (by first | (with_reducible assumption) | omega) _) | (with_reducible refine Only.trans ?_ (by with_reducible assumption)))))
        have l7 := HLS.out w7 (by (repeat (first | (with_reducible assumption) | (with_reducible exact Only.refl _ _) | (with_reducible refine Only.drew ?_) | (with_reducible refine Only.alloc ?_ _) | (with_reducible refine onlySet ?_ (by first | (with_reducible assumption) | omega) _) | (with_reducible refine Only.trans ?_ (by with_reducible assumption)))))
        go_wp2_with fail
        refine hK.out _ _ (Gn.start (by kernel_rfl) (by exact HC7.out _ (by (repeat (first | (with_reducible assumption) | (with_reducible exact Only.refl _ _) | (with_reducible refine Only.drew ?_) | (with_reducible refine Only.alloc ?_ _) | (with_reducible refine onlySet ?_ (by first | (with_reducible assumption) | omega) _) | (with_reducible refine Only.trans ?_ (by with_reducible assumption))))))) (fun hNew => ?_)
        clear hK K hHeld
        have hHeld := Gn.outS (by kernel_rfl) hNew
        clear hNew
        refine wpAnyG_act (a' := ?naz4) ?nez4 ?nrz4
        case nez4 =>
          try simp [Act.put]
          try rfl
        refine wpAnyG_takeWD (d := some 74) (i := 4) (oi := _) (v := ?vz4) rfl (by kernel_rfl) (by kernel_rfl) (by kernel_rfl) (by kernel_rfl) (by kernel_rfl) (fun _ _ _ h => h) (Or.inl ⟨by rfl, ?hyz4⟩) (Gn.start (by kernel_rfl) hHeld) ?restz4
        case hyz4 =>
          intro w _
          go_simp
          try with_reducible rfl
        refine wpAnyG_act (a' := ?naz5) ?nez5 ?nrz5
        case nez5 =>
          try simp [Act.put]
          try rfl
        refine wpAnyG_takeWD (d := some 75) (i := 5) (oi := _) (v := ?vz5) rfl (by kernel_rfl) (by kernel_rfl) (by kernel_rfl) (by kernel_rfl) (by kernel_rfl) (fun _ _ _ h => h) (Or.inl ⟨by rfl, ?hyz5⟩) (Gn.start (by kernel_rfl) hHeld) ?restz5
        case hyz5 =>
          intro w _
          go_simp
          try with_reducible rfl
        refine wpAnyG_act (a' := ?naz6) ?nez6 ?nrz6
        case nez6 =>
          try simp [Act.put]
          try rfl
        refine wpAnyG_ready (rs := [6]) (by kernel_rfl) (by simp) ?_
        refine AllReadyG.cons (o := _) rfl (fun K hK => ?_) AllReadyG.nil
        go_simp
        refine hK.out _ _ (Gn.tail (by kernel_rfl) (trivial)) (fun hNew => ?_)
        clear hK K hHeld hNew
        refine wpAnyG_act (a' := ?naz7) ?nez7 ?nrz7
        case nez7 =>
          try simp [Act.put]
          try rfl
        refine wpAnyG_done (by kernel_rfl) ?_ _
        have hoV7 : Only (fun _ => False) V w7 := by (repeat (first | (with_reducible assumption) | (with_reducible exact Only.refl _ _) | (with_reducible refine Only.drew ?_) | (with_reducible refine Only.alloc ?_ _) | (with_reducible refine onlySet ?_ (by first | (with_reducible assumption) | omega) _) | (with_reducible refine Only.trans ?_ (by with_reducible assumption))))
        have hb7 := hoV7.old HBV.out id
        obtain ⟨Y, hY⟩ : ∃ Y, Y = w7.setCell ⟨R, 7, none⟩ (.int .i64 0) := ⟨_, rfl⟩
        have hbY : Y.heap[R]? = some (.cells #[.int .i64 l.length, .int .i64 (k + 1 : Nat), .int .i64 0, .int .i64 l.length, .int .i64 0, .int .i64 0, .int .i64 0, .int .i64 0] 25 (0, 0)) := by rw [hY]; exact set_at hb7 7 _
        have hoY : Only (fun i => i = R) w4 Y := by
          rw [hY]
          exact (HOV.out.trans (hoV7.weaken (fun _ _ => False.elim))).setCell (p := ⟨R, 7, none⟩) (.inr rfl) _
        have HBY := Lib.hid hbY
        have HOY := Lib.hid hoY
        clear hbY hoY
        clear hb7 hoV7
        go_upto_region 19 with (fail)
        rw [show IntKind.i64.wrap 0 = 0 from rfl, ← hY]
        clear hY
        go_wp2_with fail
        go_roundg (l.length - (k + 1))
        case measure => rw [Hg.out]; omega
        case rel => exact ⟨k + 1, by go_num, by omega, HBY.out, HOY.out, rfl⟩
    · have hke : k = l.length := by omega
      subst hke
      have hwy := (HQ4.out wo HO.out).ways wo (Only.refl _ _)
      have HWY := Lib.hid hwy
      clear hwy
      go_wp2_with fail
      refine HWY.out.mono ?_
      rintro e w8 ⟨rfl, ho8⟩
      have hb8 := ho8.old HBK.out id
      have ho48 := HO.out.trans (ho8.weaken (fun _ _ => False.elim))
      have HB8 := Lib.hid hb8
      have HO8 := Lib.hid ho48
      clear hb8 ho48
      clear ho8
      go_wp2_with fail
      go_loopg [80] 0 (fun g v80 wr => v80 = .int .i64 0 ∧ wr.heap[R]? = some (.cells #[.int .i64 l.length, .int .i64 l.length, .int .i64 0, .int .i64 l.length, .int .i64 0, .int .i64 0, .int .i64 0, .int .i64 0] 25 (0, 0)) ∧ Only (fun i => i = R) w4 wr)
      case atStart => exact ⟨rfl, HB8.out, HO8.out⟩
      case round =>
        obtain ⟨rfl, hb9, ho9⟩ := hrel
        have hbr := ho9.old HB04.out (by have := HWR.out; omega)
        have HB9 := Lib.hid hb9
        have HO9 := Lib.hid ho9
        have HBRR := Lib.hid hbr
        clear hb9 ho9 hbr
        go_wp2_with (first
          | ((with_reducible refine wpList_load_row (o := ⟨some 95, .load 25 (.tmp 5), _, _, _, none⟩) rfl _ _ rfl R ?_ 25 _ (0, 0) _ HB9.out Tryz.underlying25 ?_ (infoReportL _ _ _ _ _ _ _ _) ?_); (· rfl); (· rfl))
          | ((with_reducible refine wpList_store_row (o := ⟨none, .store 25 (.tmp 2) (.tmp 95), _, _, _, none⟩) rfl _ _ _ rfl (w.heap.size) ((reportC l.length l.length 0 l.length 0 0 0 0).toArray) ?_ ?_ 25 _ HBRR.out (infoReport _ _ _ _ _ _ _ _) ?_ (reportC_one _ _ _ _ _ _ _ _) ?_); (· rfl); (· rfl); (· rfl)))
        have hb10 := row_set HBRR.out (reportC l.length l.length 0 l.length 0 0 0 0).toArray
        refine bodyPost_ret (results_row rfl _ _ w.heap.size 25 _ (0, 0) _ rfl hb10 Tryz.underlying25 rfl (infoReport _ _ _ _ _ _ _ _)) rfl ?_
        exact ⟨rfl, (HO4.out.tr HO9.out (fun i hi e => by have := HWR.out; omega)).setRow (.inl (Nat.le_refl _)) _⟩
end Go.Proofs.YtegechmdboccbaaGreatDoor
/-! report: a new cluster is quiet; so is none. -/
namespace Go.Proofs.YtegechmdboccbaaGreatDoor
open Go.Conc Go.RowKit Go.Maps

theorem QC.qcr {w : World} {cv : Value} {l : List Int} {A : Int → Nat} (h : QC w cv l A) : ∀ R, w.heap.size ≤ R → ∀ W, Only (fun _ => False) w W → QCR W R cv l A :=
  fun R hR W hW V hV => h.new (hW.tr hV (fun i hi e => by omega))
theorem clive_nil (w : World) : Calls Tryz.prog 14 #[.pointer none] w fun e w' => e = .returned (.slice none 0 0) ∧ w = w' := by
  go_enter Tryz.func14, Tryz.ntmps14
  go_wp2_with fail
  go_ret
  exact ⟨rfl, rfl⟩
theorem cways_nil (w : World) : Calls Tryz.prog 22 #[.pointer none] w fun e w' => e = .returned (.slice none 0 0) ∧ w = w' := by
  go_enter Tryz.func22, Tryz.ntmps22
  go_wp2_with fail
  go_ret
  exact ⟨rfl, rfl⟩
theorem qc_nil (w : World) : QC w (.pointer none) [] (fun _ => 0) :=
  ⟨fun W _ => (clive_nil W).mono fun _ _ ⟨h1, h2⟩ => ⟨_, h1, h2 ▸ World.ownsRow_nil _ _ _ _, h2 ▸ Only.refl _ _⟩, fun W _ => (cways_nil W).mono fun _ _ ⟨h1, h2⟩ => ⟨h1, h2 ▸ Only.refl _ _⟩, fun _ h => by simp at h, fun _ h => by simp at h⟩
theorem aq_new {w : World} {B : AgBlk} {self : Int} {life : Nat} {c : ACfgT} (h : AgentAt w B (newA self life c)) : AQ w B.a := by
  refine ⟨fun W hW => ?_, fun W hW => ?_, fun W hW => ?_⟩
  · refine (arecs_any W B _ (h.new hW)).mono ?_
    rintro e w' ⟨v, rfl, ho, hr⟩
    obtain ⟨s, cap, rfl⟩ := rec_nil hr
    exact ⟨s, cap, rfl, ho⟩
  · refine (aview_any W B _ (h.new hW)).mono ?_
    rintro e w' ⟨va, vp, rfl, h1, h2, ho⟩
    exact ⟨_, _, _, va, vp, rfl, h1, h2, ho⟩
  · refine (aref_any W B _ (h.new hW)).mono ?_
    rintro e w' ⟨rfl, ho⟩
    exact ⟨rfl, ho⟩
/-- A new cluster is quiet. -/
theorem qc_new {w : World} {b0 x m nb lb pb n : Nat} {c : ACfgT} (h : ClusK w b0 x m nb lb pb n c n) (hn : n ≤ 1000) : ∃ A, QC w (.pointer (some ⟨x, 0, none⟩)) (lvUp n) A := by
  obtain ⟨N, h1, h2, h3, _⟩ := h.nodes
  have hag : ∀ k ∈ lvUp n, ∃ i, k = ((i + 1 : Nat) : Int) ∧ i < N.length := fun k hk => by
    have := mem_lvUp.1 hk
    exact ⟨(k - 1).toNat, by omega, by omega⟩
  refine ⟨fun k => (((N.getD (k - 1).toNat node0).ag).getD 0), ⟨fun W hW => ?_, fun W hW => ?_, fun k hk W hW => ?_, fun k hk => ?_⟩⟩
  · exact clive_any (h.new hW) hn
  · exact cways_any (h.new hW)
  · obtain ⟨i, rfl, hi⟩ := hag k hk
    obtain ⟨B, ib, q1, _⟩ := h3 i hi (by omega)
    have hc := cagent_any (h1.new hW) i hi (by omega)
    rw [q1] at hc
    have e1 : (((i + 1 : Nat) : Int) - 1).toNat = i := by omega
    rw [e1, List.getD_eq_getElem?_getD, List.getElem?_eq_getElem hi, Option.getD_some, q1]
    exact hc
  · obtain ⟨i, rfl, hi⟩ := hag k hk
    obtain ⟨B, ib, q1, q2, _⟩ := h3 i hi (by omega)
    have e1 : (((i + 1 : Nat) : Int) - 1).toNat = i := by omega
    rw [e1, List.getD_eq_getElem?_getD, List.getElem?_eq_getElem hi, Option.getD_some, q1]
    exact aq_new q2
end Go.Proofs.YtegechmdboccbaaGreatDoor
