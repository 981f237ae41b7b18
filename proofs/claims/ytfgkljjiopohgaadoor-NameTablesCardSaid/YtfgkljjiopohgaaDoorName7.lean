/- The reference's Read. -/
import Derived.Test.YtfgkljjiopohgaaDoorName6
import Derived.Deep.RegionLaw
namespace Go.Proofs.YtfgkljjiopohgaaDoor
open Go.Conc Go.RowKit

/-- append onto a slice of the call's own, as one step of a region that draws. -/
theorem step_append_src {P : Program} {ops : Array Oper} {o : Oper} {a : Act} {w : World} {K : Act → World → Prop} {Q : Exit → Act → World → Prop} {E : Prop} (hgd : o.guard = none) (s x : Operand) (t tx : TypeId)
    (ho : o.op = .call { callee := .builtin .append, args := #[s, x], argTypes := #[t, tx] })
    (base : Nat) (e : TypeId) (i : TypeInfo) (z : Value) (size bytes : Nat) (ht : P.underlying t = some (.slice e)) (hi : P.info? e = some i) (hz : i.zero = some z)
    (hsize : i.size = size) (hby : i.bytes = bytes) (hzs : z.cells.size = size)
    (v : Value) (n : Nat) (xs : List Value) (hv : a.eval s = v) (hown : w.ownsRow base e size v n xs) (xv : Value) (m : Nat) (news : List Value) (hx : a.eval x = xv) (hs : Src P size tx xv m news w)
    (h63 : n + m ≤ maxLen) (hbytes : (n + m) * bytes ≤ 140737488355328) (hbase : base ≤ w.heap.size)
    (h : ∀ v' w', w'.ownsRow base e size v' (n + m) (xs ++ news) → w.grownBy w' v.ownBlock → (∀ k, v.ownBlock = some k → base ≤ k) → K (a.put o.dst v') w') :
    if Region.wanted o (yielded ops a.tmps) = true then Oper.wp P o a w K Q else E := by
  have hw : Region.wanted o (yielded ops a.tmps) = true := by simp [Region.wanted, hgd]
  rw [if_pos hw]
  obtain ⟨v', w', hr, h2, h3, h4⟩ := run_append_src (P := P) w base t tx o.type e i z size bytes ht hi hz hsize hby hzs v n xs hown xv m news hs h63 hbytes hbase
  unfold Oper.wp execOp
  simp only [ho, resolve, invoke, builtin, Sem.run_bind, Sem.run_pure, Result.andThen_ok, List.map_toArray, List.map_cons, List.map_nil, hv, hx, hr]
  exact h v' w' h2 h3 (fun k e => (hown.lt k e).1)
theorem own_at {w : World} {g : Nat} {e : TypeId} (hg : w.heap[g]? = some (.cells #[] e)) (base size : Nat) (hb : base ≤ g) : w.ownsRow base e size (.slice (some ⟨g, 0, none⟩) 0 0) 0 [] :=
  ⟨by simp, .inr ⟨g, 0, #[], rfl, hb, hg, Nat.le_refl _, Nat.zero_le _, by simp, by simp⟩⟩
theorem news_at {w : World} {g : Nat} {e : TypeId} {cs : List Value} (hg : w.heap[g]? = some (.cells cs.toArray e)) : ∀ j u, cs[j]? = some u → w.cell? ((⟨g, 0, none⟩ : Addr).add j) = some u := by
  intro j u hu
  rw [Addr.add_lit, cell_at hg]
  simpa using hu

theorem rdP_err (m : ByteArray) (k bd : Nat) (l : List ByteArray) : (rdP m k bd l).err ≠ 0 → rdP m k bd l = .bad (rdP m k bd l).err := by
  fun_induction rdP m k bd l with
  | case1 => intro _; rfl
  | case2 => intro _; rfl
  | case3 => intro h; exact absurd rfl h
  | case4 => intro _; rfl
  | case5 => intro _; rfl
  | case6 _ _ _ _ _ _ _ _ _ ih =>
    intro h
    unfold Rd.fin at h ⊢
    split
    · rw [if_pos ‹_›] at h; exact absurd rfl h
    · rw [if_neg ‹_›] at h; exact ih h
  | case7 => intro _; rfl
  | case8 => intro _; rfl
  | case9 _ _ _ _ _ _ _ _ _ ih => exact ih
theorem heapA (w : World) (o : Obj) (B : Nat) (hB : B = w.heap.size) : (w.alloc o).drew.heap[B]? = some o := by subst hB; exact heap_alloc_new w o
theorem heapB (w : World) (o o' : Obj) (B : Nat) (hB : B = w.heap.size) : ((w.alloc o).alloc o').drew.heap[B]? = some o := by
  subst hB
  exact (Below.heap_alloc _ _ _ (by simp)).trans (heap_alloc_new w o)
theorem heapC (w : World) (o o' : Obj) (B : Nat) (hB : B = w.heap.size + 1) : ((w.alloc o).alloc o').drew.heap[B]? = some o' := by
  have h : B = (w.alloc o).heap.size := by simp [hB]
  subst h
  exact heap_alloc_new (w.alloc o) o'
theorem news_kept {w w1 : World} {g h : Nat} {e : TypeId} {cs : List Value} {r : Option Nat} (hw : w.grownBy w1 r) (hg : w.heap[h]? = some (.cells cs.toArray e)) (hr : r = some g) (hne : h ≠ g) : w1.heap[h]? = some (.cells cs.toArray e) := by
  rw [hw.block h (lt_of_block hg) (by rw [hr]; intro e; injection e with e; exact hne (by omega))]
  exact hg
set_option maxRecDepth 100000 in
set_option maxHeartbeats 8000000 in
theorem rread_any (m : ByteArray) (hm : m.size ≤ 100000) : ∀ (n : Nat) (w : World) (k bd : Nat) (l : List ByteArray) (v : Value), bd * (m.size + 2) + (m.size + 1 - k) < n → k ≤ m.size → bd ≤ m.size → Sl w 1 v l.length (l.map .string) → (∀ s ∈ l, s.size ≤ 63) → l.length ≤ 200 →
    Calls Tryd.prog 34 #[.string m, .int .i64 k, .int .i64 bd, v] w fun e w' => ReadPost w (rdP m k bd l) e w' := by
  intro n
  induction n with
  | zero => intro w k bd l v h; omega
  | succ n ih =>
  intro w k bd l v hn hk hbd hl hls hll
  obtain ⟨i0, hi0, hz0, hz1, hz2⟩ := info_parts infoStr
  have Hls := Lib.hid hls
  have Hn := Lib.hid hn
  clear hls hn
  go_enter Tryd.func34, Tryd.ntmps34
  go_wp2_with fail
  refine (rmay_any _ v l hl (fun s hs => by have := Hls.out s hs; unfold maxLen; omega)).mono ?_
  rintro e w2 ⟨rfl, rfl⟩
  generalize hma : mayGo 0 l = b at *
  have Hm := Lib.hid hma
  clear hma
  cases b with
  | false =>
    go_wp2_with fail
    go_ret3
    exact ReadPost.of_bad (rdP_name Hm.out) (Only.refl _ _)
  | true =>
  by_cases hlt : m.size ≤ k
  · have e0 : decide ((m.size : Int) ≤ (k : Int)) = true := by simp; omega
    go_wp2_with fail
    go_ret3
    exact ReadPost.of_bad (rdP_short Hm.out hlt) (Only.refl _ _)
  · have e0 : decide ((m.size : Int) ≤ (k : Int)) = false := by simp; omega
    have hn : ((m[k]'(by omega)).toNat : Int) = (bAt m k : Int) := congrArg _ (bAt_get m k (by omega))
    have hnl := bAt_lt m k
    by_cases c0 : bAt m k = 0
    · have HZ := Lib.hid (rdP_zero (bd := bd) Hm.out hlt c0)
      have e1 : (((bAt m k : Nat) : Int) == 0) = true := by simp; omega
      clear c0
      go_wp2_with fail
      go_ret3
      rw [HZ.out]
      exact ⟨_, rfl, Only.refl _ _, hl⟩
    · have e1 : (((bAt m k : Nat) : Int) == 0) = false := by simp; omega
      by_cases c1 : 192 ≤ bAt m k
      · have e2 : decide (192 ≤ ((bAt m k : Nat) : Int)) = true := by simp; omega
        by_cases c2 : m.size ≤ k + 1
        · have e3 : decide ((m.size : Int) ≤ (k : Int) + 1) = true := by simp; omega
          go_wp2_with fail
          go_ret3
          exact ReadPost.of_bad (rdP_short2 Hm.out hlt c1 c2) (Only.refl _ _)
        · have e3 : decide ((m.size : Int) ≤ (k : Int) + 1) = false := by simp; omega
          have hn2 : ((m[k + 1]'(by omega)).toNat : Int) = (bAt m (k + 1) : Int) := congrArg _ (bAt_get m (k + 1) (by omega))
          have hnl2 := bAt_lt m (k + 1)
          have hto : ∀ y : Int, y = ((bAt m (k + 1) : Nat) : Int) → 256 * ((bAt m k : Nat) : Int) + y - 49152 = ((256 * (bAt m k - 192) + bAt m (k + 1) : Nat) : Int) := by
            rintro y rfl
            omega
          have HL := Lib.hid (rdP_loop (bd := bd) Hm.out hlt c1 c2)
          have HP := Lib.hid (rdP_ptr (bd := bd) Hm.out hlt c1 c2)
          have hq : 256 * (bAt m k - 192) + bAt m (k + 1) < 65536 := by omega
          generalize 256 * (bAt m k - 192) + bAt m (k + 1) = q at *
          by_cases c3 : bd ≤ q
          · have e5 : decide ((bd : Int) ≤ (q : Int)) = true := by simp; omega
            go_wp2_with fail
            go_ret3
            exact ReadPost.of_bad (HL.out c3) (Only.refl _ _)
          · have e5 : decide ((bd : Int) ≤ (q : Int)) = false := by simp; omega
            go_wp2_with fail
            refine (ih w q q l v (Nat.lt_of_lt_of_le (measure_ptr (by omega) hk) (Nat.le_of_lt_succ Hn.out)) (by omega) (by omega) hl Hls.out hll).mono ?_
            rintro e w2 ⟨v2, rfl, ho, hs⟩
            have HR := Lib.hid (HP.out c3)
            have HE := Lib.hid (rdP_err m q q l)
            generalize rdP m q q l = r at *
            by_cases hz : r.err = 0
            · have e6 : (((r.err : Nat) : Int) != 0) = false := by simp; omega
              have HZ := Lib.hid hz
              clear hz
              go_wp2_with fail
              go_ret3
              rw [HR.out, Rd.fin, if_pos ⟨HZ.out, by omega⟩]
              exact ⟨v2, rfl, ho, hs⟩
            · have e6 : (((r.err : Nat) : Int) != 0) = true := by simp; omega
              have HZ := Lib.hid hz
              clear hz
              go_wp2_with fail
              go_ret3
              rw [HR.out, Rd.fin, if_neg (fun x => HZ.out x.1)]
              exact ReadPost.of_bad (HE.out HZ.out) ho
      · have e2 : decide (192 ≤ ((bAt m k : Nat) : Int)) = false := by simp; omega
        by_cases c2 : 63 < bAt m k
        · have e3 : decide (63 < ((bAt m k : Nat) : Int)) = true := by simp; omega
          go_wp2_with fail
          go_ret3
          exact ReadPost.of_bad (rdP_form Hm.out hlt c1 c2) (Only.refl _ _)
        · have e3 : decide (63 < ((bAt m k : Nat) : Int)) = false := by simp; omega
          by_cases c3 : m.size < k + 1 + bAt m k
          · have e4 : decide ((m.size : Int) < (k : Int) + 1 + ((bAt m k : Nat) : Int)) = true := by simp; omega
            go_wp2_with fail
            go_ret3
            exact ReadPost.of_bad (rdP_short3 Hm.out hlt c0 c2 c3) (Only.refl _ _)
          · have e4 : decide ((m.size : Int) < (k : Int) + 1 + ((bAt m k : Nat) : Int)) = false := by simp; omega
            go_wp2_with fail
            have hsm : (m.extract (k + 1) (k + 1 + bAt m k)).size ≤ 63 := by rw [ByteArray.size_extract]; omega
            have HS := Lib.hid (rdP_step (bd := bd) Hm.out hlt c0 c2 c3)
            generalize hs : m.extract (k + 1) (k + 1 + bAt m k) = s at hsm HS
            have hk1 : IntKind.i64.wrap ((k : Int) + 1) = (k : Int) + 1 := by rw [IntKind.wrap_i64]; omega
            have hk2 : IntKind.i64.wrap ((k : Int) + 1 + (bAt m k : Nat)) = (k : Int) + 1 + (bAt m k : Nat) := by rw [IntKind.wrap_i64]; omega
            have hk3 : (0 : Int) ≤ (k : Int) + 1 + (bAt m k : Nat) := by omega
            have hk4 : (k : Int) + 1 + (bAt m k : Nat) ≤ (m.size : Int) := by omega
            have hk5 : (0 : Int) ≤ (k : Int) + 1 := by omega
            have hk6 : (k : Int) + 1 ≤ (k : Int) + 1 + (bAt m k : Nat) := by omega
            have hk7 : ((k : Int) + 1).toNat = k + 1 := by omega
            have hk8 : ((k : Int) + 1 + (bAt m k : Nat)).toNat = k + 1 + bAt m k := by omega
            have ih2 := fun w' v' hsl => ih w' (k + 1 + bAt m k) bd (l ++ [s]) v' (by have := Hn.out; omega) (by omega) hbd hsl (by
              intro x hx
              rcases List.mem_append.1 hx with hx | hx
              · exact Hls.out x hx
              · rw [List.mem_singleton] at hx; rw [hx]; exact hsm) (by simp; have := (mayGo_all l 0 Hm.out).2; omega)
            rw [show ((k + 1 + bAt m k : Nat) : Int) = (k : Int) + 1 + (bAt m k : Nat) by omega] at ih2
            have HI := Lib.hid ih2
            clear ih ih2
            go_region_law (first
              | (refine step_append_src rfl (.tmp 81) (.tmp 82) 23 23 rfl w.heap.size 9 i0 _ 1 16 Tryd.underlying23 hi0 hz0 hz1 hz2 rfl (.slice (some ⟨_, 0, none⟩) 0 0) 0 [] rfl (own_at (by first | exact heapA _ _ _ rfl | exact heapB _ _ _ _ rfl | exact heapC _ _ _ _ rfl) _ _ (by omega)) _ l.length (l.map .string) rfl ((hl.new (by first | exact ((Only.refl _ _).alloc _).drew | exact (((Only.refl _ _).alloc _).alloc _).drew)).src Tryd.underlying23 (str_one l)) (by unfold maxLen; omega) (by omega) (by first | (simp; done) | (simp; omega)) ?_
                 intro v1 w1 own1 gr1 hv1
                 simp only [Nat.zero_add, List.nil_append] at own1
                 have ho1 : Only (fun _ => False) w w1 := by
                   first
                   | exact (((Only.refl _ _).alloc _).drew).grown gr1 (fun k e => .inl (hv1 k e))
                   | exact ((((Only.refl _ _).alloc _).alloc _).drew).grown gr1 (fun k e => .inl (hv1 k e)))
              | (go_simp
                 refine (HI.out _ _ (Sl.of_owns own3)).mono ?_
                 rintro e w3 ⟨v3, rfl, ho3, hs3⟩)
              | (refine step_append_src rfl (.tmp 83) (.tmp 92) 23 23 rfl w.heap.size 9 i0 _ 1 16 Tryd.underlying23 hi0 hz0 hz1 hz2 rfl v1 l.length (l.map .string) rfl (by first | exact own1 | exact own1.alloc _) _ 1 [.string s] rfl (Src.ofSlice _ Tryd.underlying23 _ _ _ _ rfl (news_at (by first | exact heap_alloc_new _ _ | exact news_kept gr1 (heapB _ _ _ _ rfl) rfl (by first | omega | (simp; done) | (intro e; simp at e; done) | (intro e; simp at e; omega)) | exact news_kept gr1 (heapC _ _ _ _ rfl) rfl (by first | omega | (simp; done) | (intro e; simp at e; done) | (intro e; simp at e; omega)))) (str_one [s])) (by unfold maxLen; omega) (by omega) (by have := gr1.size; simp at this ⊢; omega) ?_
                 intro v2 w2 own2 gr2 hv2
                 have ho2 : Only (fun _ => False) w w2 := by
                   first
                   | exact ho1.grown gr2 (fun k e => .inl (hv2 k e))
                   | exact (ho1.alloc _).grown gr2 (fun k e => .inl (hv2 k e))
                 have own3 : w2.ownsRow w.heap.size 9 1 v2 (l ++ [s]).length ((l ++ [s]).map .string) := by simpa using own2))
            all_goals (
              go_wp2_with fail
              simp [Act.put]
              go_ret3
              rw [HS.out]
              exact ⟨v3, rfl, ho2.trans ho3, hs3⟩)

set_option maxRecDepth 100000 in
theorem rread_range (w : World) (m : ByteArray) (i : Int) (h : i < 0 ∨ (m.size : Int) < i) :
    Calls Tryd.prog 16 #[.string m, .int .i64 i] w fun e w' => e = .returned (.tuple #[.slice none 0 0, .int .i64 0, .int .i64 11]) ∧ w = w' := by
  by_cases h0 : i < 0
  · have e0 : decide (i < 0) = true := by simp; omega
    clear h
    go_enter Tryd.func16, Tryd.ntmps16
    go_wp2_with fail
    go_ret3
    exact ⟨rfl, rfl⟩
  · have e0 : decide (i < 0) = false := by simp; omega
    have e1 : decide ((m.size : Int) < i) = true := by simp; omega
    clear h
    go_enter Tryd.func16, Tryd.ntmps16
    go_wp2_with fail
    go_ret3
    exact ⟨rfl, rfl⟩
set_option maxRecDepth 100000 in
theorem rread_top (w : World) (m : ByteArray) (i : Nat) (hm : m.size ≤ 100000) (hi : i ≤ m.size) :
    Calls Tryd.prog 16 #[.string m, .int .i64 i] w fun e w' => ReadPost w (rdP m i i []) e w' := by
  have hgt : decide ((m.size : Int) < (i : Int)) = false := by simp; omega
  have hgt0 : decide ((i : Int) < 0) = false := by simp
  have hgtN : decide (m.size < i) = false := by simp; omega
  go_enter Tryd.func16, Tryd.ntmps16
  go_wp2_with fail
  refine (rread_any m hm _ w i i [] _ (Nat.lt_succ_self _) hi hi (Sl.nil _ _) (by simp) (by simp)).mono ?_
  rintro e w2 ⟨v, rfl, ho, hs⟩
  go_wp2_with fail
  go_ret3
  exact ⟨v, rfl, ho, hs⟩
end Go.Proofs.YtfgkljjiopohgaaDoor
