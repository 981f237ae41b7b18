/- From what a row lists to what a walk needs of the library's variables. -/
import Derived.Test.YtbdfijgejkimnaaGreatDoorNP
import Derived.Test.YtbdfijgejkimnaaGreatDoorNH
import Derived.Test.YtbdfijgejkimnaaGreatDoorNC
import Derived.Test.YtbdfijgejkimnaaGreatDoorRows
import Derived.Stop.LaidErr
import Derived.Lib.LaidTab
import Derived.Stop.Joined
import Derived.MakeChecks
/-! Arrays that came in. -/
namespace Go.Proofs.YtbdfijgejkimnaaGreatDoor
open Go.Conc Go.RowKit Go.ChangeShapes Go.WideShapes Go.ChangeAt Go.WideMaps Go.WideElems

section
variable {H : Type} {enc : TypeId × Value → H} {P : Program} {w : World} {base : Nat} {spare : Nat → Bool} {held : Bool} {t e : TypeId} {v : Value} {d : DataW H} {ps : List MemPlace}

theorem arr_open {n : Nat} (ht : P.underlying t = some (.array n e)) (hc : P.cellsOf e = 1) (hct : P.cellsOf t = n) (hok : Value.okWide P w .any base t v) (h : DataW.Trod enc P w 0 spare held t v d ps) :
    ∃ cs : Array Value, v = .agg cs ∧ cs.size = n ∧ ∀ (i : Nat) (u : Value), cs[i]? = some u → ∃ (m : Nat) (x : DataW H × List MemPlace), DataW.trod enc P w 0 spare held m e [u] = some x := by
  simp only [Value.okWide, ht] at hok
  obtain ⟨cs, rfl, hsz, -⟩ := hok
  obtain ⟨fuel, hf⟩ := h
  obtain ⟨xs, m, _, _, hl, hlen, hel⟩ := DataW.trod_array ht hf
  refine ⟨cs, rfl, by rw [hsz, hct], fun i u hu => ?_⟩
  have hi : i < cs.size := (Array.getElem?_eq_some_iff.1 hu).1
  have hin : i < n := by rw [hsz, hct] at hi; exact hi
  have h1 := hel i hin
  rw [hc, Nat.mul_one] at h1
  have h2 : ((Value.agg cs).cells.toList.drop i).take 1 = [u] := by
    show (cs.toList.drop i).take 1 = [u]
    have hi2 : i < cs.toList.length := by simpa using hi
    rw [List.drop_eq_getElem_cons hi2]
    have := (Array.getElem?_eq_some_iff.1 hu).2
    simp [this]
  rw [h2, List.getElem?_eq_getElem (by omega)] at h1
  exact ⟨m, _, h1⟩
theorem arr_ints {n : Nat} {k : IntKind} (ht : P.underlying t = some (.array n e)) (he : P.underlying e = some (.int k)) (hc : P.cellsOf e = 1) (hct : P.cellsOf t = n) (hok : Value.okWide P w .any base t v) (h : DataW.Trod enc P w 0 spare held t v d ps) :
    ∃ zs : List Int, zs.length = n ∧ v = .agg (zs.map (.int k)).toArray ∧ ∀ z ∈ zs, (Lit.int k z).wf = true := by
  obtain ⟨cs, rfl, hsz, hel⟩ := arr_open ht hc hct hok h
  have each : ∀ i, i < n → ∃ z : Int, cs[i]? = some (.int k z) ∧ (Lit.int k z).wf = true := by
    intro i hi
    have hi2 : i < cs.size := by omega
    obtain ⟨m, x, hx⟩ := hel i cs[i] (by simp [hi2])
    obtain ⟨z, h3, _, h4⟩ := DataW.trod_int he hx
    simp at h3
    exact ⟨z, by rw [Array.getElem?_eq_getElem hi2, h3], h4⟩
  obtain ⟨f, hf2⟩ := Deep.choose_lt each
  refine ⟨(List.range n).map f, by simp, ?_, ?_⟩
  · congr 1
    apply Array.ext
    · simp [hsz]
    · intro i h1 h2
      have := (hf2 i (by omega)).1
      rw [Array.getElem?_eq_getElem h1] at this
      simp only [Option.some.injEq] at this
      simp [this]
  · intro z hz
    obtain ⟨i, hi, rfl⟩ := List.mem_map.1 hz
    exact (hf2 i (by simpa using hi)).2
theorem arr_strs {n : Nat} (ht : P.underlying t = some (.array n e)) (he : P.underlying e = some .string) (hc : P.cellsOf e = 1) (hct : P.cellsOf t = n) (hok : Value.okWide P w .any base t v) (h : DataW.Trod enc P w 0 spare held t v d ps) :
    ∃ zs : List ByteArray, zs.length = n ∧ v = .agg (zs.map .string).toArray ∧ ∀ z ∈ zs, z.size ≤ maxLen := by
  obtain ⟨cs, rfl, hsz, hel⟩ := arr_open ht hc hct hok h
  have each : ∀ i, i < n → ∃ z : ByteArray, cs[i]? = some (.string z) ∧ z.size ≤ maxLen := by
    intro i hi
    have hi2 : i < cs.size := by omega
    obtain ⟨m, x, hx⟩ := hel i cs[i] (by simp [hi2])
    obtain ⟨z, h3, _, h4⟩ := DataW.trod_string he hx
    simp at h3
    exact ⟨z, by rw [Array.getElem?_eq_getElem hi2, h3], h4⟩
  obtain ⟨f, hf2⟩ := Deep.choose_lt each
  refine ⟨(List.range n).map f, by simp, ?_, ?_⟩
  · congr 1
    apply Array.ext
    · simp [hsz]
    · intro i h1 h2
      have := (hf2 i (by omega)).1
      rw [Array.getElem?_eq_getElem h1] at this
      simp only [Option.some.injEq] at this
      simp [this]
  · intro z hz
    obtain ⟨i, hi, rfl⟩ := List.mem_map.1 hz
    exact (hf2 i (by simpa using hi)).2
end
theorem list2 {α : Type} {l : List α} (h : l.length = 2) : ∃ x y, l = [x, y] := by
  match l, h with
  | [x, y], _ => exact ⟨x, y, rfl⟩
theorem list3 {α : Type} {l : List α} (h : l.length = 3) : ∃ x y z, l = [x, y, z] := by
  match l, h with
  | [x, y, z], _ => exact ⟨x, y, z, rfl⟩
theorem list4 {α : Type} {l : List α} (h : l.length = 4) : ∃ x y z u, l = [x, y, z, u] := by
  match l, h with
  | [x, y, z, u], _ => exact ⟨x, y, z, u, rfl⟩
theorem nat_u32 {z : Int} (h : (Lit.int .u32 z).wf = true) : ∃ n : Nat, z = (n : Int) ∧ n < 2 ^ 32 := by
  simp [Lit.wf, IntKind.min, IntKind.max, IntKind.signed, IntKind.bits] at h
  exact ⟨z.toNat, by omega, by omega⟩
theorem nat_u64 {z : Int} (h : (Lit.int .u64 z).wf = true) : ∃ n : Nat, z = (n : Int) ∧ n < 2 ^ 64 := by
  simp [Lit.wf, IntKind.min, IntKind.max, IntKind.signed, IntKind.bits] at h
  exact ⟨z.toNat, by omega, by omega⟩
theorem nat_u16 {z : Int} (h : (Lit.int .u16 z).wf = true) : ∃ n : Nat, z = (n : Int) ∧ n < 65536 := by
  simp [Lit.wf, IntKind.min, IntKind.max, IntKind.signed, IntKind.bits] at h
  exact ⟨z.toNat, by omega, by omega⟩
theorem nat_u8 {z : Int} (h : (Lit.int .u8 z).wf = true) : ∃ n : Nat, z = (n : Int) ∧ n < 256 := by
  simp [Lit.wf, IntKind.min, IntKind.max, IntKind.signed, IntKind.bits] at h
  exact ⟨z.toNat, by omega, by omega⟩
end Go.Proofs.YtbdfijgejkimnaaGreatDoor
/-! A slice of structs that came in, read as rows of cells. -/
namespace Go.Proofs.YtbdfijgejkimnaaGreatDoor
open Go.Conc Go.RowKit Go.ChangeShapes Go.WideShapes Go.ChangeAt Go.WideMaps Go.WideElems

theorem rows_get {size : Nat} : ∀ (rows : List (List Value)), (∀ r ∈ rows, r.length = size) → ∀ (i j : Nat) (hi : i < rows.length), j < size → rows.flatten[i * size + j]? = rows[i][j]?
  | [], _, i, _, hi, _ => absurd hi (by simp)
  | r :: rows, h, i, j, hi, hj => by
    have hr : r.length = size := h r (by simp)
    rw [List.flatten_cons]
    cases i with
    | zero => rw [List.getElem?_append_left (by omega)]; simp
    | succ i =>
      rw [List.getElem?_append_right (by rw [hr, Nat.succ_mul]; omega), hr, show (i + 1) * size + j - size = i * size + j by rw [Nat.succ_mul]; omega]
      simpa using rows_get rows (fun r' h' => h r' (by simp [h'])) i j (by simpa using hi) hj
theorem rows_length {size : Nat} : ∀ (rows : List (List Value)), (∀ r ∈ rows, r.length = size) → rows.flatten.length = rows.length * size
  | [], _ => by simp
  | r :: rows, h => by
    rw [List.flatten_cons, List.length_append, rows_length rows (fun r' h' => h r' (by simp [h'])), h r (by simp), List.length_cons, Nat.succ_mul]; omega
section
variable {H : Type} {enc : TypeId × Value → H} {P : Program} {w : World} {base : Nat} {held : Bool} {t e : TypeId} {v : Value} {d : DataW H} {ps : List MemPlace}
/-- A slice of elements of some cells each that came in: what is read of each (Q). -/
theorem sl_structs {size : Nat} {Q : List Value → Prop} (ht : P.underlying t = some (.slice e)) (hc : P.cellsOf e = size) (hsz : 0 < size) (hok : Value.okWide P w .any base t v) (h : DataW.Trod enc P w 0 (fun _ => true) held t v d ps)
    (hdec : ∀ n cs x, DataW.trod enc P w 0 (fun _ => true) held n e cs = some x → Q cs) :
    ∃ rows : List (List Value), Sl w size v rows.length rows.flatten ∧ ∀ r ∈ rows, r.length = size ∧ Q r := by
  obtain ⟨a0, n0, c0, rfl⟩ := okWide_slice ht hok
  obtain ⟨fuel, hf⟩ := h
  rcases Deep.open_slice ht hf with ⟨hcs, -⟩ | ⟨a, len', cap', m, n, D, Pl, hcs, _, hl, hm, hmm, -, hel⟩
  · simp [Value.cells] at hcs
    obtain ⟨rfl, rfl, rfl⟩ := hcs
    exact ⟨[], Sl.nil _ _, by simp⟩
  · simp [Value.cells] at hcs
    obtain ⟨rfl, rfl, rfl⟩ := hcs
    simp only [if_true] at hmm
    have each : ∀ i, i < n0 → ∃ cs : List Value, cs.length = size ∧ Q cs ∧ ∀ j, j < size → w.cell? ((a.add (i * size)).add j) = cs[j]? := by
      intro i hi
      obtain ⟨cs, h1, h2⟩ := hel i (by omega)
      rw [hc] at h1
      obtain ⟨_, h3, h4⟩ := World.cells?_some h1
      exact ⟨cs, h3, hdec _ _ _ h2, h4⟩
    obtain ⟨f, hf2⟩ := Deep.choose_lt each
    refine ⟨(List.range n0).map f, ?_, fun r hr => ?_⟩
    · have hrl : ∀ r ∈ (List.range n0).map f, r.length = size := fun r hr => by
        obtain ⟨i, hi, rfl⟩ := List.mem_map.1 hr
        exact (hf2 i (by simpa using hi)).1
      have hfl := rows_length _ hrl
      rw [List.length_map, List.length_range] at hfl
      refine (sl_of_row hsz hfl hl hm ?_ : Sl w size _ n0 _).cast (by simp)
      intro j u hu
      have hj : j < n0 * size := by rw [← hfl]; exact (List.getElem?_eq_some_iff.1 hu).1
      have hq : j / size < n0 := Nat.div_lt_of_lt_mul (by rw [Nat.mul_comm]; exact hj)
      have hr : j % size < size := Nat.mod_lt _ hsz
      have hj2 : j = j / size * size + j % size := by rw [Nat.mul_comm]; exact (Nat.div_add_mod j size).symm
      have h3 := (hf2 _ hq).2.2 _ hr
      rw [Deep.add_add, ← hj2] at h3
      rw [h3, ← hu]
      have h4 := rows_get _ hrl (j / size) (j % size) (by simpa using hq) hr
      rw [← hj2] at h4
      rw [h4]
      simp
    · obtain ⟨i, hi, rfl⟩ := List.mem_map.1 hr
      have := hf2 i (by simpa using hi)
      exact ⟨this.1, this.2.1⟩
end
end Go.Proofs.YtbdfijgejkimnaaGreatDoor
/-! A slice of structs that came in (bellhop/bellhoplaw25.Rec), as a list. -/
namespace Go.Proofs.YtbdfijgejkimnaaGreatDoor
open Go.Conc Go.RowKit Go.ChangeShapes Go.WideShapes Go.ChangeAt Go.WideMaps Go.WideElems

/-- What is known of an element that came in. -/
def rowP_sl_recs25 (a : RecB) : Prop := a.org < 256 ∧ a.nm < 256 ∧ a.ad < 256 ∧ a.po < 65536 ∧ a.age < 256
theorem rows_sl_recs25 : ∀ rows : List (List Value), (∀ r ∈ rows, r.length = 6 ∧ ∃ a : RecB, r = recBC a ∧ rowP_sl_recs25 a) →
    ∃ l : List RecB, rows.length = l.length ∧ rows.flatten = l.flatMap recBC ∧ ∀ a ∈ l, rowP_sl_recs25 a
  | [], _ => ⟨[], rfl, rfl, by simp⟩
  | r :: rows, h => by
    obtain ⟨l, h1, h2, h3⟩ := rows_sl_recs25 rows (fun r' h' => h r' (by simp [h']))
    obtain ⟨_, a, rfl, h4⟩ := h r (by simp)
    refine ⟨a :: l, by simp [h1], by simp [h2], fun b hb => ?_⟩
    rcases List.mem_cons.1 hb with rfl | hb
    · exact h4
    · exact h3 b hb
set_option maxRecDepth 100000 in
theorem sl_recs25 {H : Type} {enc : TypeId × Value → H} {w : World} {base : Nat} {held : Bool} {v : Value} {d : DataW H} {ps : List MemPlace} (hok : Value.okWide Tryz.prog w .any base 22 v) (h : DataW.Trod enc Tryz.prog w 0 (fun _ => true) held 22 v d ps) :
    ∃ l : List RecB, Sl w 6 v l.length (l.flatMap recBC) ∧ ∀ a ∈ l, rowP_sl_recs25 a := by
  have hc : Tryz.prog.cellsOf 80 = 6 := by kernel_rfl
  have cbool : Tryz.prog.cellsOf 4 = 1 := by kernel_rfl
  have cu16 : Tryz.prog.cellsOf 35 = 1 := by kernel_rfl
  have cu8 : Tryz.prog.cellsOf 5 = 1 := by kernel_rfl
  obtain ⟨rows, h1, h2⟩ := sl_structs (Q := fun r => ∃ a : RecB, r = recBC a ∧ rowP_sl_recs25 a) Tryz.underlying22 hc (by decide) hok h (fun n cs x hx => by
    obtain ⟨xs, m, _, _, hl, hlen, hel⟩ := DataW.trod_struct Tryz.underlying80 hx
    rw [hc] at hl
    match cs, hl with
    | [k0, k1, k2, k3, k4, k5], _ =>
      match xs, hlen with
      | [y0, y1, y2, y3, y4, y5], _ =>
        have e0 : DataW.trod enc Tryz.prog w 0 (fun _ => true) held m 5 ((([k0, k1, k2, k3, k4, k5] : List Value).drop 0).take (Tryz.prog.cellsOf 5)) = some y0 := hel 0 _ rfl
        rw [cu8] at e0
        have f0 : DataW.trod enc Tryz.prog w 0 (fun _ => true) held m 5 [k0] = some y0 := e0
        have e1 : DataW.trod enc Tryz.prog w 0 (fun _ => true) held m 5 ((([k0, k1, k2, k3, k4, k5] : List Value).drop 1).take (Tryz.prog.cellsOf 5)) = some y1 := hel 1 _ rfl
        rw [cu8] at e1
        have f1 : DataW.trod enc Tryz.prog w 0 (fun _ => true) held m 5 [k1] = some y1 := e1
        have e2 : DataW.trod enc Tryz.prog w 0 (fun _ => true) held m 5 ((([k0, k1, k2, k3, k4, k5] : List Value).drop 2).take (Tryz.prog.cellsOf 5)) = some y2 := hel 2 _ rfl
        rw [cu8] at e2
        have f2 : DataW.trod enc Tryz.prog w 0 (fun _ => true) held m 5 [k2] = some y2 := e2
        have e3 : DataW.trod enc Tryz.prog w 0 (fun _ => true) held m 35 ((([k0, k1, k2, k3, k4, k5] : List Value).drop 3).take (Tryz.prog.cellsOf 35)) = some y3 := hel 3 _ rfl
        rw [cu16] at e3
        have f3 : DataW.trod enc Tryz.prog w 0 (fun _ => true) held m 35 [k3] = some y3 := e3
        have e4 : DataW.trod enc Tryz.prog w 0 (fun _ => true) held m 4 ((([k0, k1, k2, k3, k4, k5] : List Value).drop 4).take (Tryz.prog.cellsOf 4)) = some y4 := hel 4 _ rfl
        rw [cbool] at e4
        have f4 : DataW.trod enc Tryz.prog w 0 (fun _ => true) held m 4 [k4] = some y4 := e4
        have e5 : DataW.trod enc Tryz.prog w 0 (fun _ => true) held m 5 ((([k0, k1, k2, k3, k4, k5] : List Value).drop 5).take (Tryz.prog.cellsOf 5)) = some y5 := hel 5 _ rfl
        rw [cu8] at e5
        have f5 : DataW.trod enc Tryz.prog w 0 (fun _ => true) held m 5 [k5] = some y5 := e5
        obtain ⟨z0, g0, _, w0⟩ := DataW.trod_int Tryz.underlying5 f0
        obtain ⟨z1, g1, _, w1⟩ := DataW.trod_int Tryz.underlying5 f1
        obtain ⟨z2, g2, _, w2⟩ := DataW.trod_int Tryz.underlying5 f2
        obtain ⟨z3, g3, _, w3⟩ := DataW.trod_int Tryz.underlying35 f3
        obtain ⟨z4, g4, _⟩ := DataW.trod_bool Tryz.underlying4 f4
        obtain ⟨z5, g5, _, w5⟩ := DataW.trod_int Tryz.underlying5 f5
        cases g0
        cases g1
        cases g2
        cases g3
        cases g4
        cases g5
        obtain ⟨z0, rfl, q0⟩ := nat_u8 w0
        obtain ⟨z1, rfl, q1⟩ := nat_u8 w1
        obtain ⟨z2, rfl, q2⟩ := nat_u8 w2
        obtain ⟨z3, rfl, q3⟩ := nat_u16 w3
        obtain ⟨z5, rfl, q5⟩ := nat_u8 w5
        exact ⟨⟨z0, z1, z2, z3, z4, z5⟩, rfl, ⟨q0, q1, q2, q3, q5⟩⟩)
  obtain ⟨l, e1, e2, e3⟩ := rows_sl_recs25 rows h2
  rw [e1, e2] at h1
  exact ⟨l, h1, e3⟩
end Go.Proofs.YtbdfijgejkimnaaGreatDoor
/-! From what a row lists to what a walk needs of the library's variables. -/
namespace Go.Proofs.YtbdfijgejkimnaaGreatDoor
open Go.Conc Go.RowKit Go.Lib

theorem envG1 : Tryz.prog.globalNamed "strconv.ErrSyntax" = some 1 := by kernel_rfl
theorem envG2 : Tryz.prog.globalNamed "strconv.ErrRange" = some 2 := by kernel_rfl
theorem envG3 : Tryz.prog.globalNamed "internal/strconv.uint64pow10" = some 3 := by kernel_rfl
theorem envT1 : (Tryz.prog.globals[1]?).map (·.type) = some 137 := by kernel_rfl
theorem envT2 : (Tryz.prog.globals[2]?).map (·.type) = some 137 := by kernel_rfl
theorem envT3 : (Tryz.prog.globals[3]?).map (·.type) = some 227 := by kernel_rfl
theorem envCe : Tryz.prog.cellsOf 233 = 1 := by kernel_rfl
theorem envCs : Tryz.prog.cellsOf 9 = 1 := by kernel_rfl
theorem envCu : Tryz.prog.cellsOf 64 = 1 := by kernel_rfl
theorem envCt : Tryz.prog.cellsOf 227 = 20 := by kernel_rfl
theorem envStar : "*" ++ "errors.errorString" = "*errors.errorString" := by decide
theorem envRow (u : TypeId) (h : Tryz.prog.typeName? 3 u = some "*errors.errorString") : u = 231 :=
  typeName_ptr_named (nm := "errors.errorString") (by rw [envStar]; kernel_rfl) (by kernel_rfl) (by decide) u (by rw [envStar]; exact h)
theorem envW_of (w : World) (m : Int) (hm : w.cell? ⟨0, 0, none⟩ = some (.int .i64 m)) (h : laidMetH Tryz.prog Rows.answerRespondsRow.laid w) : EnvW w m := by
  rw [MakeChecks.laidMetH_plain _ _ _ (by kernel_rfl)] at h
  have h0 : laidMet Tryz.prog [("math/bits.deBruijn32tab", Rows.laid_math_bits_deBruijn32tab), ("math/bits.deBruijn64tab", Rows.laid_math_bits_deBruijn64tab), ("internal/strconv.uint64pow10", Rows.laid_internal_strconv_uint64pow10), ("unicode/utf8.acceptRanges", Rows.laid_unicode_utf8_acceptRanges), ("strconv.ErrRange", Rows.laid_strconv_ErrRange), ("strconv.ErrSyntax", Rows.laid_strconv_ErrSyntax), ("unicode/utf8.first", Rows.laid_unicode_utf8_first)] w := h
  have h3 := h0.tail.tail
  have h5 := h3.tail.tail
  have ht := tabIs_of_head (k := .u64) (zs := pow10Tab) envG3 envT3 Tryz.underlying227 Tryz.underlying64 envCu envCt h3
  obtain ⟨a2, _, h2, _, _, _⟩ := laid_sentinel h5 envG2 envT2 Tryz.underlying137 envRow Tryz.underlying231 Tryz.underlying233 rfl rfl Tryz.underlying9 envCe envCs
  obtain ⟨a1, _, h1, _, _, _⟩ := laid_sentinel h5.tail envG1 envT1 Tryz.underlying137 envRow Tryz.underlying231 Tryz.underlying233 rfl rfl Tryz.underlying9 envCe envCs
  exact ⟨hm, ht, ⟨_, _, h1⟩, ⟨_, _, h2⟩⟩
end Go.Proofs.YtbdfijgejkimnaaGreatDoor
