/- Arrays that came in. -/
import Derived.Test.YtefadkmdfhjaeaaRow
namespace Go.Proofs.Ytefadkmdfhjaeaa
open Go.Conc Go.RowKit Go.ChangeShapes Go.WideShapes Go.ChangeAt Go.WideMaps Go.WideElems

section
variable {H : Type} {enc : TypeId × Value → H} {P : Program} {w : World} {base : Nat} {spare : Nat → Bool} {held : Bool} {t e : TypeId} {v : Value} {d : DataW H} {ps : List MemPlace}

theorem arr_open {n : Nat} (ht : P.underlying t = some (.array n e)) (hc : P.cellsOf e = 1) (hct : P.cellsOf t = n) (hok : Value.okWide P w .any base t v) (h : DataW.Trod enc P w 0 spare held t v d ps) :
    ∃ cs : Array Value, v = .agg cs ∧ cs.size = n ∧ ∀ (i : Nat) (u : Value), cs[i]? = some u → ∃ (m : Nat) (x : DataW H × List MemPlace), DataW.trod enc P w 0 spare held m e [u] = some x := by
  simp only [Value.okWide, ht] at hok
  obtain ⟨cs, rfl, hsz, -⟩ := hok
  obtain ⟨fuel, hf⟩ := h
  obtain ⟨xs, m, _, _, hl, hlen, hel⟩ := DataW.trod_array ht hf
  refine ⟨cs, rfl, by rw [hsz, hct], fun i u hu => ?_⟩
  have hi : i < cs.size := (Array.getElem?_eq_some_iff.1 hu).1
  have hin : i < n := by rw [hsz, hct] at hi; exact hi
  have h1 := hel i hin
  rw [hc, Nat.mul_one] at h1
  have h2 : ((Value.agg cs).cells.toList.drop i).take 1 = [u] := by
    show (cs.toList.drop i).take 1 = [u]
    have hi2 : i < cs.toList.length := by simpa using hi
    rw [List.drop_eq_getElem_cons hi2]
    have := (Array.getElem?_eq_some_iff.1 hu).2
    simp [this]
  rw [h2, List.getElem?_eq_getElem (by omega)] at h1
  exact ⟨m, _, h1⟩
theorem arr_ints {n : Nat} {k : IntKind} (ht : P.underlying t = some (.array n e)) (he : P.underlying e = some (.int k)) (hc : P.cellsOf e = 1) (hct : P.cellsOf t = n) (hok : Value.okWide P w .any base t v) (h : DataW.Trod enc P w 0 spare held t v d ps) :
    ∃ zs : List Int, zs.length = n ∧ v = .agg (zs.map (.int k)).toArray ∧ ∀ z ∈ zs, (Lit.int k z).wf = true := by
  obtain ⟨cs, rfl, hsz, hel⟩ := arr_open ht hc hct hok h
  have each : ∀ i, i < n → ∃ z : Int, cs[i]? = some (.int k z) ∧ (Lit.int k z).wf = true := by
    intro i hi
    have hi2 : i < cs.size := by omega
    obtain ⟨m, x, hx⟩ := hel i cs[i] (by simp [hi2])
    obtain ⟨z, h3, _, h4⟩ := DataW.trod_int he hx
    simp at h3
    exact ⟨z, by rw [Array.getElem?_eq_getElem hi2, h3], h4⟩
  obtain ⟨f, hf2⟩ := Deep.choose_lt each
  refine ⟨(List.range n).map f, by simp, ?_, ?_⟩
  · congr 1
    apply Array.ext
    · simp [hsz]
    · intro i h1 h2
      have := (hf2 i (by omega)).1
      rw [Array.getElem?_eq_getElem h1] at this
      simp only [Option.some.injEq] at this
      simp [this]
  · intro z hz
    obtain ⟨i, hi, rfl⟩ := List.mem_map.1 hz
    exact (hf2 i (by simpa using hi)).2
theorem arr_strs {n : Nat} (ht : P.underlying t = some (.array n e)) (he : P.underlying e = some .string) (hc : P.cellsOf e = 1) (hct : P.cellsOf t = n) (hok : Value.okWide P w .any base t v) (h : DataW.Trod enc P w 0 spare held t v d ps) :
    ∃ zs : List ByteArray, zs.length = n ∧ v = .agg (zs.map .string).toArray ∧ ∀ z ∈ zs, z.size ≤ maxLen := by
  obtain ⟨cs, rfl, hsz, hel⟩ := arr_open ht hc hct hok h
  have each : ∀ i, i < n → ∃ z : ByteArray, cs[i]? = some (.string z) ∧ z.size ≤ maxLen := by
    intro i hi
    have hi2 : i < cs.size := by omega
    obtain ⟨m, x, hx⟩ := hel i cs[i] (by simp [hi2])
    obtain ⟨z, h3, _, h4⟩ := DataW.trod_string he hx
    simp at h3
    exact ⟨z, by rw [Array.getElem?_eq_getElem hi2, h3], h4⟩
  obtain ⟨f, hf2⟩ := Deep.choose_lt each
  refine ⟨(List.range n).map f, by simp, ?_, ?_⟩
  · congr 1
    apply Array.ext
    · simp [hsz]
    · intro i h1 h2
      have := (hf2 i (by omega)).1
      rw [Array.getElem?_eq_getElem h1] at this
      simp only [Option.some.injEq] at this
      simp [this]
  · intro z hz
    obtain ⟨i, hi, rfl⟩ := List.mem_map.1 hz
    exact (hf2 i (by simpa using hi)).2
end
theorem list2 {α : Type} {l : List α} (h : l.length = 2) : ∃ x y, l = [x, y] := by
  match l, h with
  | [x, y], _ => exact ⟨x, y, rfl⟩
theorem list3 {α : Type} {l : List α} (h : l.length = 3) : ∃ x y z, l = [x, y, z] := by
  match l, h with
  | [x, y, z], _ => exact ⟨x, y, z, rfl⟩
theorem list4 {α : Type} {l : List α} (h : l.length = 4) : ∃ x y z u, l = [x, y, z, u] := by
  match l, h with
  | [x, y, z, u], _ => exact ⟨x, y, z, u, rfl⟩
theorem nat_u32 {z : Int} (h : (Lit.int .u32 z).wf = true) : ∃ n : Nat, z = (n : Int) ∧ n < 2 ^ 32 := by
  simp [Lit.wf, IntKind.min, IntKind.max, IntKind.signed, IntKind.bits] at h
  exact ⟨z.toNat, by omega, by omega⟩
theorem nat_u64 {z : Int} (h : (Lit.int .u64 z).wf = true) : ∃ n : Nat, z = (n : Int) ∧ n < 2 ^ 64 := by
  simp [Lit.wf, IntKind.min, IntKind.max, IntKind.signed, IntKind.bits] at h
  exact ⟨z.toNat, by omega, by omega⟩
theorem nat_u16 {z : Int} (h : (Lit.int .u16 z).wf = true) : ∃ n : Nat, z = (n : Int) ∧ n < 65536 := by
  simp [Lit.wf, IntKind.min, IntKind.max, IntKind.signed, IntKind.bits] at h
  exact ⟨z.toNat, by omega, by omega⟩
theorem nat_u8 {z : Int} (h : (Lit.int .u8 z).wf = true) : ∃ n : Nat, z = (n : Int) ∧ n < 256 := by
  simp [Lit.wf, IntKind.min, IntKind.max, IntKind.signed, IntKind.bits] at h
  exact ⟨z.toNat, by omega, by omega⟩
end Go.Proofs.Ytefadkmdfhjaeaa
