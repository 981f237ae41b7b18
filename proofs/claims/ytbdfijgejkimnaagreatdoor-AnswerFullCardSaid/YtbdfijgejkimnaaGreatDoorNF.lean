/- Answer: the addresses of records. -/
import Derived.Test.YtbdfijgejkimnaaGreatDoorNC
import Derived.WideKeyEntry
import Derived.Test.YtbdfijgejkimnaaGreatDoorNB
import Derived.Test.YtbdfijgejkimnaaGreatDoorNA
import Derived.Deep.RegionLaw
import Derived.Test.YtbdfijgejkimnaaGreatDoorND
import Derived.Lib.LazyBuf
import Derived.Test.YtbdfijgejkimnaaGreatDoorNE
import Derived.DeepKeys4
import Derived.Deep.CutBlock
/-! A map: its entry taken and stored (m[k]++). -/
namespace Go.Proofs.YtbdfijgejkimnaaGreatDoor
open Go.Conc Go.RowKit Go.Maps Go.MapKept Go.ChangeMaps Go.WideElems

section
variable {α β : Type} {P : Program} {k : TypeId} {κ : α → Value} {ε : β → Value} {w : World} {b : Nat} {L : List (α × β)}
theorem setBlock_at {w : World} {b : Nat} {o o' : Obj} (h : w.heap[b]? = some o) : (setBlock w b o').heap[b]? = some o' := by
  have := lt_of_block h
  simp [setBlock, this]
theorem setBlock_only {w : World} {b : Nat} {o : Obj} : Only (fun i => i = b) w (setBlock w b o) :=
  ⟨rfl, rfl, rfl, by simp [setBlock], fun i hi hne => by
    have : b ≠ i := fun e => hne e.symm
    simp [setBlock, Array.getElem?_setIfInBounds_ne this]⟩
theorem MapIs.bump [DecidableEq α] {t e : TypeId} (h : MapIs P k κ ε w b L) (K : Keyed P k) (hκ : ∀ a b, κ a = κ b → a = b) (ht : P.underlying t = some (.map k e)) {z : β} (hz : ∀ u : World, (zeroValue e).run P u = .ok (ε z) u) (hn : L.length < maxLen) {x : α} (hx : KeyOk P k κ x) :
    ∃ (es1 : Array MapEntry) (c1 : Nat) (st : Nat) (v0 : Value),
      (∀ u : World, u.heap[b]? = w.heap[b]? → (Instr.mapEntry t (.map (some b)) (κ x)).run P u = .ok (.tuple #[v0, goInt st]) (setBlock u b (.map es1 c1))) ∧
      (∀ u : World, u.heap[b]? = some (.map es1 c1) → MapIs P k κ ε u b (if (lookL L x).isSome then L else putL L x z)) ∧
      ∀ (u : World) (v : β), u.heap[b]? = some (.map es1 c1) → ∃ w3, (Instr.entryStore t (.map (some b)) (goInt st) (ε v)).run P u = .ok () w3 ∧ MapIs P k κ ε w3 b (putL L x v) ∧ Only (fun i => i = b) u w3 := by
  obtain ⟨kl, hkl⟩ := hx
  obtain ⟨es, clock, hb, F, hs, hD⟩ := id h.own
  obtain ⟨s1, s2, _⟩ := F.stamped
  have hkeys := F.keys
  have hup : ∀ v : β, ∃ w', (Instr.mapUpdate t (.map (some b)) (κ x) (ε v)).run P w = .ok () w' ∧ MapIs P k κ ε w' b (putL L x v) := fun v => by
    obtain ⟨w', h1, h2, _⟩ := h.store K hκ ht hn ⟨kl, hkl⟩ v
    exact ⟨w', h1, h2⟩
  have hlk := h.look K hκ ht (hz w) (x := x) ⟨kl, hkl⟩ true
  rcases K.find w hkl es.toList hkeys with ⟨f1, f2⟩ | ⟨j, e0, f1, f2, f3⟩
  · -- absent
    have hnone : lookL L x = none := by
      simp [Instr.lookup, run_underlying ht, MapKept.run_getObj_map hb, K.check w _ hkl, f1, hz, Result.andThen] at hlk
      exact hlk.2
    have hfind : ∀ u : World, (Instr.findKey k (κ x) es.toList).run P u = .ok none u := fun u => by
      rcases K.find u hkl es.toList hkeys with ⟨g1, _⟩ | ⟨j, e0, _, g2, g3⟩
      · exact g1
      · exact absurd g3 (f2 e0 (List.mem_of_getElem? g2))
    have hus : ∀ v : Value, (Instr.mapUpdate t (.map (some b)) (κ x) v).run P w = .ok () (setBlock w b (.map (es.push ⟨κ x, v, clock⟩) (clock + 1))) := fun v => by
      simp [Instr.mapUpdate, run_underlying ht, MapKept.run_getObj_map hb, K.check w false hkl, hfind, MapKept.run_setObj_map _ hb, Result.andThen, setBlock]
    refine ⟨es.push ⟨κ x, ε z, clock⟩, clock + 1, clock, ε z, fun u hu => ?_, fun u hu => ?_, fun u v hu => ?_⟩
    · have hbu := hu.trans hb
      simp [Instr.mapEntry, run_underlying ht, MapKept.run_getObj_map hbu, K.check u false hkl, hfind, hz, MapKept.run_setObj_map _ hbu, Result.andThen, setBlock]
    · obtain ⟨w', h1, h2⟩ := hup z
      rw [hus] at h1
      cases h1
      rw [hnone]
      exact h2.at (hu.trans (setBlock_at hb).symm)
    · have hidx : (es.push ⟨κ x, ε z, clock⟩).findIdx? (fun e => ((e.born : Nat) : Int) == ((clock : Nat) : Int)) = some es.size := by
        rw [findIdx_arr]
        exact findIdx_born (l := (es.push ⟨κ x, ε z, clock⟩).toList) (j := es.size) (e0 := ⟨κ x, ε z, clock⟩) (by
          rw [Array.toList_push, List.map_append, List.nodup_append]
          refine ⟨s2, by simp, fun a ha c hc e1 => ?_⟩
          obtain ⟨y, hy, rfl⟩ := List.mem_map.1 ha
          have := s1 y hy
          simp at hc
          omega) (by simp)
      have hmod : (es.push ⟨κ x, ε z, clock⟩).modify es.size (fun e => { e with val := ε v }) = es.push ⟨κ x, ε v, clock⟩ := by
        apply Array.ext'
        rw [Array.toList_modify, Array.toList_push, Array.toList_push, ← Array.length_toList, modify_last]
      refine ⟨setBlock u b (.map (es.push ⟨κ x, ε v, clock⟩) (clock + 1)), ?_, ?_, setBlock_only⟩
      · simp [Instr.entryStore, MapKept.run_getObj_map hu, asInt, asIntOf, goInt, hidx, hmod, MapKept.run_setObj_map _ hu, Result.andThen, setBlock]
      · obtain ⟨w', h1, h2⟩ := hup v
        rw [hus] at h1
        cases h1
        exact h2.at ((setBlock_at hu).trans (setBlock_at hb).symm)
  · have hsome : (lookL L x).isSome = true := by
      simp [Instr.lookup, run_underlying ht, MapKept.run_getObj_map hb, K.check w _ hkl, f1, Result.andThen] at hlk
      exact hlk.2
    have hap : ∀ (j' : Nat) (e' : MapEntry), es.toList[j']? = some e' → e'.key = κ x → j' = j := by
      intro j' e' hj' he'
      have hpw := ((stamped_iff es clock).1 F.stamped).2.2
      rw [List.pairwise_iff_getElem] at hpw
      obtain ⟨hl', rfl⟩ := List.getElem?_eq_some_iff.1 hj'
      obtain ⟨hl, rfl⟩ := List.getElem?_eq_some_iff.1 f2
      rcases Nat.lt_trichotomy j' j with hlt | rfl | hlt
      · exact absurd (he'.trans f3.symm) (hpw j' j hl' hl hlt)
      · rfl
      · exact absurd (f3.trans he'.symm) (hpw j j' hl hl' hlt)
    have hfind : ∀ u : World, (Instr.findKey k (κ x) es.toList).run P u = .ok (some (j, e0.val)) u := fun u => by
      rcases K.find u hkl es.toList hkeys with ⟨_, g2⟩ | ⟨j', e', g1, g2, g3⟩
      · exact absurd f3 (g2 e0 (List.mem_of_getElem? f2))
      · obtain rfl := hap j' e' g2 g3
        rw [f2] at g2
        cases g2
        exact g1
    have hj : es[j]? = some e0 := by simpa using f2
    have hsame : es.modify j (fun e => { e with key := κ x }) = es := by
      apply Array.ext'
      rw [Array.toList_modify, modify_eq_set _ _ _ _ f2]
      have : ({ e0 with key := κ x } : MapEntry) = e0 := by rw [← f3]
      rw [this]
      exact set_self _ _ _ f2
    refine ⟨es, clock, e0.born, e0.val, fun u hu => ?_, fun u hu => ?_, fun u v hu => ?_⟩
    · have hbu := hu.trans hb
      simp [Instr.mapEntry, run_underlying ht, MapKept.run_getObj_map hbu, K.check u false hkl, hfind, hj, f3, K.stays u hkl, hsame, MapKept.run_setObj_map _ hbu, Result.andThen, setBlock]
    · rw [if_pos hsome]
      exact h.at (hu.trans hb.symm)
    · have hidx : es.findIdx? (fun e => ((e.born : Nat) : Int) == ((e0.born : Nat) : Int)) = some j := by
        rw [findIdx_arr]
        exact findIdx_born s2 f2
      have hmod : es.modify j (fun e => { e with val := ε v }) = es.modify j (fun e' => { e' with key := κ x, val := ε v }) := by
        apply Array.ext'
        rw [Array.toList_modify, Array.toList_modify, modify_eq_set _ _ _ _ f2, modify_eq_set _ _ _ _ f2, ← f3]
      refine ⟨setBlock u b (.map (es.modify j (fun e' => { e' with key := κ x, val := ε v })) clock), ?_, ?_, setBlock_only⟩
      · simp [Instr.entryStore, MapKept.run_getObj_map hu, asInt, asIntOf, goInt, hidx, hmod, MapKept.run_setObj_map _ hu, Result.andThen, setBlock]
      · obtain ⟨w', h1, h2⟩ := hup v
        have hus : (Instr.mapUpdate t (.map (some b)) (κ x) (ε v)).run P w = .ok () (setBlock w b (.map (es.modify j (fun e' => { e' with key := κ x, val := ε v })) clock)) := by
          simp [Instr.mapUpdate, run_underlying ht, MapKept.run_getObj_map hb, K.check w false hkl, hfind, hj, f3, K.stays w hkl, MapKept.run_setObj_map _ hb, Result.andThen, setBlock]
        rw [hus] at h1
        cases h1
        exact h2.at ((setBlock_at hu).trans (setBlock_at hb).symm)
end
end Go.Proofs.YtbdfijgejkimnaaGreatDoor
/-! Appends and blocks in regions that draw. -/
namespace Go.Proofs.YtbdfijgejkimnaaGreatDoor
open Go.Conc Go.RowKit

end Go.Proofs.YtbdfijgejkimnaaGreatDoor
/-! Appends in regions: what is kept beside the row that is appended to. -/
namespace Go.Proofs.YtbdfijgejkimnaaGreatDoor
open Go.Conc Go.RowKit

theorem ownsDr {w : World} {base : Nat} {e : TypeId} {size n : Nat} {v : Value} {xs : List Value} (h : w.ownsRow base e size v n xs) : w.drew.ownsRow base e size v n xs := owns_only h ((Only.refl (fun _ => False) w).drew) (fun _ _ => id)
theorem ownsAl {w : World} {base : Nat} {e : TypeId} {size n : Nat} {v : Value} {xs : List Value} (h : w.ownsRow base e size v n xs) (o : Obj) : (w.alloc o).ownsRow base e size v n xs := owns_only h ((Only.refl (fun _ => False) w).alloc o) (fun _ _ => id)
/-- A block of another kind than the row's. -/
theorem blkGr {w w' : World} {b : Nat} {cs : Array Value} {e e' : TypeId} {f : Nat × Nat} {base size n : Nat} {v : Value} {xs : List Value} (hb : w.heap[b]? = some (.cells cs e f)) (hv : w.ownsRow base e' size v n xs) (hne : e' ≠ e) (hg : w.grownBy w' v.ownBlock) : w'.heap[b]? = some (.cells cs e f) := by
  rw [hg.block b (lt_of_block hb) (fun h => by
    rcases hv.2 with ⟨rfl, _⟩ | ⟨g, cap, cur, rfl, _, hgb, _⟩
    · cases h
    · simp only [Value.ownBlock, Option.some.injEq] at h
      subst h
      rw [hb] at hgb
      simp only [Option.some.injEq, Obj.cells.injEq] at hgb
      exact hne hgb.2.1.symm)]
  exact hb
/-- A block with another number than the row's. -/
theorem blkGrN {w w' : World} {b g n cap : Nat} {o : Obj} (hb : w.heap[b]? = some o) (hne : g ≠ b) (hg : w.grownBy w' (Value.slice (some ⟨g, 0, none⟩) n cap).ownBlock) : w'.heap[b]? = some o := by
  rw [hg.block b (lt_of_block hb) (fun h => hne (by simpa [Value.ownBlock, eq_comm] using h))]
  exact hb
/-- A row of another kind than the one that is appended to. -/
theorem ownsGr {w w' : World} {b' base size n base' size' n' : Nat} {e e' : TypeId} {v v' : Value} {xs xs' : List Value} (h : w.ownsRow base e size v n xs) (hv : w.ownsRow base' e' size' v' n' xs') (hne : e' ≠ e) (hg : w.grownBy w' v'.ownBlock) (hb' : b' = base) : w'.ownsRow b' e size v n xs := by
  subst hb'
  refine ⟨h.1, ?_⟩
  rcases h.2 with h2 | ⟨g, cap, cur, rfl, hb, hgb, r⟩
  · exact .inl h2
  · exact .inr ⟨g, cap, cur, rfl, hb, blkGr hgb hv hne hg, r⟩
theorem ownsBase {w : World} {base base' size n : Nat} {e : TypeId} {v : Value} {xs : List Value} (h : w.ownsRow base e size v n xs) (hb : base' ≤ base) : w.ownsRow base' e size v n xs := by
  refine ⟨h.1, ?_⟩
  rcases h.2 with h2 | ⟨g, cap, cur, rfl, hb2, r⟩
  · exact .inl h2
  · exact .inr ⟨g, cap, cur, rfl, Nat.le_trans hb hb2, r⟩
/-- A row of another kind than the blocks that turn. -/
theorem owns_ty {S : Nat → Prop} {w w' : World} {base size n : Nat} {e : TypeId} {v : Value} {xs : List Value} (h : w.ownsRow base e size v n xs) (ho : Only S w w') (hn : ∀ k, S k → ∀ cs f, w.heap[k]? ≠ some (.cells cs e f)) : w'.ownsRow base e size v n xs := by
  refine ⟨h.1, ?_⟩
  rcases h.2 with h2 | ⟨g, cap, cur, rfl, hb, hg, r⟩
  · exact .inl h2
  · exact .inr ⟨g, cap, cur, rfl, hb, ho.old hg (fun hs => hn g hs _ _ hg), r⟩
/-- A row in another block than those that turn. -/
theorem owns_n {S : Nat → Prop} {w w' : World} {base size n : Nat} {e : TypeId} {v : Value} {xs : List Value} (h : w.ownsRow base e size v n xs) (ho : Only S w w') (hn : ∀ k, v.ownBlock = some k → ¬ S k) : w'.ownsRow base e size v n xs := by
  refine ⟨h.1, ?_⟩
  rcases h.2 with h2 | ⟨g, cap, cur, rfl, hb, hg, r⟩
  · exact .inl h2
  · exact .inr ⟨g, cap, cur, rfl, hb, ho.old hg (hn g rfl), r⟩
theorem cells_not {w : World} {b : Nat} {cs : Array Value} {t e : TypeId} {f : Nat × Nat} (h : w.heap[b]? = some (.cells cs t f)) (hne : t ≠ e) : ∀ k, k = b → ∀ cs' f', w.heap[k]? ≠ some (.cells cs' e f') := by
  rintro k rfl cs' f' h2
  rw [h] at h2
  simp only [Option.some.injEq, Obj.cells.injEq] at h2
  exact hne h2.2.1
/-- append as one step of a region that draws; where the new row lies. -/
theorem stepAppend {P : Program} {ops : Array Oper} {o : Oper} {a : Act} {w : World} {K : Act → World → Prop} {Q : Exit → Act → World → Prop} {E : Prop} (hgd : o.guard = none) (s x : Operand) (t tx : TypeId)
    (ho : o.op = .call { callee := .builtin .append, args := #[s, x], argTypes := #[t, tx] })
    (base : Nat) (e : TypeId) (i : TypeInfo) (z : Value) (size bytes : Nat) (ht : P.underlying t = some (.slice e)) (hi : P.info? e = some i) (hz : i.zero = some z)
    (hsize : i.size = size) (hby : i.bytes = bytes) (hzs : z.cells.size = size)
    (v : Value) (n : Nat) (xs : List Value) (hv : a.eval s = v) (hown : w.ownsRow base e size v n xs) (xv : Value) (m : Nat) (news : List Value) (hx : a.eval x = xv) (hs : Src P size tx xv m news w)
    (h63 : n + m ≤ maxLen) (hbytes : (n + m) * bytes ≤ 140737488355328) (hbase : base ≤ w.heap.size)
    (h : ∀ v' w', w'.ownsRow base e size v' (n + m) (xs ++ news) → w.grownBy w' v.ownBlock → (∀ k, v'.ownBlock = some k → v.ownBlock = some k ∨ w.heap.size ≤ k) → K (a.put o.dst v') w') :
    if Region.wanted o (yielded ops a.tmps) = true then Oper.wp P o a w K Q else E := by
  have hw : Region.wanted o (yielded ops a.tmps) = true := by simp [Region.wanted, hgd]
  rw [if_pos hw]
  obtain ⟨v', w', hr, h2, h3, h4⟩ := run_append_src (P := P) w base t tx o.type e i z size bytes ht hi hz hsize hby hzs v n xs hown xv m news hs h63 hbytes hbase
  unfold Oper.wp execOp
  simp only [ho, resolve, invoke, builtin, Sem.run_bind, Sem.run_pure, Result.andThen_ok, List.map_toArray, List.map_cons, List.map_nil, hv, hx, hr]
  exact h v' w' h2 h3 h4
theorem ownKind {w : World} {base : Nat} {e : TypeId} {size n : Nat} {v : Value} {xs : List Value} (h : w.ownsRow base e size v n xs) {k : Nat} (hk : v.ownBlock = some k) : base ≤ k ∧ k < w.heap.size ∧ ∃ cs f, w.heap[k]? = some (.cells cs e f) := by
  rcases h.2 with ⟨h2, _⟩ | ⟨g, cap, cur, rfl, hb, hg, _⟩
  · rw [h2] at hk; cases hk
  · have : g = k := by simpa [Value.ownBlock] using hk
    subst this
    exact ⟨hb, lt_of_block hg, _, _, hg⟩
/-- The row's block is none of another kind. -/
theorem ownKind_ne {w : World} {base : Nat} {e t : TypeId} {size n : Nat} {v : Value} {xs : List Value} (h : w.ownsRow base e size v n xs) (hne : e ≠ t) : ∀ k, v.ownBlock = some k → ∀ cs f, w.heap[k]? ≠ some (.cells cs t f) := fun k hk cs f h2 => by
  obtain ⟨_, _, cs', f', h3⟩ := ownKind h hk
  rw [h3] at h2
  simp only [Option.some.injEq, Obj.cells.injEq] at h2
  exact hne h2.2.1
/-- The row's block is not one that is of another kind. -/
theorem ownKind_not {w : World} {base b : Nat} {e t : TypeId} {size n : Nat} {v : Value} {xs : List Value} {cs : Array Value} {f : Nat × Nat} (h : w.ownsRow base e size v n xs) (hb : w.heap[b]? = some (.cells cs t f)) (hne : e ≠ t) : ¬ v.ownBlock = some b := fun hk => ownKind_ne h hne b hk _ _ hb
end Go.Proofs.YtbdfijgejkimnaaGreatDoor
/-! record: Make. -/
namespace Go.Proofs.YtbdfijgejkimnaaGreatDoor
open Go.Conc Go.RowKit

/-- A service's data in bytes. -/
def dataL (a0 a1 a2 a3 : Int) (p q r : Nat) : List UInt8 := (bytesOf [a0, a1, a2, a3]).data.toList ++ beL p 2 ++ beL q 2 ++ beL r 2
theorem arr0 (W : World) (x y z : Value) : (Instr.index 194 (.agg #[x, y, z]) (.int .i64 0)).run Tryz.prog W = .ok x W := by kernel_rfl
theorem arr1 (W : World) (x y z : Value) : (Instr.index 194 (.agg #[x, y, z]) (.int .i64 1)).run Tryz.prog W = .ok y W := by kernel_rfl
theorem arr2 (W : World) (x y z : Value) : (Instr.index 194 (.agg #[x, y, z]) (.int .i64 2)).run Tryz.prog W = .ok z W := by kernel_rfl

def dataB (a0 a1 a2 a3 : Int) (p q r : Nat) : ByteArray := ⟨(dataL a0 a1 a2 a3 p q r).toArray⟩
def makeV (o : Int) (name : ByteArray) (ver : Nat) (d : ByteArray) : Value := if beginE o name ver = 0 then recV (keyS o name) ver o 0 false d else rec0
end Go.Proofs.YtbdfijgejkimnaaGreatDoor
/-! record: Tell's call. -/
namespace Go.Proofs.YtbdfijgejkimnaaGreatDoor
open Go.Conc Go.RowKit

theorem ext_a (x0 x1 x2 x3 x4 x5 x6 x7 x8 x9 : UInt8) : (⟨#[x0, x1, x2, x3, x4, x5, x6, x7, x8, x9]⟩ : ByteArray).extract 0 4 = ⟨#[x0, x1, x2, x3]⟩ := by
  apply str_ext
  simp
theorem ext_b (x0 x1 x2 x3 x4 x5 x6 x7 x8 x9 : UInt8) : (⟨#[x0, x1, x2, x3, x4, x5, x6, x7, x8, x9]⟩ : ByteArray).extract 4 (⟨#[x0, x1, x2, x3, x4, x5, x6, x7, x8, x9]⟩ : ByteArray).size = ⟨#[x4, x5, x6, x7, x8, x9]⟩ := by
  apply str_ext
  simp [ByteArray.size]
theorem ext_c (x4 x5 x6 x7 x8 x9 : UInt8) : (⟨#[x4, x5, x6, x7, x8, x9]⟩ : ByteArray).extract 2 (⟨#[x4, x5, x6, x7, x8, x9]⟩ : ByteArray).size = ⟨#[x6, x7, x8, x9]⟩ := by
  apply str_ext
  simp [ByteArray.size]
theorem ext_d (x6 x7 x8 x9 : UInt8) : (⟨#[x6, x7, x8, x9]⟩ : ByteArray).extract 2 (⟨#[x6, x7, x8, x9]⟩ : ByteArray).size = ⟨#[x8, x9]⟩ := by
  apply str_ext
  simp [ByteArray.size]
theorem ext_e (x8 x9 : UInt8) : (⟨#[x8, x9]⟩ : ByteArray).extract 2 (⟨#[x8, x9]⟩ : ByteArray).size = ⟨#[]⟩ := by
  apply str_ext
  simp [ByteArray.size]
theorem be2 (a b : UInt8) (r : List UInt8) : beN ((a :: b :: r).take 2) 0 = a.toNat * 256 + b.toNat := by simp [beN]
theorem sizeU8 (w : World) : (Go.sizeOf 5).run Tryz.prog w = .ok 1 w := by kernel_rfl
def svcC (name : ByteArray) (a0 a1 a2 a3 p q r : Nat) : Array Value := #[.string name, .int .u8 a0, .int .u8 a1, .int .u8 a2, .int .u8 a3, .int .u16 p, .int .u16 q, .int .u16 r]

theorem svc_some {w : World} {ps : Nat} {name : ByteArray} {a0 a1 a2 a3 p q r : Nat} (h : w.heap[ps]? = some (.cells (svcC name a0 a1 a2 a3 p q r) 147 (0, 0))) : ∀ j, j < 4 → (w.cell? ⟨ps, 1 + j, none⟩).isSome = true := by
  intro j hj
  rw [cell_at h]
  match j, hj with
  | 0, _ => rfl
  | 1, _ => rfl
  | 2, _ => rfl
  | 3, _ => rfl
theorem svc_put {w : World} {ps : Nat} {name : ByteArray} {a0 a1 a2 a3 p q r : Nat} (h : w.heap[ps]? = some (.cells (svcC name a0 a1 a2 a3 p q r) 147 (0, 0))) (x0 x1 x2 x3 : UInt8) :
    (w.setCells ps 1 ((⟨#[x0, x1, x2, x3]⟩ : ByteArray).data.toList.map fun x => Value.int .u8 (x.toNat : Int))).heap[ps]? = some (.cells (svcC name x0.toNat x1.toNat x2.toNat x3.toNat p q r) 147 (0, 0)) ∧
      Only (fun x => x = ps) w (w.setCells ps 1 ((⟨#[x0, x1, x2, x3]⟩ : ByteArray).data.toList.map fun x => Value.int .u8 (x.toNat : Int))) :=
  ⟨set_at (set_at (set_at (set_at h 1 (.int .u8 x0.toNat)) 2 (.int .u8 x1.toNat)) 3 (.int .u8 x2.toNat)) 4 (.int .u8 x3.toNat),
    (((((Only.refl (fun x => x = ps) w).setCell (p := ⟨ps, 1, none⟩) (.inr rfl) (.int .u8 x0.toNat)).setCell (p := ⟨ps, 2, none⟩) (.inr rfl) (.int .u8 x1.toNat)).setCell (p := ⟨ps, 3, none⟩) (.inr rfl) (.int .u8 x2.toNat)).setCell (p := ⟨ps, 4, none⟩) (.inr rfl) (.int .u8 x3.toNat))⟩
set_option maxRecDepth 100000 in
set_option maxHeartbeats 4000000 in
theorem tell1_any (w : World) (b ps : Nat) (name : ByteArray) (x0 x1 x2 x3 x4 x5 x6 x7 x8 x9 : UInt8) (h : RdAt w b ⟨#[x0, x1, x2, x3, x4, x5, x6, x7, x8, x9]⟩) (hs : w.heap[ps]? = some (.cells (svcC name 0 0 0 0 0 0 0) 147 (0, 0))) :
    Calls Tryz.prog 119 #[.pointer (some ⟨b, 0, none⟩), .pointer (some ⟨ps, 0, none⟩)] w fun e w' => e = .returned (.tuple #[]) ∧ Only (fun x => x = b ∨ x = ps) w w' ∧ RdAt w' b ⟨#[]⟩ ∧
      w'.heap[ps]? = some (.cells (svcC name x0.toNat x1.toNat x2.toNat x3.toNat (x4.toNat * 256 + x5.toNat) (x6.toNat * 256 + x7.toNat) (x8.toNat * 256 + x9.toNat)) 147 (0, 0)) := by
  have hne : ps ≠ b := by rintro rfl; rw [RdAt, hs] at h; simp at h
  have H := Lib.hid h
  have HS := Lib.hid hs
  clear h hs
  have hraw : Calls Tryz.prog 100 #[.pointer (some ⟨b, 0, none⟩), .int .i64 4] w.drew fun e w' => e = .returned (.string ⟨#[x0, x1, x2, x3]⟩) ∧ RPost w.drew w' b ⟨#[x4, x5, x6, x7, x8, x9]⟩ := by
    have := rraw_ok w.drew b _ 4 (H.out.kept (S := fun _ => False) (w' := w.drew) ((Only.refl _ _).drew) id) (Nat.le_of_ble_eq_true rfl)
    rw [ext_a, ext_b] at this
    exact this
  go_enter Tryz.func119, Tryz.ntmps119
  go_wp2_with fail
  go_region_law (first
    | (go_simp
       refine hraw.mono ?_
       rintro e w1 ⟨rfl, ho1, hr1⟩)
    | (refine step_copy_string rfl (.tmp 4) (.tmp 6) 61 9 rfl 5 Tryz.underlying61 sizeU8 ps 1 4 _ rfl ⟨#[x0, x1, x2, x3]⟩ rfl (Nat.le_refl 4) (svc_some (ho1.old HS.out hne)) (fun j _ => free_at (ho1.old HS.out hne) _) ?_))
  obtain ⟨s1, s2⟩ := svc_put (ho1.old HS.out hne) x0 x1 x2 x3
  have O1 := Lib.hid ((Only.refl (fun x => x = b ∨ x = ps) w).drew.trans ((ho1.weaken (fun _ _ e => Or.inl e)).trans (s2.weaken (fun _ _ e => Or.inr e))))
  have R1 := Lib.hid (hr1.kept s2 (fun e => hne e.symm))
  have S1 := Lib.hid s1
  simp only [List.map_cons, List.map_nil] at S1 R1 O1
  clear ho1 hr1 s1 s2 hraw
  generalize w1.setCells ps 1 [Value.int IntKind.u8 (x0.toNat : Int), Value.int IntKind.u8 (x1.toNat : Int), Value.int IntKind.u8 (x2.toNat : Int), Value.int IntKind.u8 (x3.toNat : Int)] = w2 at *
  have b4 := x4.toNat_lt
  have b5 := x5.toNat_lt
  have b6 := x6.toNat_lt
  have b7 := x7.toNat_lt
  have b8 := x8.toNat_lt
  have b9 := x9.toNat_lt
  go_wp2_with fail
  refine (rnum_ok _ b _ 2 R1.out (by decide) (by decide) (Nat.le_of_ble_eq_true rfl)).mono ?_
  rw [ext_c, be2]
  rintro e w3 ⟨rfl, ho3, hr3⟩
  have t3 := ho3.old S1.out hne
  have c5 : w3.cell? ⟨ps, 5, none⟩ = some (.int .u16 0) := cell_at t3 5
  have f5 : w3.frozen? ⟨ps, 5, none⟩ = false := free_at t3 5
  have hb45 : x4.toNat * 256 + x5.toNat < 65536 := by omega
  have O3 := Lib.hid (O1.out.trans (ho3.weaken (fun _ _ e => Or.inl e)))
  have T3 := Lib.hid t3
  have R3 := Lib.hid hr3
  clear ho3 t3 hr3
  generalize hy4 : x4.toNat * 256 + x5.toNat = y4 at *
  have HY4 := Lib.hid hy4
  clear hy4
  go_wp2_with fail
  have q3 : Only (fun x => x = ps) w3 (w3.setCell ⟨ps, 5, none⟩ (.int .u16 y4)) := (Only.refl _ _).setCell (S := fun x => x = ps) (p := ⟨ps, 5, none⟩) (.inr rfl) _
  have O4 := Lib.hid (O3.out.trans (q3.weaken (fun _ _ e => Or.inr e)))
  have T4 := Lib.hid (set_at T3.out 5 (.int .u16 y4))
  have R4 := Lib.hid (R3.out.kept q3 (fun e => hne e.symm))
  clear q3 c5 f5
  generalize w3.setCell ⟨ps, 5, none⟩ (.int .u16 y4) = w4 at *
  refine (rnum_ok _ b _ 2 R4.out (by decide) (by decide) (Nat.le_of_ble_eq_true rfl)).mono ?_
  rw [ext_d, be2]
  rintro e w5 ⟨rfl, ho5, hr5⟩
  have t5 := ho5.old T4.out hne
  have c6 : w5.cell? ⟨ps, 6, none⟩ = some (.int .u16 0) := cell_at t5 6
  have f6 : w5.frozen? ⟨ps, 6, none⟩ = false := free_at t5 6
  have hb67 : x6.toNat * 256 + x7.toNat < 65536 := by omega
  have O5 := Lib.hid (O4.out.trans (ho5.weaken (fun _ _ e => Or.inl e)))
  have T5 := Lib.hid t5
  have R5 := Lib.hid hr5
  clear ho5 t5 hr5
  generalize hy6 : x6.toNat * 256 + x7.toNat = y6 at *
  have HY6 := Lib.hid hy6
  clear hy6
  go_wp2_with fail
  have q5 : Only (fun x => x = ps) w5 (w5.setCell ⟨ps, 6, none⟩ (.int .u16 y6)) := (Only.refl _ _).setCell (S := fun x => x = ps) (p := ⟨ps, 6, none⟩) (.inr rfl) _
  have O6 := Lib.hid (O5.out.trans (q5.weaken (fun _ _ e => Or.inr e)))
  have T6 := Lib.hid (set_at T5.out 6 (.int .u16 y6))
  have R6 := Lib.hid (R5.out.kept q5 (fun e => hne e.symm))
  clear q5 c6 f6
  generalize w5.setCell ⟨ps, 6, none⟩ (.int .u16 y6) = w6 at *
  refine (rnum_ok _ b _ 2 R6.out (by decide) (by decide) (Nat.le_of_ble_eq_true rfl)).mono ?_
  rw [ext_e, be2]
  rintro e w7 ⟨rfl, ho7, hr7⟩
  have t7 := ho7.old T6.out hne
  have c7 : w7.cell? ⟨ps, 7, none⟩ = some (.int .u16 0) := cell_at t7 7
  have f7 : w7.frozen? ⟨ps, 7, none⟩ = false := free_at t7 7
  have hb89 : x8.toNat * 256 + x9.toNat < 65536 := by omega
  have O7 := Lib.hid (O6.out.trans (ho7.weaken (fun _ _ e => Or.inl e)))
  have T7 := Lib.hid t7
  have R7 := Lib.hid hr7
  clear ho7 t7 hr7
  generalize hy8 : x8.toNat * 256 + x9.toNat = y8 at *
  have HY8 := Lib.hid hy8
  clear hy8
  go_wp2_with fail
  go_end0
  have q7 : Only (fun x => x = ps) w7 (w7.setCell ⟨ps, 7, none⟩ (.int .u16 y8)) := (Only.refl _ _).setCell (S := fun x => x = ps) (p := ⟨ps, 7, none⟩) (.inr rfl) _
  refine ⟨rfl, O7.out.trans (q7.weaken (fun _ _ e => Or.inr e)), R7.out.kept q7 (fun e => hne e.symm), ?_⟩
  rw [HY4.out, HY6.out, HY8.out]
  exact set_at T7.out 7 (.int .u16 y8)
end Go.Proofs.YtbdfijgejkimnaaGreatDoor
/-! record: Tell. -/
namespace Go.Proofs.YtbdfijgejkimnaaGreatDoor
open Go.Conc Go.RowKit

theorem eight_set {w : World} {b : Nat} {t : TypeId} {a0 a1 a2 a3 a4 a5 a6 a7 : Value} (h : w.heap[b]? = some (.cells #[a0, a1, a2, a3, a4, a5, a6, a7] t (0, 0))) (u0 u1 u2 u3 u4 u5 u6 u7 : Value) :
    ((((((((w.setCell ⟨b, 0, none⟩ (u0)).setCell ⟨b, 1, none⟩ (u1)).setCell ⟨b, 2, none⟩ (u2)).setCell ⟨b, 3, none⟩ (u3)).setCell ⟨b, 4, none⟩ (u4)).setCell ⟨b, 5, none⟩ (u5)).setCell ⟨b, 6, none⟩ (u6)).setCell ⟨b, 7, none⟩ (u7)).heap[b]? = some (.cells #[u0, u1, u2, u3, u4, u5, u6, u7] t (0, 0)) ∧
      Only (fun x => x = b) w ((((((((w.setCell ⟨b, 0, none⟩ (u0)).setCell ⟨b, 1, none⟩ (u1)).setCell ⟨b, 2, none⟩ (u2)).setCell ⟨b, 3, none⟩ (u3)).setCell ⟨b, 4, none⟩ (u4)).setCell ⟨b, 5, none⟩ (u5)).setCell ⟨b, 6, none⟩ (u6)).setCell ⟨b, 7, none⟩ (u7)) := by
  have h1 : (w.setCell ⟨b, 0, none⟩ (u0)).heap[b]? = some (.cells #[u0, a1, a2, a3, a4, a5, a6, a7] t (0, 0)) := set_at h 0 u0
  have h2 : ((w.setCell ⟨b, 0, none⟩ (u0)).setCell ⟨b, 1, none⟩ (u1)).heap[b]? = some (.cells #[u0, u1, a2, a3, a4, a5, a6, a7] t (0, 0)) := set_at h1 1 u1
  have h3 : (((w.setCell ⟨b, 0, none⟩ (u0)).setCell ⟨b, 1, none⟩ (u1)).setCell ⟨b, 2, none⟩ (u2)).heap[b]? = some (.cells #[u0, u1, u2, a3, a4, a5, a6, a7] t (0, 0)) := set_at h2 2 u2
  have h4 : ((((w.setCell ⟨b, 0, none⟩ (u0)).setCell ⟨b, 1, none⟩ (u1)).setCell ⟨b, 2, none⟩ (u2)).setCell ⟨b, 3, none⟩ (u3)).heap[b]? = some (.cells #[u0, u1, u2, u3, a4, a5, a6, a7] t (0, 0)) := set_at h3 3 u3
  have h5 : (((((w.setCell ⟨b, 0, none⟩ (u0)).setCell ⟨b, 1, none⟩ (u1)).setCell ⟨b, 2, none⟩ (u2)).setCell ⟨b, 3, none⟩ (u3)).setCell ⟨b, 4, none⟩ (u4)).heap[b]? = some (.cells #[u0, u1, u2, u3, u4, a5, a6, a7] t (0, 0)) := set_at h4 4 u4
  have h6 : ((((((w.setCell ⟨b, 0, none⟩ (u0)).setCell ⟨b, 1, none⟩ (u1)).setCell ⟨b, 2, none⟩ (u2)).setCell ⟨b, 3, none⟩ (u3)).setCell ⟨b, 4, none⟩ (u4)).setCell ⟨b, 5, none⟩ (u5)).heap[b]? = some (.cells #[u0, u1, u2, u3, u4, u5, a6, a7] t (0, 0)) := set_at h5 5 u5
  have h7 : (((((((w.setCell ⟨b, 0, none⟩ (u0)).setCell ⟨b, 1, none⟩ (u1)).setCell ⟨b, 2, none⟩ (u2)).setCell ⟨b, 3, none⟩ (u3)).setCell ⟨b, 4, none⟩ (u4)).setCell ⟨b, 5, none⟩ (u5)).setCell ⟨b, 6, none⟩ (u6)).heap[b]? = some (.cells #[u0, u1, u2, u3, u4, u5, u6, a7] t (0, 0)) := set_at h6 6 u6
  have h8 : ((((((((w.setCell ⟨b, 0, none⟩ (u0)).setCell ⟨b, 1, none⟩ (u1)).setCell ⟨b, 2, none⟩ (u2)).setCell ⟨b, 3, none⟩ (u3)).setCell ⟨b, 4, none⟩ (u4)).setCell ⟨b, 5, none⟩ (u5)).setCell ⟨b, 6, none⟩ (u6)).setCell ⟨b, 7, none⟩ (u7)).heap[b]? = some (.cells #[u0, u1, u2, u3, u4, u5, u6, u7] t (0, 0)) := set_at h7 7 u7
  exact ⟨h8, (((((((((Only.refl (fun x => x = b) w).setCell (p := ⟨b, 0, none⟩) (.inr rfl) u0).setCell (p := ⟨b, 1, none⟩) (.inr rfl) u1).setCell (p := ⟨b, 2, none⟩) (.inr rfl) u2).setCell (p := ⟨b, 3, none⟩) (.inr rfl) u3).setCell (p := ⟨b, 4, none⟩) (.inr rfl) u4).setCell (p := ⟨b, 5, none⟩) (.inr rfl) u5).setCell (p := ⟨b, 6, none⟩) (.inr rfl) u6).setCell (p := ⟨b, 7, none⟩) (.inr rfl) u7)⟩

def svcV (name : ByteArray) (a0 a1 a2 a3 p q r : Nat) : Value := .agg #[.string name, .int .u8 a0, .int .u8 a1, .int .u8 a2, .int .u8 a3, .int .u16 p, .int .u16 q, .int .u16 r]
def tellE (key : ByteArray) (ver : Nat) (o age : Int) (gone : Bool) (data : ByteArray) : Int := if goodP key ver o age gone data = false then 4 else if gone then 6 else 0
def tellV (key : ByteArray) (ver : Nat) (o age : Int) (gone : Bool) (data : ByteArray) : Value :=
  if goodP key ver o age gone data && !gone then svcV (key.extract 2 key.size) (bA data 0) (bA data 1) (bA data 2) (bA data 3) (bA data 4 * 256 + bA data 5) (bA data 6 * 256 + bA data 7) (bA data 8 * 256 + bA data 9) else svcV ⟨#[]⟩ 0 0 0 0 0 0 0
theorem ten_bytes (d : ByteArray) (h : d.size = 10) : ∃ x0 x1 x2 x3 x4 x5 x6 x7 x8 x9 : UInt8, d = ⟨#[x0, x1, x2, x3, x4, x5, x6, x7, x8, x9]⟩ := by
  have h2 : d.data.toList.length = 10 := h
  match hl : d.data.toList, h2 with
  | [x0, x1, x2, x3, x4, x5, x6, x7, x8, x9], _ => exact ⟨x0, x1, x2, x3, x4, x5, x6, x7, x8, x9, str_ext (by rw [hl])⟩
set_option maxRecDepth 100000 in
set_option maxHeartbeats 4000000 in
theorem tell_any (w : World) (key : ByteArray) (ver : Nat) (o age : Int) (gone : Bool) (data : ByteArray) (m : Int) (hm : w.cell? ⟨0, 0, none⟩ = some (.int .i64 m)) (hv : ver < 2 ^ 64) (hk : key.size ≤ 1000000) :
    Calls Tryz.prog 78 #[.agg #[.string key, .int .u64 ver, .int .i64 o, .int .i64 age, .bool gone, .string data]] w fun e w' => e = .returned (.tuple #[tellV key ver o age gone data, .int .i64 (tellE key ver o age gone data)]) ∧ Only (fun _ => False) w w' := by
  have hmf : ∀ (fn : Fn) (first cap : Array Value) (w : World), (Instr.makeFunc fn first cap).run Tryz.prog w = .ok (.func fn first cap) w := fun _ _ _ _ => rfl
  have HM := Lib.hid hm
  obtain ⟨W, hW⟩ : ∃ W, W = (w.alloc (.cells #[.string key, .int .u64 ver, .int .i64 o, .int .i64 age, .bool gone, .string data] 69)).alloc (.cells #[.string ⟨#[]⟩, .int .u8 0, .int .u8 0, .int .u8 0, .int .u8 0, .int .u16 0, .int .u16 0, .int .u16 0] 147) := ⟨_, rfl⟩
  obtain ⟨z1, z2⟩ := two_blocks w _ _ (w1 := W) (by rw [← hW]; exact Only.refl _ _)
  have hWo : Only (fun _ => False) w W := by rw [hW]; exact ((Only.refl _ _).alloc _).alloc _
  have hWs : W.heap.size = w.heap.size + 2 := by rw [hW]; simp
  have HG := Lib.hid (good_any W key ver o age gone data m (hWo.cell HM.out id) hv hk)
  have HTE := Lib.hid (show tellE key ver o age gone data = if goodP key ver o age gone data = false then 4 else if gone then 6 else 0 from rfl)
  have HTV := Lib.hid (show tellV key ver o age gone data = if goodP key ver o age gone data && !gone then svcV (key.extract 2 key.size) (bA data 0) (bA data 1) (bA data 2) (bA data 3) (bA data 4 * 256 + bA data 5) (bA data 6 * 256 + bA data 7) (bA data 8 * 256 + bA data 9) else svcV ⟨#[]⟩ 0 0 0 0 0 0 0 from rfl)
  have Z1 := Lib.hid z1
  have Z2 := Lib.hid z2
  clear hm z1 z2
  go_enter Tryz.func78, Tryz.ntmps78
  go_wp2_with fail
  rw [← hW]
  refine HG.out.mono ?_
  rintro e w1 ⟨rfl, ho1⟩
  have y1 := ho1.old Z1.out id
  have y2 := ho1.old Z2.out id
  have hs1 := ho1.size
  have hlt1 : w.heap.size + 1 < w1.heap.size := by omega
  have hlt0 : w.heap.size < w1.heap.size := by omega
  have HO := Lib.hid (hWo.trans ho1)
  have Y1 := Lib.hid y1
  have Y2 := Lib.hid y2
  clear hW ho1 hWo
  have r0 : w1.cell? ⟨w.heap.size, 0, none⟩ = some (.string key) := cell_at y1 0
  have r1 : w1.cell? ⟨w.heap.size, 1, none⟩ = some (.int .u64 ver) := cell_at y1 1
  have r2 : w1.cell? ⟨w.heap.size, 2, none⟩ = some (.int .i64 o) := cell_at y1 2
  have r3 : w1.cell? ⟨w.heap.size, 3, none⟩ = some (.int .i64 age) := cell_at y1 3
  have r4 : w1.cell? ⟨w.heap.size, 4, none⟩ = some (.bool gone) := cell_at y1 4
  have r5 : w1.cell? ⟨w.heap.size, 5, none⟩ = some (.string data) := cell_at y1 5
  have rf : ∀ i, w1.frozen? ⟨w.heap.size, i, none⟩ = false := free_at y1
  have c0 : w1.cell? ⟨w.heap.size + 1, 0, none⟩ = some (.string ⟨#[]⟩) := cell_at y2 0
  have c1 : w1.cell? ⟨w.heap.size + 1, 1, none⟩ = some (.int .u8 0) := cell_at y2 1
  have c2 : w1.cell? ⟨w.heap.size + 1, 2, none⟩ = some (.int .u8 0) := cell_at y2 2
  have c3 : w1.cell? ⟨w.heap.size + 1, 3, none⟩ = some (.int .u8 0) := cell_at y2 3
  have c4 : w1.cell? ⟨w.heap.size + 1, 4, none⟩ = some (.int .u8 0) := cell_at y2 4
  have c5 : w1.cell? ⟨w.heap.size + 1, 5, none⟩ = some (.int .u16 0) := cell_at y2 5
  have c6 : w1.cell? ⟨w.heap.size + 1, 6, none⟩ = some (.int .u16 0) := cell_at y2 6
  have c7 : w1.cell? ⟨w.heap.size + 1, 7, none⟩ = some (.int .u16 0) := cell_at y2 7
  have cf : ∀ i, w1.frozen? ⟨w.heap.size + 1, i, none⟩ = false := free_at y2
  clear y1 y2
  cases hg : goodP key ver o age gone data with
  | false =>
    have hte : tellE key ver o age gone data = 4 := by rw [HTE.out, if_pos hg]
    have htv : tellV key ver o age gone data = svcV ⟨#[]⟩ 0 0 0 0 0 0 0 := by rw [HTV.out, hg]; rfl
    have HTT := Lib.hid (And.intro hte htv)
    clear hte htv hg
    go_wp2_with fail
    obtain ⟨s1, s2⟩ := eight_set Y2.out (.string ⟨#[]⟩) (.int .u8 0) (.int .u8 0) (.int .u8 0) (.int .u8 0) (.int .u16 0) (.int .u16 0) (.int .u16 0)
    generalize ((((((((w1.setCell ⟨w.heap.size + 1, 0, none⟩ (.string ⟨#[]⟩)).setCell ⟨w.heap.size + 1, 1, none⟩ (.int .u8 0)).setCell ⟨w.heap.size + 1, 2, none⟩ (.int .u8 0)).setCell ⟨w.heap.size + 1, 3, none⟩ (.int .u8 0)).setCell ⟨w.heap.size + 1, 4, none⟩ (.int .u8 0)).setCell ⟨w.heap.size + 1, 5, none⟩ (.int .u16 0)).setCell ⟨w.heap.size + 1, 6, none⟩ (.int .u16 0)).setCell ⟨w.heap.size + 1, 7, none⟩ (.int .u16 0)) = wz at *
    have d0 : wz.cell? ⟨w.heap.size + 1, 0, none⟩ = some (.string ⟨#[]⟩) := cell_at s1 0
    have d1 : wz.cell? ⟨w.heap.size + 1, 1, none⟩ = some (.int .u8 0) := cell_at s1 1
    have d2 : wz.cell? ⟨w.heap.size + 1, 2, none⟩ = some (.int .u8 0) := cell_at s1 2
    have d3 : wz.cell? ⟨w.heap.size + 1, 3, none⟩ = some (.int .u8 0) := cell_at s1 3
    have d4 : wz.cell? ⟨w.heap.size + 1, 4, none⟩ = some (.int .u8 0) := cell_at s1 4
    have d5 : wz.cell? ⟨w.heap.size + 1, 5, none⟩ = some (.int .u16 0) := cell_at s1 5
    have d6 : wz.cell? ⟨w.heap.size + 1, 6, none⟩ = some (.int .u16 0) := cell_at s1 6
    have d7 : wz.cell? ⟨w.heap.size + 1, 7, none⟩ = some (.int .u16 0) := cell_at s1 7
    refine bodyPost_ret (v := .tuple #[.agg #[.string ⟨#[]⟩, .int .u8 0, .int .u8 0, .int .u8 0, .int .u8 0, .int .u16 0, .int .u16 0, .int .u16 0], .int .i64 4]) (by simp [results, Tryz.results78, go_sem, d0, d1, d2, d3, d4, d5, d6, d7]) rfl ?_
    rw [HTT.out.1, HTT.out.2]
    exact ⟨rfl, HO.out.tr s2 (fun i hi e => by omega)⟩
  | true =>
    cases gone with
    | true =>
      have hte : tellE key ver o age true data = 6 := by rw [HTE.out, if_neg (by simp [hg])]; rfl
      have htv : tellV key ver o age true data = svcV ⟨#[]⟩ 0 0 0 0 0 0 0 := by rw [HTV.out, hg]; rfl
      have HTT := Lib.hid (And.intro hte htv)
      clear hte htv hg
      go_wp2_with fail
      obtain ⟨s1, s2⟩ := eight_set Y2.out (.string ⟨#[]⟩) (.int .u8 0) (.int .u8 0) (.int .u8 0) (.int .u8 0) (.int .u16 0) (.int .u16 0) (.int .u16 0)
      generalize ((((((((w1.setCell ⟨w.heap.size + 1, 0, none⟩ (.string ⟨#[]⟩)).setCell ⟨w.heap.size + 1, 1, none⟩ (.int .u8 0)).setCell ⟨w.heap.size + 1, 2, none⟩ (.int .u8 0)).setCell ⟨w.heap.size + 1, 3, none⟩ (.int .u8 0)).setCell ⟨w.heap.size + 1, 4, none⟩ (.int .u8 0)).setCell ⟨w.heap.size + 1, 5, none⟩ (.int .u16 0)).setCell ⟨w.heap.size + 1, 6, none⟩ (.int .u16 0)).setCell ⟨w.heap.size + 1, 7, none⟩ (.int .u16 0)) = wz at *
      have d0 : wz.cell? ⟨w.heap.size + 1, 0, none⟩ = some (.string ⟨#[]⟩) := cell_at s1 0
      have d1 : wz.cell? ⟨w.heap.size + 1, 1, none⟩ = some (.int .u8 0) := cell_at s1 1
      have d2 : wz.cell? ⟨w.heap.size + 1, 2, none⟩ = some (.int .u8 0) := cell_at s1 2
      have d3 : wz.cell? ⟨w.heap.size + 1, 3, none⟩ = some (.int .u8 0) := cell_at s1 3
      have d4 : wz.cell? ⟨w.heap.size + 1, 4, none⟩ = some (.int .u8 0) := cell_at s1 4
      have d5 : wz.cell? ⟨w.heap.size + 1, 5, none⟩ = some (.int .u16 0) := cell_at s1 5
      have d6 : wz.cell? ⟨w.heap.size + 1, 6, none⟩ = some (.int .u16 0) := cell_at s1 6
      have d7 : wz.cell? ⟨w.heap.size + 1, 7, none⟩ = some (.int .u16 0) := cell_at s1 7
      refine bodyPost_ret (v := .tuple #[.agg #[.string ⟨#[]⟩, .int .u8 0, .int .u8 0, .int .u8 0, .int .u8 0, .int .u16 0, .int .u16 0, .int .u16 0], .int .i64 6]) (by simp [results, Tryz.results78, go_sem, d0, d1, d2, d3, d4, d5, d6, d7]) rfl ?_
      rw [HTT.out.1, HTT.out.2]
      exact ⟨rfl, HO.out.tr s2 (fun i hi e => by omega)⟩
    | false =>
      have hte : tellE key ver o age false data = 0 := by rw [HTE.out, if_neg (by simp [hg])]; rfl
      have hd10 : data.size = 10 := by unfold goodP at hg; simp at hg; omega
      have hso : splitOk key = true := by
        cases h : splitOk key with
        | true => rfl
        | false =>
          have := (split_bad h).2.2
          unfold goodP at hg
          rw [this] at hg
          simp at hg
      obtain ⟨x0, x1, x2, x3, x4, x5, x6, x7, x8, x9, rfl⟩ := ten_bytes data hd10
      have htv : tellV key ver o age false ⟨#[x0, x1, x2, x3, x4, x5, x6, x7, x8, x9]⟩ = svcV (key.extract 2 key.size) x0.toNat x1.toNat x2.toNat x3.toNat (x4.toNat * 256 + x5.toNat) (x6.toNat * 256 + x7.toNat) (x8.toNat * 256 + x9.toNat) := by rw [HTV.out, hg]; rfl
      have hss : splitS key = key.extract 2 key.size := by unfold splitS; rw [hso]; rfl
      rw [← hss] at htv
      have HTT := Lib.hid (And.intro hte htv)
      clear hte htv hg hso hss
      go_wp2_with fail
      refine (split_any _ key m (HO.out.cell HM.out id) hk).mono ?_
      rintro e w2 ⟨rfl, ho2⟩
      have HO2 := Lib.hid (HO.out.trans ho2)
      have hs2 := ho2.size
      have hlt2 : w.heap.size + 1 < w2.heap.size := by omega
      have hlt20 : w.heap.size < w2.heap.size := by omega
      have y2 := ho2.old Y2.out id
      have y1 := ho2.old Y1.out id
      have v5 : w2.cell? ⟨w.heap.size, 5, none⟩ = some (.string ⟨#[x0, x1, x2, x3, x4, x5, x6, x7, x8, x9]⟩) := cell_at y1 5
      have Y22 := Lib.hid y2
      clear ho2 y2 y1 r0 r1 r2 r3 r4 r5 rf c0 c1 c2 c3 c4 c5 c6 c7 cf
      generalize splitE key = sE at *
      generalize splitN key = sN at *
      generalize splitS key = name at *
      obtain ⟨W3, hW3⟩ : ∃ W3, W3 = w2.alloc (.cells (svcC name 0 0 0 0 0 0 0) 147) := ⟨_, rfl⟩
      have v8 : W3.heap[w2.heap.size]? = some (.cells (svcC name 0 0 0 0 0 0 0) 147 (0, 0)) := by rw [hW3]; exact heap_alloc_new w2 _
      have hWW : Only (fun _ => False) w2 W3 := by rw [hW3]; exact (Only.refl _ _).alloc _
      have hs3 : W3.heap.size = w2.heap.size + 1 := by rw [hW3]; simp
      have hen : ∀ args w, (callFunc 119 args).run Tryz.prog w = .ok (.enter 119 args) w := fun _ _ => by go_simp
      have hclo : ∀ (wa : World) (b : Nat), Only (fun _ => False) W3 wa → RdAt wa b ⟨#[x0, x1, x2, x3, x4, x5, x6, x7, x8, x9]⟩ → W3.heap.size ≤ b → Calls Tryz.prog 119 (#[.pointer (some ⟨b, 0, none⟩)] ++ #[.pointer (some ⟨w2.heap.size, 0, none⟩)]) wa fun e w' => e = .returned (.tuple #[]) ∧ Only (fun x => x = b ∨ (x = w2.heap.size ∧ x < W3.heap.size)) wa w' ∧
          RdAt w' b ⟨#[]⟩ ∧ w'.heap[w2.heap.size]? = some (.cells (svcC name x0.toNat x1.toNat x2.toNat x3.toNat (x4.toNat * 256 + x5.toNat) (x6.toNat * 256 + x7.toNat) (x8.toNat * 256 + x9.toNat)) 147 (0, 0)) := by
        intro wa b ho hr hb
        refine (tell1_any wa b w2.heap.size name x0 x1 x2 x3 x4 x5 x6 x7 x8 x9 hr (ho.old v8 id)).mono ?_
        rintro e w' ⟨rfl, h1, h2, h3⟩
        exact ⟨rfl, h1.weaken (fun x _ e => by rcases e with e | e; exact .inl e; exact .inr ⟨e, by omega⟩), h2, h3⟩
      have hcall := read_ok W3 _ 119 _ (fun x => x = w2.heap.size) _ (fun a => a.heap[w2.heap.size]? = some (.cells (svcC name x0.toNat x1.toNat x2.toNat x3.toNat (x4.toNat * 256 + x5.toNat) (x6.toNat * 256 + x7.toNat) (x8.toNat * 256 + x9.toNat)) 147 (0, 0))) hen (fun a c h ho => ho.old h (by omega)) hclo
      rw [if_pos (show (⟨#[]⟩ : ByteArray).size = 0 from rfl)] at hcall
      have HC := Lib.hid hcall
      have HWW := Lib.hid hWW
      clear hcall hclo hen v8 hWW
      unfold svcC at hW3
      go_wp2_with fail
      rw [show ((0 : Nat) : Int) = 0 from rfl] at hW3
      rw [← hW3]
      refine HC.out.mono ?_
      rintro e w4 ⟨rfl, ho4, hx4⟩
      have hn1 : ¬ (w.heap.size + 1 = w2.heap.size) := by omega
      have hn2 : ¬ (w2.heap.size = w.heap.size + 1) := by omega
      have x2' := ho4.old (HWW.out.old Y22.out id) hn1
      have HO4 := Lib.hid ((HO2.out.trans HWW.out).tr ho4 (fun i hi e => by omega))
      have X2 := Lib.hid x2'
      generalize hy4 : x4.toNat * 256 + x5.toNat = y4 at *
      generalize hy6 : x6.toNat * 256 + x7.toNat = y6 at *
      generalize hy8 : x8.toNat * 256 + x9.toNat = y8 at *
      have e0 : w4.cell? ⟨w2.heap.size, 0, none⟩ = some (.string name) := cell_at hx4 0
      have e1 : w4.cell? ⟨w2.heap.size, 1, none⟩ = some (.int .u8 (x0.toNat : Nat)) := cell_at hx4 1
      have e2 : w4.cell? ⟨w2.heap.size, 2, none⟩ = some (.int .u8 (x1.toNat : Nat)) := cell_at hx4 2
      have e3 : w4.cell? ⟨w2.heap.size, 3, none⟩ = some (.int .u8 (x2.toNat : Nat)) := cell_at hx4 3
      have e4 : w4.cell? ⟨w2.heap.size, 4, none⟩ = some (.int .u8 (x3.toNat : Nat)) := cell_at hx4 4
      have e5 : w4.cell? ⟨w2.heap.size, 5, none⟩ = some (.int .u16 (y4 : Nat)) := cell_at hx4 5
      have e6 : w4.cell? ⟨w2.heap.size, 6, none⟩ = some (.int .u16 (y6 : Nat)) := cell_at hx4 6
      have e7 : w4.cell? ⟨w2.heap.size, 7, none⟩ = some (.int .u16 (y8 : Nat)) := cell_at hx4 7
      have ef : ∀ i, w4.frozen? ⟨w2.heap.size, i, none⟩ = false := free_at hx4
      have c0 : w4.cell? ⟨w.heap.size + 1, 0, none⟩ = some (.string ⟨#[]⟩) := cell_at x2' 0
      have c1 : w4.cell? ⟨w.heap.size + 1, 1, none⟩ = some (.int .u8 0) := cell_at x2' 1
      have c2 : w4.cell? ⟨w.heap.size + 1, 2, none⟩ = some (.int .u8 0) := cell_at x2' 2
      have c3 : w4.cell? ⟨w.heap.size + 1, 3, none⟩ = some (.int .u8 0) := cell_at x2' 3
      have c4 : w4.cell? ⟨w.heap.size + 1, 4, none⟩ = some (.int .u8 0) := cell_at x2' 4
      have c5 : w4.cell? ⟨w.heap.size + 1, 5, none⟩ = some (.int .u16 0) := cell_at x2' 5
      have c6 : w4.cell? ⟨w.heap.size + 1, 6, none⟩ = some (.int .u16 0) := cell_at x2' 6
      have c7 : w4.cell? ⟨w.heap.size + 1, 7, none⟩ = some (.int .u16 0) := cell_at x2' 7
      have cf : ∀ i, w4.frozen? ⟨w.heap.size + 1, i, none⟩ = false := free_at x2'
      clear ho4 hx4 x2' hy4 hy6 hy8 hW3
      go_wp2_with fail
      obtain ⟨s1, s2⟩ := eight_set X2.out (.string name) (.int .u8 (x0.toNat : Nat)) (.int .u8 (x1.toNat : Nat)) (.int .u8 (x2.toNat : Nat)) (.int .u8 (x3.toNat : Nat)) (.int .u16 (y4 : Nat)) (.int .u16 (y6 : Nat)) (.int .u16 (y8 : Nat))
      generalize ((((((((w4.setCell ⟨w.heap.size + 1, 0, none⟩ (.string name)).setCell ⟨w.heap.size + 1, 1, none⟩ (.int .u8 (x0.toNat : Nat))).setCell ⟨w.heap.size + 1, 2, none⟩ (.int .u8 (x1.toNat : Nat))).setCell ⟨w.heap.size + 1, 3, none⟩ (.int .u8 (x2.toNat : Nat))).setCell ⟨w.heap.size + 1, 4, none⟩ (.int .u8 (x3.toNat : Nat))).setCell ⟨w.heap.size + 1, 5, none⟩ (.int .u16 (y4 : Nat))).setCell ⟨w.heap.size + 1, 6, none⟩ (.int .u16 (y6 : Nat))).setCell ⟨w.heap.size + 1, 7, none⟩ (.int .u16 (y8 : Nat))) = wz at *
      have d0 : wz.cell? ⟨w.heap.size + 1, 0, none⟩ = some (.string name) := cell_at s1 0
      have d1 : wz.cell? ⟨w.heap.size + 1, 1, none⟩ = some (.int .u8 (x0.toNat : Nat)) := cell_at s1 1
      have d2 : wz.cell? ⟨w.heap.size + 1, 2, none⟩ = some (.int .u8 (x1.toNat : Nat)) := cell_at s1 2
      have d3 : wz.cell? ⟨w.heap.size + 1, 3, none⟩ = some (.int .u8 (x2.toNat : Nat)) := cell_at s1 3
      have d4 : wz.cell? ⟨w.heap.size + 1, 4, none⟩ = some (.int .u8 (x3.toNat : Nat)) := cell_at s1 4
      have d5 : wz.cell? ⟨w.heap.size + 1, 5, none⟩ = some (.int .u16 (y4 : Nat)) := cell_at s1 5
      have d6 : wz.cell? ⟨w.heap.size + 1, 6, none⟩ = some (.int .u16 (y6 : Nat)) := cell_at s1 6
      have d7 : wz.cell? ⟨w.heap.size + 1, 7, none⟩ = some (.int .u16 (y8 : Nat)) := cell_at s1 7
      refine bodyPost_ret (v := .tuple #[.agg #[.string name, .int .u8 (x0.toNat : Nat), .int .u8 (x1.toNat : Nat), .int .u8 (x2.toNat : Nat), .int .u8 (x3.toNat : Nat), .int .u16 (y4 : Nat), .int .u16 (y6 : Nat), .int .u16 (y8 : Nat)], .int .i64 0]) (by simp [results, Tryz.results78, go_sem, d0, d1, d2, d3, d4, d5, d6, d7]) rfl ?_
      rw [HTT.out.1, HTT.out.2]
      exact ⟨rfl, HO4.out.tr s2 (fun i hi e => by omega)⟩
end Go.Proofs.YtbdfijgejkimnaaGreatDoor
/-! Answer: a reply's records, plainly and in memory. -/
namespace Go.Proofs.YtbdfijgejkimnaaGreatDoor
open Go.Conc Go.RowKit Go.Maps

structure RR where
  typ : Nat
  ttl : Nat
  a : Nat × Nat × Nat × Nat
  pr : Nat
  wt : Nat
  po : Nat
  tgt : List ByteArray
/-- With the slice that its target is. -/
structure RRv where
  r : RR
  v : Value
def rrC (e : RRv) : List Value := [.int .u16 e.r.typ, .int .u32 e.r.ttl, .int .u8 e.r.a.1, .int .u8 e.r.a.2.1, .int .u8 e.r.a.2.2.1, .int .u8 e.r.a.2.2.2, .int .u16 e.r.pr, .int .u16 e.r.wt, .int .u16 e.r.po, e.v]
theorem rrC_length (e : RRv) : (rrC e).length = 10 := rfl
abbrev TgtRow (w : World) (base : Nat) (e : RRv) : Prop := w.ownsRow base 9 1 e.v e.r.tgt.length (e.r.tgt.map .string)
theorem rrC_one {w : World} {base : Nat} {e : RRv} (h : TgtRow w base e) : ∀ u ∈ rrC e, u.oneCell' = true := by
  intro u hu
  obtain ⟨_, a, c, he, _⟩ := Sl.of_owns h
  simp only [rrC, List.mem_cons, List.not_mem_nil, or_false] at hu
  rcases hu with rfl | rfl | rfl | rfl | rfl | rfl | rfl | rfl | rfl | rfl
  all_goals first | rfl | (rw [he]; rfl)
structure RpRow (w : World) (base : Nat) (v : Value) (L : List RRv) : Prop where
  row : w.ownsRow base 46 10 v L.length (L.flatMap rrC)
  tgt : ∀ e ∈ L, TgtRow w base e
theorem RpRow.nil (w : World) (base : Nat) : RpRow w base (.slice none 0 0) [] := ⟨World.ownsRow_nil _ _ _ _, fun _ h => by cases h⟩
theorem RpRow.new {w w' : World} {base : Nat} {v : Value} {L : List RRv} (h : RpRow w base v L) (ho : Only (fun _ => False) w w') : RpRow w' base v L := ⟨owns_kept h.row ho (fun _ _ => id), fun e he => owns_kept (h.tgt e he) ho (fun _ _ => id)⟩
theorem RpRow.aside {S : Nat → Prop} {w w' : World} {base : Nat} {v : Value} {L : List RRv} (h : RpRow w base v L) (ho : Only S w w') (hn : ∀ k, S k → ∀ cs t f, w.heap[k]? ≠ some (.cells cs t f)) : RpRow w' base v L := ⟨owns_ty h.row ho (fun k hk cs f => hn k hk cs _ f), fun e he => owns_ty (h.tgt e he) ho (fun k hk cs f => hn k hk cs _ f)⟩
theorem infoRR : (Tryz.prog.info? 46).map (fun i => (i.zero, i.size, i.bytes)) = some (some (.agg #[.int .u16 0, .int .u32 0, .int .u8 0, .int .u8 0, .int .u8 0, .int .u8 0, .int .u16 0, .int .u16 0, .int .u16 0, .slice none 0 0]), 10, 48) := by kernel_rfl
/-- One more, appended. -/
theorem RpRow.app {w w' : World} {base n : Nat} {v v' : Value} {L : List RRv} {e : RRv} (h : RpRow w base v L) (ht : TgtRow w base e) (hn : n = L.length + 1) (own : w'.ownsRow base 46 10 v' n (L.flatMap rrC ++ rrC e)) (gr : w.grownBy w' v.ownBlock) : RpRow w' base v' (L ++ [e]) := by
  subst hn
  refine ⟨by rw [List.length_append, List.flatMap_append, List.flatMap_singleton]; exact own, fun x hx => ?_⟩
  rcases List.mem_append.1 hx with hx | hx
  · exact ownsGr (h.tgt x hx) h.row (by decide) gr rfl
  · rw [List.mem_singleton] at hx
    subst hx
    exact ownsGr ht h.row (by decide) gr rfl
/-- An address as a map's key. -/
def arrV (a : Nat × Nat × Nat × Nat) : Value := .agg #[.int .u8 a.1, .int .u8 a.2.1, .int .u8 a.2.2.1, .int .u8 a.2.2.2]
def cntV (n : Int) : Value := .int .i64 n
theorem laid25 : laidOutB Tryz.prog = true := by kernel_rfl
theorem arrKeyed : Keyed Tryz.prog 44 := Keyed.of_law (deep_law_laid (m := 2) laid25 (by omega) (of_decide_eq_true (by kernel_rfl)) (by kernel_rfl) (by rw [Tryz.underlying44]))
theorem arrInj : ∀ a b, arrV a = arrV b → a = b := by
  rintro ⟨a, b, c, d⟩ ⟨a', b', c', d'⟩ h
  simp only [arrV, Value.agg.injEq] at h
  have h2 := congrArg Array.toList h
  simp only [List.cons.injEq, Value.int.injEq, true_and, and_true, Int.natCast_inj] at h2
  obtain ⟨h1, h3, h4, h5⟩ := h2
  subst h1; subst h3; subst h4; subst h5
  rfl
theorem wf8 {n : Nat} (h : n < 256) : (Lit.int .u8 n).wf = true := by
  have h1 : IntKind.u8.min = 0 := rfl
  have h2 : IntKind.u8.max = 255 := rfl
  simp only [Lit.wf, h1, h2, Bool.and_eq_true, decide_eq_true_eq]
  omega
theorem arrOk {a : Nat × Nat × Nat × Nat} (h : a.1 < 256 ∧ a.2.1 < 256 ∧ a.2.2.1 < 256 ∧ a.2.2.2 < 256) : KeyOk Tryz.prog 44 arrV a := by
  have h1 : Tryz.prog.keyType 44 = true := by kernel_rfl
  have h2 : Tryz.prog.cellsOf 44 = 4 := by kernel_rfl
  have h3 : Tryz.prog.cellsOf 5 = 1 := by kernel_rfl
  have h4 : 0 < Tryz.prog.types.size := of_decide_eq_true (by kernel_rfl)
  obtain ⟨d, hd⟩ := Nat.exists_eq_succ_of_ne_zero (Nat.pos_iff_ne_zero.1 h4)
  have h5 : (arrV a).formed Tryz.prog 44 = true := by
    simp [Value.formed, arrV, Tryz.underlying44]
    exact h2.symm
  have h6 : ∃ ls, Tryz.prog.keyLits (Tryz.prog.types.size + 1) 44 (arrV a).cells.toList = some ls := by
    rw [hd]
    refine ⟨[.int .u8 a.1, .int .u8 a.2.1, .int .u8 a.2.2.1, .int .u8 a.2.2.2], ?_⟩
    have k0 := wf8 h.1
    have k1 := wf8 h.2.1
    have k2 := wf8 h.2.2.1
    have k3 := wf8 h.2.2.2
    simp [Program.keyLits, Tryz.underlying44, Tryz.underlying5, arrV, Value.cells, h3, k0, k1, k2, k3, List.range, List.range.loop]
    exact h2.symm
  obtain ⟨ls, h6⟩ := h6
  refine ⟨.string (keyBytes ls), ?_⟩
  unfold keyOf
  rw [Tryz.underlying44]
  simp only [h1, h5, Bool.and_self, if_true, h6, Option.map_some]
theorem zeroI (w : World) : (zeroValue 3).run Tryz.prog w = .ok (cntV 0) w := by kernel_rfl
abbrev AMap (w : World) (b : Nat) (C : List ((Nat × Nat × Nat × Nat) × Int)) : Prop := MapIs Tryz.prog 44 arrV cntV w b C
end Go.Proofs.YtbdfijgejkimnaaGreatDoor
/-! Answer: the addresses of records. -/
namespace Go.Proofs.YtbdfijgejkimnaaGreatDoor
open Go.Conc Go.RowKit Go.Maps

def addrOf (x : RecT) : Nat × Nat × Nat × Nat := (bA x.data 0, bA x.data 1, bA x.data 2, bA x.data 3)
def rrA (ttl : Int) (x : RecT) : RR := ⟨1, (ttl - x.age).toNat, addrOf x, 0, 0, 0, []⟩
def hasA (E : List RR) (a : Nat × Nat × Nat × Nat) : Bool := E.any (fun r => decide (r.a = a))
def addA (ttl : Int) (E : List RR) (x : RecT) : List RR := if hasA E (addrOf x) then E else E ++ [rrA ttl x]
def addrsM (ttl : Int) (L : List RecT) : List RR := L.foldl (addA ttl) []
theorem addrs_snoc (ttl : Int) (L : List RecT) (k : Nat) (hk : k < L.length) : addrsM ttl (L.take (k + 1)) = addA ttl (addrsM ttl (L.take k)) L[k] := by
  unfold addrsM
  rw [List.take_add_one, List.getElem?_eq_getElem hk, Option.toList_some, List.foldl_append]
  rfl
theorem addA_len (ttl : Int) (E : List RR) (x : RecT) : (addA ttl E x).length ≤ E.length + 1 := by
  unfold addA
  split <;> simp
theorem addrs_len (ttl : Int) (L : List RecT) : ∀ k, k ≤ L.length → (addrsM ttl (L.take k)).length ≤ k
  | 0, _ => by simp [addrsM]
  | k + 1, h => by
    rw [addrs_snoc ttl L k (by omega)]
    have := addrs_len ttl L k (by omega)
    have := addA_len ttl (addrsM ttl (L.take k)) L[k]
    omega
theorem hasA_add (ttl : Int) (E : List RR) (x : RecT) (a : Nat × Nat × Nat × Nat) : hasA (addA ttl E x) a = (decide (addrOf x = a) || hasA E a) := by
  unfold addA
  split
  · rename_i h
    by_cases e : addrOf x = a
    · subst e; rw [h]; simp
    · simp [e]
  · unfold hasA
    rw [List.any_append]
    simp [rrA, Bool.or_comm]
/-- A record that tells a service. -/
structure TellOk (ttl : Int) (x : RecT) : Prop where
  good : goodR x = true
  here : x.gone = false
  young : x.age < ttl
  ver : x.ver < 2 ^ 64
theorem TellOk.facts {ttl : Int} {x : RecT} (h : TellOk ttl x) : 0 ≤ x.age ∧ x.data.size = 10 ∧ x.key.size ≤ 1000000 := by
  have hg := h.good
  have hk := good_keys hg
  unfold goodR goodP at hg
  simp only [Bool.and_eq_true, decide_eq_true_eq, h.here, Bool.false_eq_true, if_false] at hg
  omega
theorem tell_yes {ttl : Int} {x : RecT} (h : TellOk ttl x) : tellE x.key x.ver x.o x.age x.gone x.data = 0 ∧ tellV x.key x.ver x.o x.age x.gone x.data = svcV (x.key.extract 2 x.key.size) (bA x.data 0) (bA x.data 1) (bA x.data 2) (bA x.data 3) (bA x.data 4 * 256 + bA x.data 5) (bA x.data 6 * 256 + bA x.data 7) (bA x.data 8 * 256 + bA x.data 9) := by
  have hg : goodP x.key x.ver x.o x.age x.gone x.data = true := h.good
  have hh := h.here
  unfold tellE tellV
  rw [hg, hh]
  exact ⟨rfl, rfl⟩
/-- How often each address was met. -/
structure Seen (E : List RR) (k : Nat) (C : List ((Nat × Nat × Nat × Nat) × Int)) : Prop where
  some : ∀ a v, lookL C a = some v → 1 ≤ v ∧ v ≤ k
  has : ∀ a, (lookL C a).isSome = hasA E a
  len : C.length ≤ k
theorem Seen.next {ttl : Int} {E : List RR} {k : Nat} {C : List ((Nat × Nat × Nat × Nat) × Int)} (h : Seen E k C) (x : RecT) : Seen (addA ttl E x) (k + 1) (putL C (addrOf x) ((lookL C (addrOf x)).getD 0 + 1)) ∧ ((lookL C (addrOf x)).getD 0 + 1 = 1 ↔ hasA E (addrOf x) = false) := by
  refine ⟨⟨fun a v hv => ?_, fun a => ?_, ?_⟩, ?_⟩
  · by_cases e : a = addrOf x
    · subst e
      rw [lookL_put_same] at hv
      cases hl : lookL C (addrOf x) with
      | none => rw [hl] at hv; simp at hv; omega
      | some v' => rw [hl] at hv; simp at hv; have := h.some _ _ hl; omega
    · rw [lookL_put_other _ e] at hv
      have := h.some _ _ hv
      omega
  · rw [hasA_add]
    by_cases e : a = addrOf x
    · subst e
      rw [lookL_put_same]
      simp
    · rw [lookL_put_other _ e, h.has, decide_eq_false (fun e2 => e e2.symm), Bool.false_or]
  · unfold putL
    rw [List.length_append]
    have := List.length_filter_le (fun p => !decide (p.1 = addrOf x)) C
    have := h.len
    unfold dropL
    simp
    omega
  · rw [← h.has]
    cases hl : lookL C (addrOf x) with
    | none => simp
    | some v =>
      have := h.some _ _ hl
      simp
      omega
/-- What was made: a row of a reply's records. -/
def RecsP (w w' : World) (M : List RR) (e : Ending) : Prop := ∃ v' E, e = .returned v' ∧ Only (fun _ => False) w w' ∧ RpRow w' w.heap.size v' E ∧ E.map (·.r) = M
set_option maxRecDepth 100000 in
set_option maxHeartbeats 4000000 in
theorem addresses_any (w : World) (ttl m : Int) (v : Value) (L : List RecT) (hm : w.cell? ⟨0, 0, none⟩ = some (.int .i64 m)) (h : Sl w 6 v L.length (L.flatMap recC)) (hL : ∀ x ∈ L, TellOk ttl x) (hl : L.length ≤ 48) (ht : ttl ≤ 65535) :
    Calls Tryz.prog 37 #[.int .i64 ttl, v] w fun e w' => RecsP w w' (addrsM ttl L) e := by
  obtain ⟨i0, hi0, iz0, iz1, iz2⟩ := info_parts infoRR
  have hmm := @run_makeMap Tryz.prog
  obtain ⟨sa, cap, rfl, q1, q2, q3⟩ := Sl.cells recC_length h
  unfold maxLen at q2
  have HC := Lib.hid q3
  have HL := Lib.hid hL
  have HM := Lib.hid hm
  clear q3 hL hm
  obtain ⟨W, hW⟩ : ∃ W, W = w.alloc (.map #[] 0) := ⟨_, rfl⟩
  have hbW : W.heap[w.heap.size]? = some (.map #[] 0) := by rw [hW]; exact heap_alloc_new _ _
  have hoW : Only (fun _ => False) w W := by rw [hW]; exact (Only.refl _ _).alloc _
  have hsW : W.heap.size = w.heap.size + 1 := by rw [hW]; simp
  have h0 : AMap W w.heap.size [] := MapIs.empty hbW
  have H0 := Lib.hid h0
  have HOW := Lib.hid hoW
  have HSW := Lib.hid hsW
  clear h0 hoW hsW
  clear h hbW
  go_enter Tryz.func37, Tryz.ntmps37
  go_upto_region 3 with (fail)
  rw [← hW]
  clear hW
  go_wp2_with fail
  go_loopg [5, 14] L.length (fun g v5 v14 wr => ∃ (k : Nat) (E : List RRv) (C : List ((Nat × Nat × Nat × Nat) × Int)), v14 = .int .i64 k ∧ k ≤ L.length ∧ Only (fun _ => False) w wr ∧ RpRow wr w.heap.size v5 E ∧ E.map (·.r) = addrsM ttl (L.take k) ∧ AMap wr w.heap.size C ∧ Seen (addrsM ttl (L.take k)) k C ∧ g = L.length - k)
  case atStart => exact ⟨0, [], [], rfl, Nat.zero_le _, HOW.out, RpRow.nil _ _, rfl, H0.out, ⟨fun a v h => (by cases h), fun a => rfl, Nat.le_refl _⟩, rfl⟩
  case round =>
    obtain ⟨k, E, C, rfl, hk, ho, hrow, hE, hmap, hseen, hg⟩ := hrel
    have hEl : E.length ≤ 48 := by
      have h1 := congrArg List.length hE
      rw [List.length_map] at h1
      have := addrs_len ttl L k hk
      omega
    by_cases hlt : k < L.length
    · -- round
      have hlt' : (k : Int) < (L.length : Int) := by omega
      obtain ⟨lb, off, rfl, hc⟩ := HC.out.at k hlt
      have HSN := Lib.hid (addrs_snoc ttl L k hlt)
      have HTO := Lib.hid (HL.out _ (List.getElem_mem hlt))
      have hcr : ∀ i u, (recC L[k])[i]? = some u → wr.cell? ⟨lb, off + k * 6 + i, none⟩ = some u := fun i u hu => ho.cell (hc i u hu) id
      generalize L[k] = x at *
      have hnx := hseen.next (ttl := ttl) x
      have htv := tell_yes HTO.out
      have hfa := HTO.out.facts
      have hyo := HTO.out.young
      have hve := HTO.out.ver
      have hao : addrOf x = (bA x.data 0, bA x.data 1, bA x.data 2, bA x.data 3) := rfl
      have hra : rrA ttl x = ⟨1, (ttl - x.age).toNat, addrOf x, 0, 0, 0, []⟩ := rfl
      have hbl := fun i => bA_lt x.data i
      obtain ⟨k1, n1, o1, a1, g1, d1⟩ := x
      simp only at htv hfa hyo hve hao hra hbl
      have y0 := hcr 0 _ rfl
      have y1 := hcr 1 _ rfl
      have y2 := hcr 2 _ rfl
      have y3 := hcr 3 _ rfl
      have y4 := hcr 4 _ rfl
      have y5 := hcr 5 _ rfl
      simp only [Nat.add_zero] at y0 y1 y2 y3 y4 y5
      obtain ⟨W8, hW8⟩ : ∃ W8, W8 = wr.alloc (.cells #[.string k1, .int .u64 n1, .int .i64 o1, .int .i64 a1, .bool g1, .string d1] 69) := ⟨_, rfl⟩
      have hbW8 : W8.heap[wr.heap.size]? = some (.cells #[.string k1, .int .u64 n1, .int .i64 o1, .int .i64 a1, .bool g1, .string d1] 69 (0, 0)) := by rw [hW8]; exact heap_alloc_new wr _
      have hoW8 : Only (fun _ => False) wr W8 := by rw [hW8]; exact (Only.refl _ _).alloc _
      have hsW8 : W8.heap.size = wr.heap.size + 1 := by rw [hW8]; simp
      have HT := Lib.hid (tell_any W8 k1 n1 o1 a1 g1 d1 m (hoW8.cell (ho.cell HM.out id) id) hve hfa.2.2)
      rw [htv.1, htv.2] at HT
      have HO := Lib.hid ho
      have HROW := Lib.hid hrow
      have HMAP := Lib.hid hmap
      have HSEEN := Lib.hid hseen
      have HNX := Lib.hid hnx
      have HTV := Lib.hid htv
      have HE := Lib.hid hE
      have Hg := Lib.hid hg
      have HAO := Lib.hid hao
      have HRA := Lib.hid hra
      have HBW8 := Lib.hid hbW8
      have HOW8 := Lib.hid hoW8
      have HSW8 := Lib.hid hsW8
      clear ho hrow hmap hseen hnx htv hE hg hao hra hbW8 hoW8 hsW8
      clear hc hcr
      go_upto_region 6 with (fail)
      rw [← hW8]
      clear hW8
      have x0 : W8.cell? ⟨wr.heap.size, 0, none⟩ = some (.string k1) := cell_at HBW8.out 0
      have x1 : W8.cell? ⟨wr.heap.size, 1, none⟩ = some (.int .u64 n1) := cell_at HBW8.out 1
      have x2 : W8.cell? ⟨wr.heap.size, 2, none⟩ = some (.int .i64 o1) := cell_at HBW8.out 2
      have x3 : W8.cell? ⟨wr.heap.size, 3, none⟩ = some (.int .i64 a1) := cell_at HBW8.out 3
      have x4 : W8.cell? ⟨wr.heap.size, 4, none⟩ = some (.bool g1) := cell_at HBW8.out 4
      have x5 : W8.cell? ⟨wr.heap.size, 5, none⟩ = some (.string d1) := cell_at HBW8.out 5
      unfold svcV at HT
      generalize k1.extract 2 k1.size = nm at *
      generalize bA d1 4 * 256 + bA d1 5 = po at *
      generalize bA d1 6 * 256 + bA d1 7 = pr at *
      generalize bA d1 8 * 256 + bA d1 9 = wt at *
      obtain ⟨ad, had⟩ : ∃ ad, ad = addrOf ⟨k1, n1, o1, a1, g1, d1⟩ := ⟨_, rfl⟩
      rw [← had] at HNX HAO HRA
      have hb0 := hbl 0
      have hb1 := hbl 1
      have hb2 := hbl 2
      have hb3 := hbl 3
      clear hbl
      generalize bA d1 0 = b0 at *
      generalize bA d1 1 = b1 at *
      generalize bA d1 2 = b2 at *
      generalize bA d1 3 = b3 at *
      obtain rfl := HAO.out
      have HADO := Lib.hid had.symm
      clear had
      go_wp2_with fail
      refine HT.out.mono ?_
      rintro e w9 ⟨rfl, ho9⟩
      obtain ⟨W9, hW9⟩ : ∃ W9, W9 = w9.alloc (.cells #[.string nm, .int .u8 b0, .int .u8 b1, .int .u8 b2, .int .u8 b3, .int .u16 po, .int .u16 pr, .int .u16 wt] 147) := ⟨_, rfl⟩
      have hbW9 : W9.heap[w9.heap.size]? = some (.cells #[.string nm, .int .u8 b0, .int .u8 b1, .int .u8 b2, .int .u8 b3, .int .u16 po, .int .u16 pr, .int .u16 wt] 147 (0, 0)) := by rw [hW9]; exact heap_alloc_new w9 _
      have hoW9 : Only (fun _ => False) w9 W9 := by rw [hW9]; exact (Only.refl _ _).alloc _
      have hsW9 : W9.heap.size = w9.heap.size + 1 := by rw [hW9]; simp
      have hmap9 : AMap W9 w.heap.size C := (((HMAP.out.kept HOW8.out id).kept ho9 id).kept hoW9 id)
      have hsz9 : w.heap.size < W9.heap.size := by have := hmap9.lt; exact this
      have hC48 : C.length < maxLen := by have := HSEEN.out.len; unfold maxLen; omega
      obtain ⟨es1, c1, st, v0, hent, hmid, hsto⟩ := hmap9.bump arrKeyed arrInj Tryz.underlying145 zeroI hC48 (x := (b0, b1, b2, b3)) (arrOk ⟨hb0, hb1, hb2, hb3⟩)
      have s0 : W9.cell? ⟨w9.heap.size, 0, none⟩ = some (.string nm) := cell_at hbW9 0
      have s1 : W9.cell? ⟨w9.heap.size, 1, none⟩ = some (.int .u8 b0) := cell_at hbW9 1
      have s2 : W9.cell? ⟨w9.heap.size, 2, none⟩ = some (.int .u8 b1) := cell_at hbW9 2
      have s3 : W9.cell? ⟨w9.heap.size, 3, none⟩ = some (.int .u8 b2) := cell_at hbW9 3
      have s4 : W9.cell? ⟨w9.heap.size, 4, none⟩ = some (.int .u8 b3) := cell_at hbW9 4
      have s5 : W9.cell? ⟨w9.heap.size, 5, none⟩ = some (.int .u16 po) := cell_at hbW9 5
      have s6 : W9.cell? ⟨w9.heap.size, 6, none⟩ = some (.int .u16 pr) := cell_at hbW9 6
      have s7 : W9.cell? ⟨w9.heap.size, 7, none⟩ = some (.int .u16 wt) := cell_at hbW9 7
      have HW9 := Lib.hid hoW9
      have HB9 := Lib.hid hbW9
      have HO9 := Lib.hid ho9
      have HMAP9 := Lib.hid hmap9
      clear hoW9 hbW9 ho9 hmap9
      go_upto_region 7 with (fail)
      rw [← hW9]
      clear hW9
      obtain ⟨cn, hcn⟩ : ∃ cn, cn = (lookL C (b0, b1, b2, b3)).getD 0 := ⟨_, rfl⟩
      rw [← hcn] at HNX
      have hcnb : 0 ≤ cn ∧ cn ≤ 48 := by
        rw [hcn]
        cases hl : lookL C (b0, b1, b2, b3) with
        | none => simp
        | some v' => have := HSEEN.out.some _ _ hl; simp; omega
      have lk0 : ∀ u : World, u.heap[w.heap.size]? = W9.heap[w.heap.size]? → (Instr.lookup 145 (.map (some w.heap.size)) (.agg #[.int .u8 b0, .int .u8 b1, .int .u8 b2, .int .u8 b3]) false).run Tryz.prog u = .ok (.int .i64 cn) u := fun u hu => by
        have := (HMAP9.out.at hu).look arrKeyed arrInj Tryz.underlying145 (zeroI u) (x := (b0, b1, b2, b3)) (arrOk ⟨hb0, hb1, hb2, hb3⟩) false
        rw [← hcn] at this
        exact this
      have lk1 : ∀ u : World, u.heap[w.heap.size]? = some (.map es1 c1) → (Instr.lookup 145 (.map (some w.heap.size)) (.agg #[.int .u8 b0, .int .u8 b1, .int .u8 b2, .int .u8 b3]) false).run Tryz.prog u = .ok (.int .i64 cn) u := fun u hu => by
        have := (hmid u hu).look arrKeyed arrInj Tryz.underlying145 (zeroI u) (x := (b0, b1, b2, b3)) (arrOk ⟨hb0, hb1, hb2, hb3⟩) false
        rw [show (lookL (if (lookL C (b0, b1, b2, b3)).isSome then C else putL C (b0, b1, b2, b3) 0) (b0, b1, b2, b3)).getD 0 = cn by
          rw [hcn]
          cases hl : lookL C (b0, b1, b2, b3) with
          | none => simp [lookL_put_same]
          | some v' => simp [hl]] at this
        exact this
      have en0 : ∀ u : World, u.heap[w.heap.size]? = W9.heap[w.heap.size]? → (Instr.mapEntry 145 (.map (some w.heap.size)) (.agg #[.int .u8 b0, .int .u8 b1, .int .u8 b2, .int .u8 b3])).run Tryz.prog u = .ok (.tuple #[v0, goInt st]) (ChangeMaps.setBlock u w.heap.size (.map es1 c1)) := hent
      have lkB := lk0 W9.drew rfl
      obtain ⟨W1, hW1⟩ : ∃ W1, W1 = ChangeMaps.setBlock W9.drew w.heap.size (.map es1 c1) := ⟨_, rfl⟩
      have hb9 : ∃ o, W9.heap[w.heap.size]? = some o := by
        obtain ⟨es, c, h1, _⟩ := HMAP9.out.own
        exact ⟨_, h1⟩
      obtain ⟨o9, ho9'⟩ := hb9
      have hW1b : W1.heap[w.heap.size]? = some (.map es1 c1) := by rw [hW1]; exact setBlock_at (w := W9.drew) ho9'
      have enA := en0 W9.drew rfl
      rw [← hW1] at enA
      have lkC := lk1 W1 hW1b
      obtain ⟨W3, st3, hm3, ho3⟩ := hsto W1 (cn + 1) hW1b
      have hw1 : IntKind.i64.wrap (cn + 1) = cn + 1 := by rw [IntKind.wrap_i64]; omega
      unfold cntV at st3
      have st3 : (Instr.entryStore 145 (.map (some w.heap.size)) (.int .i64 (st : Int)) (.int .i64 (cn + 1))).run Tryz.prog W1 = .ok () W3 := st3
      have HM3 := Lib.hid hm3
      have HO3 := Lib.hid ho3
      have HW1B := Lib.hid hW1b
      have HHW1 := Lib.hid hW1
      have HCN := Lib.hid hcn
      have HLK0 := Lib.hid lk0
      have HLK1 := Lib.hid lk1
      have HEN0 := Lib.hid en0
      have HENT := Lib.hid hent
      have HMID := Lib.hid hmid
      have HSTO := Lib.hid hsto
      have HO9B := Lib.hid ho9'
      clear hm3 ho3 hW1b hW1 hcn lk0 lk1 en0 hent hmid hsto ho9'
      go_region
      have hmapn : ∀ cs t f, W9.heap[w.heap.size]? ≠ some (.cells cs t f) := fun cs t f e => by
        obtain ⟨es, c, h1, _⟩ := HMAP9.out.own
        rw [h1] at e
        cases e
      have ho13 : Only (fun i => i = w.heap.size) W9 W3 := by
        refine Only.trans (b := W1) ?_ HO3.out
        rw [HHW1.out]
        exact ((Only.refl _ _).drew).trans setBlock_only
      have hrow3 : RpRow W3 w.heap.size u5 E := (((HROW.out.new HOW8.out).new HO9.out).new HW9.out).aside ho13 (fun i hi cs t f => by subst hi; exact hmapn cs t f)
      have hoF : Only (fun _ => False) w W3 := (((HO.out.trans HOW8.out).trans HO9.out).trans HW9.out).tr ho13 (fun i hi e => by omega)
      have hlw : w.heap.size < W3.heap.size := by have := HM3.out.lt; exact this
      have hs1 := HW9.out.size
      have hs2 := HO9.out.size
      have hs3 := HSW8.out
      have hs4 := HO.out.size
      have hlk3 : (Instr.lookup 145 (.map (some w.heap.size)) (.agg #[.int .u8 b0, .int .u8 b1, .int .u8 b2, .int .u8 b3]) false).run Tryz.prog W3 = .ok (.int .i64 (cn + 1)) W3 := by
        have := HM3.out.look arrKeyed arrInj Tryz.underlying145 (zeroI W3) (x := (b0, b1, b2, b3)) (arrOk ⟨hb0, hb1, hb2, hb3⟩) false
        rw [lookL_put_same] at this
        exact this
      have hne9 : ¬ w9.heap.size = w.heap.size := by
        have h1 := HMAP.out.lt
        have h2 := HOW8.out.size
        omega
      have z1 := ho13.cell s1 hne9
      have z2 := ho13.cell s2 hne9
      have z3 := ho13.cell s3 hne9
      have z4 := ho13.cell s4 hne9
      have hne8 : ¬ wr.heap.size = w.heap.size := by
        have h1 := HMAP.out.lt
        omega
      have v3 := ho13.cell (HW9.out.cell (HO9.out.cell x3 id) id) hne8
      have HROW3 := Lib.hid hrow3
      have HOF := Lib.hid hoF
      clear hrow3 hoF
      clear s0 s1 s2 s3 s4 s5 s6 s7 x0 x1 x2 x3 x4 x5 lkB enA lkC st3 ho13 hmapn
      cases hh : hasA (addrsM ttl (L.take k)) (b0, b1, b2, b3) with
      | true =>
        have hne : ¬ cn = 0 := fun e => by
          have := HNX.out.2.1 (by omega)
          rw [hh] at this
          cases this
        have hne1 : ¬ cn + 1 = 1 := by omega
        have HAD := Lib.hid (show addrsM ttl (L.take (k + 1)) = addrsM ttl (L.take k) by
          rw [HSN.out]
          unfold addA
          rw [show addrOf ⟨k1, n1, o1, a1, g1, d1⟩ = (b0, b1, b2, b3) from HADO.out, hh]
          rfl)
        have HSE := Lib.hid HNX.out.1
        clear hh
        go_wp2_with fail
        go_roundg (L.length - (k + 1))
        case measure => rw [Hg.out]; omega
        case rel => exact ⟨k + 1, E, _, by go_num, by omega, HOF.out, HROW3.out, by rw [HAD.out]; exact HE.out, HM3.out, by rw [HSN.out]; exact HSE.out, rfl⟩
      | false =>
        have he : cn = 0 := by have := HNX.out.2.2 hh; omega
        subst he
        obtain ⟨tt, htt⟩ : ∃ tt : Nat, ttl - a1 = tt := ⟨(ttl - a1).toNat, by omega⟩
        have hw64 : IntKind.i64.wrap (tt : Int) = tt := by rw [IntKind.wrap_i64]; omega
        have hw32 : IntKind.u32.wrap (tt : Int) = tt := by rw [IntKind.wrap_u32]; omega
        have HAD := Lib.hid (show addrsM ttl (L.take (k + 1)) = addrsM ttl (L.take k) ++ [⟨1, tt, (b0, b1, b2, b3), 0, 0, 0, []⟩] by
          rw [HSN.out]
          unfold addA
          rw [show addrOf ⟨k1, n1, o1, a1, g1, d1⟩ = (b0, b1, b2, b3) from HADO.out, hh, HRA.out, htt]
          rfl)
        have HSE := Lib.hid HNX.out.1
        obtain ⟨ra, rc, rfl⟩ : ∃ ra rc, u5 = .slice ra E.length rc := by obtain ⟨_, ra, rc, h, _⟩ := Sl.of_owns HROW3.out.row; exact ⟨ra, rc, h⟩
        clear hh
        go_wp2_with (at_builtin; refine Wait.mk ?_)
        refine Wait.go (wpList_append_src _ rfl (.tmp 39) (.tmp 48) 37 37 rfl w.heap.size 46 i0 _ 10 48 Tryz.underlying37 hi0 iz0 iz1 iz2 rfl _ E.length (E.flatMap rrC) rfl ?own4 _ 1 (rrC ⟨⟨1, tt, (b0, b1, b2, b3), 0, 0, 0, []⟩, .slice none 0 0⟩) rfl ?src4 ?m4 ?b4 ?base4 ?_)
        case own4 => exact HROW3.out.row.alloc _
        case src4 => exact Src.ofSlice _ Tryz.underlying37 _ _ _ _ rfl (news_new _ _ _) (rrC_one (w := W3) (base := w.heap.size) (World.ownsRow_nil _ _ _ _))
        case m4 => unfold maxLen; omega
        case b4 => omega
        case base4 => simp; omega
        intro v6 w6 own6 gr6 _
        have ho6 : Only (fun _ => False) w w6 := (HOF.out.alloc _).own (HROW3.out.row.alloc _) (Nat.le_refl _) gr6
        have hr6 : RpRow w6 w.heap.size v6 (E ++ [⟨⟨1, tt, (b0, b1, b2, b3), 0, 0, 0, []⟩, .slice none 0 0⟩]) := (HROW3.out.new ((Only.refl _ _).alloc _)).app (World.ownsRow_nil _ _ _ _) rfl own6 gr6
        have hm6 : AMap w6 w.heap.size (putL C (b0, b1, b2, b3) (0 + 1)) := by
          have h3 : AMap (W3.alloc (.cells (rrC ⟨⟨1, tt, (b0, b1, b2, b3), 0, 0, 0, []⟩, .slice none 0 0⟩).toArray 46)) w.heap.size (putL C (b0, b1, b2, b3) (0 + 1)) := HM3.out.kept ((Only.refl (fun _ => False) _).alloc _) id
          refine h3.at (gr6.block _ h3.lt (fun e => ?_))
          obtain ⟨_, _, cs, f, hcs⟩ := ownKind (ownsAl HROW3.out.row (.cells (rrC ⟨⟨1, tt, (b0, b1, b2, b3), 0, 0, 0, []⟩, .slice none 0 0⟩).toArray 46)) e.symm
          obtain ⟨es, c, h1, _⟩ := h3.own
          rw [h1] at hcs
          cases hcs
        have HO6 := Lib.hid ho6
        have HR6 := Lib.hid hr6
        have HM6 := Lib.hid hm6
        clear ho6 hr6 hm6
        clear own6 gr6
        go_wp2_with fail
        go_roundg (L.length - (k + 1))
        case measure => rw [Hg.out]; omega
        case rel => exact ⟨k + 1, _, _, by go_num, by omega, HO6.out, HR6.out, by rw [HAD.out, List.map_append, HE.out]; rfl, HM6.out, by rw [HSN.out]; exact HSE.out, rfl⟩
    · -- end
      have hlt' : ¬ (k : Int) < (L.length : Int) := by omega
      rw [List.take_of_length_le (by omega)] at hE
      have HO := Lib.hid ho
      have HROW := Lib.hid hrow
      have HE := Lib.hid hE
      clear ho hrow hE
      clear hmap hseen
      go_wp2_with fail
      go_ret
      exact ⟨_, E, rfl, HO.out, HROW.out, HE.out⟩
end Go.Proofs.YtbdfijgejkimnaaGreatDoor
