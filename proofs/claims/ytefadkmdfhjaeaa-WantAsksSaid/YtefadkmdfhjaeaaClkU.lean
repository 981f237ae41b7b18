/- A clock: what its steps leave. -/
import Derived.Test.YtefadkmdfhjaeaaClk8
import Derived.Test.YtefadkmdfhjaeaaStr
namespace Go.Proofs.Ytefadkmdfhjaeaa
open Go.Conc Go.RowKit

theorem new_clk (w : World) (m : Int) : Calls Try.prog 18 #[.int .i64 m] w fun e w' => e = .returned (.pointer (some ⟨w.heap.size + 1, 0, none⟩)) ∧ Only (fun _ => False) w w' ∧ ClkIs w' (w.heap.size + 1) w.heap.size (min (max m 0) 64) 0 [] := by
  refine (newClock_any w m).mono ?_
  rintro e w' ⟨rfl, rfl⟩
  refine ⟨rfl, ((Only.refl _ _).alloc _).alloc _, ?_, ?_⟩
  · have := heap_alloc_new (w.alloc (.map #[] 0)) (.cells #[.map (some w.heap.size), .int .i64 (min (max m 0) 64), .int .i64 0] 92)
    simpa using this
  · refine MapIs.empty ?_
    exact ((Only.refl (fun _ => False) (w.alloc (.map #[] 0))).alloc _).old (heap_alloc_new w _) id
/-- What Set leaves. -/
structure SetDone (w : World) (c b : Nat) (most cnt : Int) (L : List (ByteArray × (Int × Int))) (w' : World) : Prop where
  only : Only (fun i => i = c ∨ i = b) w w'
  clk : ClkIs w' c b most cnt L
theorem set_yes {w : World} {c b : Nat} {most cnt : Int} {L : List (ByteArray × (Int × Int))} {k : ByteArray} {a : Int} {w' : World} (h : SetPost w c b most cnt L k a w') (hk : okSet most L k = true) : SetDone w c b most (cnt + 1) (putL L k (a, cnt + 1)) w' := by
  have := h.2
  rw [hk] at this
  exact ⟨h.1, this⟩
theorem set_no {w : World} {c b : Nat} {most cnt : Int} {L : List (ByteArray × (Int × Int))} {k : ByteArray} {a : Int} {w' : World} (h : SetPost w c b most cnt L k a w') (hk : okSet most L k = false) : SetDone w c b most cnt L w' := by
  have := h.2
  rw [hk] at this
  exact ⟨h.1, this⟩
theorem due_mem {L : List (ByteArray × (Int × Int))} {f : ByteArray × (Int × Int) → Bool} {out : List ByteArray} (hp : out.Perm ((L.filter f).map (·.1))) : ∀ x ∈ out, ∃ v, (x, v) ∈ L := by
  intro x hx
  obtain ⟨p, hp, e⟩ := List.mem_map.1 (hp.mem_iff.1 hx)
  exact ⟨p.2, by rw [← e]; exact (List.mem_filter.1 hp).1⟩
end Go.Proofs.Ytefadkmdfhjaeaa
