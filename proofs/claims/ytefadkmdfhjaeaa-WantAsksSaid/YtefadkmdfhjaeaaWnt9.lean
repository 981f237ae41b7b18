/- One key alone is wanted: what Heard and Due do to it. -/
import Derived.Test.YtefadkmdfhjaeaaWnt8
namespace Go.Proofs.Ytefadkmdfhjaeaa
open Go.Conc Go.RowKit Go.Maps

theorem DRun.none {at_ : Int} {L L' : List EntW} {C C' : List (ByteArray × (Int × Int))} {cnt cnt' : Int} {D : List ByteArray} {A : List AskT} (h : DRun at_ L C cnt D A L' C' cnt') (hD : D = []) : A = [] ∧ L' = L ∧ C' = C ∧ cnt' = cnt := by
  cases h with
  | nil => exact ⟨rfl, rfl, rfl, rfl⟩
  | drop => simp at hD
  | keep => simp at hD
theorem findW_one (e : EntW) : findW [e] e.key = some e := by simp [findW]
theorem putW_one (e e' : EntW) (h : e'.key = e.key) : putW [e] e' = [e'] := by simp [putW, dropW, h]
theorem dropW_one (e : EntW) : dropW [e] e.key = [] := by simp [dropW]
theorem DRun.one {at_ : Int} {e : EntW} {L' : List EntW} {C C' : List (ByteArray × (Int × Int))} {cnt cnt' : Int} {D : List ByteArray} {A : List AskT} {h0 : Int} {t : List Int} (h : DRun at_ [e] C cnt D A L' C' cnt') (hD : D = [e.key]) (he : e.has = h0 :: t) :
    A = [⟨h0, e.key, e.ver⟩] ∧ ((t = [] ∧ L' = [] ∧ C' = C ∧ cnt' = cnt) ∨ (t ≠ [] ∧ (∃ a cap, L' = [⟨e.key, e.ver, t, a, cap⟩]) ∧ C' = C ++ [(e.key, (at_, cnt + 1))] ∧ cnt' = cnt + 1)) := by
  cases h with
  | nil => simp at hD
  | @drop D0 A0 L1 C1 cnt1 y e1 h1 hr hf hh =>
    obtain ⟨rfl, hy⟩ : D0 = [] ∧ y = e.key := by
      cases D0 with
      | nil => exact ⟨rfl, by simpa using hD⟩
      | cons a l => simp at hD
    subst hy
    obtain ⟨rfl, rfl, rfl, rfl⟩ := hr.none rfl
    rw [findW_one] at hf
    cases hf
    rw [he] at hh
    cases hh
    exact ⟨rfl, .inl ⟨rfl, dropW_one e, rfl, rfl⟩⟩
  | @keep D0 A0 L1 C1 cnt1 y e1 h1 t1 a cap hr hf hh hne =>
    obtain ⟨rfl, hy⟩ : D0 = [] ∧ y = e.key := by
      cases D0 with
      | nil => exact ⟨rfl, by simpa using hD⟩
      | cons a l => simp at hD
    subst hy
    obtain ⟨rfl, rfl, rfl, rfl⟩ := hr.none rfl
    rw [findW_one] at hf
    cases hf
    rw [he] at hh
    cases hh
    exact ⟨rfl, .inr ⟨hne, ⟨a, cap, putW_one e _ rfl⟩, rfl, rfl⟩⟩
theorem HStep.first {cnt cnt' : Int} {L' : List EntW} {C' : List (ByteArray × (Int × Int))} {k : ByteArray} {ver : Nat} {fr at_ : Int} {b : Bool} (h : HStep [] [] cnt L' C' cnt' k ver fr at_ b) (h1 : 1 ≤ fr) (h2 : fr ≤ 65535) : b = true ∧ (∃ a cap, L' = [⟨k, ver, [fr], a, cap⟩]) ∧ C' = [(k, (at_, cnt + 1))] ∧ cnt' = cnt + 1 := by
  rcases h with ⟨_, _, _, _, h | h | ⟨_, h⟩ | ⟨e, h, _⟩⟩ | ⟨rfl, _, _, ⟨_, _, ⟨a, cap, rfl⟩, rfl, rfl⟩ | ⟨e, h, _⟩⟩
  · omega
  · omega
  · simp at h
  · cases h
  · exact ⟨rfl, ⟨a, cap, rfl⟩, rfl, rfl⟩
  · cases h
theorem HStep.again {cnt cnt' : Int} {e : EntW} {L' : List EntW} {C C' : List (ByteArray × (Int × Int))} {fr at_ : Int} {b : Bool} (h : HStep [e] C cnt L' C' cnt' e.key e.ver fr at_ b) (h1 : 1 ≤ fr) (h2 : fr ≤ 65535) (h64 : e.has.length < 64) : b = true ∧ C' = C ∧ cnt' = cnt ∧ ((fr ∈ e.has ∧ L' = [e]) ∨ (fr ∉ e.has ∧ ∃ a cap, L' = [⟨e.key, e.ver, e.has ++ [fr], a, cap⟩])) := by
  have hf := findW_one e
  rcases h with ⟨_, _, _, _, h | h | ⟨h, _⟩ | ⟨e', h, h3 | ⟨_, _, h3⟩⟩⟩ | ⟨rfl, _, _, ⟨h, _⟩ | ⟨e', h, rfl, rfl, ⟨h3, _⟩ | ⟨_, h3, rfl⟩ | ⟨_, h3, _, a, cap, rfl⟩⟩⟩
  · omega
  · omega
  · rw [hf] at h; cases h
  · rw [hf] at h; cases h; omega
  · rw [hf] at h; cases h; omega
  · rw [hf] at h; cases h
  · rw [hf] at h; cases h; omega
  · rw [hf] at h; cases h; exact ⟨rfl, rfl, rfl, .inl ⟨h3, rfl⟩⟩
  · rw [hf] at h; cases h; exact ⟨rfl, rfl, rfl, .inr ⟨h3, a, cap, putW_one e _ rfl⟩⟩
/-- What is due of one key. -/
theorem due_one {k : ByteArray} {t o now : Int} {D : List ByteArray} (h : D.Perm (([(k, (t, o))].filter (fun p => !decide (now < p.2.1))).map (·.1))) : D = if now < t then [] else [k] := by
  by_cases hn : now < t
  · rw [if_pos hn]
    rw [List.filter_cons_of_neg (by simpa using hn)] at h
    exact List.Perm.eq_nil h
  · rw [if_neg hn]
    rw [List.filter_cons_of_pos (by simpa using hn)] at h
    exact List.Perm.eq_singleton h
end Go.Proofs.Ytefadkmdfhjaeaa
