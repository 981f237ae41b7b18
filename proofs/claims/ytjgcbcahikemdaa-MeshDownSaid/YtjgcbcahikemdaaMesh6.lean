/- Ways of a mesh on which nothing is on its way. -/
import Derived.Test.YtjgcbcahikemdaaMesh5
import Derived.Maps.RangeWalk
namespace Go.Proofs.Ytjgcbcahikemdaa
open Go.Conc Go.RowKit Go.Maps
open Go.ChangeMaps (rising_of_pairwise)

/-- What comes out of a range over a map is one of its entries. -/
theorem MapIs.entry {α β : Type} {P : Program} {k : TypeId} {κ : α → Value} {ε : β → Value} {w : World} {b : Nat} {L : List (α × β)} (h : MapIs P k κ ε w b L) (K : Keyed P k) (hκ : ∀ a b, κ a = κ b → a = b) {x c : Value} {kl : Lit} (hkey : keyOf P k x = some kl) (hat : ∀ zd, (mapD P k κ ε L).atKey kl zd = .held c) : ∃ p ∈ L, x = κ p.1 ∧ c = ε p.2 := by
  have ha := WideShapes.atKey_sorted (L.map (entL P k κ ε)) (rising_of_pairwise _ (sorted_sorted K.one _ h.kinds (h.ents K hκ))) kl (K.key hkey)
  by_cases hex : ∃ p ∈ L, keyL P k κ p.1 = kl
  · obtain ⟨p, hp, e⟩ := hex
    have e1 := ha.2 (entL P k κ ε p) (List.mem_map.2 ⟨_, hp, rfl⟩) e .nil
    have e2 := hat .nil
    obtain ⟨l, hl⟩ := h.keys p hp
    have e3 := keyL_of hl
    rw [e] at e3
    subst e3
    exact ⟨p, hp, K.inj hkey hl, DataW.held.inj (e2.symm.trans e1)⟩
  · have e1 := ha.1 (fun q hq => by
      obtain ⟨p, hp, rfl⟩ := List.mem_map.1 hq
      exact fun e => hex ⟨p, hp, e⟩) .nil
    have e2 := hat .nil
    cases e2.symm.trans e1
theorem ranges_at {P : Program} {k : TypeId} {R : Value → Option (DataW Value × List MemPlace)} {b r n : Nat} {D : DataW Value} {left : Lit → Bool} {cnt : Nat} {w w' : World} (h : w.ranges P k R b r n D left cnt) (ho : Only (fun _ => False) w w') : w'.ranges P k R b r n D left cnt := by
  have hb := h.owns.lt
  have hr := h.lt
  unfold World.ranges at *
  rw [ho.block b hb id, ho.block r hr id]
  exact h
set_option maxRecDepth 100000 in
set_option maxHeartbeats 1000000 in
theorem mways_none (w : World) (m lb pb : Nat) (lv : List Int) (L : PMap) (h : MeshAt w m lb pb lv L) (hG : ∀ x y, getM L x y = []) : Calls Try.prog 38 #[.pointer (some ⟨m, 0, none⟩)] w fun e w' => e = .returned (.slice none 0 0) ∧ Only (fun _ => False) w w' := by
  have c1 : w.cell? ⟨m, 1, none⟩ = some (.map (some pb)) := cell_at h.blk 1
  have HM := Lib.hid h
  have HG := Lib.hid hG
  have HE := Lib.hid (fun x c kl => h.pipes.entry wayKeyed wayInj (x := x) (c := c) (kl := kl))
  have hown := h.pipes.own
  clear h hG
  go_enter Try.func38, Try.ntmps38
  go_wp2_with (first
    | (at_range; refine wpList_range_own _ rfl _ 103 rfl 108 106 wayKeyed Try.underlying103 _ pb _ _ rfl hown ?_; intro w0 hrg0 hg0 hs0)
    | fail)
  go_frame
  have ho0 := (Only.refl (fun _ => False) w).grown hg0 (fun k hk => by cases hk)
  clear c1 hown
  go_loopw [3] (fun v3 wr => v3 = .slice none 0 0 ∧ ∃ (left : Lit → Bool) (cnt : Nat), wr.ranges Try.prog 108 heldE pb w.heap.size L.length (mapD Try.prog 108 wayV ptrV L) left cnt ∧ Only (fun _ => False) w wr)
    (fun _ wr => wr.rangeLeft pb w.heap.size)
  case atStart => exact ⟨rfl, _, _, hrg0, ho0⟩
  case round =>
    obtain ⟨rfl, left, cnt, hrg, hgw⟩ := hrel
    clear hrg0 hg0 hs0 ho0
    go_wp2_with (first
      | (at_next; refine wpList_next_ranges _ rfl _ rfl 108 wayKeyed heldE (fun v => v) (fun v => v) (fun key kl _ => ⟨key, rfl⟩) (fun v y _ => ⟨v, rfl⟩) pb w.heap.size _ _ _ _ rfl hrg ?_ ?_)
      | fail)
    · intro _ _
      clear hrg
      go_wp2_with fail
      refine (sortW_nil _ _).mono ?_
      rintro e w' ⟨rfl, rfl⟩
      go_wp2_with fail
      go_ret
      exact ⟨rfl, hgw⟩
    · intro x c kl yd yp w1 cnt1 hkey hlk hR hat hrg1 hlt hg1 hs1 hen
      have hy : yd = .held c := by
        unfold heldE at hR
        exact (Prod.mk.inj (Option.some.inj hR)).1.symm
      subst hy
      obtain ⟨⟨⟨a, b⟩, o⟩, hp, rfl, rfl⟩ := HE.out x c kl hkey hat
      obtain ⟨d, e, hpp, _⟩ := HM.out.pipe _ hp
      simp only at e
      subst e
      have hG := HG.out a b
      have hdl : d.l = [] := by
        have := lookL_of_mem HM.out.pipes.apart hp
        unfold getM at hG
        rw [this] at hG
        exact hG
      have hgw1 := hgw.grown hg1 (fun k hk => by cases hk; exact Or.inl (Nat.le_refl _))
      have HPP := Lib.hid hpp
      have HW1 := Lib.hid hgw1
      have HR1 := Lib.hid hrg1
      have HR0 := Lib.hid hrg
      have HLT := Lib.hid hlt
      clear hgw1 hrg1 hrg hlt
      clear hp hG hgw hkey hlk hR hat hg1
      simp only [wayV, ptrV] at hen ⊢
      have hpp0 : PipeAt w d.p d.c [] := by
        have h1 := HPP.out
        rw [hdl] at h1
        exact h1
      have HL := Lib.hid (fun w' (ho : Only (fun _ => False) w w') => len_n w' d.p d.c [] 0 (hpp0.kept ho id id) rfl)
      clear hpp hdl hpp0 HPP
      go_wp2_with fail
      obtain ⟨w2, hw2⟩ : ∃ w2, w2 = w1.alloc (.cells #[.int .i64 a, .int .i64 b] 108) := ⟨_, rfl⟩
      have ho2 : Only (fun _ => False) w1 w2 := by
        rw [hw2]
        exact (Only.refl (fun _ => False) w1).alloc _
      rw [← hw2]
      clear hw2
      have HO2 := Lib.hid ho2
      clear ho2
      refine (HL.out w2 (HW1.out.trans HO2.out)).mono ?_
      rintro e w' ⟨rfl, rfl⟩
      clear hen
      go_wp2_with fail
      have hr2 := ranges_at HR1.out HO2.out
      go_roundw
      case rel => exact ⟨rfl, _, _, hr2, HW1.out.trans HO2.out⟩
      case measure => rw [hr2.left_eq, HR0.out.left_eq]; exact HLT.out
end Go.Proofs.Ytjgcbcahikemdaa
