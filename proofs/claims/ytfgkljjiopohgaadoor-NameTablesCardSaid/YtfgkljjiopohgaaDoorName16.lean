/- The walk of the reference's Add. -/
import Derived.Test.YtfgkljjiopohgaaDoorName15
namespace Go.Proofs.YtfgkljjiopohgaaDoor
open Go.Conc Go.RowKit

def tabC (t : RTab) : List Value := t.flatMap fun p => [.string p.1, .int .i64 p.2]
theorem tabC_append (t : RTab) (p : ByteArray × Nat) : tabC (t ++ [p]) = tabC t ++ [.string p.1, .int .i64 p.2] := by simp [tabC]
theorem tabC_length (t : RTab) : (tabC t).length = t.length * 2 := by
  induction t with
  | nil => rfl
  | cons p t ih =>
    show (([.string p.1, .int .i64 p.2] : List Value) ++ tabC t).length = _
    rw [List.length_append, ih]
    simp
    omega
theorem tabC_at : ∀ (t : RTab) (k : Nat) (h : k < t.length), (tabC t)[k * 2]? = some (.string t[k].1) ∧ (tabC t)[k * 2 + 1]? = some (.int .i64 t[k].2) := by
  intro t
  induction t with
  | nil => intro k h; cases h
  | cons p t ih =>
    intro k h
    have e : tabC (p :: t) = ([.string p.1, .int .i64 p.2] : List Value) ++ tabC t := rfl
    cases k with
    | zero => exact ⟨rfl, rfl⟩
    | succ k =>
      have := ih k (by simpa using h)
      rw [e, List.getElem?_append_right (by simp; omega), List.getElem?_append_right (by simp; omega)]
      simp only [List.length_cons, List.length_nil, List.getElem_cons_succ]
      rw [show (k + 1) * 2 - (0 + 1 + 1) = k * 2 by omega, show (k + 1) * 2 + 1 - (0 + 1 + 1) = k * 2 + 1 by omega]
      exact this
theorem tabC_one (t : RTab) : ∀ u ∈ tabC t, u.oneCell' = true := by
  intro u hu
  obtain ⟨p, _, hp⟩ := List.mem_flatMap.1 hu
  simp at hp
  rcases hp with rfl | rfl <;> rfl
theorem infoPlace : (Tryd.prog.info? 71).map (fun i => (i.zero, i.size, i.bytes)) = some (some (.agg #[.string ⟨#[]⟩, .int .i64 0]), 2, 24) := by kernel_rfl
def RAddPost (base : Nat) (w : World) (r : ByteArray × RTab) (e : Ending) (w' : World) : Prop :=
  ∃ v, e = .returned (.tuple #[.string r.1, v]) ∧ Only (fun _ => False) w w' ∧ w'.ownsRow base 71 2 v r.2.length (tabC r.2)
def RangedT (t : RTab) : Prop := ∀ p ∈ t, p.2 < 16384

theorem own_base {w : World} {b c : Nat} {e : TypeId} {size n : Nat} {v : Value} {xs : List Value} (h : w.ownsRow b e size v n xs) (hc : c ≤ b) : w.ownsRow c e size v n xs := by
  refine ⟨h.1, ?_⟩
  rcases h.2 with h2 | ⟨g, cap, cur, rfl, hb, r⟩
  · exact .inl h2
  · exact .inr ⟨g, cap, cur, rfl, Nat.le_trans hc hb, r⟩
set_option maxRecDepth 100000 in
set_option maxHeartbeats 2000000 in
theorem radd_any (base : Nat) (w : World) (tv lv : Value) (t : RTab) (msg : ByteArray) (l : List ByteArray) (hbase : base ≤ w.heap.size) (hto : w.ownsRow base 71 2 tv t.length (tabC t)) (hr : RangedT t) (hl : Sl w 1 lv l.length (l.map .string)) (hs : ∀ s ∈ l, s.size ≤ 70) (hll : l.length ≤ 200) (htl : t.length ≤ 10000) (hm : msg.size ≤ 100000) :
    Calls Tryd.prog 19 #[tv, .string msg, lv] w fun e w' => RAddPost base w (addR t msg l) e w' := by
  obtain ⟨i0, hi0, iz0, iz1, iz2⟩ := info_parts infoPlace
  have Hs := Lib.hid hs
  have HL := Lib.hid hl
  have HT := Lib.hid hto
  have Hr := Lib.hid hr
  obtain ⟨_, a, cap, rfl, h3, h4, h5⟩ := hl
  unfold maxLen at h4
  have H5 := Lib.hid h5
  clear hs hr h5 hto
  go_enter Tryd.func19, Tryd.ntmps19
  go_wp2_with fail
  go_loopg [0, 1, 8, 9, 10] l.length (fun g v0 v1 v8 v9 v10 wx => ∃ (k : Nat) (t' : RTab) (ms : ByteArray), v1 = .string ms ∧ v8 = .int .i64 k ∧ k ≤ l.length ∧ Only (fun _ => False) w wx ∧ wx.ownsRow base 71 2 v0 t'.length (tabC t') ∧ RangedT t' ∧ t'.length ≤ 10000 + k ∧ ms.size ≤ 100000 + 71 * k ∧ addR t msg l = addR t' ms (l.drop k) ∧ g = l.length - k)
  case atStart => exact ⟨0, t, msg, rfl, rfl, Nat.zero_le _, Only.refl _ _, HT.out, Hr.out, htl, hm, rfl, rfl⟩
  case round =>
    obtain ⟨k, t', ms, rfl, rfl, hk, ho, hto, hrt, htl', hms, hR, hg⟩ := hrel
    have HTO := Lib.hid hto
    have hts := Sl.of_owns hto
    clear hto
    have Hg := Lib.hid hg
    have HR := Lib.hid hR
    have Hrt := Lib.hid hrt
    clear hg hR hrt
    by_cases hlt : k < l.length
    · obtain ⟨b, off, ha, hc⟩ := H5.out.resolve_left (by omega)
      subst ha
      have hck : ¬ cap = k := by omega
      have hr0 : Sl wr 1 (.slice (some ⟨b, off + k, none⟩) (l.length - k) (cap - k)) (l.length - k) ((l.drop k).map .string) := by
        have := (HL.out.new ho).drop (lo := k) (by omega)
        rw [Nat.mul_one] at this
        rw [List.map_drop]
        exact this
      have hrest := hr0.cast (show l.length - k = (l.drop k).length by rw [List.length_drop])
      have hone : Sl wr 1 (.slice (some ⟨b, off + k, none⟩) 1 (cap - k)) [l[k]].length ([l[k]].map .string) := by
        have := hr0.take (m := 1) (by omega)
        rw [List.drop_eq_getElem_cons hlt] at this
        exact this
      have hsz := Hs.out _ (List.getElem_mem hlt)
      have hdk : l.drop k = l[k] :: l.drop (k + 1) := List.drop_eq_getElem_cons hlt
      generalize l[k] = s at *
      have HDK := Lib.hid hdk
      clear hdk hc
      go_wp2_with fail
      refine (bytes_any _ _ (l.drop k) hrest (fun x hx => Hs.out x (List.mem_of_mem_drop hx)) (by rw [List.length_drop]; omega)).mono ?_
      rintro e w2 ⟨rfl, ho2⟩
      have hts2 := hts.new ho2
      have ho12 := ho.trans ho2
      have HTS := Lib.hid hts2
      obtain ⟨_, a0, cap0, rfl, g3, g4, g5⟩ := id hts2
      unfold maxLen at g4
      have G5 := Lib.hid g5
      clear g5 hts hts2 hr0
      have hrsz := bytesL_size_cons s (l.drop (k + 1))
      generalize hK : bytesL (l.drop k) = K at *
      have HK := Lib.hid hK
      clear hK hrsz
      go_wp2_with fail
      go_loopg [10] t'.length (fun g v10 wy => ∃ j : Nat, v10 = .int .i64 j ∧ j ≤ t'.length ∧ Only (fun _ => False) w2 wy ∧ look t' K.data.toList = look (t'.drop j) K.data.toList ∧ g = t'.length - j)
      case atStart => exact ⟨0, rfl, Nat.zero_le _, Only.refl _ _, rfl, rfl⟩
      case round =>
        obtain ⟨j, rfl, hj, hoj, hlk, hgj⟩ := hrel
        have Hgj := Lib.hid hgj
        have HLK := Lib.hid hlk
        clear hgj hlk
        by_cases hjl : j < t'.length
        · obtain ⟨b0, off0, ha0, hc0⟩ := G5.out.resolve_left (by omega)
          subst ha0
          obtain ⟨hz1, hz2⟩ := tabC_at t' j hjl
          have hy1 := hoj.cell (hc0 _ _ hz1) id
          have hy2 := hoj.cell (hc0 _ _ hz2) id
          have hdj : t'.drop j = t'[j] :: t'.drop (j + 1) := List.drop_eq_getElem_cons hjl
          have hrj := Hrt.out _ (List.getElem_mem hjl)
          generalize t'[j] = p at *
          have HDJ := Lib.hid hdj
          clear hdj hz1 hz2 hc0
          by_cases hpk : p.1 = K
          · have q1 := str_eq hpk
            have HPK := Lib.hid hpk
            clear hpk
            have hc2 := conv2d
            rw [← Nat.add_assoc] at hy2
            go_wp2_with fail
            have e2 : ∀ x y : Int, (bytesOf [x, y]).size = 2 := fun _ _ => rfl
            have hcat : ¬ (9223372036854775807 < ms.size + 2) := by omega
            go_region
            all_goals (
              go_wp2_with fail
              go_ret2
              have hl : look t' K.data.toList = some (p.2 : Int) := by rw [HLK.out, HDJ.out, look, if_pos (by rw [HPK.out])]
              have hres : addR t msg l = (ms ++ bytesOf [192 + (p.2 : Int) / 256, (p.2 : Int) % 256], t') := by
                rw [HR.out, HDK.out, addR, ← HDK.out, HK.out, hl]
              rw [hres]
              exact ⟨_, rfl, ((ho12.trans hoj).alloc _).drew, owns_only HTO.out ((((ho2.trans hoj).alloc _).drew)) (fun _ _ => id)⟩)
          · have q1 := str_ne hpk
            have HPK := Lib.hid hpk
            clear hpk
            go_wp2_with fail
            go_roundg (t'.length - (j + 1))
            case measure => rw [Hgj.out]; omega
            case rel =>
              refine ⟨j + 1, by go_num, by omega, hoj, ?_, rfl⟩
              rw [HLK.out, HDJ.out, look, if_neg (fun e => HPK.out (str_ext e))]
        · have hln : look t' K.data.toList = none := by rw [HLK.out, List.drop_eq_nil_of_le (by omega)]; rfl
          have HLN := Lib.hid hln
          have hb1 : bytesL [s] = labelB s := str_ext (by simp [bytesL])
          have HB1 := Lib.hid hb1
          have hls := labelB_size s
          clear hln hb1 G5
          by_cases hsm : ms.size < 16384
          · have q1 : decide ((ms.size : Int) < 16384) = true := by simp; omega
            have hres : addR t msg l = addR (t' ++ [(K, ms.size)]) (ms ++ labelB s) (l.drop (k + 1)) := by
              rw [HR.out, HDK.out, addR, ← HDK.out, HK.out, HLN.out]
              dsimp only
              rw [if_pos hsm]
            have HRES := Lib.hid hres
            clear hres
            go_wp2_with (at_builtin; refine Wait.mk ?_)
            refine Wait.go (wpList_append_src _ rfl (.tmp 57) (.tmp 58) 42 42 rfl wr.heap.size 71 i0 _ 2 24 Tryd.underlying42 hi0 iz0 iz1 iz2 rfl _ 0 [] rfl (owns_empty wr 71 2) _ t'.length (tabC t') rfl ?src4 ?m4 ?b4 ?base4 ?_)
            case src4 => exact ((HTS.out.new hoj).new ((Only.refl _ _).alloc _)).src Tryd.underlying42 (tabC_one t')
            case m4 => unfold maxLen; omega
            case b4 => omega
            case base4 => simp
            intro v1 w5 own1 gr1 hv1
            simp only [Nat.zero_add, List.nil_append] at own1
            have hgr1 : Only (fun _ => False) wr w5 := ((Only.refl (fun _ => False) wr).alloc _).own (owns_empty wr 71 2) (Nat.le_refl _) gr1
            go_wp2_with (at_builtin; refine Wait.mk ?_)
            refine Wait.go (wpList_append_src _ rfl (.tmp 59) (.tmp 64) 42 42 rfl wr.heap.size 71 i0 _ 2 24 Tryd.underlying42 hi0 iz0 iz1 iz2 rfl v1 t'.length (tabC t') rfl (own1.alloc _) _ 1 [.string K, .int .i64 (ms.size : Int)] rfl ?src5 ?m5 ?b5 ?base5 ?_)
            case src5 => exact Src.ofSlice _ Tryd.underlying42 _ _ _ _ rfl (news_new _ _ _) (tabC_one [(K, ms.size)])
            case m5 => unfold maxLen; omega
            case b5 => omega
            case base5 => have := hgr1.size; simp; omega
            intro v2 w6 own2 gr2 hv2
            have hgr2 : Only (fun _ => False) wr w6 := (hgr1.alloc _).own (own1.alloc _) (Nat.le_refl _) gr2
            have own3 : w6.ownsRow wr.heap.size 71 2 v2 (t' ++ [(K, ms.size)]).length (tabC (t' ++ [(K, ms.size)])) := by
              rw [tabC_append, List.length_append]
              exact own2
            clear own1 own2 gr1 gr2
            go_wp2_with fail
            refine (bytes_any _ _ [s] (hone.new ((ho2.trans hoj).trans hgr2)) (by simpa using hsz) (by simp)).mono ?_
            rintro e w7 ⟨rfl, ho7⟩
            rw [HB1.out]
            go_wp2_with fail
            go_roundg (l.length - (k + 1))
            case measure => rw [Hg.out]; omega
            case rel =>
              refine ⟨k + 1, t' ++ [(K, ms.size)], ms ++ labelB s, rfl, by go_num, by omega, ((ho12.trans hoj).trans hgr2).trans ho7, owns_only (own_base own3 (by have := ho2.size; have := ho.size; have := hoj.size; omega)) ho7 (fun _ _ => id), ?_, by rw [List.length_append]; simp; omega, by rw [ByteArray.size_append]; omega, HRES.out, rfl⟩
              intro p hp
              rcases List.mem_append.1 hp with hp | hp
              · exact Hrt.out p hp
              · rw [List.mem_singleton] at hp
                rw [hp]
                exact hsm
          · have q1 : decide ((ms.size : Int) < 16384) = false := by simp; omega
            have hres : addR t msg l = addR t' (ms ++ labelB s) (l.drop (k + 1)) := by
              rw [HR.out, HDK.out, addR, ← HDK.out, HK.out, HLN.out]
              dsimp only
              rw [if_neg hsm]
            have HRES := Lib.hid hres
            clear hres hsm
            go_wp2_with fail
            refine (bytes_any _ _ [s] (hone.new (ho2.trans hoj)) (by simpa using hsz) (by simp)).mono ?_
            rintro e w5 ⟨rfl, ho5⟩
            rw [HB1.out]
            go_wp2_with fail
            go_roundg (l.length - (k + 1))
            case measure => rw [Hg.out]; omega
            case rel => exact ⟨k + 1, t', ms ++ labelB s, rfl, by go_num, by omega, (ho12.trans hoj).trans ho5, owns_only HTO.out (ho2.trans (hoj.trans ho5)) (fun _ _ => id), Hrt.out, by omega, by rw [ByteArray.size_append]; omega, HRES.out, rfl⟩
    · have hd : addR t msg l = (ms ++ ⟨#[0]⟩, t') := by rw [HR.out, List.drop_eq_nil_of_le (by omega)]; rfl
      have HD := Lib.hid hd
      clear hd
      go_wp2_with fail
      go_ret2
      rw [HD.out]
      exact ⟨_, rfl, ho, HTO.out⟩
end Go.Proofs.YtfgkljjiopohgaaDoor
