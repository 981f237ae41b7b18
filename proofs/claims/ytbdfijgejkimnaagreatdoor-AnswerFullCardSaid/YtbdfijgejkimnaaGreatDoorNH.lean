/- The reference's Good and Data. -/
import Derived.Test.YtbdfijgejkimnaaGreatDoorNG
import Derived.Deep.RegionHeld3
import Derived.Test.YtbdfijgejkimnaaGreatDoorNE
import Derived.RegionTactic
import Derived.Test.YtbdfijgejkimnaaGreatDoorNB
import Derived.Test.YtbdfijgejkimnaaGreatDoorND
/-! The reference's Data. -/
namespace Go.Proofs.YtbdfijgejkimnaaGreatDoor
open Go.Conc Go.RowKit

/-- A service's data, as the reference puts it together. -/
def refD (a0 a1 a2 a3 : Int) (p q r : Nat) : ByteArray := bytesOf [a0, a1, a2, a3] ++ twoB p ++ twoB q ++ twoB r
theorem wpAnyH_more {P : Program} {ops : Array Oper} {Q : Exit → Act → World → Prop} {md : Region.Mode} {S S' : World → Prop} (hS : ∀ w, S' w → S w) : ∀ (fuel : Nat) (listed : Array Bool) (a : Act) (w : World), wpAnyH P md ops Q S' fuel listed a w → wpAnyH P md ops Q S fuel listed a w
  | 0, _, _, _, h => h
  | fuel + 1, _, _, _, h => ⟨h.1, fun i hi => wpOp_mono (fun a' w' h' => ⟨hS w' h'.1, wpAnyH_more hS fuel _ a' w' h'.2⟩) (h.2 i hi)⟩
theorem reflOf {w w' : World} (_ : Only (fun _ => False) w w') : Only (fun _ => False) w' w' := Only.refl _ _
theorem cvS {W' w' : World} {B : Nat} {x y z u : Int} (hB : B = W'.heap.size) (ho : Only (fun _ => False) (W'.alloc (.cells #[.int .u8 x, .int .u8 y, .int .u8 z, .int .u8 u] 5)).drew w') : (convert 61 9 (.slice (some ⟨B, 0, none⟩) 4 4)).run Tryz.prog w' = .ok (.string (bytesOf [x, y, z, u])) w' := by
  subst hB
  have h := Sl.fresh W' ([x, y, z, u].map (.int .u8)) 5 4 1 rfl (by unfold maxLen; decide)
  exact run_bytes_str (P := Tryz.prog) (src := 61) (dst := 9) (e := 5) (ns := [x, y, z, u]) Tryz.underlying61 Tryz.underlying5 Tryz.underlying9 (h.new (Only.trans ((Only.refl _ _).drew) ho))
set_option maxRecDepth 100000 in
set_option maxHeartbeats 4000000 in
theorem rdata_any (w : World) (a0 a1 a2 a3 : Int) (p q r : Nat) (hp : p < 65536) (hq : q < 65536) (hr : r < 65536) :
    Calls Tryz.prog 20 #[.agg #[.int .u8 a0, .int .u8 a1, .int .u8 a2, .int .u8 a3], .int .u16 p, .int .u16 q, .int .u16 r] w fun e w' => e = .returned (.string (refD a0 a1 a2 a3 p q r)) ∧ Only (fun _ => False) w w' := by
  have h2 := two_any
  have H2 := Lib.hid h2
  have e2 : ∀ p : Nat, (twoB p).size = 2 := fun _ => rfl
  have e4 : ∀ x y z u : Int, (bytesOf [x, y, z, u]).size = 4 := fun _ _ _ _ => rfl
  clear h2
  obtain ⟨W, hW⟩ : ∃ W, W = w.alloc (.cells #[.int .u8 a0, .int .u8 a1, .int .u8 a2, .int .u8 a3] 44) := ⟨_, rfl⟩
  have hb : W.heap[w.heap.size]? = some (.cells #[.int .u8 a0, .int .u8 a1, .int .u8 a2, .int .u8 a3] 44 (0, 0)) := by rw [hW]; exact heap_alloc_new w _
  have hWo : Only (fun _ => False) w W := by rw [hW]; exact (Only.refl _ _).alloc _
  have HWO := Lib.hid hWo
  have HB := Lib.hid hb
  clear hb hWo
  go_enter Tryz.func20, Tryz.ntmps20
  go_upto_region 1 with (fail)
  rw [← hW]
  have c0 : W.cell? ⟨w.heap.size, 0, none⟩ = some (.int .u8 a0) := cell_at HB.out 0
  have c1 : W.cell? ⟨w.heap.size, 1, none⟩ = some (.int .u8 a1) := cell_at HB.out 1
  have c2 : W.cell? ⟨w.heap.size, 2, none⟩ = some (.int .u8 a2) := cell_at HB.out 2
  have c3 : W.cell? ⟨w.heap.size, 3, none⟩ = some (.int .u8 a3) := cell_at HB.out 3
  have hlt := lt_of_block HB.out
  have hlt := lt_of_block HB.out
  clear hW
  generalize w.heap.size = B at *
  have n0 : ¬ (B = W.heap.size) := by omega
  have n1 : ¬ (B = W.heap.size + 1) := by omega
  have n2 : ¬ (B = W.heap.size + 1 + 1) := by omega
  have n3 : ¬ (B = W.heap.size + 1 + 1 + 1) := by omega
  refine wp_region_held_drew (S := fun w' => Only (fun _ => False) W w') (by kernel_rfl) ((Only.refl _ _).drew) (fun hHeld => ?_)
  refine wpAnyH_take (i := 0) (oi := { dst := some 9, op := Op.indexAddr 44 (Operand.tmp 4) (Operand.const (Value.int IntKind.i64 0)), type := 0, pos := "ref.go:40", after := #[], guard := none }) (v := ?v1) rfl (by kernel_rfl) (by kernel_rfl) (by kernel_rfl) (fun _ _ _ h => h) (Or.inl ⟨by rfl, ?hy1⟩) hHeld ?rest1
  case hy1 =>
    intro w hSw
    go_simp
    try with_reducible rfl
  try simp only [Act.put, List.setIfInBounds_toArray, List.set_cons_zero, List.set_cons_succ]
  refine wpAnyH_take (i := 1) (oi := { dst := some 10, op := Op.load 5 (Operand.tmp 9), type := 5, pos := "ref.go:40", after := #[{ on := 0, ground := Ground.data }], guard := none }) (v := ?v2) rfl (by kernel_rfl) (by kernel_rfl) (by kernel_rfl) (fun _ _ _ h => h) (Or.inl ⟨by rfl, ?hy2⟩) hHeld ?rest2
  case hy2 =>
    intro w hSw
    try dsimp only at hSw
    have d0 := hSw.cell c0 id
    have d1 := hSw.cell c1 id
    have d2 := hSw.cell c2 id
    have d3 := hSw.cell c3 id
    go_simp
    try with_reducible rfl
  try simp only [Act.put, List.setIfInBounds_toArray, List.set_cons_zero, List.set_cons_succ]
  refine wpAnyH_take (i := 2) (oi := { dst := some 11, op := Op.indexAddr 44 (Operand.tmp 4) (Operand.const (Value.int IntKind.i64 1)), type := 0, pos := "ref.go:40", after := #[], guard := none }) (v := ?v3) rfl (by kernel_rfl) (by kernel_rfl) (by kernel_rfl) (fun _ _ _ h => h) (Or.inl ⟨by rfl, ?hy3⟩) hHeld ?rest3
  case hy3 =>
    intro w hSw
    go_simp
    try with_reducible rfl
  try simp only [Act.put, List.setIfInBounds_toArray, List.set_cons_zero, List.set_cons_succ]
  refine wpAnyH_take (i := 3) (oi := { dst := some 12, op := Op.load 5 (Operand.tmp 11), type := 5, pos := "ref.go:40", after := #[{ on := 2, ground := Ground.data }], guard := none }) (v := ?v4) rfl (by kernel_rfl) (by kernel_rfl) (by kernel_rfl) (fun _ _ _ h => h) (Or.inl ⟨by rfl, ?hy4⟩) hHeld ?rest4
  case hy4 =>
    intro w hSw
    try dsimp only at hSw
    have d0 := hSw.cell c0 id
    have d1 := hSw.cell c1 id
    have d2 := hSw.cell c2 id
    have d3 := hSw.cell c3 id
    go_simp
    try with_reducible rfl
  try simp only [Act.put, List.setIfInBounds_toArray, List.set_cons_zero, List.set_cons_succ]
  refine wpAnyH_take (i := 4) (oi := { dst := some 13, op := Op.indexAddr 44 (Operand.tmp 4) (Operand.const (Value.int IntKind.i64 2)), type := 0, pos := "ref.go:40", after := #[], guard := none }) (v := ?v5) rfl (by kernel_rfl) (by kernel_rfl) (by kernel_rfl) (fun _ _ _ h => h) (Or.inl ⟨by rfl, ?hy5⟩) hHeld ?rest5
  case hy5 =>
    intro w hSw
    go_simp
    try with_reducible rfl
  try simp only [Act.put, List.setIfInBounds_toArray, List.set_cons_zero, List.set_cons_succ]
  refine wpAnyH_take (i := 5) (oi := { dst := some 14, op := Op.load 5 (Operand.tmp 13), type := 5, pos := "ref.go:40", after := #[{ on := 4, ground := Ground.data }], guard := none }) (v := ?v6) rfl (by kernel_rfl) (by kernel_rfl) (by kernel_rfl) (fun _ _ _ h => h) (Or.inl ⟨by rfl, ?hy6⟩) hHeld ?rest6
  case hy6 =>
    intro w hSw
    try dsimp only at hSw
    have d0 := hSw.cell c0 id
    have d1 := hSw.cell c1 id
    have d2 := hSw.cell c2 id
    have d3 := hSw.cell c3 id
    go_simp
    try with_reducible rfl
  try simp only [Act.put, List.setIfInBounds_toArray, List.set_cons_zero, List.set_cons_succ]
  refine wpAnyH_take (i := 6) (oi := { dst := some 15, op := Op.indexAddr 44 (Operand.tmp 4) (Operand.const (Value.int IntKind.i64 3)), type := 0, pos := "ref.go:40", after := #[], guard := none }) (v := ?v7) rfl (by kernel_rfl) (by kernel_rfl) (by kernel_rfl) (fun _ _ _ h => h) (Or.inl ⟨by rfl, ?hy7⟩) hHeld ?rest7
  case hy7 =>
    intro w hSw
    go_simp
    try with_reducible rfl
  try simp only [Act.put, List.setIfInBounds_toArray, List.set_cons_zero, List.set_cons_succ]
  refine wpAnyH_take (i := 7) (oi := { dst := some 16, op := Op.load 5 (Operand.tmp 15), type := 5, pos := "ref.go:40", after := #[{ on := 6, ground := Ground.data }], guard := none }) (v := ?v8) rfl (by kernel_rfl) (by kernel_rfl) (by kernel_rfl) (fun _ _ _ h => h) (Or.inl ⟨by rfl, ?hy8⟩) hHeld ?rest8
  case hy8 =>
    intro w hSw
    try dsimp only at hSw
    have d0 := hSw.cell c0 id
    have d1 := hSw.cell c1 id
    have d2 := hSw.cell c2 id
    have d3 := hSw.cell c3 id
    go_simp
    try with_reducible rfl
  try simp only [Act.put, List.setIfInBounds_toArray, List.set_cons_zero, List.set_cons_succ]
  refine wpAnyH_take (i := 10) (oi := { dst := some 19, op := Op.move (Operand.tmp 1), type := 35, pos := "ref.go:40", after := #[], guard := none }) (v := ?v9) rfl (by kernel_rfl) (by kernel_rfl) (by kernel_rfl) (fun _ _ _ h => h) (Or.inl ⟨by rfl, ?hy9⟩) hHeld ?rest9
  case hy9 =>
    intro w hSw
    go_simp
    try with_reducible rfl
  try simp only [Act.put, List.setIfInBounds_toArray, List.set_cons_zero, List.set_cons_succ]
  refine wpAnyH_take (i := 13) (oi := { dst := some 22, op := Op.move (Operand.tmp 2), type := 35, pos := "ref.go:40", after := #[], guard := none }) (v := ?v10) rfl (by kernel_rfl) (by kernel_rfl) (by kernel_rfl) (fun _ _ _ h => h) (Or.inl ⟨by rfl, ?hy10⟩) hHeld ?rest10
  case hy10 =>
    intro w hSw
    go_simp
    try with_reducible rfl
  try simp only [Act.put, List.setIfInBounds_toArray, List.set_cons_zero, List.set_cons_succ]
  refine wpAnyH_take (i := 16) (oi := { dst := some 25, op := Op.move (Operand.tmp 3), type := 35, pos := "ref.go:40", after := #[], guard := none }) (v := ?v11) rfl (by kernel_rfl) (by kernel_rfl) (by kernel_rfl) (fun _ _ _ h => h) (Or.inl ⟨by rfl, ?hy11⟩) hHeld ?rest11
  case hy11 =>
    intro w hSw
    go_simp
    try with_reducible rfl
  try simp only [Act.put, List.setIfInBounds_toArray, List.set_cons_zero, List.set_cons_succ]
  refine wpAnyH_ready (rs := [8, 11]) (by kernel_rfl) (by simp) ?_
  refine AllReadyH.cons (o := { dst := some 17, op := Op.buildSlice 61 4 #[(0, Operand.tmp 10), (1, Operand.tmp 12), (2, Operand.tmp 14), (3, Operand.tmp 16)], type := 61, pos := "ref.go:40", after := #[{ on := 1, ground := Ground.data }, { on := 3, ground := Ground.data }, { on := 5, ground := Ground.data }, { on := 7, ground := Ground.data }], guard := none }) rfl (fun K hK => ?_) ?_
  ·
    go_simp
    refine hK.out _ _ (hHeld.alloc _) (fun hNew => ?_)
    clear hK K hHeld
    have hHeld := hNew
    clear hNew
    try simp only [Act.put, List.setIfInBounds_toArray, List.set_cons_zero, List.set_cons_succ]
    refine wpAnyH_more (fun w' h => Only.trans hHeld h) _ _ _ _ ?_
    have HM := Lib.hid hHeld
    clear hHeld
    refine wpAnyH_take (i := 9) (oi := { dst := some 18, op := Op.convert 61 9 (Operand.tmp 17), type := 9, pos := "ref.go:40", after := #[{ on := 8, ground := Ground.data }], guard := none }) (v := ?v12) rfl (by kernel_rfl) (by kernel_rfl) (by kernel_rfl) (fun _ _ _ h => h) (Or.inl ⟨by rfl, ?hy12⟩) (Only.refl _ _) ?rest12
    case hy12 =>
      intro w hSw
      try dsimp only at hSw
      have hcv := cvS (B := W.heap.size) (by simp) hSw
      go_simp
      try with_reducible rfl
    try simp only [Act.put, List.setIfInBounds_toArray, List.set_cons_zero, List.set_cons_succ]
    have hHeld := reflOf HM.out
    refine wpAnyH_ready (rs := [11]) (by kernel_rfl) (by simp) ?_
    refine AllReadyH.cons (o := { dst := some 20, op := Op.call { callee := Callee.value (Operand.func 48), args := #[Operand.tmp 19], argTypes := #[35] }, type := 9, pos := "ref.go:40", after := #[{ on := 10, ground := Ground.data }], guard := none }) rfl (fun K hK => ?_) ?_
    ·
      go_simp
      with_reducible refine (H2.out _ _ (by assumption)).mono ?_
      rintro e w2 ⟨rfl, rfl⟩
      go_wp2_with fail
      refine hK.out _ _ (hHeld.alloc _) (fun hNew => ?_)
      clear hK K hHeld
      have hHeld := hNew
      clear hNew
      try simp only [Act.put, List.setIfInBounds_toArray, List.set_cons_zero, List.set_cons_succ]
      refine wpAnyH_take (i := 12) (oi := { dst := some 21, op := Op.binOp BinOp.add 9 (Operand.tmp 18) (Operand.tmp 20) 9, type := 9, pos := "ref.go:40", after := #[{ on := 9, ground := Ground.data }, { on := 11, ground := Ground.data }], guard := none }) (v := ?v13) rfl (by kernel_rfl) (by kernel_rfl) (by kernel_rfl) (fun _ _ _ h => h) (Or.inl ⟨by rfl, ?hy13⟩) hHeld ?rest13
      case hy13 =>
        intro w hSw
        go_simp
        try with_reducible rfl
      try simp only [Act.put, List.setIfInBounds_toArray, List.set_cons_zero, List.set_cons_succ]
      refine wpAnyH_ready (rs := [14]) (by kernel_rfl) (by simp) ?_
      refine AllReadyH.cons (o := { dst := some 23, op := Op.call { callee := Callee.value (Operand.func 48), args := #[Operand.tmp 22], argTypes := #[35] }, type := 9, pos := "ref.go:40", after := #[{ on := 13, ground := Ground.data }, { on := 11, ground := Ground.chain }], guard := none }) rfl (fun K hK => ?_) ?_
      ·
        go_simp
        with_reducible refine (H2.out _ _ (by assumption)).mono ?_
        rintro e w2 ⟨rfl, rfl⟩
        go_wp2_with fail
        refine hK.out _ _ (hHeld.alloc _) (fun hNew => ?_)
        clear hK K hHeld
        have hHeld := hNew
        clear hNew
        try simp only [Act.put, List.setIfInBounds_toArray, List.set_cons_zero, List.set_cons_succ]
        refine wpAnyH_take (i := 15) (oi := { dst := some 24, op := Op.binOp BinOp.add 9 (Operand.tmp 21) (Operand.tmp 23) 9, type := 9, pos := "ref.go:40", after := #[{ on := 12, ground := Ground.data }, { on := 14, ground := Ground.data }], guard := none }) (v := ?v14) rfl (by kernel_rfl) (by kernel_rfl) (by kernel_rfl) (fun _ _ _ h => h) (Or.inl ⟨by rfl, ?hy14⟩) hHeld ?rest14
        case hy14 =>
          intro w hSw
          go_simp
          try with_reducible rfl
        try simp only [Act.put, List.setIfInBounds_toArray, List.set_cons_zero, List.set_cons_succ]
        refine wpAnyH_ready (rs := [17]) (by kernel_rfl) (by simp) ?_
        refine AllReadyH.cons (o := { dst := some 26, op := Op.call { callee := Callee.value (Operand.func 48), args := #[Operand.tmp 25], argTypes := #[35] }, type := 9, pos := "ref.go:40", after := #[{ on := 16, ground := Ground.data }, { on := 14, ground := Ground.chain }], guard := none }) rfl (fun K hK => ?_) ?_
        ·
          go_simp
          with_reducible refine (H2.out _ _ (by assumption)).mono ?_
          rintro e w2 ⟨rfl, rfl⟩
          go_wp2_with fail
          refine hK.out _ _ (hHeld.alloc _) (fun hNew => ?_)
          clear hK K hHeld
          have hHeld := hNew
          clear hNew
          try simp only [Act.put, List.setIfInBounds_toArray, List.set_cons_zero, List.set_cons_succ]
          refine wpAnyH_take (i := 18) (oi := { dst := some 27, op := Op.binOp BinOp.add 9 (Operand.tmp 24) (Operand.tmp 26) 9, type := 9, pos := "ref.go:40", after := #[{ on := 15, ground := Ground.data }, { on := 17, ground := Ground.data }], guard := none }) (v := ?v15) rfl (by kernel_rfl) (by kernel_rfl) (by kernel_rfl) (fun _ _ _ h => h) (Or.inl ⟨by rfl, ?hy15⟩) hHeld ?rest15
          case hy15 =>
            intro w hSw
            go_simp
            try with_reducible rfl
          try simp only [Act.put, List.setIfInBounds_toArray, List.set_cons_zero, List.set_cons_succ]
          refine wpAnyH_take (i := 19) (oi := { dst := some 8, op := Op.assign (Operand.tmp 27), type := 9, pos := "ref.go:40", after := #[{ on := 18, ground := Ground.data }, { on := 17, ground := Ground.chain }, { on := 0, ground := Ground.phase }, { on := 1, ground := Ground.phase }, { on := 2, ground := Ground.phase }, { on := 3, ground := Ground.phase }, { on := 4, ground := Ground.phase }, { on := 5, ground := Ground.phase }, { on := 6, ground := Ground.phase }, { on := 7, ground := Ground.phase }, { on := 8, ground := Ground.phase }, { on := 9, ground := Ground.phase }, { on := 10, ground := Ground.phase }, { on := 11, ground := Ground.phase }, { on := 12, ground := Ground.phase }, { on := 13, ground := Ground.phase }, { on := 14, ground := Ground.phase }, { on := 15, ground := Ground.phase }, { on := 16, ground := Ground.phase }, { on := 17, ground := Ground.phase }, { on := 18, ground := Ground.phase }], guard := none }) (v := ?v16) rfl (by kernel_rfl) (by kernel_rfl) (by kernel_rfl) (fun _ _ _ h => h) (Or.inl ⟨by rfl, ?hy16⟩) hHeld ?rest16
          case hy16 =>
            intro w hSw
            go_simp
            try with_reducible rfl
          try simp only [Act.put, List.setIfInBounds_toArray, List.set_cons_zero, List.set_cons_succ]
          refine wpAnyH_done (by kernel_rfl) ?_ _
          have HEnd := Lib.hid (HM.out.trans hHeld)
          clear hHeld
          go_wp2_with fail
          go_ret
          refine ⟨?_, HWO.out.trans HEnd.out⟩
          first
            | rfl
            | (simp [refD]; done)
            | trace_state
        exact AllReadyH.nil
      exact AllReadyH.nil
    exact AllReadyH.nil
  refine AllReadyH.cons (o := { dst := some 20, op := Op.call { callee := Callee.value (Operand.func 48), args := #[Operand.tmp 19], argTypes := #[35] }, type := 9, pos := "ref.go:40", after := #[{ on := 10, ground := Ground.data }], guard := none }) rfl (fun K hK => ?_) ?_
  ·
    go_simp
    with_reducible refine (H2.out _ _ (by assumption)).mono ?_
    rintro e w2 ⟨rfl, rfl⟩
    go_wp2_with fail
    refine hK.out _ _ (hHeld.alloc _) (fun hNew => ?_)
    clear hK K hHeld
    have hHeld := hNew
    clear hNew
    try simp only [Act.put, List.setIfInBounds_toArray, List.set_cons_zero, List.set_cons_succ]
    refine wpAnyH_ready (rs := [8, 14]) (by kernel_rfl) (by simp) ?_
    refine AllReadyH.cons (o := { dst := some 17, op := Op.buildSlice 61 4 #[(0, Operand.tmp 10), (1, Operand.tmp 12), (2, Operand.tmp 14), (3, Operand.tmp 16)], type := 61, pos := "ref.go:40", after := #[{ on := 1, ground := Ground.data }, { on := 3, ground := Ground.data }, { on := 5, ground := Ground.data }, { on := 7, ground := Ground.data }], guard := none }) rfl (fun K hK => ?_) ?_
    ·
      go_simp
      refine hK.out _ _ (hHeld.alloc _) (fun hNew => ?_)
      clear hK K hHeld
      have hHeld := hNew
      clear hNew
      try simp only [Act.put, List.setIfInBounds_toArray, List.set_cons_zero, List.set_cons_succ]
      refine wpAnyH_more (fun w' h => Only.trans hHeld h) _ _ _ _ ?_
      have HM := Lib.hid hHeld
      clear hHeld
      refine wpAnyH_take (i := 9) (oi := { dst := some 18, op := Op.convert 61 9 (Operand.tmp 17), type := 9, pos := "ref.go:40", after := #[{ on := 8, ground := Ground.data }], guard := none }) (v := ?v17) rfl (by kernel_rfl) (by kernel_rfl) (by kernel_rfl) (fun _ _ _ h => h) (Or.inl ⟨by rfl, ?hy17⟩) (Only.refl _ _) ?rest17
      case hy17 =>
        intro w hSw
        try dsimp only at hSw
        have hcv := cvS (B := W.heap.size + 1) (by simp) hSw
        go_simp
        try with_reducible rfl
      try simp only [Act.put, List.setIfInBounds_toArray, List.set_cons_zero, List.set_cons_succ]
      have hHeld := reflOf HM.out
      refine wpAnyH_take (i := 12) (oi := { dst := some 21, op := Op.binOp BinOp.add 9 (Operand.tmp 18) (Operand.tmp 20) 9, type := 9, pos := "ref.go:40", after := #[{ on := 9, ground := Ground.data }, { on := 11, ground := Ground.data }], guard := none }) (v := ?v18) rfl (by kernel_rfl) (by kernel_rfl) (by kernel_rfl) (fun _ _ _ h => h) (Or.inl ⟨by rfl, ?hy18⟩) hHeld ?rest18
      case hy18 =>
        intro w hSw
        go_simp
        try with_reducible rfl
      try simp only [Act.put, List.setIfInBounds_toArray, List.set_cons_zero, List.set_cons_succ]
      refine wpAnyH_ready (rs := [14]) (by kernel_rfl) (by simp) ?_
      refine AllReadyH.cons (o := { dst := some 23, op := Op.call { callee := Callee.value (Operand.func 48), args := #[Operand.tmp 22], argTypes := #[35] }, type := 9, pos := "ref.go:40", after := #[{ on := 13, ground := Ground.data }, { on := 11, ground := Ground.chain }], guard := none }) rfl (fun K hK => ?_) ?_
      ·
        go_simp
        with_reducible refine (H2.out _ _ (by assumption)).mono ?_
        rintro e w2 ⟨rfl, rfl⟩
        go_wp2_with fail
        refine hK.out _ _ (hHeld.alloc _) (fun hNew => ?_)
        clear hK K hHeld
        have hHeld := hNew
        clear hNew
        try simp only [Act.put, List.setIfInBounds_toArray, List.set_cons_zero, List.set_cons_succ]
        refine wpAnyH_take (i := 15) (oi := { dst := some 24, op := Op.binOp BinOp.add 9 (Operand.tmp 21) (Operand.tmp 23) 9, type := 9, pos := "ref.go:40", after := #[{ on := 12, ground := Ground.data }, { on := 14, ground := Ground.data }], guard := none }) (v := ?v19) rfl (by kernel_rfl) (by kernel_rfl) (by kernel_rfl) (fun _ _ _ h => h) (Or.inl ⟨by rfl, ?hy19⟩) hHeld ?rest19
        case hy19 =>
          intro w hSw
          go_simp
          try with_reducible rfl
        try simp only [Act.put, List.setIfInBounds_toArray, List.set_cons_zero, List.set_cons_succ]
        refine wpAnyH_ready (rs := [17]) (by kernel_rfl) (by simp) ?_
        refine AllReadyH.cons (o := { dst := some 26, op := Op.call { callee := Callee.value (Operand.func 48), args := #[Operand.tmp 25], argTypes := #[35] }, type := 9, pos := "ref.go:40", after := #[{ on := 16, ground := Ground.data }, { on := 14, ground := Ground.chain }], guard := none }) rfl (fun K hK => ?_) ?_
        ·
          go_simp
          with_reducible refine (H2.out _ _ (by assumption)).mono ?_
          rintro e w2 ⟨rfl, rfl⟩
          go_wp2_with fail
          refine hK.out _ _ (hHeld.alloc _) (fun hNew => ?_)
          clear hK K hHeld
          have hHeld := hNew
          clear hNew
          try simp only [Act.put, List.setIfInBounds_toArray, List.set_cons_zero, List.set_cons_succ]
          refine wpAnyH_take (i := 18) (oi := { dst := some 27, op := Op.binOp BinOp.add 9 (Operand.tmp 24) (Operand.tmp 26) 9, type := 9, pos := "ref.go:40", after := #[{ on := 15, ground := Ground.data }, { on := 17, ground := Ground.data }], guard := none }) (v := ?v20) rfl (by kernel_rfl) (by kernel_rfl) (by kernel_rfl) (fun _ _ _ h => h) (Or.inl ⟨by rfl, ?hy20⟩) hHeld ?rest20
          case hy20 =>
            intro w hSw
            go_simp
            try with_reducible rfl
          try simp only [Act.put, List.setIfInBounds_toArray, List.set_cons_zero, List.set_cons_succ]
          refine wpAnyH_take (i := 19) (oi := { dst := some 8, op := Op.assign (Operand.tmp 27), type := 9, pos := "ref.go:40", after := #[{ on := 18, ground := Ground.data }, { on := 17, ground := Ground.chain }, { on := 0, ground := Ground.phase }, { on := 1, ground := Ground.phase }, { on := 2, ground := Ground.phase }, { on := 3, ground := Ground.phase }, { on := 4, ground := Ground.phase }, { on := 5, ground := Ground.phase }, { on := 6, ground := Ground.phase }, { on := 7, ground := Ground.phase }, { on := 8, ground := Ground.phase }, { on := 9, ground := Ground.phase }, { on := 10, ground := Ground.phase }, { on := 11, ground := Ground.phase }, { on := 12, ground := Ground.phase }, { on := 13, ground := Ground.phase }, { on := 14, ground := Ground.phase }, { on := 15, ground := Ground.phase }, { on := 16, ground := Ground.phase }, { on := 17, ground := Ground.phase }, { on := 18, ground := Ground.phase }], guard := none }) (v := ?v21) rfl (by kernel_rfl) (by kernel_rfl) (by kernel_rfl) (fun _ _ _ h => h) (Or.inl ⟨by rfl, ?hy21⟩) hHeld ?rest21
          case hy21 =>
            intro w hSw
            go_simp
            try with_reducible rfl
          try simp only [Act.put, List.setIfInBounds_toArray, List.set_cons_zero, List.set_cons_succ]
          refine wpAnyH_done (by kernel_rfl) ?_ _
          have HEnd := Lib.hid (HM.out.trans hHeld)
          clear hHeld
          go_wp2_with fail
          go_ret
          refine ⟨?_, HWO.out.trans HEnd.out⟩
          first
            | rfl
            | (simp [refD]; done)
            | trace_state
        exact AllReadyH.nil
      exact AllReadyH.nil
    refine AllReadyH.cons (o := { dst := some 23, op := Op.call { callee := Callee.value (Operand.func 48), args := #[Operand.tmp 22], argTypes := #[35] }, type := 9, pos := "ref.go:40", after := #[{ on := 13, ground := Ground.data }, { on := 11, ground := Ground.chain }], guard := none }) rfl (fun K hK => ?_) ?_
    ·
      go_simp
      with_reducible refine (H2.out _ _ (by assumption)).mono ?_
      rintro e w2 ⟨rfl, rfl⟩
      go_wp2_with fail
      refine hK.out _ _ (hHeld.alloc _) (fun hNew => ?_)
      clear hK K hHeld
      have hHeld := hNew
      clear hNew
      try simp only [Act.put, List.setIfInBounds_toArray, List.set_cons_zero, List.set_cons_succ]
      refine wpAnyH_ready (rs := [8, 17]) (by kernel_rfl) (by simp) ?_
      refine AllReadyH.cons (o := { dst := some 17, op := Op.buildSlice 61 4 #[(0, Operand.tmp 10), (1, Operand.tmp 12), (2, Operand.tmp 14), (3, Operand.tmp 16)], type := 61, pos := "ref.go:40", after := #[{ on := 1, ground := Ground.data }, { on := 3, ground := Ground.data }, { on := 5, ground := Ground.data }, { on := 7, ground := Ground.data }], guard := none }) rfl (fun K hK => ?_) ?_
      ·
        go_simp
        refine hK.out _ _ (hHeld.alloc _) (fun hNew => ?_)
        clear hK K hHeld
        have hHeld := hNew
        clear hNew
        try simp only [Act.put, List.setIfInBounds_toArray, List.set_cons_zero, List.set_cons_succ]
        refine wpAnyH_more (fun w' h => Only.trans hHeld h) _ _ _ _ ?_
        have HM := Lib.hid hHeld
        clear hHeld
        refine wpAnyH_take (i := 9) (oi := { dst := some 18, op := Op.convert 61 9 (Operand.tmp 17), type := 9, pos := "ref.go:40", after := #[{ on := 8, ground := Ground.data }], guard := none }) (v := ?v22) rfl (by kernel_rfl) (by kernel_rfl) (by kernel_rfl) (fun _ _ _ h => h) (Or.inl ⟨by rfl, ?hy22⟩) (Only.refl _ _) ?rest22
        case hy22 =>
          intro w hSw
          try dsimp only at hSw
          have hcv := cvS (B := W.heap.size + 1 + 1) (by simp) hSw
          go_simp
          try with_reducible rfl
        try simp only [Act.put, List.setIfInBounds_toArray, List.set_cons_zero, List.set_cons_succ]
        have hHeld := reflOf HM.out
        refine wpAnyH_take (i := 12) (oi := { dst := some 21, op := Op.binOp BinOp.add 9 (Operand.tmp 18) (Operand.tmp 20) 9, type := 9, pos := "ref.go:40", after := #[{ on := 9, ground := Ground.data }, { on := 11, ground := Ground.data }], guard := none }) (v := ?v23) rfl (by kernel_rfl) (by kernel_rfl) (by kernel_rfl) (fun _ _ _ h => h) (Or.inl ⟨by rfl, ?hy23⟩) hHeld ?rest23
        case hy23 =>
          intro w hSw
          go_simp
          try with_reducible rfl
        try simp only [Act.put, List.setIfInBounds_toArray, List.set_cons_zero, List.set_cons_succ]
        refine wpAnyH_take (i := 15) (oi := { dst := some 24, op := Op.binOp BinOp.add 9 (Operand.tmp 21) (Operand.tmp 23) 9, type := 9, pos := "ref.go:40", after := #[{ on := 12, ground := Ground.data }, { on := 14, ground := Ground.data }], guard := none }) (v := ?v24) rfl (by kernel_rfl) (by kernel_rfl) (by kernel_rfl) (fun _ _ _ h => h) (Or.inl ⟨by rfl, ?hy24⟩) hHeld ?rest24
        case hy24 =>
          intro w hSw
          go_simp
          try with_reducible rfl
        try simp only [Act.put, List.setIfInBounds_toArray, List.set_cons_zero, List.set_cons_succ]
        refine wpAnyH_ready (rs := [17]) (by kernel_rfl) (by simp) ?_
        refine AllReadyH.cons (o := { dst := some 26, op := Op.call { callee := Callee.value (Operand.func 48), args := #[Operand.tmp 25], argTypes := #[35] }, type := 9, pos := "ref.go:40", after := #[{ on := 16, ground := Ground.data }, { on := 14, ground := Ground.chain }], guard := none }) rfl (fun K hK => ?_) ?_
        ·
          go_simp
          with_reducible refine (H2.out _ _ (by assumption)).mono ?_
          rintro e w2 ⟨rfl, rfl⟩
          go_wp2_with fail
          refine hK.out _ _ (hHeld.alloc _) (fun hNew => ?_)
          clear hK K hHeld
          have hHeld := hNew
          clear hNew
          try simp only [Act.put, List.setIfInBounds_toArray, List.set_cons_zero, List.set_cons_succ]
          refine wpAnyH_take (i := 18) (oi := { dst := some 27, op := Op.binOp BinOp.add 9 (Operand.tmp 24) (Operand.tmp 26) 9, type := 9, pos := "ref.go:40", after := #[{ on := 15, ground := Ground.data }, { on := 17, ground := Ground.data }], guard := none }) (v := ?v25) rfl (by kernel_rfl) (by kernel_rfl) (by kernel_rfl) (fun _ _ _ h => h) (Or.inl ⟨by rfl, ?hy25⟩) hHeld ?rest25
          case hy25 =>
            intro w hSw
            go_simp
            try with_reducible rfl
          try simp only [Act.put, List.setIfInBounds_toArray, List.set_cons_zero, List.set_cons_succ]
          refine wpAnyH_take (i := 19) (oi := { dst := some 8, op := Op.assign (Operand.tmp 27), type := 9, pos := "ref.go:40", after := #[{ on := 18, ground := Ground.data }, { on := 17, ground := Ground.chain }, { on := 0, ground := Ground.phase }, { on := 1, ground := Ground.phase }, { on := 2, ground := Ground.phase }, { on := 3, ground := Ground.phase }, { on := 4, ground := Ground.phase }, { on := 5, ground := Ground.phase }, { on := 6, ground := Ground.phase }, { on := 7, ground := Ground.phase }, { on := 8, ground := Ground.phase }, { on := 9, ground := Ground.phase }, { on := 10, ground := Ground.phase }, { on := 11, ground := Ground.phase }, { on := 12, ground := Ground.phase }, { on := 13, ground := Ground.phase }, { on := 14, ground := Ground.phase }, { on := 15, ground := Ground.phase }, { on := 16, ground := Ground.phase }, { on := 17, ground := Ground.phase }, { on := 18, ground := Ground.phase }], guard := none }) (v := ?v26) rfl (by kernel_rfl) (by kernel_rfl) (by kernel_rfl) (fun _ _ _ h => h) (Or.inl ⟨by rfl, ?hy26⟩) hHeld ?rest26
          case hy26 =>
            intro w hSw
            go_simp
            try with_reducible rfl
          try simp only [Act.put, List.setIfInBounds_toArray, List.set_cons_zero, List.set_cons_succ]
          refine wpAnyH_done (by kernel_rfl) ?_ _
          have HEnd := Lib.hid (HM.out.trans hHeld)
          clear hHeld
          go_wp2_with fail
          go_ret
          refine ⟨?_, HWO.out.trans HEnd.out⟩
          first
            | rfl
            | (simp [refD]; done)
            | trace_state
        exact AllReadyH.nil
      refine AllReadyH.cons (o := { dst := some 26, op := Op.call { callee := Callee.value (Operand.func 48), args := #[Operand.tmp 25], argTypes := #[35] }, type := 9, pos := "ref.go:40", after := #[{ on := 16, ground := Ground.data }, { on := 14, ground := Ground.chain }], guard := none }) rfl (fun K hK => ?_) ?_
      ·
        go_simp
        with_reducible refine (H2.out _ _ (by assumption)).mono ?_
        rintro e w2 ⟨rfl, rfl⟩
        go_wp2_with fail
        refine hK.out _ _ (hHeld.alloc _) (fun hNew => ?_)
        clear hK K hHeld
        have hHeld := hNew
        clear hNew
        try simp only [Act.put, List.setIfInBounds_toArray, List.set_cons_zero, List.set_cons_succ]
        refine wpAnyH_ready (rs := [8]) (by kernel_rfl) (by simp) ?_
        refine AllReadyH.cons (o := { dst := some 17, op := Op.buildSlice 61 4 #[(0, Operand.tmp 10), (1, Operand.tmp 12), (2, Operand.tmp 14), (3, Operand.tmp 16)], type := 61, pos := "ref.go:40", after := #[{ on := 1, ground := Ground.data }, { on := 3, ground := Ground.data }, { on := 5, ground := Ground.data }, { on := 7, ground := Ground.data }], guard := none }) rfl (fun K hK => ?_) ?_
        ·
          go_simp
          refine hK.out _ _ (hHeld.alloc _) (fun hNew => ?_)
          clear hK K hHeld
          have hHeld := hNew
          clear hNew
          try simp only [Act.put, List.setIfInBounds_toArray, List.set_cons_zero, List.set_cons_succ]
          refine wpAnyH_more (fun w' h => Only.trans hHeld h) _ _ _ _ ?_
          have HM := Lib.hid hHeld
          clear hHeld
          refine wpAnyH_take (i := 9) (oi := { dst := some 18, op := Op.convert 61 9 (Operand.tmp 17), type := 9, pos := "ref.go:40", after := #[{ on := 8, ground := Ground.data }], guard := none }) (v := ?v27) rfl (by kernel_rfl) (by kernel_rfl) (by kernel_rfl) (fun _ _ _ h => h) (Or.inl ⟨by rfl, ?hy27⟩) (Only.refl _ _) ?rest27
          case hy27 =>
            intro w hSw
            try dsimp only at hSw
            have hcv := cvS (B := W.heap.size + 1 + 1 + 1) (by simp) hSw
            go_simp
            try with_reducible rfl
          try simp only [Act.put, List.setIfInBounds_toArray, List.set_cons_zero, List.set_cons_succ]
          have hHeld := reflOf HM.out
          refine wpAnyH_take (i := 12) (oi := { dst := some 21, op := Op.binOp BinOp.add 9 (Operand.tmp 18) (Operand.tmp 20) 9, type := 9, pos := "ref.go:40", after := #[{ on := 9, ground := Ground.data }, { on := 11, ground := Ground.data }], guard := none }) (v := ?v28) rfl (by kernel_rfl) (by kernel_rfl) (by kernel_rfl) (fun _ _ _ h => h) (Or.inl ⟨by rfl, ?hy28⟩) hHeld ?rest28
          case hy28 =>
            intro w hSw
            go_simp
            try with_reducible rfl
          try simp only [Act.put, List.setIfInBounds_toArray, List.set_cons_zero, List.set_cons_succ]
          refine wpAnyH_take (i := 15) (oi := { dst := some 24, op := Op.binOp BinOp.add 9 (Operand.tmp 21) (Operand.tmp 23) 9, type := 9, pos := "ref.go:40", after := #[{ on := 12, ground := Ground.data }, { on := 14, ground := Ground.data }], guard := none }) (v := ?v29) rfl (by kernel_rfl) (by kernel_rfl) (by kernel_rfl) (fun _ _ _ h => h) (Or.inl ⟨by rfl, ?hy29⟩) hHeld ?rest29
          case hy29 =>
            intro w hSw
            go_simp
            try with_reducible rfl
          try simp only [Act.put, List.setIfInBounds_toArray, List.set_cons_zero, List.set_cons_succ]
          refine wpAnyH_take (i := 18) (oi := { dst := some 27, op := Op.binOp BinOp.add 9 (Operand.tmp 24) (Operand.tmp 26) 9, type := 9, pos := "ref.go:40", after := #[{ on := 15, ground := Ground.data }, { on := 17, ground := Ground.data }], guard := none }) (v := ?v30) rfl (by kernel_rfl) (by kernel_rfl) (by kernel_rfl) (fun _ _ _ h => h) (Or.inl ⟨by rfl, ?hy30⟩) hHeld ?rest30
          case hy30 =>
            intro w hSw
            go_simp
            try with_reducible rfl
          try simp only [Act.put, List.setIfInBounds_toArray, List.set_cons_zero, List.set_cons_succ]
          refine wpAnyH_take (i := 19) (oi := { dst := some 8, op := Op.assign (Operand.tmp 27), type := 9, pos := "ref.go:40", after := #[{ on := 18, ground := Ground.data }, { on := 17, ground := Ground.chain }, { on := 0, ground := Ground.phase }, { on := 1, ground := Ground.phase }, { on := 2, ground := Ground.phase }, { on := 3, ground := Ground.phase }, { on := 4, ground := Ground.phase }, { on := 5, ground := Ground.phase }, { on := 6, ground := Ground.phase }, { on := 7, ground := Ground.phase }, { on := 8, ground := Ground.phase }, { on := 9, ground := Ground.phase }, { on := 10, ground := Ground.phase }, { on := 11, ground := Ground.phase }, { on := 12, ground := Ground.phase }, { on := 13, ground := Ground.phase }, { on := 14, ground := Ground.phase }, { on := 15, ground := Ground.phase }, { on := 16, ground := Ground.phase }, { on := 17, ground := Ground.phase }, { on := 18, ground := Ground.phase }], guard := none }) (v := ?v31) rfl (by kernel_rfl) (by kernel_rfl) (by kernel_rfl) (fun _ _ _ h => h) (Or.inl ⟨by rfl, ?hy31⟩) hHeld ?rest31
          case hy31 =>
            intro w hSw
            go_simp
            try with_reducible rfl
          try simp only [Act.put, List.setIfInBounds_toArray, List.set_cons_zero, List.set_cons_succ]
          refine wpAnyH_done (by kernel_rfl) ?_ _
          have HEnd := Lib.hid (HM.out.trans hHeld)
          clear hHeld
          go_wp2_with fail
          go_ret
          refine ⟨?_, HWO.out.trans HEnd.out⟩
          first
            | rfl
            | (simp [refD]; done)
            | trace_state
        exact AllReadyH.nil
      exact AllReadyH.nil
    exact AllReadyH.nil
  exact AllReadyH.nil
end Go.Proofs.YtbdfijgejkimnaaGreatDoor
/-! A made record's data, in both forms. -/
namespace Go.Proofs.YtbdfijgejkimnaaGreatDoor
open Go.Conc Go.RowKit

theorem beL2 (n : Nat) (hn : n < 65536) : beL n 2 = (twoB n).data.toList := by
  have h := congrArg (fun b : ByteArray => b.data.toList) (keyB_be n ⟨#[]⟩ hn)
  unfold keyB at h
  simpa [ByteArray.data_append, twoB] using h
theorem dataB_ref (a0 a1 a2 a3 : Int) (p q r : Nat) (hp : p < 65536) (hq : q < 65536) (hr : r < 65536) : dataB a0 a1 a2 a3 p q r = refD a0 a1 a2 a3 p q r := by
  apply str_ext
  unfold dataB dataL refD
  rw [beL2 p hp, beL2 q hq, beL2 r hr]
  simp [ByteArray.data_append]
theorem refD_bytes (a0 a1 a2 a3 p q r : Nat) (h0 : a0 < 256) (h1 : a1 < 256) (h2 : a2 < 256) (h3 : a3 < 256) (hp : p < 65536) (hq : q < 65536) (hr : r < 65536) :
    bA (refD a0 a1 a2 a3 p q r) 0 = a0 ∧ bA (refD a0 a1 a2 a3 p q r) 1 = a1 ∧ bA (refD a0 a1 a2 a3 p q r) 2 = a2 ∧ bA (refD a0 a1 a2 a3 p q r) 3 = a3 ∧ bA (refD a0 a1 a2 a3 p q r) 4 * 256 + bA (refD a0 a1 a2 a3 p q r) 5 = p ∧ bA (refD a0 a1 a2 a3 p q r) 6 * 256 + bA (refD a0 a1 a2 a3 p q r) 7 = q ∧ bA (refD a0 a1 a2 a3 p q r) 8 * 256 + bA (refD a0 a1 a2 a3 p q r) 9 = r := by
  have e : (refD a0 a1 a2 a3 p q r).data.toList = [UInt8.ofNat ((a0 : Int)).toNat, UInt8.ofNat ((a1 : Int)).toNat, UInt8.ofNat ((a2 : Int)).toNat, UInt8.ofNat ((a3 : Int)).toNat] ++ [UInt8.ofNat ((p : Int) / 256).toNat, UInt8.ofNat ((p : Int) % 256).toNat] ++ [UInt8.ofNat ((q : Int) / 256).toNat, UInt8.ofNat ((q : Int) % 256).toNat] ++ [UInt8.ofNat ((r : Int) / 256).toNat, UInt8.ofNat ((r : Int) % 256).toNat] := by
    simp only [refD, twoB, ByteArray.data_append, Array.toList_append]
    rfl
  unfold bA
  rw [e]
  simp only [List.cons_append, List.nil_append, List.getD_cons_zero, List.getD_cons_succ, UInt8.toNat_ofNat']
  omega
theorem refD_size (a0 a1 a2 a3 : Int) (p q r : Nat) : (refD a0 a1 a2 a3 p q r).size = 10 := rfl
theorem made_good (n : Nat) (name : ByteArray) (ver : Nat) (gone : Bool) (d : ByteArray) (h1 : nodeB n = true) (h2 : namedP name = true) (h3 : ver / 2 ^ 32 ≠ 0) (hd : d.size = if gone then 0 else 10) : goodP (keyB n name) ver n 0 gone d = true := by
  obtain ⟨s1, s2, s3⟩ := split_key h1 h2
  unfold goodP
  rw [s1, s3, hd]
  simp
  omega
end Go.Proofs.YtbdfijgejkimnaaGreatDoor
/-! A store: Tick. -/
namespace Go.Proofs.YtbdfijgejkimnaaGreatDoor
open Go.Conc Go.RowKit Go.Maps

theorem rising_mid {A0 A C : List RecT} (h : Rising (A0 ++ C)) (hA : Rising A) (hk : ∀ a ∈ A, ∃ a0 ∈ A0, a.key = a0.key) : Rising (A ++ C) := by
  obtain ⟨h1, h2, h3⟩ := List.pairwise_append.1 h
  refine List.pairwise_append.2 ⟨hA, h2, fun a ha c hc => ?_⟩
  obtain ⟨a0, h4, e⟩ := hk a ha
  rw [e]
  exact h3 a0 h4 c hc
theorem mem_tick {ttl : Int} {L : List RecT} {y : RecT} : y ∈ tickS ttl L ↔ ∃ x ∈ L, y = older x ∧ x.age + 1 < ttl := by
  unfold tickS
  rw [List.mem_filter, List.mem_map]
  constructor
  · rintro ⟨⟨x, hx, rfl⟩, h⟩
    exact ⟨x, hx, rfl, of_decide_eq_true h⟩
  · rintro ⟨x, hx, rfl, h⟩
    exact ⟨⟨x, hx, rfl⟩, decide_eq_true h⟩
theorem rising_tick {ttl : Int} {L : List RecT} (h : Rising L) : Rising (tickS ttl L) := rising_filter (rising_map h older (fun _ => rfl)) _
theorem tick_append (ttl : Int) (A B : List RecT) : tickS ttl (A ++ B) = tickS ttl A ++ tickS ttl B := by
  unfold tickS
  rw [List.map_append, List.filter_append]
theorem tick_one (ttl : Int) (x : RecT) : tickS ttl [x] = if x.age + 1 < ttl then [older x] else [] := by
  unfold tickS
  by_cases h : x.age + 1 < ttl
  · rw [if_pos h]; simp [older, h]
  · rw [if_neg h]; simp [older]; omega
theorem length_tick_le (ttl : Int) (L : List RecT) : (tickS ttl L).length ≤ L.length := by
  unfold tickS
  exact Nat.le_trans (List.length_filter_le _ _) (by simp)
theorem StoreOk.tick {most ttl : Int} {L : List RecT} (h : StoreOk most ttl L) : StoreOk most ttl (tickS ttl L) := by
  refine ⟨h.mostB, h.ttlB, rising_tick h.rises, fun y hy => ?_, ?_⟩
  · obtain ⟨x, hx, rfl, ha⟩ := mem_tick.1 hy
    exact ⟨good_older (h.goods x hx).1 (by have := h.ttlB; omega), by simpa [older] using ha⟩
  · have h1 := length_tick_le ttl L
    have h2 := h.room
    omega
theorem ins_mid {A B : List RecT} {x y : RecT} (h : Rising (A ++ x :: B)) (hk : y.key = x.key) : insS y (A ++ x :: B) = A ++ y :: B := by
  have hr : Rising (A ++ y :: B) := by
    obtain ⟨h1, h2, h3⟩ := List.pairwise_append.1 h
    obtain ⟨h4, h5⟩ := List.pairwise_cons.1 h2
    refine List.pairwise_append.2 ⟨h1, List.pairwise_cons.2 ⟨fun b hb => by rw [hk]; exact h4 b hb, h5⟩, fun a ha c hc => ?_⟩
    rcases List.mem_cons.1 hc with rfl | hc
    · rw [hk]; exact h3 a ha x (by simp)
    · exact h3 a ha c (by simp [hc])
  refine rising_ext (rising_ins h) hr (fun z => ?_)
  rw [mem_insS h]
  obtain ⟨h1, h2, h3⟩ := List.pairwise_append.1 h
  obtain ⟨h4, h5⟩ := List.pairwise_cons.1 h2
  simp only [List.mem_append, List.mem_cons]
  constructor
  · rintro (rfl | ⟨h6 | rfl | h6, hn⟩)
    · exact .inr (.inl rfl)
    · exact .inl h6
    · exact absurd hk.symm hn
    · exact .inr (.inr h6)
  · rintro (h6 | rfl | h6)
    · exact .inr ⟨.inl h6, by rw [hk]; exact ltK_ne (h3 z h6 x (by simp))⟩
    · exact .inl rfl
    · exact .inr ⟨.inr (.inr h6), by rw [hk]; exact (ltK_ne (h4 z h6)).symm⟩
theorem drop_mid {A B : List RecT} {x : RecT} (h : Rising (A ++ x :: B)) : dropL (prs (A ++ x :: B)) x.key = prs (A ++ B) := by
  obtain ⟨h1, h2, h3⟩ := List.pairwise_append.1 h
  obtain ⟨h4, h5⟩ := List.pairwise_cons.1 h2
  have hA : (prs A).filter (fun p => !decide (p.1 = x.key)) = prs A := List.filter_eq_self.2 (fun p hp => by
    obtain ⟨h6, h7⟩ := mem_prs.1 hp
    have := ltK_ne (h3 p.2 h6 x (by simp))
    simpa [h7] using this)
  have hB : (prs B).filter (fun p => !decide (p.1 = x.key)) = prs B := List.filter_eq_self.2 (fun p hp => by
    obtain ⟨h6, h7⟩ := mem_prs.1 hp
    have := (ltK_ne (h4 p.2 h6)).symm
    simpa [h7] using this)
  unfold dropL
  have e : prs (A ++ x :: B) = prs A ++ (x.key, x) :: prs B := by simp [prs]
  rw [e, List.filter_append, List.filter_cons_of_neg (by simp), hA, hB]
  simp [prs]
theorem find_mid {A B : List RecT} {x : RecT} (h : Rising (A ++ x :: B)) : findS (A ++ x :: B) x.key = some x := findS_mem h (by simp)
end Go.Proofs.YtbdfijgejkimnaaGreatDoor
/-! bellhopref15: Find, Tick, Named. -/
namespace Go.Proofs.YtbdfijgejkimnaaGreatDoor
open Go.Conc Go.RowKit Go.Maps

theorem infoRRec : (Tryz.prog.info? 75).map (fun i => (i.zero, i.size, i.bytes)) = some (some (recT zeroR), 6, 64) := by kernel_rfl
def rstV (most ttl : Int) (v : Value) (r : Int) : Value := .agg #[.int .i64 most, .int .i64 ttl, v, .int .i64 r]
/-- A slice of the reference's records. -/
abbrev RSl (w : World) (v : Value) (L : List RecT) : Prop := Sl w 6 v L.length (L.flatMap recC)
def findI (L : List RecT) (key : ByteArray) : Int := idxV (fun x => decide (x.key = key)) L
set_option maxRecDepth 100000 in
theorem rfind_any (w : World) (most ttl r : Int) (v : Value) (L : List RecT) (key : ByteArray) (h : RSl w v L) :
    Calls Tryz.prog 57 #[rstV most ttl v r, .string key] w fun e w' => e = .returned (.int .i64 (findI L key)) ∧ Only (fun _ => False) w w' := by
  obtain ⟨a, cap, rfl, h1, h2, h3⟩ := Sl.cells recC_length h
  unfold maxLen at h2
  unfold rstV
  obtain ⟨W, hW⟩ : ∃ W, W = w.alloc (.cells #[.int .i64 most, .int .i64 ttl, .slice a L.length cap, .int .i64 r] 27) := ⟨_, rfl⟩
  have hbW : W.heap[w.heap.size]? = some (.cells #[.int .i64 most, .int .i64 ttl, .slice a L.length cap, .int .i64 r] 27 (0, 0)) := by rw [hW]; exact heap_alloc_new w _
  have hoW : Only (fun _ => False) w W := by rw [hW]; exact (Only.refl _ _).alloc _
  have hsW : W.heap.size = w.heap.size + 1 := by rw [hW]; simp
  have hC := h3.new hoW (fun _ _ _ => id)
  have x2 : W.cell? ⟨w.heap.size, 2, none⟩ = some (.slice a L.length cap) := cell_at hbW 2
  have HC := Lib.hid hC
  have HOW := Lib.hid hoW
  clear hC hoW
  clear h h3 hbW hsW
  go_enter Tryz.func57, Tryz.ntmps57
  go_upto_region 1 with (fail)
  rw [← hW]
  clear hW
  go_wp2_with fail
  go_loopg [5] L.length (fun g v5 wr => ∃ j : Nat, v5 = .int .i64 j ∧ j ≤ L.length ∧ W = wr ∧ (∀ i (hi : i < L.length), i < j → L[i].key ≠ key) ∧ g = L.length - j)
  case atStart => exact ⟨0, rfl, Nat.zero_le _, rfl, fun _ _ h => absurd h (Nat.not_lt_zero _), rfl⟩
  case round =>
    obtain ⟨j, rfl, hj, rfl, hall, hg⟩ := hrel
    have Hg := Lib.hid hg
    have HA := Lib.hid hall
    clear hg hall
    by_cases hlt : j < L.length
    · obtain ⟨b, off, ha, hc⟩ := HC.out.at j hlt
      subst ha
      have y0 : W.cell? ⟨b, off + j * 6, none⟩ = some (.string L[j].key) := hc 0 _ rfl
      have hkj : ∃ k1, L[j].key = k1 := ⟨_, rfl⟩
      obtain ⟨k1, hk1⟩ := hkj
      rw [hk1] at y0
      have HK1 := Lib.hid hk1
      clear hk1
      clear hc
      have hlt' : (j : Int) < (L.length : Int) := by omega
      by_cases hx : k1 = key
      · have hxb := str_eq hx
        have HX := Lib.hid hx
        clear hx
        go_wp2_with fail
        go_ret
        refine ⟨?_, HOW.out⟩
        have hp : decide (L[j].key = key) = true := decide_eq_true (HK1.out.trans HX.out)
        have hi : L.findIdx (fun x => decide (x.key = key)) = j := (List.findIdx_eq hlt).2 ⟨hp, fun i hi => decide_eq_false (HA.out i (by omega) hi)⟩
        have hn : L.all (fun x => !decide (x.key = key)) = false := by
          rw [List.all_eq_false]
          exact ⟨L[j], List.getElem_mem hlt, by simp [HK1.out, HX.out]⟩
        unfold findI idxV
        rw [hn, hi]
        rfl
      · have hxb := str_ne hx
        have HX := Lib.hid hx
        clear hx
        go_wp2_with fail
        go_roundg (L.length - (j + 1))
        case measure => rw [Hg.out]; omega
        case rel =>
          refine ⟨j + 1, by go_num, by omega, rfl, fun i hi hij => ?_, rfl⟩
          rcases (by omega : i < j ∨ i = j) with h | rfl
          · exact HA.out i hi h
          · rw [HK1.out]; exact HX.out
    · have hlt' : ¬ (j : Int) < (L.length : Int) := by omega
      go_wp2_with fail
      go_ret
      refine ⟨?_, HOW.out⟩
      have hn : L.all (fun x => !decide (x.key = key)) = true := by
        rw [List.all_eq_true]
        intro x hx
        obtain ⟨i, hi, rfl⟩ := List.getElem_of_mem hx
        simp [HA.out i hi (by omega)]
      unfold findI idxV
      rw [hn]
      rfl
/-- A slice of the reference's records, of the call's own. -/
abbrev RRow (w : World) (base : Nat) (v : Value) (L : List RecT) : Prop := w.ownsRow base 75 6 v L.length (L.flatMap recC)
theorem filter_snoc (p : RecT → Bool) (L : List RecT) (k : Nat) (hk : k < L.length) : (L.take (k + 1)).filter p = (L.take k).filter p ++ if p L[k] then [L[k]] else [] := by
  rw [List.take_add_one, List.getElem?_eq_getElem hk, List.filter_append]
  congr 1
  cases h : p L[k] <;> simp [h]
end Go.Proofs.YtbdfijgejkimnaaGreatDoor
/-! bellhoplaw25: names, rec. -/
namespace Go.Proofs.YtbdfijgejkimnaaGreatDoor
open Go.Conc Go.RowKit Go.Maps

/-- The names of the law's services. -/
def nm25 : Nat → ByteArray
  | 0 => ⟨#[119, 101, 98]⟩
  | 1 => ⟨#[100, 98]⟩
  | 2 => ⟨#[97, 46, 98]⟩
  | 3 => ⟨#[55, 46, 110, 111, 100, 101]⟩
  | _ => ⟨#[120]⟩
theorem nm25_size (n : Nat) : (nm25 n).size ≤ 6 := by
  match n with
  | 0 => decide
  | 1 => decide
  | 2 => decide
  | 3 => decide
  | n + 4 => show (1 : Nat) ≤ 6; omega
set_option maxRecDepth 100000 in
theorem names25_any (w : World) (n : Nat) (hn : n < 256) : Calls Tryz.prog 55 #[.int .u8 n] w fun e w' => e = .returned (.string (nm25 (n % 5))) ∧ Only (fun _ => False) w w' := by
  have hb : (n : Int).tmod 5 = ((n % 5 : Nat) : Int) := by rw [Int.tmod_eq_emod_of_nonneg (by omega)]; omega
  have hw : wrap64 (n : Int) = n := by unfold wrap64; omega
  have h4 : n % 5 < 5 := Nat.mod_lt _ (by omega)
  generalize hq : n % 5 = q at *
  clear hq hn
  rcases (by omega : q = 0 ∨ q = 1 ∨ q = 2 ∨ q = 3 ∨ q = 4) with rfl | rfl | rfl | rfl | rfl
  all_goals
    clear h4
    go_enter Tryz.func55, Tryz.ntmps55
    go_wp2_with fail
    go_ret
    simp only [hw]
    exact ⟨rfl, (Only.refl _ _).alloc _⟩
structure RecB where
  org : Nat
  nm : Nat
  ad : Nat
  po : Nat
  gone : Bool
  age : Nat
def recBC (a : RecB) : List Value := [.int .u8 a.org, .int .u8 a.nm, .int .u8 a.ad, .int .u16 a.po, .bool a.gone, .int .u8 a.age]
theorem recBC_length (a : RecB) : (recBC a).length = 6 := rfl
def rowB (a : RecB) : Prop := a.org < 256 ∧ a.nm < 256 ∧ a.ad < 256 ∧ a.po < 65536 ∧ a.age < 256
def data25 (a : RecB) : ByteArray := if a.gone then ⟨#[]⟩ else refD 10 0 0 a.ad a.po a.nm a.ad
def rec25 (a : RecB) : RecT := ⟨keyB (1 + (a.org % 9 : Nat)) (nm25 (a.nm % 5)), 4294967296, 1 + (a.org % 9 : Nat), (a.age % 90 : Nat), a.gone, data25 a⟩
set_option maxRecDepth 100000 in
set_option maxHeartbeats 4000000 in
theorem rec25_any (w : World) (a : RecB) (h : rowB a) :
    Calls Tryz.prog 25 #[.agg #[.int .u8 a.org, .int .u8 a.nm, .int .u8 a.ad, .int .u16 a.po, .bool a.gone, .int .u8 a.age]] w fun e w' => e = .returned (recT (rec25 a)) ∧ Only (fun _ => False) w w' := by
  obtain ⟨org, nm, ad, po, gn, age⟩ := a
  obtain ⟨h1, h2, h3, h4, h5⟩ := h
  unfold rec25 recT data25
  simp only at h1 h2 h3 h4 h5 ⊢
  have hb1 : (org : Int) % 9 = ((org % 9 : Nat) : Int) := by omega
  have HNM := Lib.hid (fun w => names25_any w nm h2)
  have hq4 : org % 9 < 9 := Nat.mod_lt _ (by omega)
  generalize org % 9 = q at *
  have HKY := Lib.hid (fun w => rkey_any w (1 + (q : Int)) (nm25 (nm % 5)) (by omega) (by omega) (Nat.le_trans (nm25_size _) (by omega)))
  have HDA := Lib.hid (fun w => rdata_any w 10 0 0 ad po nm ad h4 (by omega) (by omega))
  generalize nm25 (nm % 5) = N at *
  generalize keyB (1 + (q : Int)) N = K at *
  have HAGE := Lib.hid (show ((age % 90 : Nat) : Int) = (age : Int) % 90 by omega)
  rw [HAGE.out]
  have hag2 : (IntKind.i64.wrap (age : Int)).tmod 90 = (age : Int) % 90 := by
    rw [IntWalk.i64_in _ (by omega), Int.tmod_eq_emod_of_nonneg (by omega)]
  have HAGE2 := Lib.hid hag2
  clear hag2
  have hw1 : IntKind.u16.wrap (nm : Int) = nm := by show (nm : Int) % 65536 = nm; omega
  have hw2 : IntKind.u16.wrap (ad : Int) = ad := by show (ad : Int) % 65536 = ad; omega
  obtain ⟨dd, hdd⟩ : ∃ dd, (if gn = true then (⟨#[]⟩ : ByteArray) else refD 10 0 0 ad po nm ad) = dd := ⟨_, rfl⟩
  rw [hdd]
  have HB1 := Lib.hid hb1
  have HDT := Lib.hid hdd
  have HW1 := Lib.hid hw1
  have HW2 := Lib.hid hw2
  clear hb1 hdd hw1 hw2
  obtain ⟨W, hW⟩ : ∃ W, W = w.alloc (.cells #[.int .u8 org, .int .u8 nm, .int .u8 ad, .int .u16 po, .bool gn, .int .u8 age] 80) := ⟨_, rfl⟩
  have hbW : W.heap[w.heap.size]? = some (.cells #[.int .u8 org, .int .u8 nm, .int .u8 ad, .int .u16 po, .bool gn, .int .u8 age] 80 (0, 0)) := by rw [hW]; exact heap_alloc_new w _
  have hoW : Only (fun _ => False) w W := by rw [hW]; exact (Only.refl _ _).alloc _
  have hsW : W.heap.size = w.heap.size + 1 := by rw [hW]; simp
  obtain ⟨W1, hW1⟩ : ∃ W1, W1 = W.alloc (.cells #[.string ⟨#[]⟩, .int .u64 0, .int .i64 0, .int .i64 0, .bool false, .string ⟨#[]⟩] 75) := ⟨_, rfl⟩
  have hbW1 : W1.heap[W.heap.size]? = some (.cells #[.string ⟨#[]⟩, .int .u64 0, .int .i64 0, .int .i64 0, .bool false, .string ⟨#[]⟩] 75 (0, 0)) := by rw [hW1]; exact heap_alloc_new W _
  have hoW1 : Only (fun _ => False) W W1 := by rw [hW1]; exact (Only.refl _ _).alloc _
  have hsW1 : W1.heap.size = W.heap.size + 1 := by rw [hW1]; simp
  have hbX := hoW1.old hbW id
  have hoA := hoW.trans hoW1
  rw [hsW] at hbW1
  have x0 : W1.cell? ⟨w.heap.size, 0, none⟩ = some (.int .u8 org) := cell_at hbX 0
  have x1 : W1.cell? ⟨w.heap.size, 1, none⟩ = some (.int .u8 nm) := cell_at hbX 1
  have x2 : W1.cell? ⟨w.heap.size, 2, none⟩ = some (.int .u8 ad) := cell_at hbX 2
  have x3 : W1.cell? ⟨w.heap.size, 3, none⟩ = some (.int .u16 po) := cell_at hbX 3
  have x4 : W1.cell? ⟨w.heap.size, 4, none⟩ = some (.bool gn) := cell_at hbX 4
  have x5 : W1.cell? ⟨w.heap.size, 5, none⟩ = some (.int .u8 age) := cell_at hbX 5
  have hsz : W1.heap.size = w.heap.size + 2 := by omega
  have HBX := Lib.hid hbX
  have HBR := Lib.hid hbW1
  have HOA := Lib.hid hoA
  have HSZ := Lib.hid hsz
  clear hbX hbW1 hoA hsz
  go_enter Tryz.func25, Tryz.ntmps25
  go_upto_region 1 with (fail)
  rw [← hW, ← hW1]
  clear hW hW1 hoW hoW1 hsW hsW1 hbW
  generalize hX : w.heap.size = X at *
  have HXW := Lib.hid hX
  clear hX
  have hb1 := HB1.out
  go_upto_region 2 with (fail)
  clear hb1
  have HCC : ∀ w', Only (fun _ => False) W1 w' → w'.cell? ⟨X, 1, none⟩ = some (.int .u8 nm) ∧ w'.cell? ⟨X, 4, none⟩ = some (.bool gn) ∧ w'.cell? ⟨X, 5, none⟩ = some (.int .u8 age) := fun w' h => ⟨h.cell x1 id, h.cell x4 id, h.cell x5 id⟩
  have HC0 := Lib.hid HCC
  clear HCC
  have hag : (age : Int) < 256 := by omega
  go_cut [4] (fun v4 wx => ∃ B, v4 = .pointer (some ⟨B, 0, none⟩) ∧ wx.heap[B]? = some (.cells #[.string K, .int .u64 4294967296, .int .i64 (1 + (q : Int)), .int .i64 ((age : Int) % 90), .bool gn, .string ⟨#[]⟩] 75 (0, 0)) ∧ Only (fun _ => False) W1 wx ∧ W1.heap.size ≤ B)
  case first =>
    go_region_held3 (fun w' => Only (fun _ => False) W1 w' ∧ w'.cell? ⟨X, 1, none⟩ = some (.int .u8 nm) ∧ w'.cell? ⟨X, 4, none⟩ = some (.bool gn) ∧ w'.cell? ⟨X, 5, none⟩ = some (.int .u8 age))
      ((go_split_ands; (refine heldO HC0.out ?_); (repeat (first | (with_reducible assumption) | (with_reducible exact Only.refl _ _) | (with_reducible refine Only.drew ?_) | (with_reducible refine Only.alloc ?_ _) | (with_reducible refine onlySet ?_ (by first | (with_reducible assumption) | omega) _) | (with_reducible refine Only.trans ?_ (by with_reducible assumption))))))
      (first
        | (go_at_call 55; (with_reducible refine (HNM.out _).mono ?_); rintro e w2 ⟨rfl, ho2⟩; have hz2 : W1.heap.size ≤ w2.heap.size := (by have h7 := Only.size ho2; first | exact h7 | (simp at h7; omega)); (try (have ha2 : w2.heap[W1.heap.size]? = some (.cells #[.string ⟨#[]⟩, .int .u64 0, .int .i64 0, .int .i64 0, .bool false, .string ⟨#[]⟩] 75 (0, 0)) := Only.old ho2 (heap_alloc_new W1 _) id)))
        | (go_at_call 19; (with_reducible refine (HKY.out _).mono ?_); rintro e w3 ⟨rfl, ho3⟩; have hz3 : W1.heap.size ≤ w3.heap.size := (by have h7 := Only.size ho3; first | exact Nat.le_trans hz2 h7 | (simp at h7; omega)); (try (have ha3 : w3.heap[w2.heap.size]? = some (.cells #[.string ⟨#[]⟩, .int .u64 0, .int .i64 0, .int .i64 0, .bool false, .string ⟨#[]⟩] 75 (0, 0)) := Only.old ho3 (heap_alloc_new w2 _) id; have q0 := cell_at ha3 0; have q1 := cell_at ha3 1; have q2 := cell_at ha3 2; have q3 := cell_at ha3 3; have q4 := cell_at ha3 4; have q5 := cell_at ha3 5; have qf := free_at ha3; have ql := lt_of_block ha3)); (try (have ha4 : w3.heap[W1.heap.size]? = some (.cells #[.string ⟨#[]⟩, .int .u64 0, .int .i64 0, .int .i64 0, .bool false, .string ⟨#[]⟩] 75 (0, 0)) := Only.old ho3 ha2 id; have r0 := cell_at ha4 0; have r1 := cell_at ha4 1; have r2 := cell_at ha4 2; have r3 := cell_at ha4 3; have r4 := cell_at ha4 4; have r5 := cell_at ha4 5; have rf := free_at ha4; have rl := lt_of_block ha4))))
    all_goals
      go_split_ands
      go_wp2_with fail
      go_meet
      refine ⟨_, rfl, ?_, ?_, ?_⟩
      · rw [← HAGE2.out]
        (apply Eq.trans; (case h₁ => repeat (first | (with_reducible assumption) | (with_reducible exact heap_alloc_new _ _) | (with_reducible apply blk_new; (repeat (first | (with_reducible rfl) | (with_reducible apply sz_set) | (with_reducible apply sz_alloc) | (with_reducible apply sz_drew))); done) | (with_reducible apply blk_same) | (with_reducible apply blk_ne; case hn => (first | assumption | omega)) | (with_reducible apply blk_old) | (with_reducible apply blk_drew))); (case h₂ => rfl))
      · (repeat (first | (with_reducible assumption) | (with_reducible exact Only.refl _ _) | (with_reducible refine Only.drew ?_) | (with_reducible refine Only.alloc ?_ _) | (with_reducible refine onlySet ?_ (by first | (with_reducible assumption) | omega) _) | (with_reducible refine Only.trans ?_ (by with_reducible assumption))))
      · first
          | with_reducible assumption
          | exact Nat.le_refl _
  case rest =>
  obtain ⟨B, rfl, hB, hoB, hBs⟩ := hcut
  have hR := hoB.old HBR.out id
  have hbx := hoB.old HBX.out id
  have hoC := HOA.out.trans hoB
  have x1 : wc.cell? ⟨X, 1, none⟩ = some (.int .u8 nm) := cell_at hbx 1
  have x2 : wc.cell? ⟨X, 2, none⟩ = some (.int .u8 ad) := cell_at hbx 2
  have x3 : wc.cell? ⟨X, 3, none⟩ = some (.int .u16 po) := cell_at hbx 3
  have x4 : wc.cell? ⟨X, 4, none⟩ = some (.bool gn) := cell_at hbx 4
  have hn : ¬ B = X + 1 := by have := HSZ.out; have := HXW.out; omega
  have hbw : w.heap.size ≤ B ∧ w.heap.size ≤ X + 1 := by have := HSZ.out; have := HXW.out; omega
  have hw1 := HW1.out
  have hw2 := HW2.out
  have HBB := Lib.hid hB
  have HRR := Lib.hid hR
  have HOC := Lib.hid hoC
  have HBW := Lib.hid hbw
  clear hB hR hoC hbw
  clear hoB hbx x0 x5
  cases gn with
  | false =>
    have HDD := Lib.hid (show refD 10 0 0 ad po nm ad = dd by rw [← HDT.out]; rfl)
    go_upto_region 4 with (fail)
    go_wp2_with fail
    refine (HDA.out _).mono ?_
    rintro e w4 ⟨rfl, ho4⟩
    have hb4 := ho4.old HBB.out id
    have hr4 := ho4.old HRR.out id
    rw [HDD.out]
    have bf : ∀ i, w4.frozen? ⟨B, i, none⟩ = false := free_at hb4
    have y5 : w4.cell? ⟨B, 5, none⟩ = some (.string ⟨#[]⟩) := cell_at hb4 5
    obtain ⟨W5, hW5⟩ : ∃ W5, W5 = w4.setCell ⟨B, 5, none⟩ (.string dd) := ⟨_, rfl⟩
    have ho5 : Only (fun i => i = B) w4 W5 := by rw [hW5]; exact (Only.refl _ _).setCell (S := fun i => i = B) (p := ⟨B, 5, none⟩) (.inr rfl) _
    have hb5 : W5.heap[B]? = some (.cells #[.string K, .int .u64 4294967296, .int .i64 (1 + (q : Int)), .int .i64 ((age : Int) % 90), .bool false, .string dd] 75 (0, 0)) := by rw [hW5]; exact set_at hb4 5 _
    have hr5 := ho5.old hr4 (fun e => hn e.symm)
    have HO4 := Lib.hid (HOC.out.trans ho4)
    have HB5 := Lib.hid hb5
    have HR5 := Lib.hid hr5
    have HO5 := Lib.hid ho5
    clear hb5 hr5 ho5
    clear hb4 hr4 ho4
    go_upto_region 5 with (fail)
    rw [← hW5]
    clear hW5 y5 bf x1 x2 x3 x4
    have y0 : W5.cell? ⟨B, 0, none⟩ = some (.string K) := cell_at HB5.out 0
    have y1 : W5.cell? ⟨B, 1, none⟩ = some (.int .u64 4294967296) := cell_at HB5.out 1
    have y2 : W5.cell? ⟨B, 2, none⟩ = some (.int .i64 (1 + (q : Int))) := cell_at HB5.out 2
    have y3 : W5.cell? ⟨B, 3, none⟩ = some (.int .i64 ((age : Int) % 90)) := cell_at HB5.out 3
    have y4 : W5.cell? ⟨B, 4, none⟩ = some (.bool false) := cell_at HB5.out 4
    have y5 : W5.cell? ⟨B, 5, none⟩ = some (.string dd) := cell_at HB5.out 5
    have z0 : W5.cell? ⟨(X + 1), 0, none⟩ = some (.string ⟨#[]⟩) := cell_at HR5.out 0
    have z1 : W5.cell? ⟨(X + 1), 1, none⟩ = some (.int .u64 0) := cell_at HR5.out 1
    have z2 : W5.cell? ⟨(X + 1), 2, none⟩ = some (.int .i64 0) := cell_at HR5.out 2
    have z3 : W5.cell? ⟨(X + 1), 3, none⟩ = some (.int .i64 0) := cell_at HR5.out 3
    have z4 : W5.cell? ⟨(X + 1), 4, none⟩ = some (.bool false) := cell_at HR5.out 4
    have z5 : W5.cell? ⟨(X + 1), 5, none⟩ = some (.string ⟨#[]⟩) := cell_at HR5.out 5
    have zf : ∀ i, W5.frozen? ⟨X + 1, i, none⟩ = false := free_at HR5.out
    go_wp2_with fail
    obtain ⟨s1, s2⟩ := six_set HR5.out (.string K) (.int .u64 4294967296) (.int .i64 (1 + (q : Int))) (.int .i64 ((age : Int) % 90)) (.bool false) (.string dd)
    generalize ((((((W5.setCell ⟨(X + 1), 0, none⟩ (.string K)).setCell ⟨(X + 1), 1, none⟩ (.int .u64 4294967296)).setCell ⟨(X + 1), 2, none⟩ (.int .i64 (1 + (q : Int)))).setCell ⟨(X + 1), 3, none⟩ (.int .i64 ((age : Int) % 90))).setCell ⟨(X + 1), 4, none⟩ (.bool false)).setCell ⟨(X + 1), 5, none⟩ (.string dd)) = wz at *
    have p0 : wz.cell? ⟨(X + 1), 0, none⟩ = some (.string K) := cell_at s1 0
    have p1 : wz.cell? ⟨(X + 1), 1, none⟩ = some (.int .u64 4294967296) := cell_at s1 1
    have p2 : wz.cell? ⟨(X + 1), 2, none⟩ = some (.int .i64 (1 + (q : Int))) := cell_at s1 2
    have p3 : wz.cell? ⟨(X + 1), 3, none⟩ = some (.int .i64 ((age : Int) % 90)) := cell_at s1 3
    have p4 : wz.cell? ⟨(X + 1), 4, none⟩ = some (.bool false) := cell_at s1 4
    have p5 : wz.cell? ⟨(X + 1), 5, none⟩ = some (.string dd) := cell_at s1 5
    refine bodyPost_ret (v := .agg #[.string K, .int .u64 4294967296, .int .i64 (1 + (q : Int)), .int .i64 ((age : Int) % 90), .bool false, .string dd]) (by simp [results, Tryz.results25, go_sem, p0, p1, p2, p3, p4, p5]) rfl ?_
    exact ⟨rfl, (HO4.out.tr HO5.out (fun i hi e => by have := HBW.out; omega)).tr s2 (fun i hi e => by have := HBW.out; omega)⟩
  | true =>
    have HDD := Lib.hid (show (⟨#[]⟩ : ByteArray) = dd by rw [← HDT.out]; rfl)
    go_upto_region 5 with (fail)
    have y0 : wc.cell? ⟨B, 0, none⟩ = some (.string K) := cell_at HBB.out 0
    have y1 : wc.cell? ⟨B, 1, none⟩ = some (.int .u64 4294967296) := cell_at HBB.out 1
    have y2 : wc.cell? ⟨B, 2, none⟩ = some (.int .i64 (1 + (q : Int))) := cell_at HBB.out 2
    have y3 : wc.cell? ⟨B, 3, none⟩ = some (.int .i64 ((age : Int) % 90)) := cell_at HBB.out 3
    have y4 : wc.cell? ⟨B, 4, none⟩ = some (.bool true) := cell_at HBB.out 4
    have y5 : wc.cell? ⟨B, 5, none⟩ = some (.string ⟨#[]⟩) := cell_at HBB.out 5
    have z0 : wc.cell? ⟨(X + 1), 0, none⟩ = some (.string ⟨#[]⟩) := cell_at HRR.out 0
    have z1 : wc.cell? ⟨(X + 1), 1, none⟩ = some (.int .u64 0) := cell_at HRR.out 1
    have z2 : wc.cell? ⟨(X + 1), 2, none⟩ = some (.int .i64 0) := cell_at HRR.out 2
    have z3 : wc.cell? ⟨(X + 1), 3, none⟩ = some (.int .i64 0) := cell_at HRR.out 3
    have z4 : wc.cell? ⟨(X + 1), 4, none⟩ = some (.bool false) := cell_at HRR.out 4
    have z5 : wc.cell? ⟨(X + 1), 5, none⟩ = some (.string ⟨#[]⟩) := cell_at HRR.out 5
    have zf : ∀ i, wc.frozen? ⟨X + 1, i, none⟩ = false := free_at HRR.out
    clear x1 x2 x3 x4
    go_wp2_with fail
    obtain ⟨s1, s2⟩ := six_set HRR.out (.string K) (.int .u64 4294967296) (.int .i64 (1 + (q : Int))) (.int .i64 ((age : Int) % 90)) (.bool true) (.string ⟨#[]⟩)
    generalize ((((((wc.setCell ⟨(X + 1), 0, none⟩ (.string K)).setCell ⟨(X + 1), 1, none⟩ (.int .u64 4294967296)).setCell ⟨(X + 1), 2, none⟩ (.int .i64 (1 + (q : Int)))).setCell ⟨(X + 1), 3, none⟩ (.int .i64 ((age : Int) % 90))).setCell ⟨(X + 1), 4, none⟩ (.bool true)).setCell ⟨(X + 1), 5, none⟩ (.string ⟨#[]⟩)) = wz at *
    have p0 : wz.cell? ⟨(X + 1), 0, none⟩ = some (.string K) := cell_at s1 0
    have p1 : wz.cell? ⟨(X + 1), 1, none⟩ = some (.int .u64 4294967296) := cell_at s1 1
    have p2 : wz.cell? ⟨(X + 1), 2, none⟩ = some (.int .i64 (1 + (q : Int))) := cell_at s1 2
    have p3 : wz.cell? ⟨(X + 1), 3, none⟩ = some (.int .i64 ((age : Int) % 90)) := cell_at s1 3
    have p4 : wz.cell? ⟨(X + 1), 4, none⟩ = some (.bool true) := cell_at s1 4
    have p5 : wz.cell? ⟨(X + 1), 5, none⟩ = some (.string ⟨#[]⟩) := cell_at s1 5
    refine bodyPost_ret (v := .agg #[.string K, .int .u64 4294967296, .int .i64 (1 + (q : Int)), .int .i64 ((age : Int) % 90), .bool true, .string ⟨#[]⟩]) (by simp [results, Tryz.results25, go_sem, p0, p1, p2, p3, p4, p5]) rfl ?_
    exact ⟨by rw [HDD.out], HOC.out.tr s2 (fun i hi e => by have := HBW.out; omega)⟩
end Go.Proofs.YtbdfijgejkimnaaGreatDoor
/-! The reference's Good and Data. -/
namespace Go.Proofs.YtbdfijgejkimnaaGreatDoor
open Go.Conc Go.RowKit

theorem good_form (key : ByteArray) (ver : Nat) (o age : Int) (gone : Bool) (data : ByteArray) : goodP key ver o age gone data = decide ((originP key : Int) = o ∧ o ≠ 0 ∧ 4294967296 ≤ ver ∧ 0 ≤ age ∧ age ≤ 65535 ∧ data.size = if gone then 0 else 10) := by
  have hso := split_origin key
  unfold goodP
  generalize (if gone then 0 else 10) = z
  by_cases hp : 0 < originP key
  · obtain ⟨r1, r2, _⟩ := hso.1 hp
    rw [r1, r2, Bool.eq_iff_iff]
    simp
    omega
  · obtain ⟨r1, r2, _⟩ := hso.2 (by omega)
    rw [r1, Bool.eq_iff_iff]
    simp
    omega
set_option maxRecDepth 100000 in
set_option maxHeartbeats 2000000 in
theorem rgood_any (w : World) (key : ByteArray) (ver : Nat) (o age : Int) (gone : Bool) (data : ByteArray) (hk : key.size ≤ maxLen) :
    Calls Tryz.prog 56 #[.string key, .int .u64 ver, .int .i64 o, .int .i64 age, .bool gone, .string data] w fun e w' => e = .returned (.bool (goodP key ver o age gone data)) ∧ Only (fun _ => False) w w' := by
  have GF := Lib.hid (good_form key ver o age gone data)
  go_enter Tryz.func56, Tryz.ntmps56
  go_wp2_with fail
  refine (rorigin_any _ key hk).mono ?_
  rintro e w1 ⟨rfl, ho1⟩
  generalize originP key = L at *
  have HO1 := Lib.hid ho1
  have hdz : data.size = 0 ∨ data.size ≠ 0 := by omega
  have HDZ := Lib.hid hdz
  clear ho1 hdz
  by_cases c1 : (L : Int) = o
  · subst c1
    by_cases c2 : (L : Int) = 0
    · have q2 : ((L : Int) == 0) = true := by simp; omega
      go_wp2_with fail
      go_ret
      refine ⟨ret_bool ?_, HO1.out⟩
      rw [GF.out]
      refine (decide_eq_false ?_).symm
      omega
    · have q2 : ((L : Int) == 0) = false := by simp; omega
      by_cases c3 : (ver : Int) < 4294967296
      · have q3 : decide ((ver : Int) < 4294967296) = true := decide_eq_true c3
        go_wp2_with fail
        go_ret
        refine ⟨ret_bool ?_, HO1.out⟩
        rw [GF.out]
        refine (decide_eq_false ?_).symm
        omega
      · have q3 : decide ((ver : Int) < 4294967296) = false := decide_eq_false c3
        by_cases c4 : age < 0
        · have q4 : decide (age < 0) = true := decide_eq_true c4
          go_wp2_with fail
          go_ret
          refine ⟨ret_bool ?_, HO1.out⟩
          rw [GF.out]
          refine (decide_eq_false ?_).symm
          omega
        · have q4 : decide (age < 0) = false := decide_eq_false c4
          have h8 : 0 ≤ age := by omega
          by_cases c5 : 65535 < age
          · have q5 : decide (65535 < age) = true := decide_eq_true c5
            go_wp2_with fail
            go_ret
            refine ⟨ret_bool ?_, HO1.out⟩
            rw [GF.out]
            refine (decide_eq_false ?_).symm
            omega
          · have q5 : decide (65535 < age) = false := decide_eq_false c5
            have h10 : age ≤ 65535 := by omega
            have hv : 4294967296 ≤ ver := by omega
            have HV := Lib.hid (And.intro c2 (And.intro hv (And.intro h8 h10)))
            cases gone with
            | true =>
              rcases HDZ.out with h0 | h0
              · have e0 := empty_true h0
                have HD := Lib.hid h0
                clear h0
                go_wp2_with fail
                go_ret
                refine ⟨ret_bool ?_, HO1.out⟩
                rw [GF.out]
                exact (decide_eq_true ⟨(by first | trivial | rfl), HV.out.1, HV.out.2.1, HV.out.2.2.1, HV.out.2.2.2, HD.out⟩).symm
              · have e0 := empty_false h0
                have HD := Lib.hid h0
                clear h0
                go_wp2_with fail
                go_ret
                refine ⟨ret_bool ?_, HO1.out⟩
                rw [GF.out]
                exact (decide_eq_false (fun h => HD.out h.2.2.2.2.2)).symm
            | false =>
              by_cases hd : data.size = 10
              · have e1 : ((data.size : Int) == 10) = true := by simp; omega
                have HD := Lib.hid hd
                clear hd
                go_wp2_with fail
                go_ret
                refine ⟨ret_bool ?_, HO1.out⟩
                rw [GF.out]
                exact (decide_eq_true ⟨(by first | trivial | rfl), HV.out.1, HV.out.2.1, HV.out.2.2.1, HV.out.2.2.2, HD.out⟩).symm
              · have e1 : ((data.size : Int) == 10) = false := by simp; omega
                have HD := Lib.hid hd
                clear hd
                go_wp2_with fail
                go_ret
                refine ⟨ret_bool ?_, HO1.out⟩
                rw [GF.out]
                exact (decide_eq_false (fun h => HD.out h.2.2.2.2.2)).symm
  · have q1 : ((L : Int) != o) = true := by simp; omega
    have q1' : ((L : Int) == o) = false := by simp; omega
    go_wp2_with fail
    go_ret
    refine ⟨ret_bool ?_, HO1.out⟩
    rw [GF.out]
    refine (decide_eq_false ?_).symm
    omega
end Go.Proofs.YtbdfijgejkimnaaGreatDoor
