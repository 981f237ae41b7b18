/- Equality of pairs and of records. -/
import Derived.Test.YtfmplmchpdmbmaaDoorRec10
import Derived.Laws.StructEq
import Derived.ChangeKeysEq
namespace Go.Proofs.YtfmplmchpdmbmaaDoor
open Go.Conc Go.RowKit

theorem infoU32 : (Tryd.prog.info? 32).map (fun i => (i.zero, i.size, i.bytes)) = some (some (.int .u32 0), 1, 4) := by kernel_rfl
theorem eqA (w : World) (x y z u : Int) : (binOp BinOp.eql 33 (.agg #[.int .u32 x, .int .u32 y]) (.agg #[.int .u32 z, .int .u32 u])).run Tryd.prog w = .ok (.bool (x == z && y == u)) w := by
  have hc : Tryd.prog.cellsOf 32 = 1 := by kernel_rfl
  have hsz : ∀ w, (Go.sizeOf 32).run Tryd.prog w = .ok 1 w := fun w => by kernel_rfl
  obtain ⟨i, hi, _⟩ := info_parts infoU32
  rw [run_eql_struct, run_equalIn_array (P := Tryd.prog) w 9999 _ _ Tryd.underlying33 hi]
  simp [Op.eqItems, List.range, List.range.loop, hc, part, hsz, go_sem]
  by_cases h1 : x = z <;> by_cases h2 : y = u <;> simp [h1, h2]
theorem eqR (w : World) (k k' d d' : ByteArray) (v o a v' o' a' : Int) (g g' : Bool) : (binOp BinOp.eql 44 (.agg #[.string k, .int .u64 v, .int .i64 o, .int .i64 a, .bool g, .string d]) (.agg #[.string k', .int .u64 v', .int .i64 o', .int .i64 a', .bool g', .string d'])).run Tryd.prog w = .ok (.bool ((k.toList == k'.toList) && (v == v') && (o == o') && (a == a') && (g == g') && (d.toList == d'.toList))) w := by
  simp [go_sem]
  by_cases h1 : k.toList = k'.toList <;> by_cases h2 : v = v' <;> by_cases h3 : o = o' <;> by_cases h4 : a = a' <;> by_cases h5 : g = g' <;> simp [h1, h2, h3, h4, h5]
  split <;> simp_all
theorem neR (w : World) (k k' d d' : ByteArray) (v o a v' o' a' : Int) (g g' : Bool) : (binOp BinOp.neq 44 (.agg #[.string k, .int .u64 v, .int .i64 o, .int .i64 a, .bool g, .string d]) (.agg #[.string k', .int .u64 v', .int .i64 o', .int .i64 a', .bool g', .string d'])).run Tryd.prog w = .ok (.bool (!((k.toList == k'.toList) && (v == v') && (o == o') && (a == a') && (g == g') && (d.toList == d'.toList)))) w := by
  simp [go_sem]
  by_cases h1 : k.toList = k'.toList <;> by_cases h2 : v = v' <;> by_cases h3 : o = o' <;> by_cases h4 : a = a' <;> by_cases h5 : g = g' <;> simp [h1, h2, h3, h4, h5]
  split <;> simp_all
end Go.Proofs.YtfmplmchpdmbmaaDoor
