/- Equality of records. -/
import Derived.Test.YtianboachknfmaaDoorRec6
import Derived.Laws.StructEq
namespace Go.Proofs.YtianboachknfmaaDoor
open Go.Conc Go.RowKit

theorem eqR (w : World) (k k' d d' : ByteArray) (v o a v' o' a' : Int) (g g' : Bool) : (binOp BinOp.eql 33 (.agg #[.string k, .int .u64 v, .int .i64 o, .int .i64 a, .bool g, .string d]) (.agg #[.string k', .int .u64 v', .int .i64 o', .int .i64 a', .bool g', .string d'])).run Tryd.prog w = .ok (.bool ((k.toList == k'.toList) && (v == v') && (o == o') && (a == a') && (g == g') && (d.toList == d'.toList))) w := by
  simp [go_sem]
  by_cases h1 : k.toList = k'.toList <;> by_cases h2 : v = v' <;> by_cases h3 : o = o' <;> by_cases h4 : a = a' <;> by_cases h5 : g = g' <;> simp [h1, h2, h3, h4, h5]
  split <;> simp_all
theorem neR (w : World) (k k' d d' : ByteArray) (v o a v' o' a' : Int) (g g' : Bool) : (binOp BinOp.neq 33 (.agg #[.string k, .int .u64 v, .int .i64 o, .int .i64 a, .bool g, .string d]) (.agg #[.string k', .int .u64 v', .int .i64 o', .int .i64 a', .bool g', .string d'])).run Tryd.prog w = .ok (.bool (!((k.toList == k'.toList) && (v == v') && (o == o') && (a == a') && (g == g') && (d.toList == d'.toList)))) w := by
  simp [go_sem]
  by_cases h1 : k.toList = k'.toList <;> by_cases h2 : v = v' <;> by_cases h3 : o = o' <;> by_cases h4 : a = a' <;> by_cases h5 : g = g' <;> simp [h1, h2, h3, h4, h5]
  split <;> simp_all
end Go.Proofs.YtianboachknfmaaDoor
