/- Areas are compared. -/
import Derived.Test.YtionocafkaemiaaDoorK2
import Derived.Laws.StructEq
namespace Go.Proofs.YtionocafkaemiaaDoor
open Go.RowKit
namespace Sx
theorem area_fields : Tryd.prog.underlying 31 = some (.struct (Tryd.prog.fieldsOf 31)) := by kernel_rfl
theorem area_held : Tryd.prog.stoodInHeld 31 = false := by kernel_rfl
theorem eql_area (a b c d : Int) (w : World) : (binOp .eql 31 (.agg #[.int .i64 a, .int .i64 b]) (.agg #[.int .i64 c, .int .i64 d])).run Tryd.prog w = .ok (.bool (a == c && b == d)) w := by
  have u3 := Tryd.underlying2
  have a3 := Tryd.isAgg2
  have z3 := Tryd.sizeOf2
  rw [run_eql_struct, show (10000 : Nat) = 9999 + 1 from rfl, run_equalIn_agg w 9999 _ _ _ area_fields area_held]
  simp only [Program.fieldsOf, Tryd.underlying31]
  go_simp
  by_cases h1 : a = c <;> by_cases h2 : b = d <;> simp [h1, h2]
end Sx
end Go.Proofs.YtionocafkaemiaaDoor
