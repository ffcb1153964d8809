/- The elements of a slice of ints. -/
import Derived.Test.YtelhjcifiahahaaRows
import Derived.Test.YtelhjcifiahahaaG0
namespace Go.Proofs.Ytelhjcifiahahaa
open Go.RowKit
theorem elemInts : Elem Try.prog 38 3 1 8 (.int .i64 0) := ⟨by kernel_rfl, info_parts (by kernel_rfl), rfl, by decide⟩
end Go.Proofs.Ytelhjcifiahahaa
