/- The elements of a slice of ints. -/
import Derived.Test.YtigdpdndnghldaaRows
import Derived.Test.YtigdpdndnghldaaG0
namespace Go.Proofs.Ytigdpdndnghldaa
open Go.RowKit
theorem elemInts : Elem Try.prog 36 3 1 8 (.int .i64 0) := ⟨by kernel_rfl, info_parts (by kernel_rfl), rfl, by decide⟩
end Go.Proofs.Ytigdpdndnghldaa
