/- The elements of a slice of ints. -/
import Derived.Test.YtnpbdabboecpaaaRows
import Derived.Test.YtnpbdabboecpaaaG0
namespace Go.Proofs.Ytnpbdabboecpaaa
open Go.RowKit
theorem elemInts : Elem Try.prog 27 3 1 8 (.int .i64 0) := ⟨by kernel_rfl, info_parts (by kernel_rfl), rfl, by decide⟩
end Go.Proofs.Ytnpbdabboecpaaa
