/- The elements of a slice of ints. -/
import Derived.Test.YtmbcfbehchpfbaaRows
import Derived.Test.YtmbcfbehchpfbaaG0
namespace Go.Proofs.Ytmbcfbehchpfbaa
open Go.RowKit
theorem elemInts : Elem Try.prog 24 3 1 8 (.int .i64 0) := ⟨by kernel_rfl, info_parts (by kernel_rfl), rfl, by decide⟩
end Go.Proofs.Ytmbcfbehchpfbaa
