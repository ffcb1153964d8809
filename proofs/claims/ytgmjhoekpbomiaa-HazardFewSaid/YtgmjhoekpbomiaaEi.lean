/- The elements of a slice of ints. -/
import Derived.Test.YtgmjhoekpbomiaaRows
import Derived.Test.YtgmjhoekpbomiaaG0
namespace Go.Proofs.Ytgmjhoekpbomiaa
open Go.RowKit
theorem elemInts : Elem Try.prog 25 3 1 8 (.int .i64 0) := ⟨by kernel_rfl, info_parts (by kernel_rfl), rfl, by decide⟩
end Go.Proofs.Ytgmjhoekpbomiaa
