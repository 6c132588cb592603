/-
  The closed facts of the row of ViaAlls, by the kernel. Conditions: none.
-/
import Derived.Test.YtihaplieedefcaaChecked
import Derived.Test.YtihaplieedefcaaRows
import Derived.ProofKit
import Derived.JoinedOf
namespace Go.Proofs.Ytihaplieedefcaa
open Go.RowKit
theorem viaAlls_facts : joinedFacts Try.pinned.checked.prog 8 Try.f8 Rows.viaAllsSpec Rows.viaAllsRow = true := by kernel_rfl
end Go.Proofs.Ytihaplieedefcaa
