/-
  The closed facts of the row of OfferTables, by the kernel. Conditions: none.
-/
import Derived.Test.YtpgjbiapghembaaChecked
import Derived.Test.YtpgjbiapghembaaRows
import Derived.ProofKit
import Derived.JoinedOf
namespace Go.Proofs.Ytpgjbiapghembaa
open Go.RowKit
theorem offerTables_facts : joinedFacts Try.pinned.checked.prog 5 Try.f5 Rows.offerTablesSpec Rows.offerTablesRow = true := by kernel_rfl
end Go.Proofs.Ytpgjbiapghembaa
