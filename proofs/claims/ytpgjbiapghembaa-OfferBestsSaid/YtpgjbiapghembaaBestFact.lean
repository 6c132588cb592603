/-
  The closed facts of the row of OfferBests, by the kernel. Conditions: none.
-/
import Derived.Test.YtpgjbiapghembaaChecked
import Derived.Test.YtpgjbiapghembaaRows
import Derived.ProofKit
import Derived.JoinedOf
namespace Go.Proofs.Ytpgjbiapghembaa
open Go.RowKit
theorem offerBests_facts : joinedFacts Try.pinned.checked.prog 4 Try.f4 Rows.offerBestsSpec Rows.offerBestsRow = true := by kernel_rfl
end Go.Proofs.Ytpgjbiapghembaa
