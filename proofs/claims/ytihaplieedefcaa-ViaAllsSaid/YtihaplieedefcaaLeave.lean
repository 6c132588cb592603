/-
  A row whose call stays alone is also a row of the kind that lets others leave. Conditions: none.
-/
import Derived.Test.YtihaplieedefcaaRows
import Derived.ProofKit
import Derived.Conc.LeavingOf
namespace Go.Proofs.Ytihaplieedefcaa
open Go.RowKit Go.Conc

theorem leaving_of_alone {P : Program} {m : Machine} {w : World} {t : Trace} (h : aloneAtReturn P m w t) : leavingAtReturn P m w t := by
  obtain ⟨⟨h1, h2⟩, h3, h4⟩ := h
  refine ⟨h3, ⟨fun g hg => ?_, h2⟩, h4⟩
  refine ⟨0, ?_⟩
  have := (List.all_eq_true.1 h1) g hg
  simpa [Goroutine.LeavesIn] using this
theorem leaving_of_handed {a : Assume} {C : Checked} {os : Os} {f : FuncId} {r : Reach} {Pre : World → Array Value → Prop} {Post : World → Array Value → Value → World → Prop}
    (h : ReturnsInHanded a C os f r Pre Post) : ReturnsInLeavingWide a C os f r Pre Post := fun e =>
  ReturnsInOpen.mono (fun _ _ _ x => leaving_of_alone x) (fun _ x => x) (h e)

end Go.Proofs.Ytihaplieedefcaa
