/-
  The best offers, the plain law: the order by which they stand; that a sorted list of them is one. Conditions: sources 1 to 4, metrics and peers 0 to 999.
-/
import Derived.Test.YtpgjbiapghembaaBetter
namespace Go.Proofs.Ytpgjbiapghembaa
open Go.RowKit
set_option maxRecDepth 100000

theorem better_lt (a b : Ofr) (h1 : 0 ≤ a.met ∧ a.met ≤ 999 ∧ 0 ≤ a.peer ∧ a.peer ≤ 999) (h2 : 0 ≤ b.met ∧ b.met ≤ 999 ∧ 0 ≤ b.peer ∧ b.peer ≤ 999) : betterZ a b < 0 ↔ worth a < worth b := by
  have c1 : ∀ {x y : Int}, x < y → cmpI x y = -1 := fun h => by unfold cmpI; rw [if_pos h]
  have c2 : ∀ {x y : Int}, y < x → cmpI x y = 1 := fun h => by unfold cmpI; rw [if_neg (by omega), if_pos h]
  have c3 : ∀ {x y : Int}, x = y → cmpI x y = 0 := fun h => by unfold cmpI; rw [if_neg (by omega), if_neg (by omega)]
  unfold betterZ worth
  rcases Int.lt_trichotomy a.src b.src with h | h | h
  · simp [c1 h]; omega
  · rcases Int.lt_trichotomy a.met b.met with g | g | g
    · simp [c3 h, c1 g]; omega
    · rcases Int.lt_trichotomy a.peer b.peer with k | k | k
      · simp [c3 h, c3 g, c1 k]; omega
      · simp [c3 h, c3 g, c3 k]; omega
      · simp [c3 h, c3 g, c2 k]; omega
    · simp [c3 h, c2 g]; omega
  · simp [c2 h]; omega
theorem order_lt (a b : Ad × Int) : orderZ a b < 0 ↔ pfLess a b := by
  unfold orderZ pfLess
  rcases h1 : adLess a.1 b.1 with _ | _
  · rcases h2 : adLess b.1 a.1 with _ | _
    · have e := adLess_tot _ _ h1 h2
      simp [e]
      omega
    · simp
      intro e
      rw [e, adLess_irr] at h2
      cases h2
  · simp
/-- The best of A, in order. -/
def BestOf (A L : List Ofr) : Prop := (L.Pairwise fun x y => pfLess x.pf y.pf) ∧ ∀ o, o ∈ L ↔ o ∈ A ∧ isBest A o = true
theorem best_one {A L M : List Ofr} (h1 : BestOf A L) (h2 : BestOf A M) : L = M :=
  strict_ext (lt := fun x y : Ofr => pfLess x.pf y.pf) (fun _ => pfLess_irr _) (fun _ _ _ => pfLess_tr _ _ _) L M h1.1 h2.1 fun x => (h1.2 x).trans (h2.2 x).symm
theorem pfLess_tot (a b : Ad × Int) (h1 : ¬ pfLess a b) (h2 : ¬ pfLess b a) : a = b := by
  simp only [pfLess, not_or, not_and] at h1 h2
  have e := adLess_tot a.1 b.1 (by simpa using h1.1) (by simpa using h2.1)
  have := h1.2 e
  have := h2.2 e.symm
  exact Prod.ext e (by omega)
end Go.Proofs.Ytpgjbiapghembaa
