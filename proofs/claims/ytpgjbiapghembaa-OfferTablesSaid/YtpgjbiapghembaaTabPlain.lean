/-
  The table of the best offers, the plain law: which offers are hidden, which routes are left. Conditions: none.
-/
import Derived.Test.YtpgjbiapghembaaBestPl
import Derived.Test.YtpgjbiapghembaaRoute
namespace Go.Proofs.Ytpgjbiapghembaa

/-- b hides o: b is no offer from far, and covers o. -/
def hides (o b : Ofr) : Bool := (b.src != 4) && overB b.ad b.len o.ad o.len
def hiddenO (L : List Ofr) (o : Ofr) : Bool := (o.src == 4) && L.any (hides o)
def toRt (o : Ofr) : Rt := ⟨o.ad, o.len, o.hop⟩
/-- The routes of those that are not hidden by one of L. -/
def tabO (L M : List Ofr) : List Rt := (M.filter fun o => !(hiddenO L o)).map toRt
theorem tabO_yes (L : List Ofr) {M : List Ofr} {k : Nat} {o : Ofr} (hk : M[k]? = some o) (h : hiddenO L o = true) : tabO L (M.take (k + 1)) = tabO L (M.take k) := by
  unfold tabO
  rw [List.take_add_one, hk]
  simp [List.filter_append, h]
theorem tabO_no (L : List Ofr) {M : List Ofr} {k : Nat} {o : Ofr} (hk : M[k]? = some o) (h : hiddenO L o = false) : tabO L (M.take (k + 1)) = tabO L (M.take k) ++ [toRt o] := by
  unfold tabO
  rw [List.take_add_one, hk]
  simp [List.filter_append, h]
theorem tabO_le (L M : List Ofr) : (tabO L M).length ≤ M.length := by
  unfold tabO
  rw [List.length_map]
  exact List.length_filter_le _ _
end Go.Proofs.Ytpgjbiapghembaa
