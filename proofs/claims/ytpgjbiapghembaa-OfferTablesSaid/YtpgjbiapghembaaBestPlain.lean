/-
  The comparison by which the best offers are sorted. Conditions: sources 1 to 4, metrics and peers 0 to 999.
-/
import Derived.Test.YtpgjbiapghembaaBestPl
import Derived.Test.YtpgjbiapghembaaSort
namespace Go.Proofs.Ytpgjbiapghembaa
open Go.RowKit
set_option maxRecDepth 100000

/-- An offer that the sort may be handed. -/
abbrev Ofs : Type := { o : Ofr // o.ad.wf ∧ 0 ≤ o.len ∧ o.len ≤ 128 }
instance : Inhabited Ofs := ⟨⟨⟨⟨false, 0, 0⟩, 0, 0, 0, 0, 0⟩, ⟨by decide, by decide⟩, by decide, by decide⟩⟩
def encS (o : Ofs) : List Value := encO o.1
def cfS (x y : Ofs) : Int := orderZ x.1.pf y.1.pf
theorem cmpS : CmpAny Try.prog 34 #[] encS cfS := by
  intro W x y
  obtain ⟨x, hx1, hx2, hx3⟩ := x
  obtain ⟨y, hy1, hy2, hy3⟩ := y
  show Calls Try.prog 34 #[.agg #[.bool x.ad.six, .int .u64 (x.ad.hi : Nat), .int .u64 (x.ad.lo : Nat), .int .i64 x.len, .int .i64 x.src, .int .i64 x.peer, .int .i64 x.met, .int .i64 x.hop], .agg #[.bool y.ad.six, .int .u64 (y.ad.hi : Nat), .int .u64 (y.ad.lo : Nat), .int .i64 y.len, .int .i64 y.src, .int .i64 y.peer, .int .i64 y.met, .int .i64 y.hop]] W _
  have H := fun W => order_exact x.ad y.ad x.len y.len hx2 hx3 hy2 hy3 W
  go_enter Try.func34, Try.ntmps34
  go_wp2_with (go_at_call 35; refine (H _).mono ?_; rintro e w' ⟨rfl, os, rfl⟩)
  go_ret
  exact ⟨rfl, 0, _, by rw [Go.Sort.alloc_eq_grow, Go.Sort.alloc_eq_grow, Go.Sort.grow_grow, Go.Sort.grow_grow]; rfl⟩
theorem ltS (x y : Ofs) : ltOf cfS x y = true ↔ pfLess x.1.pf y.1.pf := by
  unfold ltOf cfS
  rw [decide_eq_true_iff]
  exact order_lt _ _
theorem swoS : Go.Sort.SWO (ltOf cfS) where
  irrefl x := by rw [Bool.eq_false_iff, ne_eq, ltS]; exact pfLess_irr _
  trans x y z h1 h2 := by rw [ltS] at *; exact pfLess_tr _ _ _ h1 h2
  ntrans x y z h1 h2 := by
    rw [Bool.eq_false_iff, ne_eq, ltS] at *
    intro h3
    by_cases h4 : pfLess y.1.pf x.1.pf
    · exact h2 (pfLess_tr _ _ _ h4 h3)
    · exact h2 ((pfLess_tot _ _ h1 h4) ▸ h3)
end Go.Proofs.Ytpgjbiapghembaa
