/-
  Walks of the references' AddrText and of the law AddrTexts. Conditions: the words of an address are 64-bit numbers; the tables of the library hold what their text says.
-/
import Derived.Test.YtpeojbaepbdmjaaDoorRefText6
namespace Go.Proofs.YtpeojbaepbdmjaaDoor
open Go.RowKit Go.Lib
set_option maxHeartbeats 1600000
set_option maxRecDepth 100000

theorem refText_any (six : Bool) (hi lo : Nat) (w : World) (h1 : hi < 18446744073709551616) (h2 : lo < 18446744073709551616) :
    Calls Tryd.prog 6 #[.agg #[.bool six, .int .u64 hi, .int .u64 lo]] w (Ret (if Ad.may ⟨six, hi, lo⟩ then .tuple #[strV (ofT six hi lo), .int .i64 0] else .tuple #[strV [], .int .i64 4]) w) := by
  rcases hm : Ad.may ⟨six, hi, lo⟩ with _ | _
  · go_enter Tryd.func6, Tryd.ntmps6
    go_wp2_with (go_at_call 11; refine (ret_mono (refMay_any _ _ _ _) (congrArg Value.bool hm)).mono ?_; rintro e w' ⟨rfl, g, rfl⟩)
    go_ret2
    exact ret_eq rfl (by (repeat (first | exact Below.refl _ _ | assumption | apply below_alloc | apply below_grow | apply below_setCell | apply below_drew)); all_goals first | omega | (simp [go_sem]; done) | (simp [go_sem]; omega))
  · cases six
    · exact refText_four hi lo w h1 h2 hm
    · exact refText_six hi lo w h1 h2 hm
theorem addrTexts_any (six : Bool) (hi lo : Nat) (w : World) (h1 : hi < 18446744073709551616) (h2 : lo < 18446744073709551616) (hT : Tabs w) :
    Calls Tryd.prog 3 #[.agg #[.bool six, .int .u64 hi, .int .u64 lo]] w (Ret (.bool true) w) := by
  have HT := hide hT
  clear hT
  have H1 := fun w => text_any six hi lo w h1 h2
  have H2 := fun w => refText_any six hi lo w h1 h2
  obtain ⟨s, z, hs⟩ : ∃ (s : List UInt8) (z : Int), (if Ad.may ⟨six, hi, lo⟩ then Value.tuple #[strV (ofT six hi lo), .int .i64 0] else .tuple #[strV [], .int .i64 4]) = .tuple #[.string ⟨s.toArray⟩, .int .i64 z] := by
    split
    · exact ⟨_, _, rfl⟩
    · exact ⟨_, _, rfl⟩
  rw [hs] at H1 H2
  clear hs
  go_enter Tryd.func3, Tryd.ntmps3
  go_wp2_with (first | (go_at_call 5; refine (H1 _ (HT.out.on (by (repeat (first | exact Below.refl _ _ | assumption | apply below_alloc | apply below_grow | apply below_setCell | apply below_drew)); all_goals first | omega | (simp [go_sem]; done) | (simp [go_sem]; omega)))).mono ?_; rintro e w' ⟨rfl, g, rfl⟩) | (go_at_call 6; refine (H2 _).mono ?_; rintro e w' ⟨rfl, g2, rfl⟩))
  go_ret
  exact ret_of (by (repeat (first | exact Below.refl _ _ | assumption | apply below_alloc | apply below_grow | apply below_setCell | apply below_drew)); all_goals first | omega | (simp [go_sem]; done) | (simp [go_sem]; omega))
end Go.Proofs.YtpeojbaepbdmjaaDoor
