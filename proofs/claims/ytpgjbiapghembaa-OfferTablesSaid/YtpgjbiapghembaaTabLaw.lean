/-
  Walk of the law OfferTables: it returns true. Conditions: the words of the addresses are 64-bit numbers.
-/
import Derived.Test.YtpgjbiapghembaaTabRef
import Derived.Test.YtpgjbiapghembaaSameRt
namespace Go.Proofs.Ytpgjbiapghembaa
open Go.RowKit
set_option maxHeartbeats 400000
set_option maxRecDepth 100000

theorem sameRt_nil (w : World) : Calls Try.prog 17 #[.slice none 0 0, .slice none 0 0] w (Ret (.bool true) w) :=
  sameRt_any none 0 0 none 0 [] w ⟨rfl, fun h => by omega⟩ ⟨rfl, fun h => by omega⟩ (by omega) (by omega) (by omega) (by omega)
theorem offerTables_any (A : Option Addr) (n c : Nat) (l : List Ofr) (w : World) (hl : Rd w 8 A n encO l) (hwf : wfO l) (hn : n ≤ c) (hc : c ≤ 9223372036854775807) :
    Calls Try.prog 5 #[.slice A n c] w (Ret (.bool true) w) := by
  by_cases h0 : osfault l = 0
  · have H1 := table_good A n c l w hl hwf hn hc h0
    have H2 := fun g : Gr w => refTable_good A n c l (grow w g) (hl.below (grow_below _ _)) hwf hn hc h0
    go_enter Try.func5, Try.ntmps5
    go_wp2_with fail
    refine H1.mono ?_
    rintro e w' ⟨L1, g1, hb1, rfl, ⟨h60, rfl⟩ | ⟨h60, v1, rfl, hown1⟩⟩
    · go_wp2_with fail
      refine (H2 g1).mono ?_
      rintro e w' ⟨L2, g2, hb2, rfl, ⟨h62, rfl⟩ | ⟨h62, v2, rfl, hown2⟩⟩
      · go_wp2_with (go_at_call 17; refine (sameRt_nil _).mono ?_; rintro e w' ⟨rfl, g, rfl⟩)
        go_ret
        exact ret_b rfl (by (repeat (first | exact Below.refl _ _ | assumption | apply below_alloc | apply below_grow | apply below_setCell | apply below_drew)); all_goals first | omega | (simp [go_sem]; done) | (simp [go_sem]; omega))
      · obtain rfl := best_one hb1 hb2
        omega
    · obtain ⟨A1, k1, rfl, hrd1, hk1, hk1'⟩ := own_rd encR_len hown1 (by decide)
      go_wp2_with fail
      refine (H2 g1).mono ?_
      rintro e w' ⟨L2, g2, hb2, rfl, ⟨h62, rfl⟩ | ⟨h62, v2, rfl, hown2⟩⟩
      · obtain rfl := best_one hb1 hb2
        omega
      · obtain rfl := best_one hb1 hb2
        obtain ⟨A2, k2, rfl, hrd2, hk2, hk2'⟩ := own_rd encR_len hown2 (by decide)
        have hS := sameRt_any A1 (tabO L1 L1).length k1 A2 k2 (tabO L1 L1) (grow (grow w g1) g2) (hrd1.below (grow_below _ _)) hrd2 hk1 hk1' hk2 hk2'
        have HB := hide (And.intro hb1 hb2)
        clear H1 H2 hb1 hb2
        go_wp2_with (go_at_call 17; refine (hS).mono ?_; rintro e w' ⟨rfl, g, rfl⟩)
        go_ret
        exact ret_b rfl (by (repeat (first | exact Below.refl _ _ | assumption | apply below_alloc | apply below_grow | apply below_setCell | apply below_drew)); all_goals first | omega | (simp [go_sem]; done) | (simp [go_sem]; omega))
  · have H1 := table_bad A n c l w hl hwf hn hc h0
    have H2 := fun g : Gr w => refTable_bad A n c l (grow w g) (hl.below (grow_below _ _)) hwf hn hc h0
    go_enter Try.func5, Try.ntmps5
    go_wp2_with (first | (go_at_call 7; refine (H1).mono ?_; rintro e w' ⟨rfl, g, rfl⟩) | (go_at_call 16; refine (H2 _).mono ?_; rintro e w' ⟨rfl, g, rfl⟩) | (go_at_call 17; refine (sameRt_nil _).mono ?_; rintro e w' ⟨rfl, g, rfl⟩))
    go_ret
    exact ret_b (by simp) (by (repeat (first | exact Below.refl _ _ | assumption | apply below_alloc | apply below_grow | apply below_setCell | apply below_drew)); all_goals first | omega | (simp [go_sem]; done) | (simp [go_sem]; omega))
end Go.Proofs.Ytpgjbiapghembaa
