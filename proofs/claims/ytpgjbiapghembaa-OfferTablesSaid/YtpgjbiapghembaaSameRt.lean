/-
  Walk of the law's sameRoutes at two lists that are one. Conditions: none.
-/
import Derived.Test.YtpgjbiapghembaaRtRow
namespace Go.Proofs.Ytpgjbiapghembaa
open Go.RowKit
set_option maxHeartbeats 400000
set_option maxRecDepth 100000

theorem sameRt_any (A : Option Addr) (n c : Nat) (A' : Option Addr) (c' : Nat) (l : List Rt) (w : World) (hl : Rd w 5 A n encR l) (hl' : Rd w 5 A' n encR l) (_hn : n ≤ c) (_hc : c ≤ 9223372036854775807) (_hn' : n ≤ c') (_hc' : c' ≤ 9223372036854775807) :
    Calls Try.prog 17 #[.slice A n c, .slice A' n c'] w (Ret (.bool true) w) := by
  have HL := hide hl.1
  go_enter Try.func17, Try.ntmps17
  go_wp2_with fail
  go_loopw [5] (fun i wr => ∃ k : Nat, k ≤ n ∧ i = .int .i64 k ∧ ∃ g : Gr w, wr = grow w g) (fun i _ => n - (intOf i).toNat)
  case atStart => exact ⟨0, by omega, rfl, ⟨_, Below.refl _ _⟩, rfl⟩
  case round =>
    obtain ⟨k, hk, rfl, g, rfl⟩ := hrel
    by_cases hlt : k < n
    · obtain ⟨b1, off1, rfl, hb1, hc1⟩ := hl.at_ (by omega)
      obtain ⟨b2, off2, rfl, hb2, hc2⟩ := hl'.at_ (by omega)
      obtain ⟨r, hr⟩ : ∃ r, l[k]? = some r := ⟨_, List.getElem?_eq_getElem (by rw [HL.out]; exact hlt)⟩
      obtain ⟨c0, c1, c2, c3, c4⟩ := rdR hc1 hr
      obtain ⟨d0, d1, d2, d3, d4⟩ := rdR hc2 hr
      have HS := rtE_self r
      have HH := hide (And.intro hc1 hc2)
      clear hc1 hc2 hr
      go_wp2_with fail
      (refine wp_region_grow (by kernel_rfl) (by kernel_rfl) ?_; (repeat (go_big_quiet_step (fail))); refine wpQuiet_nil ?_; rintro _ ⟨gq, rfl⟩)
      go_wp2_with fail
      go_roundw
      case rel => exact ⟨k + 1, by omega, by go_num, gr_of (by (repeat (first | exact Below.refl _ _ | assumption | apply below_alloc | apply below_grow | apply below_setCell | apply below_drew)); all_goals first | omega | (simp [go_sem]; done) | (simp [go_sem]; omega))⟩
      case measure => simp [intOf]; omega
    · go_wp2_with fail
      go_ret
      exact ret_b rfl (by (repeat (first | exact Below.refl _ _ | assumption | apply below_alloc | apply below_grow | apply below_setCell | apply below_drew)); all_goals first | omega | (simp [go_sem]; done) | (simp [go_sem]; omega))
end Go.Proofs.Ytpgjbiapghembaa
