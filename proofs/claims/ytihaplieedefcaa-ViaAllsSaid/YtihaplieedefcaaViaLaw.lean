/-
  Walk of the law ViaAlls: it returns true. Conditions: none.
-/
import Derived.Test.YtihaplieedefcaaViaAllRef
namespace Go.Proofs.Ytihaplieedefcaa
open Go.RowKit
set_option maxHeartbeats 400000
set_option maxRecDepth 100000

def viE (a b c a' b' c' : Int) : Bool := decide (a = a' ∧ b = b' ∧ c = c')
theorem viE_self (a b c : Int) : viE a b c a b c = true := by simp [viE]
theorem guardVia : Try.prog.eqGuardType Try.prog.depth 78 = false := by kernel_rfl
attribute [go_sem] guardVia
theorem equalIn_via (d : Nat) (a b c a' b' c' : Int) (w : World) : (Op.equalIn (d + 2) 78 (.agg #[.int .i64 a, .int .i64 b, .int .i64 c]) (.agg #[.int .i64 a', .int .i64 b', .int .i64 c'])).run Try.prog w = .ok (viE a b c a' b' c') w := by
  have hS : Try.prog.underlying 78 = some (.struct (Try.prog.fieldsOf 78)) := by kernel_rfl
  have hp : Try.prog.stoodInHeld 78 = false := by kernel_rfl
  rw [run_equalIn_agg w (d + 1) 78 _ _ hS hp]
  simp only [Program.fieldsOf, Try.underlying78]
  go_simp
  by_cases h1 : a = a' <;> by_cases h2 : b = b' <;> by_cases h3 : c = c' <;> simp [h1, h2, h3, viE]
theorem neq_via (a b c a' b' c' : Int) (w : World) : (binOp .neq 78 (.agg #[.int .i64 a, .int .i64 b, .int .i64 c]) (.agg #[.int .i64 a', .int .i64 b', .int .i64 c'])).run Try.prog w = .ok (.bool (!(viE a b c a' b' c'))) w := by
  rw [run_neq_struct, show (10000 : Nat) = 9998 + 2 from rfl, equalIn_via]
  rfl
attribute [go_sem ↓] neq_via
theorem viaAlls_any (A : Option Addr) (n c : Nat) (l : List Vi) (w : World) (hl : Rd w 3 A n encV l) (hn : n ≤ c) (hc : c ≤ 9223372036854775807) :
    Calls Try.prog 8 #[.slice A n c] w (Ret (.bool true) w) := by
  by_cases h0 : vfault l = 0
  · have H1 := all_good A n c l w hl hn hc h0
    have H2 := fun g : Gr w => refAll_good A n c l (grow w g) (hl.below (grow_below _ _)) hn hc h0
    have hlen : (vall (vmap l)).length ≤ 999 := by
      have := List.length_filterMap_le (fun i : Nat => vres (vmap l) ((i : Int) + 1)) (List.range 999)
      simp at this
      exact this
    go_enter Try.func8, Try.ntmps8
    go_wp2_with (first | (go_at_call 32; refine H1.mono ?_; rintro e w' ⟨v1, g1, rfl, rfl, hown1⟩; obtain ⟨A1, k1, rfl, hrd1, hk1, hk1'⟩ := own_rd encV_len hown1 (by decide)) | (go_at_call 33; refine (H2 _).mono ?_; rintro e w' ⟨v2, g2, rfl, rfl, hown2⟩; obtain ⟨A2, k2, rfl, hrd2, hk2, hk2'⟩ := own_rd encV_len hown2 (by decide)))
    have hB : Below w.heap.size w (grow (grow w g1) g2) := (by (repeat (first | exact Below.refl _ _ | assumption | apply below_alloc | apply below_grow | apply below_setCell | apply below_drew)); all_goals first | omega | (simp [go_sem]; done) | (simp [go_sem]; omega))
    have hrd1' := hrd1.below (grow_below _ g2)
    generalize grow (grow w g1) g2 = Wr at hB hrd1' hrd2 ⊢
    clear H1 H2 hown1 hown2 hrd1
    have hBs := hB.size
    generalize hL : vall (vmap l) = L at *
    go_loopw [7] (fun i wr => ∃ k : Nat, k ≤ L.length ∧ i = .int .i64 k ∧ ∃ g : Gr Wr, wr = grow Wr g) (fun i _ => L.length - (intOf i).toNat)
    case atStart => exact ⟨0, by omega, rfl, ⟨_, Below.refl _ _⟩, rfl⟩
    case round =>
      obtain ⟨k, hk, rfl, g, rfl⟩ := hrel
      by_cases hlt : k < L.length
      · obtain ⟨b1, off1, rfl, hb1, hc1⟩ := hrd1'.at_ (by omega)
        obtain ⟨b2, off2, rfl, hb2, hc2⟩ := hrd2.at_ (by omega)
        obtain ⟨r, hr⟩ : ∃ r, L[k]? = some r := ⟨_, List.getElem?_eq_getElem hlt⟩
        obtain ⟨c0, c1, c2⟩ := rdV hc1 hr
        obtain ⟨d0, d1, d2⟩ := rdV hc2 hr
        have HS := viE_self r.hop r.port r.next
        have HH := hide (And.intro hc1 hc2)
        clear hc1 hc2 hr
        go_wp2_with fail
        (refine wp_region_grow (by kernel_rfl) (by kernel_rfl) ?_; (repeat (go_big_quiet_step (fail))); refine wpQuiet_nil ?_; rintro _ ⟨gq, rfl⟩)
        go_wp2_with fail
        go_roundw
        case rel => exact ⟨k + 1, by omega, by go_num, gr_of (by (repeat (first | exact Below.refl _ _ | assumption | apply below_alloc | apply below_grow | apply below_setCell | apply below_drew)); all_goals first | omega | (simp [go_sem]; done) | (simp [go_sem]; omega))⟩
        case measure => simp [intOf]; omega
      · go_wp2_with fail
        go_ret
        exact ret_b rfl (by (repeat (first | exact Below.refl _ _ | assumption | apply below_alloc | apply below_grow | apply below_setCell | apply below_drew)); all_goals first | omega | (simp [go_sem]; done) | (simp [go_sem]; omega))
  · have H1 := all_bad A n c l w hl hn hc h0
    have H2 := fun g : Gr w => refAll_bad A n c l (grow w g) (hl.below (grow_below _ _)) hn hc h0
    go_enter Try.func8, Try.ntmps8
    go_wp2_with (first | (go_at_call 32; refine (H1).mono ?_; rintro e w' ⟨rfl, g, rfl⟩) | (go_at_call 33; refine (H2 _).mono ?_; rintro e w' ⟨rfl, g, rfl⟩))
    go_loopw [7] (fun i wr => i = .int .i64 0 ∧ ∃ g : Gr w, wr = grow w g) (fun _ _ => 0)
    case atStart => exact ⟨rfl, gr_of (by (repeat (first | exact Below.refl _ _ | assumption | apply below_alloc | apply below_grow | apply below_setCell | apply below_drew)); all_goals first | omega | (simp [go_sem]; done) | (simp [go_sem]; omega))⟩
    case round =>
      obtain ⟨rfl, g, rfl⟩ := hrel
      go_wp2_with fail
      go_ret
      exact ret_b rfl (by (repeat (first | exact Below.refl _ _ | assumption | apply below_alloc | apply below_grow | apply below_setCell | apply below_drew)); all_goals first | omega | (simp [go_sem]; done) | (simp [go_sem]; omega))
end Go.Proofs.Ytihaplieedefcaa
