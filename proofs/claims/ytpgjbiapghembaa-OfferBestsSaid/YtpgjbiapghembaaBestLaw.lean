/-
  Walk of the law OfferBests: it returns true. Conditions: the words of the addresses are 64-bit numbers.
-/
import Derived.Test.YtpgjbiapghembaaBest
import Derived.Test.YtpgjbiapghembaaBestRef2
namespace Go.Proofs.Ytpgjbiapghembaa
open Go.RowKit
set_option maxHeartbeats 400000
set_option maxRecDepth 100000

def ofE (x y : Ofr) : Bool := decide (x = y)
theorem ofE_self (x : Ofr) : ofE x x = true := by simp [ofE]
theorem guardOfr : Try.prog.eqGuardType Try.prog.depth 44 = false := by kernel_rfl
attribute [go_sem] guardOfr
theorem equalIn_ofr (d : Nat) (x y : Ofr) (w : World) : (Op.equalIn (d + 4) 44 (.agg #[.bool x.ad.six, .int .u64 (x.ad.hi : Nat), .int .u64 (x.ad.lo : Nat), .int .i64 x.len, .int .i64 x.src, .int .i64 x.peer, .int .i64 x.met, .int .i64 x.hop]) (.agg #[.bool y.ad.six, .int .u64 (y.ad.hi : Nat), .int .u64 (y.ad.lo : Nat), .int .i64 y.len, .int .i64 y.src, .int .i64 y.peer, .int .i64 y.met, .int .i64 y.hop])).run Try.prog w = .ok (ofE x y) w := by
  have hS : Try.prog.underlying 44 = some (.struct (Try.prog.fieldsOf 44)) := by kernel_rfl
  have hp : Try.prog.stoodInHeld 44 = false := by kernel_rfl
  rw [run_equalIn_agg w (d + 3) 44 _ _ hS hp]
  simp only [Program.fieldsOf, Try.underlying44]
  simp [go_sem, equalIn_pfx]
  have e := pfE_rt x.ad y.ad x.len y.len
  have e2 : ofE x y = decide ((x.ad = y.ad ∧ x.len = y.len) ∧ x.src = y.src ∧ x.peer = y.peer ∧ x.met = y.met ∧ x.hop = y.hop) := by
    unfold ofE
    rw [decide_eq_decide]
    cases x; cases y
    simp [and_assoc]
  rw [e2]
  simp only [e]
  by_cases h1 : x.ad = y.ad ∧ x.len = y.len <;> by_cases h2 : x.src = y.src <;> by_cases h3 : x.peer = y.peer <;> by_cases h4 : x.met = y.met <;> by_cases h5 : x.hop = y.hop <;> simp [h1, h2, h3, h4, h5]
theorem neq_ofr (x y : Ofr) (w : World) : (binOp .neq 44 (.agg #[.bool x.ad.six, .int .u64 (x.ad.hi : Nat), .int .u64 (x.ad.lo : Nat), .int .i64 x.len, .int .i64 x.src, .int .i64 x.peer, .int .i64 x.met, .int .i64 x.hop]) (.agg #[.bool y.ad.six, .int .u64 (y.ad.hi : Nat), .int .u64 (y.ad.lo : Nat), .int .i64 y.len, .int .i64 y.src, .int .i64 y.peer, .int .i64 y.met, .int .i64 y.hop])).run Try.prog w = .ok (.bool (!(ofE x y))) w := by
  rw [run_neq_struct, show (10000 : Nat) = 9996 + 4 from rfl, equalIn_ofr]
  rfl
attribute [go_sem ↓] neq_ofr
theorem offerBests_any (A : Option Addr) (n c : Nat) (l : List Ofr) (w : World) (hl : Rd w 8 A n encO l) (hwf : wfO l) (hn : n ≤ c) (hc : c ≤ 9223372036854775807) :
    Calls Try.prog 4 #[.slice A n c] w (Ret (.bool true) w) := by
  by_cases h0 : osfault l = 0
  · have H1 := best_good A n c l w hl hwf hn hc h0
    have H2 := fun g : Gr w => refBest_good A n c l (grow w g) (hl.below (grow_below _ _)) hwf hn hc h0
    go_enter Try.func4, Try.ntmps4
    go_wp2_with (first | (go_at_call 14; refine H1.mono ?_; rintro e w' ⟨L1, v1, g1, hb1, rfl, rfl, hown1⟩; obtain ⟨A1, k1, rfl, hrd1, hk1, hk1'⟩ := own_rd encO_len hown1 (by decide)) | (go_at_call 15; refine (H2 _).mono ?_; rintro e w' ⟨L2, v2, g2, hb2, rfl, rfl, hown2⟩; obtain rfl := best_one hb1 hb2; obtain ⟨A2, k2, rfl, hrd2, hk2, hk2'⟩ := own_rd encO_len hown2 (by decide)))
    have hB : Below w.heap.size w (grow (grow w g1) g2) := (by (repeat (first | exact Below.refl _ _ | assumption | apply below_alloc | apply below_grow | apply below_setCell | apply below_drew)); all_goals first | omega | (simp [go_sem]; done) | (simp [go_sem]; omega))
    have hrd1' := hrd1.below (grow_below _ g2)
    generalize grow (grow w g1) g2 = Wr at hB hrd1' hrd2 ⊢
    clear H1 H2 hown1 hown2 hrd1 hb1 hb2
    have hBs := hB.size
    go_loopw [7] (fun i wr => ∃ k : Nat, k ≤ L1.length ∧ i = .int .i64 k ∧ ∃ g : Gr Wr, wr = grow Wr g) (fun i _ => L1.length - (intOf i).toNat)
    case atStart => exact ⟨0, by omega, rfl, ⟨_, Below.refl _ _⟩, rfl⟩
    case round =>
      obtain ⟨k, hk, rfl, g, rfl⟩ := hrel
      by_cases hlt : k < L1.length
      · obtain ⟨b1, off1, rfl, hb1, hc1⟩ := hrd1'.at_ (by omega)
        obtain ⟨b2, off2, rfl, hb2, hc2⟩ := hrd2.at_ (by omega)
        obtain ⟨r, hr⟩ : ∃ r, L1[k]? = some r := ⟨_, List.getElem?_eq_getElem hlt⟩
        obtain ⟨c0, c1, c2, c3, c4, c5, c6, c7⟩ := rdO hc1 hr
        obtain ⟨d0, d1, d2, d3, d4, d5, d6, d7⟩ := rdO hc2 hr
        have HS := ofE_self r
        have HH := hide (And.intro hc1 hc2)
        clear hc1 hc2 hr
        go_wp2_with fail
        (refine wp_region_grow (by kernel_rfl) (by kernel_rfl) ?_; (repeat (go_big_quiet_step (fail))); refine wpQuiet_nil ?_; rintro _ ⟨gq, rfl⟩)
        go_wp2_with fail
        go_roundw
        case rel => exact ⟨k + 1, by omega, by go_num, gr_of (by (repeat (first | exact Below.refl _ _ | assumption | apply below_alloc | apply below_grow | apply below_setCell | apply below_drew)); all_goals first | omega | (simp [go_sem]; done) | (simp [go_sem]; omega))⟩
        case measure => simp [intOf]; omega
      · go_wp2_with fail
        go_ret
        exact ret_b rfl (by (repeat (first | exact Below.refl _ _ | assumption | apply below_alloc | apply below_grow | apply below_setCell | apply below_drew)); all_goals first | omega | (simp [go_sem]; done) | (simp [go_sem]; omega))
  · have H1 := best_bad A n c l w hl hwf hn hc h0
    have H2 := fun g : Gr w => refBest_bad A n c l (grow w g) (hl.below (grow_below _ _)) hwf hn hc h0
    go_enter Try.func4, Try.ntmps4
    go_wp2_with (first | (go_at_call 14; refine (H1).mono ?_; rintro e w' ⟨rfl, g, rfl⟩) | (go_at_call 15; refine (H2 _).mono ?_; rintro e w' ⟨rfl, g, rfl⟩))
    go_loopw [7] (fun i wr => i = .int .i64 0 ∧ ∃ g : Gr w, wr = grow w g) (fun _ _ => 0)
    case atStart => exact ⟨rfl, gr_of (by (repeat (first | exact Below.refl _ _ | assumption | apply below_alloc | apply below_grow | apply below_setCell | apply below_drew)); all_goals first | omega | (simp [go_sem]; done) | (simp [go_sem]; omega))⟩
    case round =>
      obtain ⟨rfl, g, rfl⟩ := hrel
      go_wp2_with fail
      go_ret
      exact ret_b rfl (by (repeat (first | exact Below.refl _ _ | assumption | apply below_alloc | apply below_grow | apply below_setCell | apply below_drew)); all_goals first | omega | (simp [go_sem]; done) | (simp [go_sem]; omega))
end Go.Proofs.Ytpgjbiapghembaa
