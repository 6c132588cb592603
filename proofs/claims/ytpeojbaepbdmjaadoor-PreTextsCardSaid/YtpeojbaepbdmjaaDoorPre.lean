/-
  Walks: addr.May, addr.Wide, pre.mask, pre.Cut, pre.Check, pre.In, pre.Over. Each returns what its plain function computes. Conditions: the words of an address are 64-bit numbers.
-/
import Derived.Test.YtpeojbaepbdmjaaDoorEq
import Derived.Test.YtpeojbaepbdmjaaDoorNum
namespace Go.Proofs.YtpeojbaepbdmjaaDoor
open Go.RowKit
set_option maxHeartbeats 400000

theorem may_any (six : Bool) (hi lo : Nat) (w : World) :
    Calls Tryd.prog 9 #[.agg #[.bool six, .int .u64 hi, .int .u64 lo]] w (Ret (.bool (Ad.may ⟨six, hi, lo⟩)) w) := by
  have e : ((lo : Int) / 4294967296 == 0) = (lo / 4294967296 == 0) := by rw [Bool.eq_iff_iff, beq_iff_eq, beq_iff_eq]; omega
  go_enter Tryd.func9, Tryd.ntmps9
  go_wp2
  all_goals
    go_ret
    refine ret_b ?_ (by (repeat (first | exact Below.refl _ _ | assumption | apply below_alloc | apply below_grow | apply below_setCell | apply below_drew)); all_goals first | omega | (simp [go_sem]; done) | (simp [go_sem]; omega))
    simp [Ad.may, *]
theorem wide_any (six : Bool) (w : World) : Calls Tryd.prog 23 #[.bool six] w (Ret (.int .i64 (wd six : Nat)) w) := by
  cases six
  all_goals
    go_enter Tryd.func23, Tryd.ntmps23
    go_wp2
    go_ret
    exact ret_i rfl (Below.refl _ _)
theorem ones_any (n : Int) (w : World) : Calls Tryd.prog 38 #[.int .i64 n] w (Ret (.int .u64 (onesN n : Nat)) w) := by
  by_cases h0 : 0 < n
  · by_cases h1 : n < 64
    · have E := hide (onesN_wrap_mid n h0 h1)
      go_enter Tryd.func38, Tryd.ntmps38
      go_wp2
      go_ret
      exact ret_i (by rw [IntKind.wrap_u64, E.out]) (Below.refl _ _)
    · have E := hide (onesN_big n (by omega))
      go_enter Tryd.func38, Tryd.ntmps38
      go_wp2
      go_ret
      exact ret_i (by rw [E.out]; rfl) (Below.refl _ _)
  · have E := hide (onesN_neg n (by omega))
    go_enter Tryd.func38, Tryd.ntmps38
    go_wp2
    go_ret
    exact ret_i (by rw [E.out]; rfl) (Below.refl _ _)
theorem mask_any (six : Bool) (n : Int) (w : World) (hn : -64 < n) (hn2 : n ≤ 9223372036854775807) :
    Calls Tryd.prog 30 #[.bool six, .int .i64 n] w (Ret (.tuple #[.int .u64 (maskHi six n : Nat), .int .u64 (maskLo six n : Nat)]) w) := by
  have o1 := onesN_lt n
  have e1 := u64_and_nat (onesN n / 4294967296) 4294967295 (by omega) (by omega)
  have e1' : bits .and .u64 ((onesN n : Int) / 4294967296) 4294967295 = ((onesN n / 4294967296 &&& 4294967295 : Nat) : Int) := e1
  clear e1
  cases six
  · go_enter Tryd.func30, Tryd.ntmps30
    go_wp2_with (go_at_call 38; refine (ones_any _ _).mono ?_; rintro e w' ⟨rfl, g, rfl⟩)
    go_ret2
    exact ret_eq rfl (by (repeat (first | exact Below.refl _ _ | assumption | apply below_alloc | apply below_grow | apply below_setCell | apply below_drew)); all_goals first | omega | (simp [go_sem]; done) | (simp [go_sem]; omega))
  · go_enter Tryd.func30, Tryd.ntmps30
    go_wp2_with (go_at_call 38; refine (ones_any _ _).mono ?_; rintro e w' ⟨rfl, g, rfl⟩)
    go_ret2
    exact ret_eq rfl (by (repeat (first | exact Below.refl _ _ | assumption | apply below_alloc | apply below_grow | apply below_setCell | apply below_drew)); all_goals first | omega | (simp [go_sem]; done) | (simp [go_sem]; omega))
theorem cut_any (six : Bool) (hi lo : Nat) (n : Int) (w : World) (h1 : hi < 18446744073709551616) (h2 : lo < 18446744073709551616) (hn : -64 < n) (hn2 : n ≤ 9223372036854775807) :
    Calls Tryd.prog 24 #[.agg #[.bool six, .int .u64 hi, .int .u64 lo], .int .i64 n] w
      (Ret (.agg #[.bool six, .int .u64 ((cutA ⟨six, hi, lo⟩ n).hi : Nat), .int .u64 ((cutA ⟨six, hi, lo⟩ n).lo : Nat)]) w) := by
  have E1 := u64_and_nat hi (maskHi six n) h1 (maskHi_lt six n)
  have E2 := u64_and_nat lo (maskLo six n) h2 (maskLo_lt six n)
  go_enter Tryd.func24, Tryd.ntmps24
  go_wp2_with (go_at_call 30; refine (mask_any _ _ _ hn hn2).mono ?_; rintro e w' ⟨rfl, g, rfl⟩)
  refine bodyPost_ret (v := .agg #[.bool six, .int .u64 (hi &&& maskHi six n : Nat), .int .u64 (lo &&& maskLo six n : Nat)]) ?_ rfl (ret_eq rfl ?_)
  · simp [results, Tryd.results24, go_sem]
  · exact (by (repeat (first | exact Below.refl _ _ | assumption | apply below_alloc | apply below_grow | apply below_setCell | apply below_drew)); all_goals first | omega | (simp [go_sem]; done) | (simp [go_sem]; omega))
theorem adE_cut (a : Ad) (n : Int) : adE a.six (cutA a n).hi (cutA a n).lo a.six a.hi a.lo = decide (cutA a n = a) := by
  unfold adE
  rw [decide_eq_decide]
  constructor
  · rintro ⟨_, h1, h2⟩
    have e1 : (cutA a n).hi = a.hi := by omega
    have e2 : (cutA a n).lo = a.lo := by omega
    cases a
    simp only [cutA] at e1 e2 ⊢
    rw [e1, e2]
  · intro h; rw [h]; exact ⟨rfl, rfl, rfl⟩
theorem check_any (six : Bool) (hi lo : Nat) (n : Int) (w : World) (h1 : hi < 18446744073709551616) (h2 : lo < 18446744073709551616) :
    Calls Tryd.prog 14 #[.agg #[.bool six, .int .u64 hi, .int .u64 lo, .int .i64 n]] w (Ret (.int .i64 (checkZ ⟨six, hi, lo⟩ n)) w) := by
  rcases hm : Ad.may ⟨six, hi, lo⟩ with _ | _
  · have H : checkZ ⟨six, hi, lo⟩ n = 4 := by simp [checkZ, hm]
    go_enter Tryd.func14, Tryd.ntmps14
    go_wp2_with (go_at_call 9; refine (may_any _ _ _ _).mono ?_; rintro e w' ⟨rfl, g, rfl⟩)
    go_ret
    exact ret_eq (by rw [H]; rfl) (by (repeat (first | exact Below.refl _ _ | assumption | apply below_alloc | apply below_grow | apply below_setCell | apply below_drew)); all_goals first | omega | (simp [go_sem]; done) | (simp [go_sem]; omega))
  · rcases h0 : decide (n < 0) with _ | _
    · rcases h3 : decide ((wd six : Nat) < n) with _ | _
      · have hn := of_decide_eq_false h0
        have hn2 := of_decide_eq_false h3
        have hw : (wd six : Int) ≤ 128 := by cases six <;> decide
        have H1 := hide (adE_cut ⟨six, hi, lo⟩ n)
        have H2 := hide (p := checkZ ⟨six, hi, lo⟩ n = if cutA ⟨six, hi, lo⟩ n = ⟨six, hi, lo⟩ then 0 else 5) (by simp only [checkZ, hm]; rw [if_pos trivial, if_neg (fun h => h.elim hn hn2)])
        go_enter Tryd.func14, Tryd.ntmps14
        go_wp2_with (go_at_call 9; refine (may_any _ _ _ _).mono ?_; rintro e w' ⟨rfl, g, rfl⟩)
        refine wp_region_grow (by kernel_rfl) (by kernel_rfl) ?_
        repeat (go_big_quiet_step ((go_at_call 23; exact gr_ret (wide_any _ _))))
        refine wpQuiet_nil ?_
        rintro _ ⟨g1, rfl⟩
        go_wp2_with fail
        refine wp_region_grow (by kernel_rfl) (by kernel_rfl) ?_
        repeat (go_big_quiet_step ((go_at_call 24; exact gr_ret (cut_any _ _ _ _ _ h1 h2 (by omega) (by omega)))))
        refine wpQuiet_nil ?_
        rintro _ ⟨g2, rfl⟩
        go_wp2_with fail
        all_goals
          go_ret
          refine ret_i ?_ (by (repeat (first | exact Below.refl _ _ | assumption | apply below_alloc | apply below_grow | apply below_setCell | apply below_drew)); all_goals first | omega | (simp [go_sem]; done) | (simp [go_sem]; omega))
          rw [H2.out]
          have H1' := H1.out
          clear H1 H2
          by_cases hc : cutA ⟨six, hi, lo⟩ n = ⟨six, hi, lo⟩ <;> simp_all
      · have H := hide (p := checkZ ⟨six, hi, lo⟩ n = 2) (by simp only [checkZ, hm]; rw [if_pos trivial, if_pos (.inr (of_decide_eq_true h3))])
        go_enter Tryd.func14, Tryd.ntmps14
        go_wp2_with (go_at_call 9; refine (may_any _ _ _ _).mono ?_; rintro e w' ⟨rfl, g, rfl⟩)
        refine wp_region_grow (by kernel_rfl) (by kernel_rfl) ?_
        repeat (go_big_quiet_step ((go_at_call 23; exact gr_ret (wide_any _ _))))
        refine wpQuiet_nil ?_
        rintro _ ⟨g1, rfl⟩
        go_wp2_with fail
        go_ret
        exact ret_eq (by rw [H.out]; rfl) (by (repeat (first | exact Below.refl _ _ | assumption | apply below_alloc | apply below_grow | apply below_setCell | apply below_drew)); all_goals first | omega | (simp [go_sem]; done) | (simp [go_sem]; omega))
    · have H := hide (p := checkZ ⟨six, hi, lo⟩ n = 2) (by simp only [checkZ, hm]; rw [if_pos trivial, if_pos (.inl (of_decide_eq_true h0))])
      go_enter Tryd.func14, Tryd.ntmps14
      go_wp2_with (go_at_call 9; refine (may_any _ _ _ _).mono ?_; rintro e w' ⟨rfl, g, rfl⟩)
      refine wp_region_grow (by kernel_rfl) (by kernel_rfl) ?_
      repeat (go_big_quiet_step ((go_at_call 23; exact gr_ret (wide_any _ _))))
      refine wpQuiet_nil ?_
      rintro _ ⟨g1, rfl⟩
      go_wp2_with fail
      go_ret
      exact ret_eq (by rw [H.out]; rfl) (by (repeat (first | exact Below.refl _ _ | assumption | apply below_alloc | apply below_grow | apply below_setCell | apply below_drew)); all_goals first | omega | (simp [go_sem]; done) | (simp [go_sem]; omega))
/-- The prefix has the address: same family, and its first n bits are the prefix's own. -/
def inB (p : Ad) (n : Int) (a : Ad) : Bool := decide (a.six = p.six ∧ cutA a n = p)
theorem adE_cut2 (p a : Ad) (n : Int) (hs : a.six = p.six) : adE a.six (cutA a n).hi (cutA a n).lo p.six p.hi p.lo = inB p n a := by
  unfold adE inB
  rw [decide_eq_decide]
  constructor
  · rintro ⟨_, h1, h2⟩
    have e1 : (cutA a n).hi = p.hi := by omega
    have e2 : (cutA a n).lo = p.lo := by omega
    cases a; cases p
    simp only [cutA, Ad.mk.injEq] at *
    exact ⟨hs, hs, e1, e2⟩
  · rintro ⟨_, h⟩; rw [h]; exact ⟨hs, rfl, rfl⟩
def overB (p : Ad) (n : Int) (q : Ad) (m : Int) : Bool := decide (n ≤ m) && inB p n q
end Go.Proofs.YtpeojbaepbdmjaaDoor
