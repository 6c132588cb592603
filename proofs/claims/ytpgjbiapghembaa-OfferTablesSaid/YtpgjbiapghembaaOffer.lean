/-
  Offers, as data and in memory; what is refused of one; walks of offers.Check and the reference's OfferFault. Conditions: the words of the address are 64-bit numbers.
-/
import Derived.Test.YtpgjbiapghembaaKeyTy
import Derived.Test.YtpgjbiapghembaaRefPre
import Derived.Test.YtpgjbiapghembaaRoute
namespace Go.Proofs.Ytpgjbiapghembaa
open Go.RowKit
set_option maxHeartbeats 400000
set_option maxRecDepth 100000

structure Ofr where
  ad : Ad
  len : Int
  src : Int
  peer : Int
  met : Int
  hop : Int
deriving DecidableEq
def encO (o : Ofr) : List Value := [.bool o.ad.six, .int .u64 (o.ad.hi : Nat), .int .u64 (o.ad.lo : Nat), .int .i64 o.len, .int .i64 o.src, .int .i64 o.peer, .int .i64 o.met, .int .i64 o.hop]
theorem encO_len (o : Ofr) : (encO o).length = 8 := rfl
theorem rdO {w : World} {b off k : Nat} {l : List Ofr} {r : Ofr} (hc : ∀ k x, l[k]? = some x → ∀ i v, (encO x)[i]? = some v → w.cell? ⟨b, off + k * 8 + i, none⟩ = some v) (hr : l[k]? = some r) :
    w.cell? ⟨b, off + k * 8, none⟩ = some (.bool r.ad.six) ∧ w.cell? ⟨b, off + k * 8 + 1, none⟩ = some (.int .u64 (r.ad.hi : Nat)) ∧ w.cell? ⟨b, off + k * 8 + 2, none⟩ = some (.int .u64 (r.ad.lo : Nat)) ∧ w.cell? ⟨b, off + k * 8 + 3, none⟩ = some (.int .i64 r.len) ∧
      w.cell? ⟨b, off + k * 8 + 4, none⟩ = some (.int .i64 r.src) ∧ w.cell? ⟨b, off + k * 8 + 5, none⟩ = some (.int .i64 r.peer) ∧ w.cell? ⟨b, off + k * 8 + 6, none⟩ = some (.int .i64 r.met) ∧ w.cell? ⟨b, off + k * 8 + 7, none⟩ = some (.int .i64 r.hop) :=
  ⟨hc k r hr 0 _ rfl, hc k r hr 1 _ rfl, hc k r hr 2 _ rfl, hc k r hr 3 _ rfl, hc k r hr 4 _ rfl, hc k r hr 5 _ rfl, hc k r hr 6 _ rfl, hc k r hr 7 _ rfl⟩
def wfO (l : List Ofr) : Prop := ∀ o ∈ l, o.ad.wf
/-- What is refused of an offer. -/
def ofault (o : Ofr) : Int := if checkZ o.ad o.len ≠ 0 then checkZ o.ad o.len else if o.src < 1 ∨ 4 < o.src then 3 else if o.peer < 0 ∨ 999 < o.peer ∨ o.met < 0 ∨ 999 < o.met ∨ o.hop < 1 ∨ 999 < o.hop then 2 else 0
theorem ofault_1 {o : Ofr} (h : checkZ o.ad o.len ≠ 0) : ofault o = checkZ o.ad o.len := by unfold ofault; rw [if_pos h]
theorem ofault_2 {o : Ofr} (h : checkZ o.ad o.len = 0) (h2 : o.src < 1 ∨ 4 < o.src) : ofault o = 3 := by unfold ofault; rw [if_neg (by simpa using h), if_pos h2]
theorem ofault_3 {o : Ofr} (h : checkZ o.ad o.len = 0) (h2 : ¬ (o.src < 1 ∨ 4 < o.src)) (h3 : o.peer < 0 ∨ 999 < o.peer ∨ o.met < 0 ∨ 999 < o.met ∨ o.hop < 1 ∨ 999 < o.hop) : ofault o = 2 := by unfold ofault; rw [if_neg (by simpa using h), if_neg h2, if_pos h3]
theorem ofault_4 {o : Ofr} (h : checkZ o.ad o.len = 0) (h2 : ¬ (o.src < 1 ∨ 4 < o.src)) (h3 : ¬ (o.peer < 0 ∨ 999 < o.peer ∨ o.met < 0 ∨ 999 < o.met ∨ o.hop < 1 ∨ 999 < o.hop)) : ofault o = 0 := by unfold ofault; rw [if_neg (by simpa using h), if_neg h2, if_neg h3]
theorem ofault_ok {o : Ofr} (h : ofault o = 0) : checkZ o.ad o.len = 0 ∧ 1 ≤ o.src ∧ o.src ≤ 4 ∧ 0 ≤ o.peer ∧ o.peer ≤ 999 ∧ 0 ≤ o.met ∧ o.met ≤ 999 ∧ 1 ≤ o.hop ∧ o.hop ≤ 999 := by
  unfold ofault at h
  split at h
  · rename_i h1; exact absurd h h1
  · rename_i h1
    split at h
    · omega
    · split at h
      · omega
      · exact ⟨by simpa using h1, by omega⟩
theorem chk1_any (n m : Int) (w : World) : Calls Try.prog 62 #[.int .i64 n, .int .i64 m] w (Ret (.bool (decide (n < m ∨ 999 < n))) w) := by
  go_enter Try.func62, Try.ntmps62
  go_wp2
  all_goals
    go_ret
    refine ret_b ?_ (by (repeat (first | exact Below.refl _ _ | assumption | apply below_alloc | apply below_grow | apply below_setCell | apply below_drew)); all_goals first | omega | (simp [go_sem]; done) | (simp [go_sem]; omega))
    simp_all
def aggO (o : Ofr) : Value := .agg #[.bool o.ad.six, .int .u64 (o.ad.hi : Nat), .int .u64 (o.ad.lo : Nat), .int .i64 o.len, .int .i64 o.src, .int .i64 o.peer, .int .i64 o.met, .int .i64 o.hop]
theorem ocheck_any (o : Ofr) (w : World) (hw : o.ad.wf) :
    Calls Try.prog 49 #[.agg #[.bool o.ad.six, .int .u64 (o.ad.hi : Nat), .int .u64 (o.ad.lo : Nat), .int .i64 o.len, .int .i64 o.src, .int .i64 o.peer, .int .i64 o.met, .int .i64 o.hop]] w (Ret (.int .i64 (ofault o)) w) := by
  have w1 := hw.1
  have w2 := hw.2
  by_cases hz : checkZ ⟨o.ad.six, o.ad.hi, o.ad.lo⟩ o.len = 0
  · have hb1 : (checkZ ⟨o.ad.six, o.ad.hi, o.ad.lo⟩ o.len != 0) = false := by simpa using hz
    by_cases h2 : o.src < 1 ∨ 4 < o.src
    · have H := hide (ofault_2 hz h2)
      clear hz
      rcases h2 with h2 | h2
      all_goals
        go_enter Try.func49, Try.ntmps49
        go_wp2_with (go_at_call 29; refine (check_any _ _ _ _ _ w1 w2).mono ?_; rintro e w' ⟨rfl, g, rfl⟩)
        go_ret
        exact ret_i (by rw [H.out]) (by (repeat (first | exact Below.refl _ _ | assumption | apply below_alloc | apply below_grow | apply below_setCell | apply below_drew)); all_goals first | omega | (simp [go_sem]; done) | (simp [go_sem]; omega))
    · have s1 : 1 ≤ o.src := by omega
      have s2 : o.src ≤ 4 := by omega
      by_cases p1 : o.peer < 0 ∨ 999 < o.peer
      · have H := hide (ofault_3 hz h2 (by omega))
        have d1 : decide (o.peer < 0 ∨ 999 < o.peer) = true := decide_eq_true p1
        clear hz h2 p1
        go_enter Try.func49, Try.ntmps49
        go_wp2_with (first | (go_at_call 29; refine (check_any _ _ _ _ _ w1 w2).mono ?_; rintro e w' ⟨rfl, g, rfl⟩) | (go_at_call 62; refine (chk1_any _ _ _).mono ?_; rintro e w' ⟨rfl, g, rfl⟩))
        go_ret
        exact ret_i (by rw [H.out]) (by (repeat (first | exact Below.refl _ _ | assumption | apply below_alloc | apply below_grow | apply below_setCell | apply below_drew)); all_goals first | omega | (simp [go_sem]; done) | (simp [go_sem]; omega))
      · have d1 : decide (o.peer < 0 ∨ 999 < o.peer) = false := decide_eq_false p1
        by_cases p2 : o.met < 0 ∨ 999 < o.met
        · have H := hide (ofault_3 hz h2 (by omega))
          have d2 : decide (o.met < 0 ∨ 999 < o.met) = true := decide_eq_true p2
          clear hz h2 p1 p2
          go_enter Try.func49, Try.ntmps49
          go_wp2_with (first | (go_at_call 29; refine (check_any _ _ _ _ _ w1 w2).mono ?_; rintro e w' ⟨rfl, g, rfl⟩) | (go_at_call 62; refine (chk1_any _ _ _).mono ?_; rintro e w' ⟨rfl, g, rfl⟩))
          go_ret
          exact ret_i (by rw [H.out]) (by (repeat (first | exact Below.refl _ _ | assumption | apply below_alloc | apply below_grow | apply below_setCell | apply below_drew)); all_goals first | omega | (simp [go_sem]; done) | (simp [go_sem]; omega))
        · have d2 : decide (o.met < 0 ∨ 999 < o.met) = false := decide_eq_false p2
          by_cases p3 : o.hop < 1 ∨ 999 < o.hop
          · have H := hide (ofault_3 hz h2 (by omega))
            have d3 : decide (o.hop < 1 ∨ 999 < o.hop) = true := decide_eq_true p3
            clear hz h2 p1 p2 p3
            go_enter Try.func49, Try.ntmps49
            go_wp2_with (first | (go_at_call 29; refine (check_any _ _ _ _ _ w1 w2).mono ?_; rintro e w' ⟨rfl, g, rfl⟩) | (go_at_call 62; refine (chk1_any _ _ _).mono ?_; rintro e w' ⟨rfl, g, rfl⟩))
            go_ret
            exact ret_i (by rw [H.out]) (by (repeat (first | exact Below.refl _ _ | assumption | apply below_alloc | apply below_grow | apply below_setCell | apply below_drew)); all_goals first | omega | (simp [go_sem]; done) | (simp [go_sem]; omega))
          · have d3 : decide (o.hop < 1 ∨ 999 < o.hop) = false := decide_eq_false p3
            have H := hide (ofault_4 hz h2 (by omega))
            clear hz h2 p1 p2 p3
            go_enter Try.func49, Try.ntmps49
            go_wp2_with (first | (go_at_call 29; refine (check_any _ _ _ _ _ w1 w2).mono ?_; rintro e w' ⟨rfl, g, rfl⟩) | (go_at_call 62; refine (chk1_any _ _ _).mono ?_; rintro e w' ⟨rfl, g, rfl⟩))
            go_ret
            exact ret_i (by rw [H.out]) (by (repeat (first | exact Below.refl _ _ | assumption | apply below_alloc | apply below_grow | apply below_setCell | apply below_drew)); all_goals first | omega | (simp [go_sem]; done) | (simp [go_sem]; omega))
  · have hb1 : (checkZ ⟨o.ad.six, o.ad.hi, o.ad.lo⟩ o.len != 0) = true := by simpa using hz
    have H := hide (ofault_1 hz)
    clear hz
    go_enter Try.func49, Try.ntmps49
    go_wp2_with (go_at_call 29; refine (check_any _ _ _ _ _ w1 w2).mono ?_; rintro e w' ⟨rfl, g, rfl⟩)
    go_ret
    exact ret_i (by rw [H.out]) (by (repeat (first | exact Below.refl _ _ | assumption | apply below_alloc | apply below_grow | apply below_setCell | apply below_drew)); all_goals first | omega | (simp [go_sem]; done) | (simp [go_sem]; omega))
set_option maxHeartbeats 4000000 in
theorem ofault_any (o : Ofr) (w : World) (hw : o.ad.wf) :
    Calls Try.prog 36 #[.agg #[.bool o.ad.six, .int .u64 (o.ad.hi : Nat), .int .u64 (o.ad.lo : Nat), .int .i64 o.len, .int .i64 o.src, .int .i64 o.peer, .int .i64 o.met, .int .i64 o.hop]] w (Ret (.int .i64 (ofault o)) w) := by
  have w1 := hw.1
  have w2 := hw.2
  by_cases hz : checkZ ⟨o.ad.six, o.ad.hi, o.ad.lo⟩ o.len = 0
  · have hb1 : (checkZ ⟨o.ad.six, o.ad.hi, o.ad.lo⟩ o.len != 0) = false := by simpa using hz
    by_cases h2 : o.src < 1 ∨ 4 < o.src
    · have H := hide (ofault_2 hz h2)
      have b1 : (o.src != 1) = true := by simp; omega
      have b2 : (o.src != 2) = true := by simp; omega
      have b3 : (o.src != 3) = true := by simp; omega
      have b4 : (o.src != 4) = true := by simp; omega
      clear hz h2
      go_enter Try.func36, Try.ntmps36
      go_wp2_with (go_at_call 55; refine (fault_any _ _ _ _ _ w1 w2).mono ?_; rintro e w' ⟨rfl, g, rfl⟩)
      go_ret
      exact ret_i (by rw [H.out]) (by (repeat (first | exact Below.refl _ _ | assumption | apply below_alloc | apply below_grow | apply below_setCell | apply below_drew)); all_goals first | omega | (simp [go_sem]; done) | (simp [go_sem]; omega))
    · have hcase : (((o.src != 1) = false) ∨ ((o.src != 1) = true ∧ (o.src != 2) = false) ∨ ((o.src != 1) = true ∧ (o.src != 2) = true ∧ (o.src != 3) = false) ∨ ((o.src != 1) = true ∧ (o.src != 2) = true ∧ (o.src != 3) = true ∧ (o.src != 4) = false)) := by
        simp
        omega
      by_cases h3 : o.peer < 0 ∨ 999 < o.peer ∨ o.met < 0 ∨ 999 < o.met ∨ o.hop < 1 ∨ 999 < o.hop
      · have H := hide (ofault_3 hz h2 h3)
        clear hz h2
        rcases hcase with e1 | ⟨e1, e2⟩ | ⟨e1, e2, e3⟩ | ⟨e1, e2, e3, e4⟩
        all_goals rcases h3 with h3 | h3 | h3 | h3 | h3 | h3
        all_goals
          go_enter Try.func36, Try.ntmps36
          go_wp2_with (go_at_call 55; refine (fault_any _ _ _ _ _ w1 w2).mono ?_; rintro e w' ⟨rfl, g, rfl⟩)
          all_goals
            go_ret
            exact ret_i (by rw [H.out]) (by (repeat (first | exact Below.refl _ _ | assumption | apply below_alloc | apply below_grow | apply below_setCell | apply below_drew)); all_goals first | omega | (simp [go_sem]; done) | (simp [go_sem]; omega))
      · have H := hide (ofault_4 hz h2 h3)
        have s1 : 0 ≤ o.peer := by omega
        have s2 : o.peer ≤ 999 := by omega
        have s3 : 0 ≤ o.met := by omega
        have s4 : o.met ≤ 999 := by omega
        have s5 : 1 ≤ o.hop := by omega
        have s6 : o.hop ≤ 999 := by omega
        clear hz h2 h3
        rcases hcase with e1 | ⟨e1, e2⟩ | ⟨e1, e2, e3⟩ | ⟨e1, e2, e3, e4⟩
        all_goals
          go_enter Try.func36, Try.ntmps36
          go_wp2_with (go_at_call 55; refine (fault_any _ _ _ _ _ w1 w2).mono ?_; rintro e w' ⟨rfl, g, rfl⟩)
          go_ret
          exact ret_i (by rw [H.out]) (by (repeat (first | exact Below.refl _ _ | assumption | apply below_alloc | apply below_grow | apply below_setCell | apply below_drew)); all_goals first | omega | (simp [go_sem]; done) | (simp [go_sem]; omega))
  · have hb1 : (checkZ ⟨o.ad.six, o.ad.hi, o.ad.lo⟩ o.len != 0) = true := by simpa using hz
    have H := hide (ofault_1 hz)
    clear hz
    go_enter Try.func36, Try.ntmps36
    go_wp2_with (go_at_call 55; refine (fault_any _ _ _ _ _ w1 w2).mono ?_; rintro e w' ⟨rfl, g, rfl⟩)
    go_ret
    exact ret_i (by rw [H.out]) (by (repeat (first | exact Below.refl _ _ | assumption | apply below_alloc | apply below_grow | apply below_setCell | apply below_drew)); all_goals first | omega | (simp [go_sem]; done) | (simp [go_sem]; omega))
end Go.Proofs.Ytpgjbiapghembaa
