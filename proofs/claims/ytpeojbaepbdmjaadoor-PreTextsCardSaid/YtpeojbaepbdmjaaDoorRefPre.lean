/-
  Walks: the references' PreFault, preIn, preOver. They answer as the program's pre.Check, pre.In, pre.Over. Conditions: the words of an address are 64-bit numbers.
-/
import Derived.Test.YtpeojbaepbdmjaaDoorBits
namespace Go.Proofs.YtpeojbaepbdmjaaDoor
open Go.RowKit
set_option maxHeartbeats 400000
set_option maxRecDepth 100000

theorem mod_two_pow_zero (x k : Nat) : x % 2 ^ k = 0 ↔ ∀ i, i < k → x / 2 ^ i % 2 = 0 := by
  induction k with
  | zero => simp [Nat.mod_one]
  | succ k ih =>
    have h := Nat.div_add_mod x (2 ^ k)
    have e : x % 2 ^ (k + 1) = x % 2 ^ k + 2 ^ k * (x / 2 ^ k % 2) := by rw [Nat.pow_succ, Nat.mod_mul]
    rw [e]
    have hp := Nat.two_pow_pos k
    constructor
    · intro h0 i hi
      have h1 : x % 2 ^ k = 0 := by omega
      have h2 : 2 ^ k * (x / 2 ^ k % 2) = 0 := by omega
      rcases Nat.lt_or_ge i k with h | h
      · exact (ih.1 h1) i h
      · obtain rfl : i = k := by omega
        rcases Nat.mul_eq_zero.1 h2 with h3 | h3
        · omega
        · exact h3
    · intro h0
      rw [(ih.2 fun i hi => h0 i (by omega)), h0 k (by omega)]
      rfl
theorem bits_zero (a : Ad) (n : Nat) : a.num % 2 ^ (wd a.six - n) = 0 ↔ ∀ j, n ≤ j → j < wd a.six → a.bit j ≠ 1 := by
  rw [mod_two_pow_zero]
  constructor
  · intro h j h1 h2
    have := h (wd a.six - 1 - j) (by omega)
    unfold Ad.bit
    omega
  · intro h i hi
    have := h (wd a.six - 1 - i) (by omega) (by omega)
    unfold Ad.bit at this
    rw [show wd a.six - 1 - (wd a.six - 1 - i) = i by omega] at this
    omega
theorem checkZ_zero (a : Ad) (n : Nat) (hw : a.wf) (hm : a.may = true) (hn : n ≤ wd a.six) (h : ∀ j, n ≤ j → j < wd a.six → a.bit j ≠ 1) : checkZ a n = 0 :=
  (checkZ_ok a n hw).2 ⟨hm, by omega, by omega, by simpa using (bits_zero a n).2 h⟩
theorem checkZ_five (a : Ad) (n : Nat) (hw : a.wf) (hm : a.may = true) (hn : n ≤ wd a.six) (j : Nat) (h1 : n ≤ j) (h2 : j < wd a.six) (h : a.bit j = 1) : checkZ a n = 5 := by
  have hne : checkZ a n ≠ 0 := fun h0 => by
    have := ((checkZ_ok a n hw).1 h0).2.2.2
    simp only [Int.toNat_natCast] at this
    exact (bits_zero a n).1 this j h1 h2 h
  unfold checkZ at hne ⊢
  rw [if_pos hm, if_neg (by omega)] at hne ⊢
  split at hne
  · exact (hne rfl).elim
  · rename_i h; rw [if_neg h]
theorem fault_any (six : Bool) (hi lo : Nat) (n : Int) (w : World) (h1 : hi < 18446744073709551616) (h2 : lo < 18446744073709551616) :
    Calls Tryd.prog 16 #[.agg #[.bool six, .int .u64 hi, .int .u64 lo, .int .i64 n]] w (Ret (.int .i64 (checkZ ⟨six, hi, lo⟩ n)) w) := by
  rcases hm : Ad.may ⟨six, hi, lo⟩ with _ | _
  · have H := hide (p := checkZ ⟨six, hi, lo⟩ n = 4) (by simp [checkZ, hm])
    go_enter Tryd.func16, Tryd.ntmps16
    go_wp2_with (go_at_call 11; refine (refMay_any _ _ _ _).mono ?_; rintro e w' ⟨rfl, g, rfl⟩)
    go_ret
    exact ret_i (by rw [H.out]) (by (repeat (first | exact Below.refl _ _ | assumption | apply below_alloc | apply below_grow | apply below_setCell | apply below_drew)); all_goals first | omega | (simp [go_sem]; done) | (simp [go_sem]; omega))
  · rcases h0 : decide (n < 0) with _ | _
    · rcases h3 : decide ((wd six : Nat) < n) with _ | _
      · have hn := of_decide_eq_false h0
        obtain ⟨k, rfl⟩ := Int.eq_ofNat_of_zero_le (show 0 ≤ n by omega)
        have hn2 : k ≤ wd six := by have := of_decide_eq_false h3; omega
        have hw : wd six ≤ 128 := by cases six <;> decide
        have H0 := hide (checkZ_zero ⟨six, hi, lo⟩ k ⟨h1, h2⟩ hm hn2)
        have H5 := hide (checkZ_five ⟨six, hi, lo⟩ k ⟨h1, h2⟩ hm hn2)
        have HB := hide (bitsA_get ⟨six, hi, lo⟩ ⟨h1, h2⟩)
        clear h0 hn
        rcases Nat.lt_or_ge k (wd six) with hkw | hkw
        · go_enter Tryd.func16, Tryd.ntmps16
          go_wp2_with (first | (go_at_call 11; refine (refMay_any _ _ _ _).mono ?_; rintro e w' ⟨rfl, g, rfl⟩) | (go_at_call 22; refine (bits_any _ _ _ _ h1 h2).mono ?_; rintro e w' ⟨b, cap, g, rfl, rfl, hle, hown⟩; have hcap := own_cap hown; simp only [World.size_alloc, grow_size] at hle))
          go_loop [28] (fun i => ∃ m : Nat, m ≤ wd six - k ∧ i = .int .i64 m ∧ ∀ j, k ≤ j → j < k + m → (⟨six, hi, lo⟩ : Ad).bit j ≠ 1) (fun i => wd six - k - (intOf i).toNat)
          case atStart => exact ⟨0, by omega, rfl, fun j h1 h2 => by omega⟩
          case round =>
            obtain ⟨m, hm', rfl, hz⟩ := hrel
            have HZ := hide hz
            clear hz
            by_cases hlt : m < wd six - k
            · have hc := own_raw hown (k + m) (by omega)
              rw [HB.out (k + m) (by omega)] at hc
              by_cases hb : (⟨six, hi, lo⟩ : Ad).bit (k + m) = 1
              · rw [hb] at hc
                have H := hide (H5.out (k + m) (by omega) (by omega) hb)
                clear hb
                go_wp2
                go_ret
                exact ret_i (by rw [H.out]) (by (repeat (first | exact Below.refl _ _ | assumption | apply below_alloc | apply below_grow | apply below_setCell | apply below_drew)); all_goals first | omega | (simp [go_sem]; done) | (simp [go_sem]; omega))
              · have hb' : (((⟨six, hi, lo⟩ : Ad).bit (k + m) : Int) == 1) = false := by simpa using (fun h => hb (by omega))
                have HN := hide hb
                clear hb
                go_wp2
                go_round
                case rel => exact ⟨m + 1, by omega, by go_num, fun j h3 h4 => by
                  by_cases e : j = k + m
                  · subst e; exact HN.out
                  · exact HZ.out j h3 (by omega)⟩
                case measure => simp [intOf]; omega
            · have H := hide (H0.out fun j h3 h4 => HZ.out j h3 (by omega))
              go_wp2
              go_ret
              exact ret_i (by rw [H.out]) (by (repeat (first | exact Below.refl _ _ | assumption | apply below_alloc | apply below_grow | apply below_setCell | apply below_drew)); all_goals first | omega | (simp [go_sem]; done) | (simp [go_sem]; omega))
        · go_enter Tryd.func16, Tryd.ntmps16
          go_wp2_with (first | (go_at_call 11; refine (refMay_any _ _ _ _).mono ?_; rintro e w' ⟨rfl, g, rfl⟩) | (go_at_call 22; refine (bits_any _ _ _ _ h1 h2).mono ?_; rintro e w' ⟨b, cap, g, rfl, rfl, hle, hown⟩; have hcap := own_cap hown; simp only [World.size_alloc, grow_size] at hle))
          all_goals
            go_loop [28] (fun i => i = .int .i64 0) (fun i => (intOf i).toNat)
            case atStart => rfl
            case round =>
              subst hrel
              have H := hide (H0.out fun j h3 h4 => by omega)
              go_wp2
              go_ret
              exact ret_i (by rw [H.out]) (by (repeat (first | exact Below.refl _ _ | assumption | apply below_alloc | apply below_grow | apply below_setCell | apply below_drew)); all_goals first | omega | (simp [go_sem]; done) | (simp [go_sem]; omega))
      · have H := hide (p := checkZ ⟨six, hi, lo⟩ n = 2) (by simp only [checkZ, hm]; rw [if_pos trivial, if_pos (.inr (of_decide_eq_true h3))])
        have hn3 := of_decide_eq_true h3
        go_enter Tryd.func16, Tryd.ntmps16
        go_wp2_with (first | (go_at_call 11; refine (refMay_any _ _ _ _).mono ?_; rintro e w' ⟨rfl, g, rfl⟩) | (go_at_call 22; refine (bits_any _ _ _ _ h1 h2).mono ?_; rintro e w' ⟨b, cap, g, rfl, rfl, hle, hown⟩; simp only [World.size_alloc, grow_size] at hle))
        go_ret
        exact ret_i (by rw [H.out]) (by (repeat (first | exact Below.refl _ _ | assumption | apply below_alloc | apply below_grow | apply below_setCell | apply below_drew)); all_goals first | omega | (simp [go_sem]; done) | (simp [go_sem]; omega))
    · have H := hide (p := checkZ ⟨six, hi, lo⟩ n = 2) (by simp only [checkZ, hm]; rw [if_pos trivial, if_pos (.inl (of_decide_eq_true h0))])
      go_enter Tryd.func16, Tryd.ntmps16
      go_wp2_with (first | (go_at_call 11; refine (refMay_any _ _ _ _).mono ?_; rintro e w' ⟨rfl, g, rfl⟩) | (go_at_call 22; refine (bits_any _ _ _ _ h1 h2).mono ?_; rintro e w' ⟨b, cap, g, rfl, rfl, hle, hown⟩; simp only [World.size_alloc, grow_size] at hle))
      go_ret
      exact ret_i (by rw [H.out]) (by (repeat (first | exact Below.refl _ _ | assumption | apply below_alloc | apply below_grow | apply below_setCell | apply below_drew)); all_goals first | omega | (simp [go_sem]; done) | (simp [go_sem]; omega))
theorem quot_bits (x y k : Nat) (W : Nat) (hx : x < 2 ^ W) (hy : y < 2 ^ W) (hk : k ≤ W) : x / 2 ^ (W - k) = y / 2 ^ (W - k) ↔ ∀ j, j < k → x / 2 ^ (W - 1 - j) % 2 = y / 2 ^ (W - 1 - j) % 2 := by
  induction k with
  | zero =>
    simp only [Nat.sub_zero, Nat.not_lt_zero, false_implies, implies_true, iff_true]
    rw [Nat.div_eq_of_lt hx, Nat.div_eq_of_lt hy]
  | succ k ih =>
    have ih := ih (by omega)
    have e : ∀ z : Nat, z / 2 ^ (W - k) = z / 2 ^ (W - (k + 1)) / 2 := by
      intro z
      rw [show W - k = W - (k + 1) + 1 by omega, Nat.pow_succ, ← Nat.div_div_eq_div_mul]
    rw [e x, e y] at ih
    rw [show W - (k + 1) = W - 1 - k by omega] at ih ⊢
    constructor
    · intro h j hj
      by_cases e : j = k
      · subst e; rw [h]
      · exact ih.1 (by rw [h]) j (by omega)
    · intro h
      have h1 := ih.2 fun j hj => h j (by omega)
      have h2 := h k (by omega)
      omega
/-- A prefix that may be. -/
def okP (p : Ad) (n : Nat) : Prop := p.wf ∧ p.may = true ∧ n ≤ wd p.six ∧ p.num % 2 ^ (wd p.six - n) = 0
theorem inB_num (p a : Ad) (n : Nat) (hp : okP p n) (ha : a.wf) (ma : a.may = true) (hs : a.six = p.six) : inB p n a = true ↔ a.num / 2 ^ (wd p.six - n) = p.num / 2 ^ (wd p.six - n) := by
  obtain ⟨h1, h2, h3, h4⟩ := hp
  obtain ⟨c1, c2, c3⟩ := cutA_num a n ha ma (by rw [hs]; exact h3)
  rw [hs] at c1
  have hd := Nat.div_add_mod p.num (2 ^ (wd p.six - n))
  rw [Nat.mul_comm] at hd
  have hpos := Nat.two_pow_pos (wd p.six - n)
  unfold inB
  rw [decide_eq_true_eq]
  constructor
  · rintro ⟨_, h⟩
    rw [h] at c1
    exact Nat.eq_of_mul_eq_mul_right hpos (by omega)
  · intro h
    refine ⟨hs, ad_eq _ _ c3 h1 c2 h2 hs ?_⟩
    rw [c1, h]; omega
theorem inB_bits (p a : Ad) (n : Nat) (hp : okP p n) (ha : a.wf) (ma : a.may = true) (hs : a.six = p.six) : inB p n a = true ↔ ∀ j, j < n → p.bit j = a.bit j := by
  rw [inB_num p a n hp ha ma hs, quot_bits _ _ _ _ (by rw [← hs]; exact num_lt a ha ma) (num_lt p hp.1 hp.2.1) hp.2.2.1]
  unfold Ad.bit
  rw [hs]
  constructor
  · intro h j hj; exact (h j hj).symm
  · intro h j hj; exact (h j hj).symm
theorem inB_fam (p a : Ad) (n : Int) (hs : a.six ≠ p.six) : inB p n a = false := by simp [inB, hs]
end Go.Proofs.YtpeojbaepbdmjaaDoor
