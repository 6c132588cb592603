/-
  Addresses and prefixes as plain numbers: what pre.mask, pre.Cut, pre.Check and their kin compute, in plain Lean. Conditions: none.
-/
namespace Go.Proofs.YtpeojbaepbdmjaaDoor

structure Ad where
  six : Bool
  hi : Nat
  lo : Nat
deriving DecidableEq

def wd (six : Bool) : Nat := if six then 128 else 32
def Ad.wf (a : Ad) : Prop := a.hi < 18446744073709551616 ∧ a.lo < 18446744073709551616
def Ad.may (a : Ad) : Bool := a.six || (a.hi == 0 && a.lo / 4294967296 == 0)
def Ad.num (a : Ad) : Nat := if a.six then a.hi * 18446744073709551616 + a.lo else a.lo
def onesN (n : Int) : Nat := 18446744073709551616 - 2 ^ (64 - n.toNat)
def maskHi (six : Bool) (n : Int) : Nat := if six then onesN n else 0
def maskLo (six : Bool) (n : Int) : Nat := if six then onesN (n - 64) else onesN n / 4294967296 &&& 4294967295
def cutA (a : Ad) (n : Int) : Ad := ⟨a.six, a.hi &&& maskHi a.six n, a.lo &&& maskLo a.six n⟩
def checkZ (a : Ad) (n : Int) : Int := if a.may then (if n < 0 ∨ (wd a.six : Int) < n then 2 else if cutA a n = a then 0 else 5) else 4

theorem onesN_lt (n : Int) : onesN n < 18446744073709551616 := by
  unfold onesN
  have := Nat.two_pow_pos (64 - n.toNat)
  omega
theorem onesN_wrap_mid (n : Int) (h0 : 0 < n) (h1 : n < 64) : (18446744073709551615 * 2 ^ (64 - n).toNat : Int) % 18446744073709551616 = (onesN n : Nat) := by
  unfold onesN
  have e1 : (64 - n).toNat = 64 - n.toNat := by omega
  rw [e1]
  have hp := Nat.two_pow_pos (64 - n.toNat)
  have hle : 2 ^ (64 - n.toNat) ≤ 18446744073709551616 := Nat.le_trans (Nat.pow_le_pow_right (by omega) (show 64 - n.toNat ≤ 64 by omega)) (by decide)
  generalize hk : 2 ^ (64 - n.toNat) = k at hp hle
  have e2 : ((2 : Int) ^ (64 - n.toNat)) = (k : Int) := by rw [← hk]; simp
  rw [e2]
  omega
theorem onesN_neg (n : Int) (h : n ≤ 0) : onesN n = 0 := by
  unfold onesN
  rw [show n.toNat = 0 by omega]
theorem onesN_big (n : Int) (h : 64 ≤ n) : onesN n = 18446744073709551615 := by
  unfold onesN
  rw [show 64 - n.toNat = 0 by omega]
theorem and_ones (W x n : Nat) (hx : x < 2 ^ W) (hn : n ≤ W) : x &&& (2 ^ W - 2 ^ (W - n)) = x / 2 ^ (W - n) * 2 ^ (W - n) := by
  have hpos := Nat.two_pow_pos (W - n)
  have hle : 2 ^ (W - n) ≤ 2 ^ W := Nat.pow_le_pow_right (by omega) (by omega)
  have e : 2 ^ W - 2 ^ (W - n) = 2 ^ W - ((2 ^ (W - n) - 1) + 1) := by
    rw [Nat.sub_add_cancel hpos]
  rw [e]
  apply Nat.eq_of_testBit_eq
  intro i
  rw [Nat.testBit_and, Nat.testBit_two_pow_sub_succ (by omega),
    Nat.testBit_two_pow_sub_one, Nat.testBit_mul_two_pow, Nat.testBit_div_two_pow]
  by_cases hi : i < W - n
  · simp [hi]; omega
  · have hge : W - n ≤ i := by omega
    simp only [hi, decide_false, Bool.not_false, Bool.and_true, hge, decide_true, Bool.true_and, Nat.sub_add_cancel]
    by_cases h64 : i < W
    · simp [h64]
    · have : x.testBit i = false := Nat.testBit_lt_two_pow (Nat.lt_of_lt_of_le hx (Nat.pow_le_pow_right (by omega) (by omega)))
      simp [this]
theorem and_onesN (x : Nat) (n : Nat) (hx : x < 18446744073709551616) (hn : n ≤ 64) : x &&& onesN (n : Int) = x / 2 ^ (64 - n) * 2 ^ (64 - n) :=
  and_ones 64 x n hx hn
theorem and_onesN32 (x : Nat) (n : Nat) (hx : x < 4294967296) (hn : n ≤ 32) : x &&& (onesN (n : Int) / 4294967296 &&& 4294967295) = x / 2 ^ (32 - n) * 2 ^ (32 - n) := by
  rw [← and_ones 32 x n hx hn]
  unfold onesN
  simp only [Int.toNat_natCast]
  have e : (2 : Nat) ^ (64 - n) = 4294967296 * 2 ^ (32 - n) := by
    rw [show 64 - n = 32 + (32 - n) by omega, Nat.pow_add]
  have hp := Nat.two_pow_pos (32 - n)
  have hle : 2 ^ (32 - n) ≤ 2 ^ 32 := Nat.pow_le_pow_right (by omega) (by omega)
  rw [e]
  generalize 2 ^ (32 - n) = k at hp hle
  rw [show (4294967295 : Nat) = 2 ^ 32 - 1 by decide, Nat.and_two_pow_sub_one_eq_mod]
  have e2 : (18446744073709551616 - 4294967296 * k) / 4294967296 = 4294967296 - k := by omega
  rw [e2]
  rcases Nat.lt_or_ge k 4294967296 with h | h
  · have : (4294967296 - k) % 2 ^ 32 = 4294967296 - k := Nat.mod_eq_of_lt (by omega)
    have hx : x % 2 ^ 32 = x := Nat.mod_eq_of_lt hx
    rw [this]
  · have hk : k = 4294967296 := by omega
    subst hk
    rfl

theorem maskHi_lt (six : Bool) (n : Int) : maskHi six n < 18446744073709551616 := by
  unfold maskHi
  split
  · exact onesN_lt n
  · omega
theorem maskLo_lt (six : Bool) (n : Int) : maskLo six n < 18446744073709551616 := by
  unfold maskLo
  split
  · exact onesN_lt _
  · have h : onesN n / 4294967296 &&& 4294967295 ≤ 4294967295 := Nat.and_le_right
    omega
theorem num_lt (a : Ad) (hw : a.wf) (hm : a.may = true) : a.num < 2 ^ wd a.six := by
  obtain ⟨six, hi, lo⟩ := a
  obtain ⟨h1, h2⟩ := hw
  cases six
  · simp only [Ad.may, Bool.false_or, Bool.and_eq_true, beq_iff_eq] at hm
    simp only [Ad.num, wd, Bool.false_eq_true, if_false]
    omega
  · simp only [Ad.num, wd, if_true] at *
    omega
theorem cutA_num (a : Ad) (n : Nat) (hw : a.wf) (hm : a.may = true) (hn : n ≤ wd a.six) :
    (cutA a n).num = a.num / 2 ^ (wd a.six - n) * 2 ^ (wd a.six - n) ∧ (cutA a n).may = true ∧ (cutA a n).wf := by
  obtain ⟨six, hi, lo⟩ := a
  obtain ⟨h1, h2⟩ := hw
  have wfle : ∀ x y : Nat, x < 18446744073709551616 → x &&& y < 18446744073709551616 := fun x y h => Nat.lt_of_le_of_lt Nat.and_le_left h
  refine ⟨?_, ?_, ⟨wfle _ _ h1, wfle _ _ h2⟩⟩
  · cases six
    · simp only [Ad.may, Bool.false_or, Bool.and_eq_true, beq_iff_eq] at hm
      simp only [wd, Bool.false_eq_true, if_false] at hn
      simp only [cutA, Ad.num, wd, maskLo, Bool.false_eq_true, if_false]
      exact and_onesN32 lo n (by simp only at h2 hm; omega) hn
    · simp only [wd, if_true] at hn
      simp only [cutA, Ad.num, wd, maskHi, maskLo, if_true]
      simp only at h1 h2
      by_cases h64 : n ≤ 64
      · rw [onesN_neg ((n : Int) - 64) (by omega), and_onesN hi n h1 h64, Nat.and_zero]
        have e : (2 : Nat) ^ (128 - n) = 18446744073709551616 * 2 ^ (64 - n) := by
          rw [show 128 - n = 64 + (64 - n) by omega, Nat.pow_add]
        have e2 : (hi * 18446744073709551616 + lo) / 18446744073709551616 = hi := by omega
        rw [e, ← Nat.div_div_eq_div_mul, e2, Nat.add_zero, Nat.mul_assoc, Nat.mul_comm (2 ^ (64 - n)) 18446744073709551616]
      · have e0 : hi &&& onesN (n : Int) = hi := by
          rw [onesN_big _ (by omega), show (18446744073709551615 : Nat) = 2 ^ 64 - 1 by decide, Nat.and_two_pow_sub_one_eq_mod]
          exact Nat.mod_eq_of_lt h1
        have e1 := and_onesN lo (n - 64) h2 (by omega)
        rw [show ((n - 64 : Nat) : Int) = (n : Int) - 64 by omega] at e1
        rw [e0, e1, show 64 - (n - 64) = 128 - n by omega]
        have e : 18446744073709551616 = 2 ^ (n - 64) * 2 ^ (128 - n) := by
          rw [← Nat.pow_add, show n - 64 + (128 - n) = 64 by omega]
        have hp := Nat.two_pow_pos (128 - n)
        generalize 2 ^ (128 - n) = k at *
        generalize 2 ^ (n - 64) = j at *
        have e3 : (hi * 18446744073709551616 + lo) / k = hi * j + lo / k := by
          rw [e, ← Nat.mul_assoc, Nat.add_comm, Nat.add_mul_div_right _ _ hp, Nat.add_comm]
        rw [e3, Nat.add_mul, Nat.mul_assoc, ← e]
  · cases six
    · simp only [Ad.may, Bool.false_or, Bool.and_eq_true, beq_iff_eq] at hm
      simp only [cutA, Ad.may, Bool.false_or, Bool.and_eq_true, beq_iff_eq]
      refine ⟨by rw [hm.1, Nat.zero_and], ?_⟩
      have : lo &&& maskLo false n ≤ lo := Nat.and_le_left
      omega
    · rfl
theorem ad_eq (a b : Ad) (ha : a.wf) (hb : b.wf) (ma : a.may = true) (mb : b.may = true) (hs : a.six = b.six) (hn : a.num = b.num) : a = b := by
  obtain ⟨s, h, l⟩ := a
  obtain ⟨s', h', l'⟩ := b
  obtain ⟨h1, h2⟩ := ha
  obtain ⟨h3, h4⟩ := hb
  simp only at hs h1 h2 h3 h4
  subst hs
  cases s
  · simp only [Ad.may, Ad.num, Bool.false_or, Bool.and_eq_true, beq_iff_eq, Bool.false_eq_true, if_false] at *
    simp only [Ad.mk.injEq, true_and]
    omega
  · simp only [Ad.num, if_true] at *
    simp only [Ad.mk.injEq, true_and]
    omega
theorem checkZ_ok (a : Ad) (n : Int) (hw : a.wf) : checkZ a n = 0 ↔ a.may = true ∧ 0 ≤ n ∧ n ≤ wd a.six ∧ a.num % 2 ^ (wd a.six - n.toNat) = 0 := by
  unfold checkZ
  split
  · rename_i hm
    split
    · rename_i h
      constructor
      · intro h; cases h
      · rintro ⟨_, h1, h2, _⟩; omega
    · rename_i h
      obtain ⟨k, rfl⟩ := Int.eq_ofNat_of_zero_le (show 0 ≤ n by omega)
      have hk : k ≤ wd a.six := by omega
      obtain ⟨c1, c2, c3⟩ := cutA_num a k hw hm hk
      have hd := Nat.div_add_mod a.num (2 ^ (wd a.six - k))
      rw [Nat.mul_comm] at hd
      simp only [Int.toNat_natCast]
      split
      · rename_i he
        simp only [true_iff]
        refine ⟨hm, by omega, by omega, ?_⟩
        rw [he] at c1
        omega
      · rename_i he
        constructor
        · intro h; cases h
        · rintro ⟨_, _, _, h4⟩
          exact (he (ad_eq _ _ c3 hw c2 hm rfl (by omega))).elim
  · rename_i hm
    constructor
    · intro h; cases h
    · rintro ⟨h, _⟩; exact (hm h).elim
end Go.Proofs.YtpeojbaepbdmjaaDoor
