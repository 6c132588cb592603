/-
  Which address stands first, told by the first bit that differs. Conditions: the addresses may be.
-/
import Derived.Test.YtpgjbiapghembaaOffPlain
import Derived.Test.YtpgjbiapghembaaKey
namespace Go.Proofs.Ytpgjbiapghembaa

theorem adLess_num {a b : Ad} (hs : a.six = b.six) (ha : a.wf) (hb : b.wf) (ma : a.may = true) (mb : b.may = true) : adLess a b = decide (a.num < b.num) := by
  obtain ⟨s, x, y⟩ := a
  obtain ⟨s', x', y'⟩ := b
  simp only at hs
  subst hs
  have h1 := ha.1
  have h2 := ha.2
  have h3 := hb.1
  have h4 := hb.2
  simp only at h1 h2 h3 h4
  cases s
  · simp [Ad.may] at ma mb
    simp only [adLess, Ad.num]
    simp [ma.1, mb.1]
  · simp only [adLess, Ad.num, ne_eq, not_true_eq_false, if_false, if_true, decide_eq_decide]
    omega
theorem num_step (a : Ad) (k : Nat) (hk : k < wd a.six) : a.num / 2 ^ (wd a.six - (k + 1)) = 2 * (a.num / 2 ^ (wd a.six - k)) + a.bit k := by
  have e1 : wd a.six - k = wd a.six - (k + 1) + 1 := by omega
  have e2 : a.bit k = a.num / 2 ^ (wd a.six - (k + 1)) % 2 := by unfold Ad.bit; rw [show wd a.six - 1 - k = wd a.six - (k + 1) by omega]
  rw [e1, Nat.pow_succ, ← Nat.div_div_eq_div_mul, e2]
  omega
theorem pre_eq {a b : Ad} (hs : a.six = b.six) (ha : a.wf) (hb : b.wf) (ma : a.may = true) (mb : b.may = true) (k : Nat) (hk : k ≤ wd a.six) (h : ∀ j, j < k → a.bit j = b.bit j) : a.num / 2 ^ (wd a.six - k) = b.num / 2 ^ (wd b.six - k) := by
  induction k with
  | zero => rw [Nat.sub_zero, Nat.sub_zero, Nat.div_eq_of_lt (num_lt a ha ma), Nat.div_eq_of_lt (num_lt b hb mb)]
  | succ k ih =>
    rw [num_step a k (by omega), num_step b k (by rw [← hs]; omega), ih (by omega) (fun j hj => h j (by omega)), h k (by omega)]
theorem less_at {a b : Ad} (hs : a.six = b.six) (ha : a.wf) (hb : b.wf) (ma : a.may = true) (mb : b.may = true) (k : Nat) (hk : k < wd a.six) (h : ∀ j, j < k → a.bit j = b.bit j) (hne : a.bit k ≠ b.bit k) : adLess a b = decide (a.bit k < b.bit k) := by
  rw [adLess_num hs ha hb ma mb, decide_eq_decide]
  have h1 := num_step a k hk
  have h2 := num_step b k (by rw [← hs]; exact hk)
  have h3 := pre_eq hs ha hb ma mb k (by omega) h
  rw [h3, ← hs] at h1
  rw [← hs] at h2
  generalize hq : 2 ^ (wd a.six - (k + 1)) = q at h1 h2
  have hq0 : 0 < q := hq ▸ Nat.two_pow_pos _
  constructor
  · intro hlt
    have : a.num / q ≤ b.num / q := Nat.div_le_div_right (Nat.le_of_lt hlt)
    omega
  · intro hlt
    rcases Nat.lt_or_ge a.num b.num with h5 | h5
    · exact h5
    · have : b.num / q ≤ a.num / q := Nat.div_le_div_right h5
      omega
theorem less_none {a b : Ad} (hs : a.six = b.six) (ha : a.wf) (hb : b.wf) (ma : a.may = true) (mb : b.may = true) (h : ∀ j, j < wd a.six → a.bit j = b.bit j) : adLess a b = false := by
  rw [adLess_num hs ha hb ma mb]
  have := pre_eq hs ha hb ma mb (wd a.six) (Nat.le_refl _) h
  rw [← hs, Nat.sub_self, Nat.pow_zero, Nat.div_one, Nat.div_one] at this
  simp [this]
end Go.Proofs.Ytpgjbiapghembaa
