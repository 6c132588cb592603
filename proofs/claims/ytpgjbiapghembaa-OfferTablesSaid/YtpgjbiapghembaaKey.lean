/-
  Prefixes as lists of bits ('keys'), in plain Lean: equality, covering, the common part. Conditions: the prefixes may be.
-/
import Derived.Test.YtpgjbiapghembaaRefPre
namespace Go.Proofs.Ytpgjbiapghembaa

/-- The number of a list of bits, the highest first. -/
def val (k : List Bool) : Nat := k.foldl (fun a b => 2 * a + b.toNat) 0
theorem val_snoc (k : List Bool) (b : Bool) : val (k ++ [b]) = 2 * val k + b.toNat := by simp [val]
theorem snoc_ind {P : List Bool → Prop} (h0 : P []) (h1 : ∀ k b, P k → P (k ++ [b])) (k : List Bool) : P k := by
  have : ∀ n (k : List Bool), k.length = n → P k := by
    intro n
    induction n with
    | zero => intro k hk; rw [List.eq_nil_of_length_eq_zero hk]; exact h0
    | succ n ih =>
      intro k hk
      rcases List.eq_nil_or_concat k with rfl | ⟨l, c, rfl⟩
      · exact h0
      · simp only [List.concat_eq_append] at hk ⊢
        exact h1 l c (ih l (by simpa using hk))
  exact this _ k rfl
theorem val_lt (k : List Bool) : val k < 2 ^ k.length := by
  refine snoc_ind (P := fun k => val k < 2 ^ k.length) ?_ ?_ k
  · simp [val]
  · intro k b ih
    rw [val_snoc, List.length_append, List.length_singleton, Nat.pow_succ]
    have : b.toNat ≤ 1 := by cases b <;> decide
    omega
theorem val_inj (k k' : List Bool) (hl : k.length = k'.length) (h : val k = val k') : k = k' := by
  revert k'
  refine snoc_ind (P := fun k => ∀ k', k.length = k'.length → val k = val k' → k = k') ?_ ?_ k
  · intro k' hl _; exact (List.eq_nil_of_length_eq_zero hl.symm).symm
  · intro k b ih k' hl h
    rcases List.eq_nil_or_concat k' with rfl | ⟨l, c, rfl⟩
    · simp at hl
    · simp only [List.concat_eq_append] at *
      rw [val_snoc, val_snoc] at h
      have hb : b.toNat ≤ 1 := by cases b <;> decide
      have hc : c.toNat ≤ 1 := by cases c <;> decide
      have e : b = c := by cases b <;> cases c <;> simp at * <;> omega
      subst e
      rw [ih l (by simpa using hl) (by omega)]
/-- The first n bits of an address. -/
def key (p : Ad) (n : Nat) : List Bool := (List.range n).map fun j => decide (p.bit j = 1)
theorem key_length (p : Ad) (n : Nat) : (key p n).length = n := by simp [key]
theorem key_succ (p : Ad) (n : Nat) : key p (n + 1) = key p n ++ [decide (p.bit n = 1)] := by simp [key, List.range_succ]
theorem key_take (p : Ad) (n m : Nat) (h : n ≤ m) : (key p m).take n = key p n := by
  rw [key, ← List.map_take, List.take_range, Nat.min_eq_left h]; rfl
theorem key_get (p : Ad) (n j : Nat) (h : j < n) : (key p n)[j]? = some (decide (p.bit j = 1)) := by simp [key, h]
theorem val_key (p : Ad) (hw : p.wf) (hm : p.may = true) (n : Nat) (hn : n ≤ wd p.six) : val (key p n) = p.num / 2 ^ (wd p.six - n) := by
  induction n with
  | zero =>
    rw [Nat.sub_zero, Nat.div_eq_of_lt (num_lt p hw hm)]; rfl
  | succ n ih =>
    rw [key_succ, val_snoc, ih (by omega)]
    have e : p.num / 2 ^ (wd p.six - n) = p.num / 2 ^ (wd p.six - (n + 1)) / 2 := by
      rw [show wd p.six - n = wd p.six - (n + 1) + 1 by omega, Nat.pow_succ, ← Nat.div_div_eq_div_mul]
    have eb : p.bit n = p.num / 2 ^ (wd p.six - (n + 1)) % 2 := by
      unfold Ad.bit; rw [show wd p.six - 1 - n = wd p.six - (n + 1) by omega]
    have hb : (decide (p.bit n = 1)).toNat = p.bit n := by
      have : p.bit n < 2 := by unfold Ad.bit; omega
      rcases (show p.bit n = 0 ∨ p.bit n = 1 by omega) with h | h <;> rw [h] <;> rfl
    rw [hb, eb, e]
    omega
theorem key_eq_iff (p q : Ad) (n : Nat) (hp : p.wf) (mp : p.may = true) (hq : q.wf) (mq : q.may = true) (hs : p.six = q.six) (hn : n ≤ wd p.six) : key p n = key q n ↔ p.num / 2 ^ (wd p.six - n) = q.num / 2 ^ (wd p.six - n) := by
  have e1 := val_key p hp mp n hn
  have e2 := val_key q hq mq n (by rw [← hs]; exact hn)
  rw [← hs] at e2
  rw [← e1, ← e2]
  constructor
  · intro h; rw [h]
  · intro h; exact val_inj _ _ (by rw [key_length, key_length]) h
theorem key_inj (p q : Ad) (n m : Nat) (hp : okP p n) (hq : okP q m) (hs : p.six = q.six) (h : key p n = key q m) : p = q ∧ n = m := by
  have hl : n = m := by rw [← key_length p n, h, key_length]
  subst hl
  obtain ⟨p1, p2, p3, p4⟩ := hp
  obtain ⟨q1, q2, q3, q4⟩ := hq
  have := (key_eq_iff p q n p1 p2 q1 q2 hs p3).1 h
  have d1 := Nat.div_add_mod p.num (2 ^ (wd p.six - n))
  have d2 := Nat.div_add_mod q.num (2 ^ (wd p.six - n))
  rw [← hs] at q4
  refine ⟨ad_eq p q p1 q1 p2 q2 hs ?_, rfl⟩
  rw [← d1, ← d2, this, p4, q4]
theorem over_key (p q : Ad) (n m : Nat) (hp : okP p n) (hq : q.wf) (mq : q.may = true) (hs : p.six = q.six) : overB p n q m = true ↔ key p n <+: key q m := by
  unfold overB
  rw [Bool.and_eq_true, decide_eq_true_eq, inB_num p q n hp hq mq hs.symm]
  have hk := key_eq_iff p q n hp.1 hp.2.1 hq mq hs hp.2.2.1
  constructor
  · rintro ⟨h1, h2⟩
    rw [hk.2 h2.symm, ← key_take q n m (by omega)]
    exact List.take_prefix _ _
  · intro h
    have h1 : n ≤ m := by have := h.length_le; rwa [key_length, key_length] at this
    refine ⟨by omega, (hk.1 ?_).symm⟩
    have := List.prefix_iff_eq_take.1 h
    rw [key_length, key_take _ _ _ h1] at this
    exact this
/-- The address of a key: its bits, and then zeros. -/
def adOf (six : Bool) (k : List Bool) : Ad :=
  let x := val k * 2 ^ (wd six - k.length)
  if six then ⟨true, x / 18446744073709551616, x % 18446744073709551616⟩ else ⟨false, 0, x⟩
theorem adOf_six (six : Bool) (k : List Bool) : (adOf six k).six = six := by cases six <;> rfl
theorem adOf_bound (six : Bool) (k : List Bool) (h : k.length ≤ wd six) : val k * 2 ^ (wd six - k.length) < 2 ^ wd six := by
  have h1 := val_lt k
  have h2 : (2 : Nat) ^ wd six = 2 ^ k.length * 2 ^ (wd six - k.length) := by rw [← Nat.pow_add, Nat.add_sub_cancel' h]
  rw [h2]
  exact Nat.mul_lt_mul_of_pos_right h1 (Nat.two_pow_pos _)
theorem adOf_num (six : Bool) (k : List Bool) : (adOf six k).num = val k * 2 ^ (wd six - k.length) := by
  cases six
  · rfl
  · simp only [adOf, if_true, Ad.num]
    have := Nat.div_add_mod (val k * 2 ^ (wd true - k.length)) 18446744073709551616
    omega
theorem adOf_ok (six : Bool) (k : List Bool) (h : k.length ≤ wd six) : okP (adOf six k) k.length := by
  have hb := adOf_bound six k h
  refine ⟨?_, ?_, by rw [adOf_six]; exact h, ?_⟩
  · cases six
    · simp only [wd, Bool.false_eq_true, if_false] at hb
      simp only [adOf, Ad.wf, wd, Bool.false_eq_true, if_false]
      exact ⟨by decide, Nat.lt_trans hb (by decide)⟩
    · simp only [wd, if_true] at hb
      simp only [adOf, Ad.wf, wd, if_true]
      omega
  · cases six
    · simp only [wd, Bool.false_eq_true, if_false] at hb
      simp only [adOf, Ad.may, wd, Bool.false_eq_true, if_false, Bool.false_or, Bool.and_eq_true, beq_iff_eq]
      exact ⟨trivial, Nat.div_eq_of_lt hb⟩
    · rfl
  · rw [adOf_num, adOf_six, Nat.mul_mod_left]
theorem key_adOf (six : Bool) (k : List Bool) (h : k.length ≤ wd six) : key (adOf six k) k.length = k := by
  have ho := adOf_ok six k h
  refine val_inj _ _ (key_length _ _) ?_
  rw [val_key _ ho.1 ho.2.1 _ ho.2.2.1, adOf_num, adOf_six, Nat.mul_div_cancel _ (Nat.two_pow_pos _)]
theorem adOf_key (p : Ad) (n : Nat) (h : okP p n) : adOf p.six (key p n) = p := by
  have hl : (key p n).length ≤ wd p.six := by rw [key_length]; exact h.2.2.1
  have ho := adOf_ok p.six (key p n) hl
  rw [key_length] at ho
  have := key_adOf p.six (key p n) hl
  rw [key_length] at this
  exact (key_inj _ _ n n ho h (adOf_six _ _) this).1
end Go.Proofs.Ytpgjbiapghembaa
