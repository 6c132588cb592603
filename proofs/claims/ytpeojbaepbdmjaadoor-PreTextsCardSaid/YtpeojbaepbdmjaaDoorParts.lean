/-
  The references' partsOf: in plain Lean, and its walk. Conditions: the words of an address are 64-bit numbers.
-/
import Derived.Test.YtpeojbaepbdmjaaDoorNumText
import Derived.Test.YtpeojbaepbdmjaaDoorBits
namespace Go.Proofs.YtpeojbaepbdmjaaDoor
open Go.RowKit Go.Lib
set_option maxHeartbeats 1600000
set_option maxRecDepth 100000

def iv (n : Nat) : Value := .int .i64 (n : Nat)
def pval (num W wide k i : Nat) : Nat := num / 2 ^ (W - min k ((i + 1) * wide)) % 2 ^ (min k ((i + 1) * wide) - i * wide)
def outP (num W wide k : Nat) : List Nat := (List.range ((k + wide - 1) / wide)).map (pval num W wide k)
theorem step_num (num e r : Nat) : 2 * (num / 2 ^ (e + 1) % 2 ^ r) + num / 2 ^ e % 2 = num / 2 ^ e % 2 ^ (r + 1) := by
  rw [Nat.pow_succ, ← Nat.div_div_eq_div_mul, Nat.pow_succ, Nat.mul_comm (2 ^ r) 2, Nat.mod_mul]
  omega
theorem pval_last {num W wide k : Nat} (hw : wide = 8 ∨ wide = 16) (hk : k < W) : 2 * pval num W wide k (k / wide) + num / 2 ^ (W - 1 - k) % 2 = pval num W wide (k + 1) (k / wide) := by
  have e := step_num num (W - 1 - k) (k - k / wide * wide)
  unfold pval
  rcases hw with rfl | rfl
  · rw [show min k ((k / 8 + 1) * 8) = k by omega, show min (k + 1) ((k / 8 + 1) * 8) = k + 1 by omega, show W - k = W - 1 - k + 1 by omega, show W - (k + 1) = W - 1 - k by omega, show k + 1 - k / 8 * 8 = k - k / 8 * 8 + 1 by omega]
    exact e
  · rw [show min k ((k / 16 + 1) * 16) = k by omega, show min (k + 1) ((k / 16 + 1) * 16) = k + 1 by omega, show W - k = W - 1 - k + 1 by omega, show W - (k + 1) = W - 1 - k by omega, show k + 1 - k / 16 * 16 = k - k / 16 * 16 + 1 by omega]
    exact e
theorem pval_old {num W wide k i : Nat} (hw : wide = 8 ∨ wide = 16) (hi : i < k / wide) : pval num W wide (k + 1) i = pval num W wide k i := by
  unfold pval
  rcases hw with rfl | rfl
  · rw [show min k ((i + 1) * 8) = (i + 1) * 8 by omega, show min (k + 1) ((i + 1) * 8) = (i + 1) * 8 by omega]
  · rw [show min k ((i + 1) * 16) = (i + 1) * 16 by omega, show min (k + 1) ((i + 1) * 16) = (i + 1) * 16 by omega]
theorem pval_zero {num W wide k : Nat} (hw : wide = 8 ∨ wide = 16) (h0 : k % wide = 0) : pval num W wide k (k / wide) = 0 := by
  unfold pval
  rcases hw with rfl | rfl
  · rw [show min k ((k / 8 + 1) * 8) = k by omega, show k - k / 8 * 8 = 0 by omega]; simp [Nat.mod_one]
  · rw [show min k ((k / 16 + 1) * 16) = k by omega, show k - k / 16 * 16 = 0 by omega]; simp [Nat.mod_one]
theorem pval_lt (num W wide k i : Nat) (hw : wide = 8 ∨ wide = 16) : pval num W wide k i < 65536 := by
  unfold pval
  have h := Nat.mod_lt (num / 2 ^ (W - min k ((i + 1) * wide))) (Nat.two_pow_pos (min k ((i + 1) * wide) - i * wide))
  refine Nat.lt_of_lt_of_le h (Nat.pow_le_pow_right (by decide) (?_ : _ ≤ 16))
  rcases hw with rfl | rfl <;> omega
theorem outP_len {num W wide k : Nat} (hw : wide = 8 ∨ wide = 16) : (outP num W wide k).length = if k % wide = 0 then k / wide else k / wide + 1 := by
  unfold outP
  rw [List.length_map, List.length_range]
  rcases hw with rfl | rfl <;> split <;> omega
theorem outP_get {num W wide k i : Nat} (h : i < (outP num W wide k).length) : (outP num W wide k)[i]? = some (pval num W wide k i) := by
  unfold outP at h ⊢
  rw [List.length_map, List.length_range] at h
  rw [List.getElem?_map, List.getElem?_range h]
  rfl
theorem outP_len1 {num W wide k : Nat} (hw : wide = 8 ∨ wide = 16) : (outP num W wide (k + 1)).length = k / wide + 1 := by
  unfold outP
  rw [List.length_map, List.length_range]
  rcases hw with rfl | rfl <;> omega
theorem outP_new {num W wide k : Nat} (hw : wide = 8 ∨ wide = 16) (hk : k < W) (h0 : k % wide = 0) :
    ((outP num W wide k).map iv ++ [Value.int .i64 0]).set (k / wide) (iv (num / 2 ^ (W - 1 - k) % 2)) = (outP num W wide (k + 1)).map iv := by
  have hl := outP_len (num := num) (W := W) (k := k) hw
  rw [if_pos h0] at hl
  have hl1 := outP_len1 (num := num) (W := W) (k := k) hw
  have hlast := pval_last (num := num) hw hk
  rw [pval_zero hw h0] at hlast
  apply List.ext_getElem?
  intro i
  rw [List.getElem?_set]
  by_cases hi : k / wide = i
  · subst hi
    rw [if_pos rfl, if_pos (by simp [hl]), List.getElem?_map, outP_get (by omega), ← hlast]
    simp
  · rw [if_neg hi]
    rcases Nat.lt_or_ge i (k / wide) with h | h
    · rw [List.getElem?_append_left (by simp [hl]; exact h), List.getElem?_map, List.getElem?_map, outP_get (by omega), outP_get (by omega), pval_old hw h]
    · rw [List.getElem?_eq_none (by simp [hl]; omega), List.getElem?_eq_none (by simp [hl1]; omega)]
theorem outP_set {num W wide k : Nat} (hw : wide = 8 ∨ wide = 16) (hk : k < W) (h0 : ¬ k % wide = 0) :
    ((outP num W wide k).map iv).set (k / wide) (iv (2 * pval num W wide k (k / wide) + num / 2 ^ (W - 1 - k) % 2)) = (outP num W wide (k + 1)).map iv := by
  have hl := outP_len (num := num) (W := W) (k := k) hw
  rw [if_neg h0] at hl
  have hl1 := outP_len1 (num := num) (W := W) (k := k) hw
  rw [pval_last hw hk]
  apply List.ext_getElem?
  intro i
  rw [List.getElem?_set]
  by_cases hi : k / wide = i
  · subst hi
    rw [if_pos rfl, if_pos (by simp [hl]), List.getElem?_map, outP_get (by omega)]
    rfl
  · rw [if_neg hi]
    rcases Nat.lt_or_ge i (k / wide) with h | h
    · rw [List.getElem?_map, List.getElem?_map, outP_get (by omega), outP_get (by omega), pval_old hw h]
    · rw [List.getElem?_eq_none (by simp [hl]; omega), List.getElem?_eq_none (by simp [hl1]; omega)]
theorem os_set {w : World} {base : Nat} {e : TypeId} {size : Nat} {b n cap : Nat} {xs : List Value} (h : w.ownsRow base e size (.slice (some ⟨b, 0, none⟩) n cap) n xs) (i : Nat) (u : Value) :
    (w.setCell ⟨b, i, none⟩ u).ownsRow base e size (.slice (some ⟨b, 0, none⟩) n cap) n (xs.set i u) := by
  refine ⟨by rw [List.length_set]; exact h.1, ?_⟩
  rcases h.2 with ⟨h', _⟩ | ⟨g', cap', cur, h', hbase, hg, h1, h2, h3, h4⟩
  · cases h'
  · simp only [Value.slice.injEq, Option.some.injEq, Addr.mk.injEq, and_true, true_and] at h'
    obtain ⟨rfl, rfl⟩ := h'
    refine .inr ⟨b, cap, cur.setIfInBounds i u, rfl, hbase, ?_, h1, h2, by simp [h3], ?_⟩
    · rw [setCell_eq_setRow w b i cur e (0, 0) u hg]
      exact setRow_heap w b cur _ e _ hg
    · rw [Array.toList_setIfInBounds, List.take_set, h4]
theorem os_free {w : World} {base : Nat} {e : TypeId} {size : Nat} {b n m cap : Nat} {xs : List Value} (h : w.ownsRow base e size (.slice (some ⟨b, 0, none⟩) n cap) m xs) (i : Nat) : w.frozen? ⟨b, i, none⟩ = false := by
  rcases h.2 with ⟨h', _⟩ | ⟨g', cap', cur, h', _, hg, _⟩
  · cases h'
  · simp only [Value.slice.injEq, Option.some.injEq, Addr.mk.injEq, and_true] at h'
    obtain ⟨rfl, rfl, rfl⟩ := h'
    simp [World.frozen?, hg]
end Go.Proofs.YtpeojbaepbdmjaaDoor
