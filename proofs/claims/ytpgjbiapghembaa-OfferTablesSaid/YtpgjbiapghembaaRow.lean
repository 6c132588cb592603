/-
  A row of the call's own, told element by element. Conditions: none.
-/
import Derived.Test.YtpgjbiapghembaaRoute
namespace Go.Proofs.Ytpgjbiapghembaa
open Go.RowKit

theorem flat_length {α : Type} {enc : α → List Value} {size : Nat} (he : ∀ x, (enc x).length = size) (l : List α) : (l.flatMap enc).length = l.length * size := by
  induction l with
  | nil => simp
  | cons x r ih => simp [ih, he, Nat.add_mul]; omega
theorem flat_get {α : Type} {enc : α → List Value} {size : Nat} (he : ∀ x, (enc x).length = size) (l : List α) (k : Nat) (x : α) (hk : l[k]? = some x) (i : Nat) (v : Value) (hi : (enc x)[i]? = some v) : (l.flatMap enc)[k * size + i]? = some v := by
  induction l generalizing k with
  | nil => simp at hk
  | cons y r ih =>
    cases k with
    | zero =>
      simp only [List.getElem?_cons_zero, Option.some.injEq] at hk
      subst hk
      have := (List.getElem?_eq_some_iff.1 hi).1
      simp only [List.flatMap_cons, Nat.zero_mul, Nat.zero_add]
      rw [List.getElem?_append_left this]
      exact hi
    | succ k =>
      simp only [List.getElem?_cons_succ] at hk
      have := ih k hk
      simp only [List.flatMap_cons]
      rw [List.getElem?_append_right (by rw [he, Nat.add_mul]; omega), he, show (k + 1) * size + i - size = k * size + i by rw [Nat.add_mul]; omega]
      exact this
/-- A row of the call's own, read. -/
theorem own_rd {α : Type} {enc : α → List Value} {size : Nat} (he : ∀ x, (enc x).length = size) {w : World} {base : Nat} {t : TypeId} {v : Value} {n : Nat} {l : List α} (h : w.ownsRow base t size v n (l.flatMap enc)) (hs : 0 < size) :
    ∃ A c, v = .slice A n c ∧ Rd w size A n enc l ∧ n ≤ c ∧ c ≤ 9223372036854775807 := by
  have hlen : l.length = n := by
    have := h.1
    rw [flat_length he] at this
    exact Nat.eq_of_mul_eq_mul_right hs this
  rcases h.2 with ⟨rfl, rfl⟩ | ⟨g, cap, cur, rfl, _, hg, h3, h4, _⟩
  · exact ⟨none, 0, rfl, ⟨hlen, fun h => by omega⟩, by omega, by omega⟩
  · refine ⟨_, cap, rfl, ⟨hlen, fun hn => ⟨g, 0, rfl, own_lt h, fun k x hk i v hi => ?_⟩⟩, h3, by simpa [maxLen] using h4⟩
    have hk' := (List.getElem?_eq_some_iff.1 hk).1
    have hi' := (List.getElem?_eq_some_iff.1 hi).1
    rw [he] at hi'
    rw [Nat.zero_add, own_cell h _ ?_]
    · exact flat_get he l k x hk i v hi
    · have : (k + 1) * size ≤ n * size := Nat.mul_le_mul_right _ (by omega)
      rw [Nat.add_mul] at this
      omega
theorem flat_snoc {α : Type} {enc : α → List Value} (l : List α) (x : α) : (l ++ [x]).flatMap enc = l.flatMap enc ++ enc x := by simp
theorem flat_take {α : Type} {enc : α → List Value} {size : Nat} (he : ∀ x, (enc x).length = size) (l : List α) (k : Nat) : (l.take k).flatMap enc = (l.flatMap enc).take (k * size) := by
  induction l generalizing k with
  | nil => simp
  | cons x r ih =>
    cases k with
    | zero => simp
    | succ k =>
      rw [List.take_succ_cons, List.flatMap_cons, ih, List.flatMap_cons, List.take_append, he, Nat.add_mul, Nat.one_mul, Nat.add_sub_cancel, List.take_of_length_le (l := enc x) (by rw [he]; omega)]
theorem flat_drop {α : Type} {enc : α → List Value} {size : Nat} (he : ∀ x, (enc x).length = size) (l : List α) (k : Nat) : (l.drop k).flatMap enc = (l.flatMap enc).drop (k * size) := by
  induction l generalizing k with
  | nil => simp
  | cons x r ih =>
    cases k with
    | zero => simp
    | succ k =>
      rw [List.drop_succ_cons, ih, List.flatMap_cons, List.drop_append, he, Nat.add_mul, Nat.one_mul, Nat.add_sub_cancel, List.drop_of_length_le (l := enc x) (by rw [he]; omega), List.nil_append]
/-- nil, as a row of nothing. -/
theorem own_nil (w : World) (base : Nat) (t : TypeId) (size : Nat) : w.ownsRow base t size (.slice none 0 0) 0 [] := World.ownsRow_nil _ _ _ _
end Go.Proofs.Ytpgjbiapghembaa
