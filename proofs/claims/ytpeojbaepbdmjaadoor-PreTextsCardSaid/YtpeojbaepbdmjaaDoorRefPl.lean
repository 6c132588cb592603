/-
  Plain Lean on the references' parts and texts. Conditions: none.
-/
import Derived.Test.YtpeojbaepbdmjaaDoorPartsW
namespace Go.Proofs.YtpeojbaepbdmjaaDoor
open Go.RowKit Go.Lib
set_option maxRecDepth 100000

theorem digs10 (u : Nat) : digs 10 u = Lib.decDigits u := by
  induction u using Nat.strongRecOn with
  | _ u ih =>
    have hd : ∀ d : Fin 10, hexD d.val = UInt8.ofNat (48 + d.val) := by decide
    rcases Nat.lt_or_ge u 10 with h | h
    · rw [digs_small h, Lib.decDigits, dif_pos h, hd ⟨u, h⟩]
    · rw [digs_big h (by decide), Lib.decDigits, dif_neg (by omega), ih (u / 10) (Nat.div_lt_self (by omega) (by omega)), hd ⟨u % 10, Nat.mod_lt _ (by decide)⟩]
theorem parts4 (hi lo : Nat) : outP (Ad.num ⟨false, hi, lo⟩) 32 8 32 = quadL lo := by
  show [_, _, _, _] = [_, _, _, _]
  simp [pval, quad, Ad.num]
theorem parts6 (hi lo : Nat) (h : lo < 18446744073709551616) : outP (Ad.num ⟨true, hi, lo⟩) 128 16 128 = grpL hi lo := by
  show [_, _, _, _, _, _, _, _] = [_, _, _, _, _, _, _, _]
  simp [pval, grp, Ad.num]
  omega
theorem join_snoc (xs : List (List UInt8)) (y sep : List UInt8) (h : xs ≠ []) : Lib.join (xs ++ [y]) sep = Lib.join xs sep ++ sep ++ y := by
  cases xs with
  | nil => exact (h rfl).elim
  | cons x r =>
    rw [List.cons_append, Lib.join_cons, Lib.join_cons]
    simp [Lib.joinTail, List.append_assoc]
theorem join_take {l : List (List UInt8)} {k : Nat} {y : List UInt8} (sep : List UInt8) (h : l[k]? = some y) : Lib.join (l.take (k + 1)) sep = if k = 0 then y else Lib.join (l.take k) sep ++ sep ++ y := by
  rw [List.take_add_one, h]
  by_cases hk : k = 0
  · subst hk
    simp [Lib.join_one]
  · rw [if_neg hk]
    refine join_snoc _ _ _ fun e => ?_
    have := congrArg List.length e
    have hl := (List.getElem?_eq_some_iff.1 h).1
    rw [List.length_take, List.length_nil] at this
    omega
/-- The references' search for the longest run. -/
def refS (l : List Nat) (k : Nat) : Int × Nat := if (runS l k).2 < 2 then (-1, 1) else (((runS l k).1 : Int), (runS l k).2)
theorem refS_hi {l : List Nat} {k n b : Nat} {a : Int} (hn : n = zc (l.drop k)) (e : refS l k = (a, b)) (h : b < n) : refS l (k + 1) = ((k : Int), n) := by
  subst hn
  unfold refS at e ⊢
  unfold runS
  split at e <;> simp only [Prod.mk.injEq] at e <;> obtain ⟨rfl, rfl⟩ := e
  · rename_i h2
    have hc : (runS l k).2 < zc (l.drop k) := by omega
    simp only [if_pos hc]
    rw [if_neg (by omega)]
  · rename_i h2
    simp only [if_pos h]
    rw [if_neg (by omega)]
theorem refS_lo {l : List Nat} {k n b : Nat} {a : Int} (hn : n = zc (l.drop k)) (e : refS l k = (a, b)) (h : ¬ b < n) : refS l (k + 1) = (a, b) := by
  subst hn
  unfold refS at e ⊢
  unfold runS
  split at e <;> simp only [Prod.mk.injEq] at e <;> obtain ⟨rfl, rfl⟩ := e
  · rename_i h2
    split
    · simp only; rw [if_pos (by omega)]
    · first | rfl | rw [if_pos h2]
  · rename_i h2
    rw [if_neg h]; rw [if_neg h2]
theorem refS_eq (l : List Nat) : refS l 8 = if (runR l).2 = 0 then ((-1 : Int), 1) else (((runR l).1 : Int), (runR l).2) := by
  unfold refS runR
  split
  · simp
  · rename_i h
    rw [if_neg (by omega)]
theorem runR_two {l : List Nat} (h : (runR l).2 ≠ 0) : 2 ≤ (runR l).2 := by
  unfold runR at h ⊢
  split
  · rename_i h2; rw [if_pos h2] at h; exact (h rfl).elim
  · omega
end Go.Proofs.YtpeojbaepbdmjaaDoor
