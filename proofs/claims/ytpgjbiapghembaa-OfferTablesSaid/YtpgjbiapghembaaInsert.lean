/-
  An offer put into its place in a sorted list, plain. Conditions: none.
-/
import Derived.Test.YtpgjbiapghembaaBestPl
namespace Go.Proofs.Ytpgjbiapghembaa

open Classical in
/-- How many stand ahead of it. -/
noncomputable def ahead (o : Ofr) : List Ofr → Nat
  | [] => 0
  | x :: r => if pfLess x.pf o.pf then ahead o r + 1 else 0
theorem ahead_le (o : Ofr) : ∀ l : List Ofr, ahead o l ≤ l.length
  | [] => by simp [ahead]
  | x :: r => by
    unfold ahead
    split
    · have := ahead_le o r; simp; omega
    · simp
theorem ins_sorted (o : Ofr) : ∀ l : List Ofr, (l.Pairwise fun x y => pfLess x.pf y.pf) → (∀ x ∈ l, x.pf ≠ o.pf) → (l.take (ahead o l) ++ o :: l.drop (ahead o l)).Pairwise fun x y => pfLess x.pf y.pf
  | [], _, _ => by simp [ahead]
  | x :: r, h, hne => by
    obtain ⟨h1, h2⟩ := List.pairwise_cons.1 h
    unfold ahead
    split
    · rename_i hx
      simp only [List.take_succ_cons, List.drop_succ_cons, List.cons_append]
      refine List.pairwise_cons.2 ⟨fun y hy => ?_, ins_sorted o r h2 fun y hy => hne y (List.mem_cons_of_mem _ hy)⟩
      rcases List.mem_append.1 hy with hy | hy
      · exact h1 y (List.mem_of_mem_take hy)
      · rcases List.mem_cons.1 hy with e | e
        · exact e ▸ hx
        · exact h1 y (List.mem_of_mem_drop e)
    · rename_i hx
      simp only [List.take_zero, List.drop_zero, List.nil_append]
      have hox : pfLess o.pf x.pf := by
        by_cases h3 : pfLess o.pf x.pf
        · exact h3
        · exact absurd (pfLess_tot _ _ hx h3) (hne x (List.mem_cons_self ..))
      refine List.pairwise_cons.2 ⟨fun y hy => ?_, h⟩
      rcases List.mem_cons.1 hy with e | e
      · exact e ▸ hox
      · exact pfLess_tr _ _ _ hox (h1 y e)
theorem ins_mem (o x : Ofr) (l : List Ofr) (k : Nat) : x ∈ l.take k ++ o :: l.drop k ↔ x = o ∨ x ∈ l := by
  rw [List.mem_append, List.mem_cons]
  conv => rhs; rw [← List.take_append_drop k l, List.mem_append]
  constructor
  · rintro (h | h | h)
    · exact .inr (.inl h)
    · exact .inl h
    · exact .inr (.inr h)
  · rintro (h | h | h)
    · exact .inr (.inl h)
    · exact .inl h
    · exact .inr (.inr h)
end Go.Proofs.Ytpgjbiapghembaa
