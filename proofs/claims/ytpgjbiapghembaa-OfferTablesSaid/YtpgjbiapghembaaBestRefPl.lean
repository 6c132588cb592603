/-
  The reference's best offers, the plain law: what its loops keep. Conditions: sources 1 to 4, metrics and peers 0 to 999.
-/
import Derived.Test.YtpgjbiapghembaaInsert
namespace Go.Proofs.Ytpgjbiapghembaa

theorem alive_at {l : List Ofr} {k : Nat} {o : Ofr} (hk : l[k]? = some o) : alive (l.drop k) = if o.met < 999 ∧ ∀ p ∈ l.drop (k + 1), p.ky ≠ o.ky then o :: alive (l.drop (k + 1)) else alive (l.drop (k + 1)) := by
  have hlt := (List.getElem?_eq_some_iff.1 hk).1
  have hr := (List.getElem?_eq_some_iff.1 hk).2
  rw [List.drop_eq_getElem_cons hlt, alive, hr]
theorem alive_nodup : ∀ l : List Ofr, (alive l).Pairwise fun x y => x.ky ≠ y.ky
  | [] => by simp [alive]
  | o :: r => by
    unfold alive
    split
    · rename_i h
      exact List.pairwise_cons.2 ⟨fun y hy e => h.2 y (alive_sub _ _ hy) e.symm, alive_nodup r⟩
    · exact alive_nodup r
theorem ky_inj {A : List Ofr} (h : A.Pairwise fun x y => x.ky ≠ y.ky) {x y : Ofr} (hx : x ∈ A) (hy : y ∈ A) (e : x.ky = y.ky) : x = y := by
  induction A with
  | nil => simp at hx
  | cons a A ih =>
    obtain ⟨h1, h2⟩ := List.pairwise_cons.1 h
    rcases List.mem_cons.1 hx with e1 | hx
    · rcases List.mem_cons.1 hy with e2 | hy
      · rw [e1, e2]
      · exact absurd (e1 ▸ e) (h1 y hy)
    · rcases List.mem_cons.1 hy with e2 | hy
      · exact absurd (e2 ▸ e.symm) (h1 x hx)
      · exact ih h2 hx hy
/-- Sources, metrics and peers within their bounds. -/
def bndO (A : List Ofr) : Prop := ∀ o ∈ A, 1 ≤ o.src ∧ o.src ≤ 4 ∧ 0 ≤ o.met ∧ o.met ≤ 999 ∧ 0 ≤ o.peer ∧ o.peer ≤ 999
theorem best_same {A : List Ofr} (hn : A.Pairwise fun x y => x.ky ≠ y.ky) (hv : bndO A) {x y : Ofr} (hx : x ∈ A) (hy : y ∈ A) (bx : isBest A x = true) (bY : isBest A y = true) (e : x.pf = y.pf) : x = y := by
  unfold isBest at bx bY
  rw [List.all_eq_true] at bx bY
  have h1 := bx y hy
  have h2 := bY x hx
  rw [decide_eq_true_iff] at h1 h2
  have h1 := h1 e.symm
  have h2 := h2 e
  have v1 := hv x hx
  have v2 := hv y hy
  unfold worth at h1 h2
  have e1 : x.src = y.src := by omega
  have e3 : x.peer = y.peer := by omega
  refine ky_inj hn hx hy ?_
  have q := congrArg Prod.fst e
  have q2 := congrArg Prod.snd e
  simp only [Ofr.pf] at q q2
  simp only [Ofr.ky, q, q2, e1, e3]
/-- What the loop over the live offers keeps. -/
def RefInv (A : List Ofr) (k : Nat) (L : List Ofr) : Prop := (L.Pairwise fun x y => pfLess x.pf y.pf) ∧ ∀ x, x ∈ L ↔ x ∈ A.take k ∧ isBest A x = true
theorem refInv_nil (A : List Ofr) : RefInv A 0 [] := ⟨List.Pairwise.nil, by simp⟩
theorem refInv_skip {A : List Ofr} {k : Nat} {L : List Ofr} {o : Ofr} (h : RefInv A k L) (ho : A[k]? = some o) (hb : isBest A o = false) : RefInv A (k + 1) L := by
  refine ⟨h.1, fun x => ?_⟩
  rw [h.2, List.take_add_one, ho]
  simp only [Option.toList_some, List.mem_append, List.mem_singleton]
  constructor
  · rintro ⟨h1, h2⟩; exact ⟨.inl h1, h2⟩
  · rintro ⟨h1 | h1, h2⟩
    · exact ⟨h1, h2⟩
    · subst h1; rw [hb] at h2; cases h2
theorem refInv_put {A : List Ofr} {k : Nat} {L : List Ofr} {o : Ofr} (hn : A.Pairwise fun x y => x.ky ≠ y.ky) (hv : bndO A) (h : RefInv A k L) (ho : A[k]? = some o) (hb : isBest A o = true) : RefInv A (k + 1) (L.take (ahead o L) ++ o :: L.drop (ahead o L)) := by
  have hm : o ∈ A := List.mem_of_getElem? ho
  have hne : ∀ x ∈ L, x.pf ≠ o.pf := fun x hx e => by
    obtain ⟨h1, h2⟩ := (h.2 x).1 hx
    have hxa := List.mem_of_mem_take h1
    have := best_same hn hv hxa hm h2 hb e
    subst this
    obtain ⟨i, hi⟩ := List.mem_iff_getElem?.1 h1
    have hik : i < k := by
      rcases Nat.lt_or_ge i k with hlt | hge
      · exact hlt
      · rw [List.getElem?_take_eq_none hge] at hi; cases hi
    rw [List.getElem?_take_of_lt hik] at hi
    rw [List.pairwise_iff_getElem] at hn
    obtain ⟨g1, g2⟩ := List.getElem?_eq_some_iff.1 hi
    obtain ⟨g3, g4⟩ := List.getElem?_eq_some_iff.1 ho
    exact hn i k g1 g3 hik (by rw [g2, g4])
  refine ⟨ins_sorted o L h.1 hne, fun x => ?_⟩
  rw [ins_mem, h.2, List.take_add_one, ho]
  simp only [Option.toList_some, List.mem_append, List.mem_singleton]
  constructor
  · rintro (rfl | ⟨h1, h2⟩)
    · exact ⟨.inr rfl, hb⟩
    · exact ⟨.inl h1, h2⟩
  · rintro ⟨h1 | h1, h2⟩
    · exact .inr ⟨h1, h2⟩
    · exact .inl h1
theorem refInv_end {A L : List Ofr} (h : RefInv A A.length L) : BestOf A L := by
  refine ⟨h.1, fun x => ?_⟩
  rw [h.2, List.take_length]
theorem refInv_len {A L : List Ofr} {k : Nat} (h : RefInv A k L) : L.length ≤ k := by
  have hnd : L.Nodup := h.1.imp (S := fun a b => a ≠ b) fun {a b} hab e => pfLess_irr _ (e ▸ hab : pfLess a.pf a.pf)
  have := List.Nodup.length_le_of_subset hnd (l₂ := A.take k) (fun x hx => ((h.2 x).1 hx).1)
  exact Nat.le_trans this (List.length_take_le _ _)
theorem ahead_eq {o : Ofr} : ∀ {L : List Ofr} {j : Nat}, j ≤ L.length → (∀ i x, i < j → L[i]? = some x → pfLess x.pf o.pf) → (∀ x, L[j]? = some x → ¬ pfLess x.pf o.pf) → ahead o L = j
  | [], j, h, _, _ => by simp at h; subst h; rfl
  | a :: L, 0, _, _, h2 => by unfold ahead; rw [if_neg (h2 a rfl)]
  | a :: L, j + 1, h, h1, h2 => by
    unfold ahead
    rw [if_pos (h1 0 a (by omega) rfl), ahead_eq (j := j) (by simpa using h) (fun i x hi hx => h1 (i + 1) x (by omega) hx) (fun x hx => h2 x hx)]
/-- The row behind the copy and the store. -/
theorem ins_row {o : Ofr} {L : List Ofr} {j : Nat} (hj : j ≤ L.length) : (L ++ [o]).take (j + 1) ++ L.drop j = (L.take j ++ (if h : j < L.length then L[j] else o) :: L.drop j) := by
  by_cases h : j < L.length
  · rw [dif_pos h, List.take_append_of_le_length (by omega), List.take_succ_eq_append_getElem h, List.append_assoc]; rfl
  · obtain rfl : j = L.length := by omega
    rw [dif_neg h, List.take_of_length_le (by simp), List.drop_length, List.take_length]; simp
theorem ins_set (L : List Ofr) (o : Ofr) (j : Nat) (hj : j ≤ L.length) : ((L ++ [o]).take (j + 1) ++ L.drop j).set j o = L.take j ++ o :: L.drop j := by
  rw [ins_row hj, List.set_append_right _ _ (by simp; omega), List.length_take, Nat.min_eq_left hj, Nat.sub_self]
  rfl
theorem ins_len (L : List Ofr) (o : Ofr) (j : Nat) (hj : j ≤ L.length) : (L.take j ++ o :: L.drop j).length = L.length + 1 := by simp; omega
end Go.Proofs.Ytpgjbiapghembaa
