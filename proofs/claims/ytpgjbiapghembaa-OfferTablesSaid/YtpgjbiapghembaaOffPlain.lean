/-
  Offers, the plain law: which are live, which are best, in which order. Conditions: metrics of at most 999.
-/
import Derived.Test.YtpgjbiapghembaaLive
import Derived.Test.YtpgjbiapghembaaCmp
namespace Go.Proofs.Ytpgjbiapghembaa

theorem upd_upd {κ α : Type} (f : κ → Option α) (x : κ) (u v : Option α) : upd (upd f x u) x v = upd f x v := by
  funext y
  unfold upd
  split <;> rfl
/-- The live offers by key, as they come in. -/
noncomputable def liveF (l : List Ofr) : Ky → Option Ofr := l.foldl (fun f o => upd f o.ky (if o.met = 999 then none else some o)) fun _ => none
theorem liveF_snoc (l : List Ofr) (o : Ofr) : liveF (l ++ [o]) = upd (liveF l) o.ky (if o.met = 999 then none else some o) := by simp [liveF]
/-- Those that are live: none behind is of the same one; and it takes nothing away. -/
def alive : List Ofr → List Ofr
  | [] => []
  | o :: r => if o.met < 999 ∧ ∀ p ∈ r, p.ky ≠ o.ky then o :: alive r else alive r
theorem alive_sub : ∀ (l : List Ofr) (x : Ofr), x ∈ alive l → x ∈ l
  | [], x, h => by simp [alive] at h
  | o :: r, x, h => by
    unfold alive at h
    split at h
    · rcases List.mem_cons.1 h with e | e
      · exact e ▸ List.mem_cons_self ..
      · exact List.mem_cons_of_mem _ (alive_sub r x e)
    · exact List.mem_cons_of_mem _ (alive_sub r x h)
theorem alive_snoc : ∀ (l : List Ofr) (o : Ofr), alive (l ++ [o]) = (alive l).filter (fun x => decide (x.ky ≠ o.ky)) ++ (if o.met < 999 then [o] else [])
  | [], o => by
    simp only [List.nil_append, alive, List.not_mem_nil, false_implies, implies_true, and_true, List.filter_nil]
  | a :: r, o => by
    have hmem : ∀ p, p ∈ r ++ [o] ↔ p ∈ r ∨ p = o := by simp
    simp only [List.cons_append, alive, alive_snoc r o]
    by_cases h : a.met < 999 ∧ ∀ p ∈ r, p.ky ≠ a.ky
    · by_cases h2 : o.ky = a.ky
      · rw [if_neg (fun hc => hc.2 o ((hmem o).2 (.inr rfl)) h2), if_pos h, List.filter_cons_of_neg (by simp [h2])]
      · rw [if_pos ⟨h.1, fun p hp => ((hmem p).1 hp).elim (h.2 p) (fun e => e ▸ h2)⟩, if_pos h, List.filter_cons_of_pos (by simp; exact fun e => h2 e.symm)]
        rfl
    · rw [if_neg (fun hc => h ⟨hc.1, fun p hp => hc.2 p ((hmem p).2 (.inl hp))⟩), if_neg h]
theorem liveF_iff (l : List Ofr) (hm : ∀ o ∈ l, o.met ≤ 999) (k : Ky) (x : Ofr) : liveF l k = some x ↔ x ∈ alive l ∧ x.ky = k := by
  have : ∀ (r : List Ofr), (∀ o ∈ r.reverse, o.met ≤ 999) → ∀ k x, liveF r.reverse k = some x ↔ x ∈ alive r.reverse ∧ x.ky = k := by
    intro r
    induction r with
    | nil => intro _ k x; simp [liveF, alive]
    | cons o r ih =>
      intro hm k x
      have ih := ih (fun p hp => hm p (by simp at hp ⊢; exact .inl hp))
      have hmo : o.met ≤ 999 := hm o (by simp)
      rw [List.reverse_cons, liveF_snoc, alive_snoc]
      by_cases hk : k = o.ky
      · subst hk
        rw [upd_same]
        by_cases h9 : o.met = 999
        · rw [if_pos h9, if_neg (by omega)]
          simp
        · rw [if_neg h9, if_pos (by omega)]
          simp only [Option.some.injEq, List.mem_append, List.mem_filter, decide_eq_true_eq, List.mem_singleton]
          constructor
          · rintro rfl; exact ⟨.inr rfl, rfl⟩
          · rintro ⟨h | h, h2⟩
            · exact absurd h2 h.2
            · exact h.symm
      · rw [upd_other _ hk, ih]
        simp only [List.mem_append, List.mem_filter, decide_eq_true_eq]
        constructor
        · rintro ⟨h1, h2⟩
          exact ⟨.inl ⟨h1, fun e => hk (h2 ▸ e)⟩, h2⟩
        · rintro ⟨h | h, h2⟩
          · exact ⟨h.1, h2⟩
          · split at h
            · simp at h; subst h; exact absurd h2.symm hk
            · simp at h
  have := this l.reverse (by simpa using hm) k x
  simpa using this
/-- How good an offer is: less is better. -/
def worth (o : Ofr) : Int := (o.src * 1000 + o.met) * 1000 + o.peer
def Ofr.pf (o : Ofr) : Ad × Int := (o.ad, o.len)
/-- The best ones. -/
def isBest (A : List Ofr) (o : Ofr) : Bool := A.all fun p => decide (p.pf = o.pf → ¬ worth p < worth o)
def adLess (a b : Ad) : Bool := if a.six ≠ b.six then b.six else decide (a.hi < b.hi ∨ a.hi = b.hi ∧ a.lo < b.lo)
def pfLess (a b : Ad × Int) : Prop := adLess a.1 b.1 = true ∨ (a.1 = b.1 ∧ a.2 < b.2)
theorem adLess_irr (a : Ad) : adLess a a = false := by simp [adLess]
theorem adLess_iff (a b : Ad) : adLess a b = true ↔ (a.six = false ∧ b.six = true) ∨ (a.six = b.six ∧ (a.hi < b.hi ∨ a.hi = b.hi ∧ a.lo < b.lo)) := by
  unfold adLess
  cases a.six <;> cases b.six <;> simp
theorem adLess_tr (a b c : Ad) (h1 : adLess a b = true) (h2 : adLess b c = true) : adLess a c = true := by
  rw [adLess_iff] at *
  rcases h1 with ⟨h1, h3⟩ | ⟨h1, h3⟩ <;> rcases h2 with ⟨h2, h4⟩ | ⟨h2, h4⟩
  · rw [h3] at h2; cases h2
  · exact .inl ⟨h1, h2 ▸ h3⟩
  · exact .inl ⟨h1 ▸ h2, h4⟩
  · exact .inr ⟨h1.trans h2, by omega⟩
theorem adLess_tot (a b : Ad) (h1 : adLess a b = false) (h2 : adLess b a = false) : a = b := by
  have h1' : ¬ adLess a b = true := by rw [h1]; decide
  have h2' : ¬ adLess b a = true := by rw [h2]; decide
  rw [adLess_iff] at h1' h2'
  obtain ⟨s, x, y⟩ := a
  obtain ⟨s', x', y'⟩ := b
  simp only [not_or, not_and] at h1' h2'
  have hs : s = s' := by cases s <;> cases s' <;> simp at *
  subst hs
  have g1 := h1'.2 rfl
  have g2 := h2'.2 rfl
  have hx : x = x' := by omega
  have hy : y = y' := by omega
  rw [hx, hy]
theorem pfLess_irr (a : Ad × Int) : ¬ pfLess a a := by
  rintro (h | ⟨_, h⟩)
  · rw [adLess_irr] at h; cases h
  · omega
theorem pfLess_tr (a b c : Ad × Int) (h1 : pfLess a b) (h2 : pfLess b c) : pfLess a c := by
  rcases h1 with h1 | ⟨h1, h3⟩ <;> rcases h2 with h2 | ⟨h2, h4⟩
  · exact .inl (adLess_tr _ _ _ h1 h2)
  · exact .inl (h2 ▸ h1)
  · exact .inl (h1 ▸ h2)
  · exact .inr ⟨h1.trans h2, by omega⟩
end Go.Proofs.Ytpgjbiapghembaa
