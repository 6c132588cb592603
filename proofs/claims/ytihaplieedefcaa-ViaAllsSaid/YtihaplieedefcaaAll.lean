/-
  Walk of via.All: its result is the plain list of ports, hop by hop. Conditions: none.
-/
import Derived.Test.YtihaplieedefcaaPort
import Derived.Test.YtihaplieedefcaaSort
import Derived.Test.YtihaplieedefcaaSortShelf
namespace Go.Proofs.Ytihaplieedefcaa
open Go.RowKit
set_option maxHeartbeats 400000
set_option maxRecDepth 100000

def cmpI (a b : Int) : Int := if a < b then -1 else if b < a then 1 else 0
theorem cmp_exact (a b : Int) (W : World) : Calls Try.prog 80 #[.int .i64 a, .int .i64 b] W fun e w' => e = .returned (.int .i64 (cmpI a b)) ∧ w' = W := by
  have hn : ∀ (x : Int) (W : World), Calls Try.prog 143 #[.int .i64 x] W fun e w' => e = .returned (.bool false) ∧ w' = W := by
    intro x W
    go_enter Try.func143, Try.ntmps143
    go_wp2
    go_ret
    exact ⟨by simp, rfl⟩
  have H := hide (p := cmpI a b = if a < b then -1 else if b < a then 1 else 0) rfl
  go_enter Try.func80, Try.ntmps80
  go_wp2_with (go_at_call 143; refine (hn _ _).mono ?_; rintro e w' ⟨rfl, rfl⟩)
  all_goals
    go_ret
    refine ⟨?_, rfl⟩
    rw [H.out]
    first
    | (rw [if_pos (by omega)]; rfl)
    | (rw [if_neg (by omega), if_pos (by omega)]; rfl)
    | (rw [if_neg (by omega), if_neg (by omega)]; rfl)
theorem viaCmp : CmpAny Try.prog 79 #[] encV fun x y => cmpI x.hop y.hop := by
  intro W x y
  show Calls Try.prog 79 #[.agg #[.int .i64 x.hop, .int .i64 x.port, .int .i64 x.next], .agg #[.int .i64 y.hop, .int .i64 y.port, .int .i64 y.next]] W _
  go_enter Try.func79, Try.ntmps79
  go_wp2_with (go_at_call 80; refine (cmp_exact _ _ _).mono ?_; rintro e w' ⟨rfl, rfl⟩)
  go_ret
  exact ⟨rfl, 0, _, by rw [Go.Sort.alloc_eq_grow, Go.Sort.alloc_eq_grow, Go.Sort.grow_grow]; rfl⟩
theorem ltOf_cmpI (a b : Int) : decide (cmpI a b < 0) = decide (a < b) := by
  unfold cmpI
  by_cases h : a < b
  · simp [h]
  · by_cases h2 : b < a <;> simp [h, h2]
theorem viaSwo : Go.Sort.SWO (ltOf fun x y : Vi => cmpI x.hop y.hop) where
  irrefl x := by simp only [ltOf, ltOf_cmpI]; simp
  trans x y z h1 h2 := by simp only [ltOf, ltOf_cmpI] at *; simp at *; omega
  ntrans x y z h1 h2 := by simp only [ltOf, ltOf_cmpI] at *; simp at *; omega
instance : Inhabited Vi := ⟨⟨0, 0, 0⟩⟩
theorem encV_len (x : Vi) : (encV x).length = 3 := rfl
theorem viaSort (W0 W : World) (hB : Below W0.heap.size W0 W) (base : Nat) (hb : W0.heap.size ≤ base) (v : Value) (n : Nat) (l : List Vi) (hown : W.ownsRow base 78 3 v n (l.flatMap encV)) (hn : n < 4611686018427387904) :
    Calls Try.prog 78 #[v, .func (.func 79) #[] #[]] W fun e w' => e = .returned (.tuple #[]) ∧ ∃ (l' : List Vi) (G : Gr W0), w' = grow W0 G ∧ l'.Perm l ∧ l'.Pairwise (fun x y => ltOf (fun x y : Vi => cmpI x.hop y.hop) y x = false) ∧ (grow W0 G).ownsRow base 78 3 v n (l'.flatMap encV) :=
  sort_any Try.sortVia 3 Try.isAgg78 Try.sizeOf78 encV encV_len (fun x v hv => by simp [encV] at hv; rcases hv with rfl | rfl | rfl <;> rfl) _ viaSwo 79 #[] (enters_of Try.func79 (by kernel_rfl) rfl) viaCmp W0 W hB base hb 78 v n l hown (by decide) hn
/-- What All tells of a hop. -/
def vres (f : Int → Option Vi) (h : Int) : Option Vi := if (portF f h).2.2 = 0 then some ⟨h, (portF f h).1, 0⟩ else none
def vall (f : Int → Option Vi) : List Vi := (List.range 999).filterMap fun i : Nat => vres f ((i : Int) + 1)
theorem strict_ext {α : Type} {lt : α → α → Prop} (irr : ∀ x, ¬ lt x x) (tr : ∀ x y z, lt x y → lt y z → lt x z) : ∀ (l m : List α), l.Pairwise lt → m.Pairwise lt → (∀ x, x ∈ l ↔ x ∈ m) → l = m
  | [], [], _, _, _ => rfl
  | [], y :: m, _, _, h => absurd ((h y).2 (List.mem_cons_self ..)) (by simp)
  | x :: l, [], _, _, h => absurd ((h x).1 (List.mem_cons_self ..)) (by simp)
  | x :: l, y :: m, hl, hm, h => by
    obtain ⟨hx, hl1⟩ := List.pairwise_cons.1 hl
    obtain ⟨hy, hm1⟩ := List.pairwise_cons.1 hm
    have e : x = y := by
      rcases List.mem_cons.1 ((h x).1 (List.mem_cons_self ..)) with e | e
      · exact e
      · rcases List.mem_cons.1 ((h y).2 (List.mem_cons_self ..)) with e2 | e2
        · exact e2.symm
        · exact absurd (tr _ _ _ (hx y e2) (hy x e)) (irr x)
    subst e
    rw [strict_ext irr tr l m hl1 hm1 fun z => ?_]
    constructor
    · intro hz
      rcases List.mem_cons.1 ((h z).1 (List.mem_cons_of_mem _ hz)) with e | e
      · subst e; exact absurd (hx _ hz) (irr _)
      · exact e
    · intro hz
      rcases List.mem_cons.1 ((h z).2 (List.mem_cons_of_mem _ hz)) with e | e
      · subst e; exact absurd (hy _ hz) (irr _)
      · exact e
theorem vres_hop {f : Int → Option Vi} {h : Int} {v : Vi} (e : vres f h = some v) : v.hop = h := by
  unfold vres at e
  split at e
  · cases e; rfl
  · cases e
theorem vres_none {f : Int → Option Vi} {h : Int} (e : f h = none) : vres f h = none := by
  unfold vres portF
  rw [portGo_1 f 0 [] h (by omega) e]
  rfl
theorem vall_pairwise (f : Int → Option Vi) : (vall f).Pairwise fun x y => x.hop < y.hop := by
  unfold vall
  rw [List.pairwise_filterMap]
  refine List.pairwise_lt_range.imp ?_
  intro a b hab x hx y hy
  rw [vres_hop hx, vres_hop hy]
  omega
theorem mem_vall (f : Int → Option Vi) (hf : ∀ h v, f h = some v → 1 ≤ h ∧ h ≤ 999) (v : Vi) : v ∈ vall f ↔ vres f v.hop = some v := by
  unfold vall
  rw [List.mem_filterMap]
  constructor
  · rintro ⟨i, _, e⟩
    rw [← vres_hop e] at e
    exact e
  · intro e
    rcases hv : f v.hop with _ | u
    · rw [vres_none hv] at e; cases e
    · have := hf _ _ hv
      refine ⟨(v.hop - 1).toNat, by simp; omega, ?_⟩
      rw [show (((v.hop - 1).toNat : Nat) : Int) + 1 = v.hop by omega]
      exact e
/-- The hops that a map has, in whatever order: what they come to, sorted, is the plain list. -/
theorem vall_of_sorted (f : Int → Option Vi) (hf : ∀ h v, f h = some v → 1 ≤ h ∧ h ≤ 999) (seen : List Int) (hnd : seen.Nodup) (hs : ∀ h, (f h).isSome = true ↔ h ∈ seen) (l' : List Vi) (hp : l'.Perm (seen.filterMap (vres f)))
    (hsort : l'.Pairwise (fun x y => ltOf (fun x y : Vi => cmpI x.hop y.hop) y x = false)) : l' = vall f := by
  refine strict_ext (lt := fun x y : Vi => x.hop < y.hop) (by simp) (fun x y z h1 h2 => by omega) l' (vall f) ?_ (vall_pairwise f) ?_
  · have h1 : (seen.filterMap (vres f)).Pairwise fun x y => x.hop ≠ y.hop := by
      rw [List.pairwise_filterMap]
      refine hnd.imp ?_
      intro a b hab x hx y hy
      rw [vres_hop hx, vres_hop hy]
      exact hab
    have h2 : l'.Pairwise fun x y => x.hop ≠ y.hop := (hp.pairwise_iff (fun h => Ne.symm h)).2 h1
    refine (hsort.and h2).imp ?_
    rintro x y ⟨h3, h4⟩
    simp only [ltOf, ltOf_cmpI, decide_eq_false_iff_not] at h3
    omega
  · intro v
    rw [hp.mem_iff, List.mem_filterMap, mem_vall f hf]
    constructor
    · rintro ⟨h, _, e⟩
      rw [← vres_hop e] at e
      exact e
    · intro e
      refine ⟨v.hop, (hs _).1 ?_, e⟩
      rcases hv : f v.hop with _ | u
      · rw [vres_none hv] at e; cases e
      · rfl
end Go.Proofs.Ytihaplieedefcaa
