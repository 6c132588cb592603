/-
  The library's sort at a row of structs of the call's own: the row holds a permutation, sorted. Conditions: fewer than 2^62 elements.
-/
import Derived.Test.YtpgjbiapghembaaRow
import Derived.Shelf.SlSortCmp.NoneTotal
namespace Go.Proofs.Ytpgjbiapghembaa
open Go.RowKit Go.Sort

theorem flatK_list {α : Type} [Inhabited α] {enc : α → List Value} {k : Nat} (hk : ∀ x, (enc x).length = k) (d : Array α) : (flatK enc k d).toList = d.toList.flatMap enc := by
  apply List.ext_getElem?
  intro j
  by_cases hj : j < d.size * k
  · have k0 : 0 < k := by
      rcases Nat.eq_zero_or_pos k with h | h
      · subst h; simp at hj
      · exact h
    have hq : j / k < d.size := Nat.div_lt_of_lt_mul (by rw [Nat.mul_comm]; exact hj)
    have hr : j % k < k := Nat.mod_lt _ k0
    have h1 : (d.toList.flatMap enc)[j / k * k + j % k]? = some ((enc d[j / k]!)[j % k]!) := by
      apply flat_get hk _ _ d[j / k]!
      · simp [hq]
      · rw [List.getElem?_eq_getElem (by rw [hk]; exact hr)]
        simp [hk, hr]
    rw [Nat.div_add_mod' j k] at h1
    rw [h1, Array.getElem?_toList, Array.getElem?_eq_getElem (by rw [size_flatK]; exact hj)]
    have := get_flatK enc k d j hj
    rw [getElem!_pos _ j (by rw [size_flatK]; exact hj)] at this
    rw [this]
  · rw [List.getElem?_eq_none (by simp; omega), List.getElem?_eq_none (by rw [flat_length hk]; simp; omega)]
theorem holdsK_own {α : Type} [Inhabited α] {enc : α → List Value} {k : Nat} (hk : ∀ x, (enc x).length = k) {w : World} {base g n cap : Nat} {t : TypeId} {d : Array α} (hd : d.size = n) (h : w.ownsRow base t k (.slice (some ⟨g, 0, none⟩) n cap) n (d.toList.flatMap enc)) :
    HoldsK enc k w g 0 d := by
  intro j hj
  rw [size_flatK] at hj
  refine ⟨?_, ?_⟩
  · rw [Nat.zero_add, own_cell h j (by rw [← hd]; exact hj), ← flatK_list hk]
    rw [Array.getElem?_toList, Array.getElem?_eq_getElem (by rw [size_flatK]; exact hj), getElem!_pos _ j (by rw [size_flatK]; exact hj)]
    rfl
  · rcases h.2 with ⟨h', _⟩ | ⟨g', cap', cur, h', _, hg, _⟩
    · cases h'
    · simp only [Value.slice.injEq, Option.some.injEq, Addr.mk.injEq, and_true, true_and] at h'
      obtain ⟨rfl, rfl⟩ := h'
      simp [World.frozen?, hg]
theorem heap_sortK {α : Type} [Inhabited α] {enc : α → List Value} {k : Nat} {w : World} {g m : Nat} {os : Array Obj} {cur : Array Value} {e : TypeId} {fr : Nat × Nat} (d : Array α) (hb : w.heap[g]? = some (.cells cur e fr)) :
    (sortWorldK enc k w g 0 m d os).heap[g]? = some (.cells (putCells id 0 (flatK enc k d) cur) e fr) := by
  have hg : g < w.heap.size := (Array.getElem?_eq_some_iff.1 hb).1
  unfold sortWorldK putRowK
  rw [heap_grow_old _ _ (by simpa using hg)]
  simp [putRow, mapBlock, Sort.ahead, Array.getElem?_modify, hb, onCells]
theorem grownBy_sortK {α : Type} [Inhabited α] {enc : α → List Value} {k : Nat} {w : World} {g m : Nat} {os : Array Obj} (d : Array α) : w.grownBy (sortWorldK enc k w g 0 m d os) (some g) := by
  unfold sortWorldK putRowK
  refine ⟨rfl, rfl, rfl, by simp, fun k hk hne => ?_⟩
  rw [heap_grow_old _ _ (by simpa using hk)]
  have : g ≠ k := fun e => hne (by rw [e])
  simp [putRow, mapBlock, Sort.ahead, Array.getElem?_modify, this]
theorem own_sortK {α : Type} [Inhabited α] {enc : α → List Value} {k : Nat} (hk : ∀ x, (enc x).length = k) {w : World} {base g n cap m : Nat} {t : TypeId} {os : Array Obj} {xs : List Value} {d : Array α} (hd : d.size = n) (h : w.ownsRow base t k (.slice (some ⟨g, 0, none⟩) n cap) n xs) :
    (sortWorldK enc k w g 0 m d os).ownsRow base t k (.slice (some ⟨g, 0, none⟩) n cap) n (d.toList.flatMap enc) := by
  refine ⟨by rw [flat_length hk]; simp [hd], ?_⟩
  rcases h.2 with ⟨h', _⟩ | ⟨g', cap', cur, h', hbase, hg, h1, h2, h3, _⟩
  · cases h'
  · simp only [Value.slice.injEq, Option.some.injEq, Addr.mk.injEq, and_true, true_and] at h'
    obtain ⟨rfl, rfl⟩ := h'
    refine .inr ⟨g, cap, _, rfl, hbase, heap_sortK _ hg, h1, h2, by simp [putCells, h3], ?_⟩
    rw [← flatK_list hk]
    have hc : n * k ≤ cur.size := by rw [h3]; exact Nat.mul_le_mul_right _ h1
    apply List.ext_getElem?
    intro j
    by_cases hj : j < n * k
    · have hj2 : j < d.size * k := by rw [hd]; exact hj
      rw [List.getElem?_take_of_lt hj, Array.getElem?_toList, Array.getElem?_toList]
      rw [Array.getElem?_eq_getElem (by simp [putCells]; omega), Array.getElem?_eq_getElem (by rw [size_flatK]; exact hj2)]
      simp [putCells, hj2]
    · rw [List.getElem?_take_eq_none (by omega), List.getElem?_eq_none (by simp [hd]; omega)]
theorem permIn_list {α : Type} [Inhabited α] {d d' : Array α} {n : Nat} (hn : d.size = n) (h : PermIn 0 n d d') : d'.size = n ∧ d'.toList.Perm d.toList := by
  obtain ⟨h1, _, h3⟩ := h
  refine ⟨by omega, ?_⟩
  have e1 : d.extract 0 n = d := by rw [← hn]; simp
  have e2 : d'.extract 0 n = d' := by rw [← hn, ← h1]; simp
  rwa [e1, e2] at h3
theorem sortedIn_list {α : Type} [Inhabited α] {lt : α → α → Bool} {d : Array α} {n : Nat} (hn : d.size = n) (h : SortedIn lt 0 n d) : d.toList.Pairwise (fun x y => lt y x = false) := by
  rw [List.pairwise_iff_getElem]
  intro i j hi hj hij
  have := h i j (Nat.zero_le _) hij (by simp at hj; omega)
  simp at hi hj
  rw [getElem!_pos d i hi, getElem!_pos d j hj] at this
  simpa using this
/-- What is asked of the comparison: in whatever world it hands back cf; it may lay blocks and draw. -/
def CmpAny {α : Type} (P : Program) (g : Nat) (cb : Array Value) (enc : α → List Value) (cf : α → α → Int) : Prop :=
  ∀ (W : World) (x y : α), Calls P g (#[.agg (enc x).toArray, .agg (enc y).toArray] ++ cb) W fun e w' => e = .returned (.int .i64 (cf x y)) ∧ ∃ q os', w' = Go.Sort.grow (W.drewN q) os'
theorem sort_any {α : Type} [Inhabited α] {P : Program} {ρ : Go.Shelf.Ren} (L : SlLaysF0.n6 P ρ) (k : Nat) (aE : ∀ w, (isAgg (ρ.t 24)).run P w = .ok true w) (zE : ∀ w, (Go.sizeOf (ρ.t 24)).run P w = .ok k w) (enc : α → List Value) (hk : ∀ x, (enc x).length = k) (h1 : ∀ x, ∀ v ∈ enc x, v.oneCell' = true)
    (cf : α → α → Int) (hO : SWO (ltOf cf)) (g : Nat) (cb : Array Value) (eg : ∀ args w, (callFunc g args).run P w = .ok (.enter g args) w) (hcmp : CmpAny P g cb enc cf)
    (W0 W : World) (hB : Below W0.heap.size W0 W) (base : Nat) (hb : W0.heap.size ≤ base) (t : TypeId) (v : Value) (n : Nat) (l : List α) (hown : W.ownsRow base t k v n (l.flatMap enc)) (k0 : 0 < k) (hn : n < 4611686018427387904) :
    Calls P (ρ.f 6) #[v, .func (.func g) #[] cb] W fun e w' => e = .returned (.tuple #[]) ∧ ∃ (l' : List α) (G : Gr W0), w' = grow W0 G ∧ l'.Perm l ∧ l'.Pairwise (fun x y => ltOf cf y x = false) ∧ (grow W0 G).ownsRow base t k v n (l'.flatMap enc) := by
  have hl : l.length = n := by
    have := hown.1
    rw [flat_length hk] at this
    exact Nat.eq_of_mul_eq_mul_right k0 this
  rcases Nat.eq_zero_or_pos n with h0 | h0
  · subst h0
    obtain rfl : l = [] := List.eq_nil_of_length_eq_zero hl
    have hv : ∃ A c, v = .slice A 0 c := by
      rcases hown.2 with ⟨h, _⟩ | ⟨_, _, _, h, _⟩
      · exact ⟨_, _, h⟩
      · exact ⟨_, _, h⟩
    obtain ⟨A, c, rfl⟩ := hv
    refine (AnyF.slices_SortFunc_none L A c (.func (.func g) #[] cb) W).mono ?_
    rintro e w' ⟨rfl, rfl⟩
    obtain ⟨G, rfl⟩ := gr_of hB
    exact ⟨rfl, [], G, rfl, List.Perm.refl _, List.Pairwise.nil, hown⟩
  · obtain ⟨b, cap, rfl⟩ := own_form hown h0
    have hd : l.toArray.size = n := by simpa using hl
    have hH : HoldsK enc k W b 0 l.toArray := holdsK_own hk hd (by simpa using hown)
    have hbl := own_lt hown
    subst hd
    refine (AnyQ.slices_SortFunc L k aE zE enc hk h1 cf hO g cb b 0 cap l.toArray W eg (fun m os dk _ x y => hcmp _ x y) hH hbl hn).mono ?_
    rintro e w' ⟨rfl, d', m, os, hp, hs, rfl⟩
    obtain ⟨hs1, hp1⟩ := permIn_list rfl hp
    obtain ⟨G, hG⟩ := gr_of (hB.grown (grownBy_sortK (enc := enc) (k := k) (m := m) (os := os) d') hB.size (fun j hj => by cases hj; exact Nat.le_trans hb (own_le hown)))
    refine ⟨rfl, d'.toList, G, hG, by simpa using hp1, sortedIn_list hs1 hs, ?_⟩
    rw [← hG]
    exact own_sortK hk hs1 hown
end Go.Proofs.Ytpgjbiapghembaa
