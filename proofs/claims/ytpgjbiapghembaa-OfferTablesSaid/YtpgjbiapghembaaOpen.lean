/-
  From a row's datum to a slice's elements; from a walk that returns true to the row's post. Conditions: none.
-/
import Derived.Test.YtpgjbiapghembaaRows
import Derived.ProofKit
import Derived.Test.YtpgjbiapghembaaRoute
import Derived.Deep.Slices
import Derived.ChangeSame
import Derived.ChangeArms
namespace Go.Proofs.Ytpgjbiapghembaa
open Go.RowKit Go.WideShapes Go.ChangeShapes Go.Deep

section
variable {H : Type} {enc : TypeId × Value → H} {P : Program} {w : World} {base : Nat} {spare : Nat → Bool} {held : Bool}
theorem addr_add {a : Addr} {j : Nat} (hs : a.spot = none) : a.add j = ⟨a.block, a.off + j, none⟩ := by
  unfold Addr.add
  split
  · rename_i h; subst h; cases a; simp at hs; simp [hs]
  · rfl
theorem spot_of_cell {a : Addr} {v : Value} (h : w.cell? a = some v) : a.spot = none ∧ a.block < w.heap.size := by
  refine ⟨?_, World.block_lt_of_cell? w _ h⟩
  unfold World.cell? at h
  split at h
  · split at h
    · cases h
    · rename_i hs; simpa using hs
  · cases h
/-- A slice's elements, each read whole. -/
theorem open_rd {α : Type} {enc' : α → List Value} {size : Nat} {ok : α → Prop} {t e : TypeId} {fuel : Nat} {cs : List Value} {x : DataW H × List MemPlace} (ht : P.underlying t = some (.slice e)) (hC : P.cellsOf e = size) (hs : 0 < size)
    (hel : ∀ n cs x, DataW.trod enc P w base spare held n e cs = some x → ∃ y : α, ok y ∧ cs = enc' y) (h : DataW.trod enc P w base spare held fuel t cs = some x) :
    ∃ A n c l, cs = [.slice A n c] ∧ Rd w size A n enc' l ∧ n ≤ c ∧ c ≤ 9223372036854775807 ∧ ∀ y ∈ l, ok y := by
  rcases open_slice ht h with ⟨rfl, _⟩ | ⟨a, len, cap, m, n, D, Pl, rfl, hb, hl, hm, hmm, hx, hi⟩
  · exact ⟨none, 0, 0, [], rfl, ⟨rfl, fun h => by omega⟩, by omega, by omega, by simp⟩
  · have hlm : len ≤ m := by rw [hmm]; split <;> omega
    have hex : ∀ i : Fin len, ∃ y : α, ok y ∧ w.cells? base (a.add (i.1 * size)) size = some (enc' y) := fun i => by
      obtain ⟨cs', hc, ht'⟩ := hi i.1 (by omega)
      obtain ⟨y, hy, rfl⟩ := hel _ _ _ ht'
      rw [hC] at hc
      exact ⟨y, hy, hc⟩
    refine ⟨some a, len, cap, (List.finRange len).map fun i => (hex i).choose, rfl, ⟨by simp, fun hn => ?_⟩, hl, by simpa [maxLen] using hm, ?_⟩
    · obtain ⟨_, h1, h2⟩ := World.cells?_some (hex ⟨0, hn⟩).choose_spec.2
      have h3 := h2 0 hs
      rw [List.getElem?_eq_getElem (by omega)] at h3
      have h4 := spot_of_cell h3
      have e0 : (a.add (0 * size)).add 0 = a := by simp [Addr.add]
      rw [e0] at h4
      obtain ⟨h4, h5⟩ := h4
      obtain ⟨b, off, sp⟩ := a
      simp only at h4 h5
      subst h4
      refine ⟨b, off, rfl, h5, fun k x hk i v hv => ?_⟩
      rw [List.getElem?_map] at hk
      have hkl : k < len := by
        rcases Nat.lt_or_ge k len with h | h
        · exact h
        · rw [List.getElem?_eq_none (by simpa using h)] at hk; cases hk
      have hk' : (List.finRange len)[k]? = some ⟨k, hkl⟩ := by
        rw [List.getElem?_eq_getElem (by simpa using hkl)]
        simp
      rw [hk'] at hk
      simp only [Option.map_some, Option.some.injEq] at hk
      subst hk
      obtain ⟨_, g1, g2⟩ := World.cells?_some (hex ⟨k, hkl⟩).choose_spec.2
      have hil : i < size := by
        have := (List.getElem?_eq_some_iff.1 hv).1
        rwa [g1] at this
      have := g2 i hil
      rw [hv, addr_add (by simp [Addr.add]; split <;> rfl)] at this
      rw [← this]
      congr 1
      simp only [Addr.add]
      split <;> simp_all
    · intro y hy
      obtain ⟨i, _, rfl⟩ := List.mem_map.1 hy
      exact (hex i).choose_spec.1
/-- A law's row: it returned true; what was there is as it was. -/
theorem law_post {f : Func} {s : ChangeSpec} {apart : Bool} {W W' : World} {args : Array Value} {ds : List (DataW H)} {before : List MemPlace} {tb : TypeId}
    (hW : DataW.Whole enc P f.params.toList s.vars apart W args.toList ds [] before) (hr : f.resultTypes = #[tb]) (hbool : P.underlying tb = some .bool) (hv : s.vars = [])
    (hs : (s.fn H (ds ++ [])).results = [.lit (.bool true)] ∧ (s.fn H (ds ++ [])).args = ds ∧ (s.fn H (ds ++ [])).vars = [])
    (hargs : DataW.TrodAll enc P W' 0 (fun b => decide (b < W.heap.size)) true f.params.toList args.toList ds before) (hb : Below W.heap.size W W') :
    s.post enc P f apart true false false W args (.bool true) W' := by
  refine ⟨ds, [], before, [], before, [], hW, ?_, ?_, ?_, hb.frame _, fun h => by cases h⟩
  · rw [hs.1, hr]
    exact trodAll_mk1 (shut_bool hbool true)
  · rw [hs.2.1]; exact hargs
  · rw [hs.2.2, hv]; rfl
end
theorem seatOwn : ownKnob Try.prog.godebug = none := by kernel_rfl
theorem seatLaid : laidOutB Try.prog = true := by kernel_rfl
end Go.Proofs.Ytpgjbiapghembaa
