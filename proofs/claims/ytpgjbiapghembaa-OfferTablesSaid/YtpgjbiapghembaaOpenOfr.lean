/-
  From a datum to an offer. Conditions: none.
-/
import Derived.Test.YtpgjbiapghembaaOpenAd
import Derived.Test.YtpgjbiapghembaaOffer
namespace Go.Proofs.Ytpgjbiapghembaa
open Go.RowKit Go.WideShapes Go.ChangeShapes Go.Deep

theorem cells_ofr : Try.prog.cellsOf 44 = 8 := by kernel_rfl
theorem open_ofr {H : Type} {enc : TypeId × Value → H} {w : World} {base : Nat} {spare : Nat → Bool} {held : Bool} (n : Nat) (cs : List Value) (x : DataW H × List MemPlace) (h : DataW.trod enc Try.prog w base spare held n 44 cs = some x) : ∃ o : Ofr, o.ad.wf ∧ cs = encO o := by
  obtain ⟨xs, m, rfl, rfl, hlen, hxs, hf⟩ := DataW.trod_struct Try.underlying44 h
  rw [cells_ofr] at hlen
  have f0 := hf 0 _ rfl
  have f1 := hf 1 _ rfl
  have f2 := hf 2 _ rfl
  have f3 := hf 3 _ rfl
  have f4 := hf 4 _ rfl
  simp [cells_pfx, cells_int] at f0 f1 f2 f3 f4
  rw [List.getElem?_eq_getElem (by rw [hxs]; decide)] at f0 f1 f2 f3 f4
  obtain ⟨a, k, hw, _, e0⟩ := open_pfx _ _ _ f0
  obtain ⟨x1, e1, _⟩ := DataW.trod_int Try.underlying3 f1
  obtain ⟨x2, e2, _⟩ := DataW.trod_int Try.underlying3 f2
  obtain ⟨x3, e3, _⟩ := DataW.trod_int Try.underlying3 f3
  obtain ⟨x4, e4, _⟩ := DataW.trod_int Try.underlying3 f4
  refine ⟨⟨a, k, x1, x2, x3, x4⟩, hw, ?_⟩
  have h4 : cs = cs.take 4 ++ ((cs.drop 4).take 1 ++ ((cs.drop 5).take 1 ++ ((cs.drop 6).take 1 ++ (cs.drop 7).take 1))) := by
    have e : ∀ k, k < 8 → (cs.drop k).take 1 ++ cs.drop (k + 1) = cs.drop k := fun k hk => by
      rw [← List.drop_drop, List.take_append_drop]
    rw [List.take_of_length_le (l := cs.drop 7) (by simp; omega), e 6 (by omega), e 5 (by omega), e 4 (by omega), List.take_append_drop]
  rw [h4, e0, e1, e2, e3, e4]
  rfl
end Go.Proofs.Ytpgjbiapghembaa
