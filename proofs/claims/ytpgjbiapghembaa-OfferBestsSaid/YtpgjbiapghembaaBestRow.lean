/-
  OfferBests holds: offers.Best answers as the document says, for every argument. Conditions: none.
-/
import Derived.Test.YtpgjbiapghembaaChecked
import Derived.Test.YtpgjbiapghembaaOpenOfr
import Derived.Test.YtpgjbiapghembaaBestLaw
import Derived.Test.YtpgjbiapghembaaBestFact
namespace Go.Proofs.Ytpgjbiapghembaa
open Go.RowKit Go.WideShapes Go.ChangeShapes Go.Deep

set_option maxRecDepth 100000 in
theorem offerBests_lifted (os : Os) (started : os.Started) (H : Type) (enc : TypeId × Value → H) :
    ReturnsInHanded {} Try.checked os 4 .any (Rows.offerBestsSpec.pre6 enc Try.prog Try.f4 Rows.offerBestsRow.domain false) (Rows.offerBestsSpec.post enc Try.prog Try.f4 false true false false) := by
  refine returnsInHanded_of_change (C := Try.checked) seatOwn started (by kernel_rfl) Try.func4
    (ChangeSpec.witness6 (enc := enc) (C := Try.checked) false ⟨#[], #[.slice none 0 0], []⟩ 8 (by kernel_rfl) (by kernel_rfl) (by kernel_rfl) (by kernel_rfl)) ?_
  intro W base args ds gs before hval0 hW _ _
  have hval : ∀ (j : Nat) t v, Try.f4.params[j]? = some t → args[j]? = some v → Value.okWide Try.prog W .any base t v := hval0
  have hW' := hW
  obtain ⟨p, q, hA0, hV, rfl, _, _⟩ := hW
  have hA : DataW.TrodAll enc Try.prog W 0 (fun _ => true) true Try.f4.params.toList args.toList ds p := hA0
  rw [Try.params4] at hA hval
  obtain ⟨v0, d0, rfl, rfl, h0⟩ := trodAll_one hA
  obtain ⟨rfl, rfl⟩ := trodVars_none hV
  obtain ⟨a0, len, cap, rfl⟩ := okWide_slice Try.underlying24 (hval 0 24 v0 rfl rfl)
  have h0k := h0
  obtain ⟨fuel, hf⟩ := h0
  clear hA0 hval0
  simp only [List.append_nil] at hW'
  have hlt : ∀ x ∈ p, x.block < W.heap.size := fun x hx => by simpa using hW'.lt x hx
  obtain ⟨A, n, c, l, hcs, hrd, hnc, hc, hok⟩ := open_rd Try.underlying24 (size := 8) (by kernel_rfl) (by decide) open_ofr hf
  simp [Value.cells] at hcs
  obtain ⟨rfl, rfl, rfl⟩ := hcs
  refine (offerBests_any _ _ _ l W hrd hok hnc hc).mono ?_
  rintro e w' ⟨rfl, g, rfl⟩
  exact ⟨_, rfl, law_post hW' (by kernel_rfl) Try.underlying4 rfl ⟨rfl, rfl, rfl⟩ (trodAll_mk1 (Below.trod seatLaid (by kernel_rfl) (of_decide_eq_true (by kernel_rfl)) h0k (grow_below _ _) hlt)) (grow_below _ _)⟩
theorem offerBests_holds : Rows.OfferBestsSaid :=
  OpenClaim.holds_of_wide 4 Try.f4 rfl rfl rfl rfl rfl rfl rfl ⟨rfl, rfl, rfl, rfl, rfl⟩ rfl rfl rfl rfl rfl (by kernel_rfl) Try.func4 offerBests_facts
    (of_decide_eq_true (by kernel_rfl)) (by unfold Func.isWrapper; first | (rw [if_pos (by decide +kernel)]; kernel_rfl) | (rw [if_neg (by decide +kernel)]; exact ⟨rfl, rfl⟩))
    (fun os started H enc _ => offerBests_lifted os started H enc)
#print axioms offerBests_holds
end Go.Proofs.Ytpgjbiapghembaa
