/-
  OfferTables holds: offers.Table answers as the document says, for every argument. Conditions: none.
-/
import Derived.Test.YtpgjbiapghembaaChecked
import Derived.Test.YtpgjbiapghembaaOpenOfr
import Derived.Test.YtpgjbiapghembaaTabLaw
import Derived.Test.YtpgjbiapghembaaTabFact
namespace Go.Proofs.Ytpgjbiapghembaa
open Go.RowKit Go.WideShapes Go.ChangeShapes Go.Deep

set_option maxRecDepth 100000 in
theorem offerTables_lifted (os : Os) (started : os.Started) (H : Type) (enc : TypeId × Value → H) :
    ReturnsInHanded {} Try.checked os 5 .any (Rows.offerTablesSpec.pre6 enc Try.prog Try.f5 Rows.offerTablesRow.domain false) (Rows.offerTablesSpec.post enc Try.prog Try.f5 false true false false) := by
  refine returnsInHanded_of_change (C := Try.checked) seatOwn started (by kernel_rfl) Try.func5
    (ChangeSpec.witness6 (enc := enc) (C := Try.checked) false ⟨#[], #[.slice none 0 0], []⟩ 8 (by kernel_rfl) (by kernel_rfl) (by kernel_rfl) (by kernel_rfl)) ?_
  intro W base args ds gs before hval0 hW _ _
  have hval : ∀ (j : Nat) t v, Try.f5.params[j]? = some t → args[j]? = some v → Value.okWide Try.prog W .any base t v := hval0
  have hW' := hW
  obtain ⟨p, q, hA0, hV, rfl, _, _⟩ := hW
  have hA : DataW.TrodAll enc Try.prog W 0 (fun _ => true) true Try.f5.params.toList args.toList ds p := hA0
  rw [Try.params5] at hA hval
  obtain ⟨v0, d0, rfl, rfl, h0⟩ := trodAll_one hA
  obtain ⟨rfl, rfl⟩ := trodVars_none hV
  obtain ⟨a0, len, cap, rfl⟩ := okWide_slice Try.underlying24 (hval 0 24 v0 rfl rfl)
  have h0k := h0
  obtain ⟨fuel, hf⟩ := h0
  clear hA0 hval0
  simp only [List.append_nil] at hW'
  have hlt : ∀ x ∈ p, x.block < W.heap.size := fun x hx => by simpa using hW'.lt x hx
  obtain ⟨A, n, c, l, hcs, hrd, hnc, hc, hok⟩ := open_rd Try.underlying24 (size := 8) (by kernel_rfl) (by decide) open_ofr hf
  simp [Value.cells] at hcs
  obtain ⟨rfl, rfl, rfl⟩ := hcs
  refine (offerTables_any _ _ _ l W hrd hok hnc hc).mono ?_
  rintro e w' ⟨rfl, g, rfl⟩
  exact ⟨_, rfl, law_post hW' (by kernel_rfl) Try.underlying4 rfl ⟨rfl, rfl, rfl⟩ (trodAll_mk1 (Below.trod seatLaid (by kernel_rfl) (of_decide_eq_true (by kernel_rfl)) h0k (grow_below _ _) hlt)) (grow_below _ _)⟩
theorem offerTables_holds : Rows.OfferTablesSaid :=
  OpenClaim.holds_of_wide 5 Try.f5 rfl rfl rfl rfl rfl rfl rfl ⟨rfl, rfl, rfl, rfl, rfl⟩ rfl rfl rfl rfl rfl (by kernel_rfl) Try.func5 offerTables_facts
    (of_decide_eq_true (by kernel_rfl)) (by unfold Func.isWrapper; first | (rw [if_pos (by decide +kernel)]; kernel_rfl) | (rw [if_neg (by decide +kernel)]; exact ⟨rfl, rfl⟩))
    (fun os started H enc _ => offerTables_lifted os started H enc)
#print axioms offerTables_holds
end Go.Proofs.Ytpgjbiapghembaa
