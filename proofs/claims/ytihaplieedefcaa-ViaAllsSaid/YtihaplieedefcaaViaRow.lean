/-
  ViaAlls holds: via.All answers as the document says, for every argument. Conditions: none.
-/
import Derived.Test.YtihaplieedefcaaChecked
import Derived.Test.YtihaplieedefcaaOpen
import Derived.Test.YtihaplieedefcaaViaLaw
import Derived.Test.YtihaplieedefcaaViaFact
namespace Go.Proofs.Ytihaplieedefcaa
open Go.RowKit Go.WideShapes Go.ChangeShapes Go.Deep

theorem list3 {α : Type} {l : List α} (h : l.length = 3) : ∃ a b c, l = [a, b, c] := by
  cases l with
  | nil => simp at h
  | cons a l => cases l with
    | nil => simp at h
    | cons b l => cases l with
      | nil => simp at h
      | cons c l => cases l with
        | nil => exact ⟨a, b, c, rfl⟩
        | cons d l => simp at h
theorem open_via {H : Type} {enc : TypeId × Value → H} {w : World} {base : Nat} {spare : Nat → Bool} {held : Bool} (n : Nat) (cs : List Value) (x : DataW H × List MemPlace) (h : DataW.trod enc Try.prog w base spare held n 78 cs = some x) : ∃ y : Vi, True ∧ cs = encV y := by
  obtain ⟨xs, m, rfl, rfl, hlen, hxs, hf⟩ := DataW.trod_struct Try.underlying78 h
  have h3 : Try.prog.cellsOf 78 = 3 := by kernel_rfl
  have hi : Try.prog.cellsOf 3 = 1 := by kernel_rfl
  rw [h3] at hlen
  obtain ⟨a, b, c, rfl⟩ := list3 hlen
  have f0 := hf 0 _ rfl
  have f1 := hf 1 _ rfl
  have f2 := hf 2 _ rfl
  simp [hi] at f0 f1 f2
  rw [List.getElem?_eq_getElem (by rw [hxs]; decide)] at f0 f1 f2
  obtain ⟨x0, e0, _⟩ := DataW.trod_int Try.underlying3 f0
  obtain ⟨x1, e1, _⟩ := DataW.trod_int Try.underlying3 f1
  obtain ⟨x2, e2, _⟩ := DataW.trod_int Try.underlying3 f2
  simp only [List.cons.injEq, and_true] at e0 e1 e2
  subst e0; subst e1; subst e2
  exact ⟨⟨x0, x1, x2⟩, trivial, rfl⟩
set_option maxRecDepth 100000 in
theorem viaAlls_lifted (os : Os) (started : os.Started) (H : Type) (enc : TypeId × Value → H) :
    ReturnsInHanded {} Try.checked os 8 .any (Rows.viaAllsSpec.pre6 enc Try.prog Try.f8 Rows.viaAllsRow.domain false) (Rows.viaAllsSpec.post enc Try.prog Try.f8 false true false false) := by
  refine returnsInHanded_of_change (C := Try.checked) seatOwn started (by kernel_rfl) Try.func8
    (ChangeSpec.witness6 (enc := enc) (C := Try.checked) false ⟨#[], #[.slice none 0 0], []⟩ 8 (by kernel_rfl) (by kernel_rfl) (by kernel_rfl) (by kernel_rfl)) ?_
  intro W base args ds gs before hval0 hW _ _
  have hval : ∀ (j : Nat) t v, Try.f8.params[j]? = some t → args[j]? = some v → Value.okWide Try.prog W .any base t v := hval0
  have hW' := hW
  obtain ⟨p, q, hA0, hV, rfl, _, _⟩ := hW
  have hA : DataW.TrodAll enc Try.prog W 0 (fun _ => true) true Try.f8.params.toList args.toList ds p := hA0
  rw [Try.params8] at hA hval
  obtain ⟨v0, d0, rfl, rfl, h0⟩ := trodAll_one hA
  obtain ⟨rfl, rfl⟩ := trodVars_none hV
  obtain ⟨a0, len, cap, rfl⟩ := okWide_slice Try.underlying74 (hval 0 74 v0 rfl rfl)
  have h0k := h0
  obtain ⟨fuel, hf⟩ := h0
  clear hA0 hval0
  simp only [List.append_nil] at hW'
  have hlt : ∀ x ∈ p, x.block < W.heap.size := fun x hx => by simpa using hW'.lt x hx
  obtain ⟨A, n, c, l, hcs, hrd, hnc, hc, _⟩ := open_rd Try.underlying74 (size := 3) (by kernel_rfl) (by decide) open_via hf
  simp [Value.cells] at hcs
  obtain ⟨rfl, rfl, rfl⟩ := hcs
  refine (viaAlls_any _ _ _ l W hrd hnc hc).mono ?_
  rintro e w' ⟨rfl, g, rfl⟩
  exact ⟨_, rfl, law_post hW' (by kernel_rfl) Try.underlying4 rfl ⟨rfl, rfl, rfl⟩ (trodAll_mk1 (Below.trod seatLaid (by kernel_rfl) (of_decide_eq_true (by kernel_rfl)) h0k (grow_below _ _) hlt)) (grow_below _ _)⟩
theorem viaAlls_pre {H : Type} (enc : TypeId × Value → H) (P : Program) (fn : Func) : Rows.viaAllsRow.pre enc P fn (OpenSpec.ofChange Rows.viaAllsSpec) = Rows.viaAllsSpec.pre6 enc P fn [] false := rfl
theorem viaAlls_form (C : Checked) (fn : Func) (f : FuncId) (os : Os) (H : Type) (enc : TypeId × Value → H) (h : ReturnsInHanded {} C os f .any (Rows.viaAllsSpec.pre6 enc C.prog fn [] false) (Rows.viaAllsSpec.post enc C.prog fn false true false false)) :
    ReturnsInLeavingWide Rows.viaAllsRow.assume C os f .any (Rows.viaAllsRow.pre enc C.prog fn (OpenSpec.ofChange Rows.viaAllsSpec)) (Rows.viaAllsSpec.post enc C.prog fn Rows.viaAllsRow.apart Rows.viaAllsRow.fresh Rows.viaAllsRow.handsOn Rows.viaAllsRow.again) :=
  leaving_of_handed h
theorem viaAlls_holds : Rows.ViaAllsSaid :=
  OpenClaim.holds_of_wide_leaving 8 Try.f8 rfl rfl rfl rfl rfl rfl rfl ⟨rfl, rfl, rfl, rfl, rfl⟩ rfl rfl rfl rfl rfl (by kernel_rfl) Try.func8 viaAlls_facts
    (of_decide_eq_true (by kernel_rfl)) (by unfold Func.isWrapper; first | (rw [if_pos (by decide +kernel)]; kernel_rfl) | (rw [if_neg (by decide +kernel)]; exact ⟨rfl, rfl⟩))
    (fun os started H enc _ => viaAlls_form Try.checked Try.f8 8 os H enc (viaAlls_lifted os started H enc))
#print axioms viaAlls_holds
end Go.Proofs.Ytihaplieedefcaa
