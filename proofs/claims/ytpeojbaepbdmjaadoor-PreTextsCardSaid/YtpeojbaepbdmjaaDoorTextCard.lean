/-
  AddrTexts: the statement and its card. Conditions: none beyond the card's.
-/
import Derived.Test.YtpeojbaepbdmjaaDoorTextRow
namespace Go.Proofs.YtpeojbaepbdmjaaDoor
open Go.RowKit Go.WideShapes Go.ChangeShapes Go.ChangeAt Go.Deep
set_option maxRecDepth 100000

def dataCells : DataW Unit → Array Value
  | .agg parts => (parts.map fun | .lit (.int k z) => Value.int k z | _ => .int .i64 0).toArray
  | _ => #[]
def setLaid (cs : Array Value) : Obj → Obj
  | .cells _ t frozen => .cells cs t frozen
  | o => o
noncomputable def laidWorld (os : Os) : World :=
  { World.holding Tryd.prog os ⟨#[], #[], []⟩ with heap := (((World.holding Tryd.prog os ⟨#[], #[], []⟩).heap.modify 2 (setLaid (dataCells Rows.laid_math_bits_deBruijn32tab))).modify 3 (setLaid (dataCells Rows.laid_math_bits_deBruijn64tab))).modify 0 (setLaid (dataCells Rows.laid_internal_strconv_uint64pow10)) }
def argA : Value := .agg #[.bool false, .int .u64 0, .int .u64 0]
theorem laid_met (os : Os) : laidMet Tryd.prog Rows.addrTextsRow.laid ((laidWorld os).forCall (fun _ _ => 0) ⟨#[], #[argA], []⟩).memory :=
  laidMet_of_run' 8 (by kernel_rfl) (by kernel_rfl)
theorem reads (os : Os) {H : Type} (enc : TypeId × Value → H) : ∃ places, DataW.whole enc Tryd.prog ((laidWorld os).forCall (fun _ _ => 0) ⟨#[], #[argA], []⟩).memory Tryd.f3.params.toList Rows.addrTextsSpec.vars false #[argA].toList 8 = some ([.agg [.lit (.bool false), .lit (.int .u64 0), .lit (.int .u64 0)]], [], places) :=
  ⟨[], by kernel_rfl⟩
theorem addrTexts_lifted (os : Os) (started : os.Started) (H : Type) (enc : TypeId × Value → H) (F : Stop.Interp) :
    ReturnsInHanded {} Tryd.checked os 3 .any ((OpenSpec.ofChange Rows.addrTextsSpec).preRow enc Tryd.prog Tryd.f3 Rows.addrTextsRow.domain false Rows.addrTextsRow.laid) (((OpenSpec.ofChange Rows.addrTextsSpec).at F).post enc Tryd.prog Tryd.f3 false true false false) := by
  obtain ⟨places, hx⟩ := reads os enc
  refine returnsInHanded_of_row (C := Tryd.checked) (s := OpenSpec.ofChange Rows.addrTextsSpec) seatOwnT started (by kernel_rfl) Tryd.func3
    (witness_row_at (enc := enc) (C := Tryd.checked) false (laidWorld os) #[argA] rfl (by kernel_rfl) (by kernel_rfl) (by kernel_rfl)
      (OpenSpec.preRow_of_cond 8 hx (by kernel_rfl) (fun k hk => by cases hk) (by kernel_rfl) (laid_met os))) ?_
  intro W base args ds gs before hval hW _ _ _ hL _ _
  exact addrTexts_contract H enc W base args ds gs before hW hL
theorem addrTexts_said : Rows.AddrTextsSaid :=
  OpenClaim.holds_of_cond 3 Tryd.f3 rfl rfl rfl rfl rfl rfl rfl ⟨rfl, rfl, rfl, rfl, rfl⟩ rfl rfl rfl rfl rfl (by kernel_rfl) Tryd.func3 (by kernel_rfl)
    (of_decide_eq_true (by kernel_rfl)) (by unfold Func.isWrapper; first | (rw [if_pos (by decide +kernel)]; kernel_rfl) | (rw [if_neg (by decide +kernel)]; exact ⟨rfl, rfl⟩))
    (fun os started H enc _ F => by rw [OpenClaim.pre_eq_preRow]; exact addrTexts_lifted os started H enc F)
theorem addrTexts_plain (f : FuncId) (fn : Func) (hf : Tryd.pinned.checked.prog.funcNamed "whipcord/whipcordlaw.AddrTexts" = some f) (hfn : Tryd.pinned.checked.prog.funcs[f]? = some fn) :
    false = Tryd.pinned.checked.prog.looks [] ∧ ∀ (j : Nat) t, fn.params[j]? = some t → Tryd.pinned.checked.prog.wantsStandIn t = false := by
  obtain rfl : f = 3 := Option.some.inj ((show Tryd.prog.funcNamed "whipcord/whipcordlaw.AddrTexts" = some 3 by kernel_rfl).symm.trans hf) |>.symm
  obtain rfl : fn = Tryd.f3 := (Option.some.inj (Tryd.func3.symm.trans hfn)).symm
  refine ⟨by kernel_rfl, fun j t ht => ?_⟩
  rw [Tryd.params3] at ht
  obtain rfl : t = 24 := by simpa using Array.mem_of_getElem? ht
  exact (show Tryd.prog.wantsStandIn 24 = false by kernel_rfl)
theorem addrTexts_holds : Rows.AddrTextsCardSaid :=
  Claim7.holds_tied_plain_at .later [] _ _ _ _ addrTexts_said (fun _ h => by cases h) (by kernel_rfl) (fun _ h => by cases h) addrTexts_row_tie rfl ⟨rfl, rfl⟩ (by kernel_rfl) rfl addrTexts_plain (by kernel_rfl)
#print axioms addrTexts_holds
end Go.Proofs.YtpeojbaepbdmjaaDoor
