/-
  PreTexts: the law's walk, the row and the card. Conditions: none beyond the card's.
-/
import Derived.Test.YtpeojbaepbdmjaaDoorPreText
import Derived.Test.YtpeojbaepbdmjaaDoorTextCard
namespace Go.Proofs.YtpeojbaepbdmjaaDoor
open Go.RowKit Go.Lib Go.WideShapes Go.ChangeShapes Go.ChangeAt Go.Deep
set_option maxHeartbeats 1600000
set_option maxRecDepth 100000

theorem preTexts_any (six : Bool) (hi lo : Nat) (n : Int) (w : World) (h1 : hi < 18446744073709551616) (h2 : lo < 18446744073709551616) (hT : Tabs w) :
    Calls Tryd.prog 4 #[.agg #[.bool six, .int .u64 hi, .int .u64 lo, .int .i64 n]] w (Ret (.bool true) w) := by
  have HT := hide hT
  clear hT
  have H1 := fun w => preText_any six hi lo n w h1 h2
  have H2 := fun w => refPreText_any six hi lo n w h1 h2
  obtain ⟨s, z, hs⟩ : ∃ (s : List UInt8) (z : Int), (if checkZ ⟨six, hi, lo⟩ n = 0 then Value.tuple #[.string ⟨(preT six hi lo n.toNat).toArray⟩, .int .i64 0] else .tuple #[.string ⟨#[]⟩, .int .i64 (checkZ ⟨six, hi, lo⟩ n)]) = .tuple #[.string ⟨s.toArray⟩, .int .i64 z] := by
    split
    · exact ⟨_, _, rfl⟩
    · exact ⟨[], _, rfl⟩
  rw [hs] at H1 H2
  clear hs
  go_enter Tryd.func4, Tryd.ntmps4
  go_wp2_with (first | (go_at_call 7; refine (H1 _ (HT.out.on (by (repeat (first | exact Below.refl _ _ | assumption | apply below_alloc | apply below_grow | apply below_setCell | apply below_drew)); all_goals first | omega | (simp [go_sem]; done) | (simp [go_sem]; omega)))).mono ?_; rintro e w' ⟨rfl, g, rfl⟩) | (go_at_call 8; refine (H2 _).mono ?_; rintro e w' ⟨rfl, g2, rfl⟩))
  go_ret
  exact ret_of (by (repeat (first | exact Below.refl _ _ | assumption | apply below_alloc | apply below_grow | apply below_setCell | apply below_drew)); all_goals first | omega | (simp [go_sem]; done) | (simp [go_sem]; omega))
section
variable {H : Type} {enc : TypeId × Value → H} {w : World} {base : Nat} {spare : Nat → Bool} {held : Bool}
theorem open_pfxT (n : Nat) (cs : List Value) (x : DataW H × List MemPlace) (h : DataW.trod enc Tryd.prog w base spare held n 30 cs = some x) : ∃ (a : Ad) (k : Int), a.wf ∧ cs = [.bool a.six, .int .u64 (a.hi : Nat), .int .u64 (a.lo : Nat), .int .i64 k] := by
  obtain ⟨xs, m, rfl, rfl, hlen, hxs, hf⟩ := DataW.trod_struct Tryd.underlying30 h
  rw [show Tryd.prog.cellsOf 30 = 4 by kernel_rfl] at hlen
  have f0 := hf 0 _ rfl
  have f1 := hf 1 _ rfl
  simp [show Tryd.prog.cellsOf 24 = 3 by kernel_rfl, show Tryd.prog.cellsOf 3 = 1 by kernel_rfl] at f0 f1
  rw [List.getElem?_eq_getElem (by rw [hxs]; decide)] at f0 f1
  obtain ⟨a, hw, e0⟩ := open_addrT _ _ _ f0
  obtain ⟨k, e1, _, w1⟩ := DataW.trod_int Tryd.underlying3 f1
  refine ⟨a, k, hw, ?_⟩
  have h4 : cs = cs.take 3 ++ (cs.drop 3).take 1 := by
    rw [List.take_of_length_le (l := cs.drop 3) (by simp; omega), List.take_append_drop]
  rw [h4, e0, e1]
  rfl
end
theorem preTexts_contract (H : Type) (enc : TypeId × Value → H) (W : World) (base : Nat) (args : Array Value) (ds gs : List (DataW H)) (before : List MemPlace)
    (hW : DataW.Whole enc Tryd.prog Tryd.f4.params.toList Rows.preTextsSpec.vars false W args.toList ds gs before) (hL : laidMetH Tryd.prog Rows.preTextsRow.laid W) :
    Calls Tryd.prog 4 args W fun e W' => ∃ v, e = .returned v ∧ Rows.preTextsSpec.post enc Tryd.prog Tryd.f4 false true false false W args v W' := by
  have hW' := hW
  obtain ⟨p, q, hA0, hV, rfl, _, _⟩ := hW
  have hA : DataW.TrodAll enc Tryd.prog W 0 (fun _ => true) true Tryd.f4.params.toList args.toList ds p := hA0
  rw [Tryd.params4] at hA
  obtain ⟨v0, d0, hargs, rfl, h0⟩ := trodAll_one hA
  obtain rfl : args = #[v0] := by first | exact hargs | (cases args; simp_all)
  obtain ⟨rfl, rfl⟩ := trodVars_none hV
  have h0k := h0
  obtain ⟨fuel, hf⟩ := h0
  clear hA0
  simp only [List.append_nil] at hW'
  have hlt : ∀ x ∈ p, x.block < W.heap.size := fun x hx => by simpa using hW'.lt x hx
  obtain ⟨a, k, ⟨ha1, ha2⟩, hcs⟩ := open_pfxT _ _ _ hf
  obtain rfl : v0 = .agg #[.bool a.six, .int .u64 (a.hi : Nat), .int .u64 (a.lo : Nat), .int .i64 k] := by
    cases v0 <;> simp [Value.cells] at hcs
    rename_i cs
    cases cs; simp at hcs; rw [hcs]
  refine (preTexts_any a.six a.hi a.lo k W ha1 ha2 (tabs_of hL)).mono ?_
  rintro e w' ⟨rfl, g, rfl⟩
  exact ⟨_, rfl, law_postT hW' (by kernel_rfl) Tryd.underlying4 rfl ⟨rfl, rfl, rfl⟩ (trodAll_mk1 (Below.trod seatLaidT (by kernel_rfl) (of_decide_eq_true (by kernel_rfl)) h0k (grow_below _ _) hlt)) (grow_below _ _)⟩
def argP : Value := .agg #[.bool false, .int .u64 0, .int .u64 0, .int .i64 0]
theorem laid_metP (os : Os) : laidMet Tryd.prog Rows.preTextsRow.laid ((laidWorld os).forCall (fun _ _ => 0) ⟨#[], #[argP], []⟩).memory :=
  laidMet_of_run' 8 (by kernel_rfl) (by kernel_rfl)
theorem readsP (os : Os) {H : Type} (enc : TypeId × Value → H) : ∃ places, DataW.whole enc Tryd.prog ((laidWorld os).forCall (fun _ _ => 0) ⟨#[], #[argP], []⟩).memory Tryd.f4.params.toList Rows.preTextsSpec.vars false #[argP].toList 8 = some ([.agg [.agg [.lit (.bool false), .lit (.int .u64 0), .lit (.int .u64 0)], .lit (.int .i64 0)]], [], places) :=
  ⟨[], by kernel_rfl⟩
theorem preTexts_lifted (os : Os) (started : os.Started) (H : Type) (enc : TypeId × Value → H) (F : Stop.Interp) :
    ReturnsInHanded {} Tryd.checked os 4 .any ((OpenSpec.ofChange Rows.preTextsSpec).preRow enc Tryd.prog Tryd.f4 Rows.preTextsRow.domain false Rows.preTextsRow.laid) (((OpenSpec.ofChange Rows.preTextsSpec).at F).post enc Tryd.prog Tryd.f4 false true false false) := by
  obtain ⟨places, hx⟩ := readsP os enc
  refine returnsInHanded_of_row (C := Tryd.checked) (s := OpenSpec.ofChange Rows.preTextsSpec) seatOwnT started (by kernel_rfl) Tryd.func4
    (witness_row_at (enc := enc) (C := Tryd.checked) false (laidWorld os) #[argP] rfl (by kernel_rfl) (by kernel_rfl) (by kernel_rfl)
      (OpenSpec.preRow_of_cond 8 hx (by kernel_rfl) (fun k hk => by cases hk) (by kernel_rfl) (laid_metP os))) ?_
  intro W base args ds gs before hval hW _ _ _ hL _ _
  exact preTexts_contract H enc W base args ds gs before hW hL
theorem preTexts_said : Rows.PreTextsSaid :=
  OpenClaim.holds_of_cond 4 Tryd.f4 rfl rfl rfl rfl rfl rfl rfl ⟨rfl, rfl, rfl, rfl, rfl⟩ rfl rfl rfl rfl rfl (by kernel_rfl) Tryd.func4 (by kernel_rfl)
    (of_decide_eq_true (by kernel_rfl)) (by unfold Func.isWrapper; first | (rw [if_pos (by decide +kernel)]; kernel_rfl) | (rw [if_neg (by decide +kernel)]; exact ⟨rfl, rfl⟩))
    (fun os started H enc _ F => by rw [OpenClaim.pre_eq_preRow]; exact preTexts_lifted os started H enc F)
theorem preTexts_plain (f : FuncId) (fn : Func) (hf : Tryd.pinned.checked.prog.funcNamed "whipcord/whipcordlaw.PreTexts" = some f) (hfn : Tryd.pinned.checked.prog.funcs[f]? = some fn) :
    false = Tryd.pinned.checked.prog.looks [] ∧ ∀ (j : Nat) t, fn.params[j]? = some t → Tryd.pinned.checked.prog.wantsStandIn t = false := by
  obtain rfl : f = 4 := Option.some.inj ((show Tryd.prog.funcNamed "whipcord/whipcordlaw.PreTexts" = some 4 by kernel_rfl).symm.trans hf) |>.symm
  obtain rfl : fn = Tryd.f4 := (Option.some.inj (Tryd.func4.symm.trans hfn)).symm
  refine ⟨by kernel_rfl, fun j t ht => ?_⟩
  rw [Tryd.params4] at ht
  obtain rfl : t = 30 := by simpa using Array.mem_of_getElem? ht
  exact (show Tryd.prog.wantsStandIn 30 = false by kernel_rfl)
theorem preTexts_holds : Rows.PreTextsCardSaid :=
  Claim7.holds_tied_plain_at .later [] _ _ _ _ preTexts_said (fun _ h => by cases h) (by kernel_rfl) (fun _ h => by cases h) preTexts_row_tie rfl ⟨rfl, rfl⟩ (by kernel_rfl) rfl preTexts_plain (by kernel_rfl)
#print axioms preTexts_holds
end Go.Proofs.YtpeojbaepbdmjaaDoor
