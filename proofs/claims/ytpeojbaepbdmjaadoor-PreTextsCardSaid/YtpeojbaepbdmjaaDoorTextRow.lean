/-
  AddrTexts: the row and the card. Conditions: none beyond the card's.
-/
import Derived.Test.YtpeojbaepbdmjaaDoorCards
import Derived.Test.YtpeojbaepbdmjaaDoorTie
import Derived.Test.YtpeojbaepbdmjaaDoorChecked
import Derived.Test.YtpeojbaepbdmjaaDoorTextLaw
import Derived.ProofKit
import Derived.OpenShut
import Derived.ChangeSame
import Derived.ChangeArms
import Derived.Deep.Slices
import Derived.Deep.DeepHandedRow
import Derived.Lib.LaidTab
import Derived.Stop.LaidErr
namespace Go.Proofs.YtpeojbaepbdmjaaDoor
open Go.RowKit Go.WideShapes Go.ChangeShapes Go.ChangeAt Go.Deep
set_option maxRecDepth 100000

theorem seatOwnT : ownKnob Tryd.prog.godebug = none := by kernel_rfl
theorem seatLaidT : laidOutB Tryd.prog = true := by kernel_rfl
theorem gPow : Tryd.prog.globalNamed "internal/strconv.uint64pow10" = some 0 := by kernel_rfl
theorem gTz : Tryd.prog.globalNamed "math/bits.deBruijn64tab" = some 3 := by kernel_rfl
theorem tabIs_on {P : Program} {w w' : World} {name : String} {k : IntKind} {zs : List Int} (h : Lib.TabIs P w name k zs) (hB : Below w.heap.size w w') : Lib.TabIs P w' name k zs := by
  unfold Lib.TabIs World.var? at *
  cases hg : P.globalNamed name with
  | none => simp [hg] at h
  | some g =>
    simp only [hg, Option.bind_some] at h ⊢
    have hlt : g < w.heap.size := by
      rcases Nat.lt_or_ge g w.heap.size with h' | h'
      · exact h'
      · rw [Array.getElem?_eq_none h'] at h; simp at h
    rw [hB.block g hlt]
    exact h
def tzTab : List Int := [0, 1, 56, 2, 57, 49, 28, 3, 61, 58, 42, 50, 38, 29, 17, 4, 62, 47, 59, 36, 45, 43, 51, 22, 53, 39, 33, 30, 24, 18, 12, 5, 63, 55, 48, 27, 60, 41, 37, 16, 46, 35, 44, 21, 52, 32, 23, 11, 54, 26, 40, 15, 34, 20, 31, 10, 25, 14, 19, 9, 13, 8, 7, 6]
theorem tabs_of {W : World} (h : laidMetH Tryd.prog Rows.addrTextsRow.laid W) : Tabs W := by
  have h2 : Lib.TabIs Tryd.prog W "math/bits.deBruijn64tab" .u8 tzTab := Lib.tabIs_of_head (rest := [("internal/strconv.uint64pow10", Rows.laid_internal_strconv_uint64pow10)]) gTz (t := 84) (by kernel_rfl) Tryd.underlying84 Tryd.underlying5 (by kernel_rfl) (by kernel_rfl) (laidMet.tail h)
  have h3 : Lib.TabIs Tryd.prog W "internal/strconv.uint64pow10" .u64 Lib.pow10Tab := Lib.tabIs_of_head (rest := []) gPow (t := 74) (by kernel_rfl) Tryd.underlying74 Tryd.underlying22 (by kernel_rfl) (by kernel_rfl) (laidMet.tail (laidMet.tail h))
  have c : ∀ W', Below W.heap.size W W' → W'.cell? ⟨3, 15, none⟩ = some (.int .u8 4) := fun W' hB => (tabIs_on h2 hB).cell gTz 15 (by decide)
  exact ⟨World.block_lt_of_cell? W _ (c W (Below.refl _ _)), fun w' hB => ⟨c w' hB, tabIs_on h3 hB⟩⟩
theorem three' (l : List Value) (h : l.length = 3) : ∃ a b c, l = [a, b, c] := by
  match l, h with
  | [a, b, c], _ => exact ⟨a, b, c, rfl⟩
section
variable {H : Type} {enc : TypeId × Value → H} {w : World} {base : Nat} {spare : Nat → Bool} {held : Bool}
theorem open_addrT (n : Nat) (cs : List Value) (x : DataW H × List MemPlace) (h : DataW.trod enc Tryd.prog w base spare held n 24 cs = some x) : ∃ a : Ad, a.wf ∧ cs = [.bool a.six, .int .u64 (a.hi : Nat), .int .u64 (a.lo : Nat)] := by
  obtain ⟨xs, m, rfl, rfl, hlen, hxs, hf⟩ := DataW.trod_struct Tryd.underlying24 h
  rw [show Tryd.prog.cellsOf 24 = 3 by kernel_rfl] at hlen
  obtain ⟨x, y, z, rfl⟩ := three' cs hlen
  have f0 := hf 0 _ rfl
  have f1 := hf 1 _ rfl
  have f2 := hf 2 _ rfl
  simp [show Tryd.prog.cellsOf 4 = 1 by kernel_rfl, show Tryd.prog.cellsOf 22 = 1 by kernel_rfl] at f0 f1 f2
  rw [List.getElem?_eq_getElem (by rw [hxs]; decide)] at f0 f1 f2
  obtain ⟨b, e0, _⟩ := DataW.trod_bool Tryd.underlying4 f0
  obtain ⟨m, e1, _, w1⟩ := DataW.trod_int Tryd.underlying22 f1
  obtain ⟨n, e2, _, w2⟩ := DataW.trod_int Tryd.underlying22 f2
  simp only [List.cons.injEq, and_true] at e0 e1 e2
  subst e0; subst e1; subst e2
  simp [Lit.wf, IntKind.min, IntKind.max, IntKind.signed, IntKind.bits] at w1 w2
  refine ⟨⟨b, m.toNat, n.toNat⟩, ⟨by simp only; omega, by simp only; omega⟩, ?_⟩
  simp only [List.cons.injEq, Value.int.injEq, true_and, and_true]
  omega
theorem law_postT {P : Program} {f : Func} {s : ChangeSpec} {apart : Bool} {W W' : World} {args : Array Value} {ds : List (DataW H)} {before : List MemPlace} {tb : TypeId}
    (hW : DataW.Whole enc P f.params.toList s.vars apart W args.toList ds [] before) (hr : f.resultTypes = #[tb]) (hbool : P.underlying tb = some .bool) (hv : s.vars = [])
    (hs : (s.fn H (ds ++ [])).results = [.lit (.bool true)] ∧ (s.fn H (ds ++ [])).args = ds ∧ (s.fn H (ds ++ [])).vars = [])
    (hargs : DataW.TrodAll enc P W' 0 (fun b => decide (b < W.heap.size)) true f.params.toList args.toList ds before) (hb : Below W.heap.size W W') :
    s.post enc P f apart true false false W args (.bool true) W' := by
  refine ⟨ds, [], before, [], before, [], hW, ?_, ?_, ?_, hb.frame _, fun h => by cases h⟩
  · rw [hs.1, hr]
    exact trodAll_mk1 (shut_bool hbool true)
  · rw [hs.2.1]; exact hargs
  · rw [hs.2.2, hv]; rfl
end
theorem addrTexts_contract (H : Type) (enc : TypeId × Value → H) (W : World) (base : Nat) (args : Array Value) (ds gs : List (DataW H)) (before : List MemPlace)
    (hW : DataW.Whole enc Tryd.prog Tryd.f3.params.toList Rows.addrTextsSpec.vars false W args.toList ds gs before) (hL : laidMetH Tryd.prog Rows.addrTextsRow.laid W) :
    Calls Tryd.prog 3 args W fun e W' => ∃ v, e = .returned v ∧ Rows.addrTextsSpec.post enc Tryd.prog Tryd.f3 false true false false W args v W' := by
  have hW' := hW
  obtain ⟨p, q, hA0, hV, rfl, _, _⟩ := hW
  have hA : DataW.TrodAll enc Tryd.prog W 0 (fun _ => true) true Tryd.f3.params.toList args.toList ds p := hA0
  rw [Tryd.params3] at hA
  obtain ⟨v0, d0, hargs, rfl, h0⟩ := trodAll_one hA
  obtain rfl : args = #[v0] := by first | exact hargs | (cases args; simp_all)
  obtain ⟨rfl, rfl⟩ := trodVars_none hV
  have h0k := h0
  obtain ⟨fuel, hf⟩ := h0
  clear hA0
  simp only [List.append_nil] at hW'
  have hlt : ∀ x ∈ p, x.block < W.heap.size := fun x hx => by simpa using hW'.lt x hx
  obtain ⟨a, ⟨ha1, ha2⟩, hcs⟩ := open_addrT _ _ _ hf
  obtain rfl : v0 = .agg #[.bool a.six, .int .u64 (a.hi : Nat), .int .u64 (a.lo : Nat)] := by
    cases v0 <;> simp [Value.cells] at hcs
    rename_i cs
    cases cs; simp at hcs; rw [hcs]
  refine (addrTexts_any a.six a.hi a.lo W ha1 ha2 (tabs_of hL)).mono ?_
  rintro e w' ⟨rfl, g, rfl⟩
  exact ⟨_, rfl, law_postT hW' (by kernel_rfl) Tryd.underlying4 rfl ⟨rfl, rfl, rfl⟩ (trodAll_mk1 (Below.trod seatLaidT (by kernel_rfl) (of_decide_eq_true (by kernel_rfl)) h0k (grow_below _ _) hlt)) (grow_below _ _)⟩
end Go.Proofs.YtpeojbaepbdmjaaDoor
