/-
  From a datum to an address, a prefix, a route, an offer. Conditions: none.
-/
import Derived.Test.YtpgjbiapghembaaOpen
import Derived.Test.YtpgjbiapghembaaKeyTy
import Derived.ProofKit
namespace Go.Proofs.Ytpgjbiapghembaa
open Go.RowKit Go.WideShapes Go.ChangeShapes Go.Deep

section
variable {H : Type} {enc : TypeId × Value → H} {w : World} {base : Nat} {spare : Nat → Bool} {held : Bool}
theorem open_addr (n : Nat) (cs : List Value) (x : DataW H × List MemPlace) (h : DataW.trod enc Try.prog w base spare held n 35 cs = some x) : ∃ a : Ad, a.wf ∧ cs = [.bool a.six, .int .u64 (a.hi : Nat), .int .u64 (a.lo : Nat)] := by
  obtain ⟨xs, m, rfl, rfl, hlen, hxs, hf⟩ := DataW.trod_struct Try.underlying35 h
  rw [cells_addr] at hlen
  obtain ⟨x, y, z, rfl⟩ := three cs hlen
  have f0 := hf 0 _ rfl
  have f1 := hf 1 _ rfl
  have f2 := hf 2 _ rfl
  simp [cells_bool, cells_u64] at f0 f1 f2
  rw [List.getElem?_eq_getElem (by rw [hxs]; decide)] at f0 f1 f2
  obtain ⟨b, e0, _⟩ := DataW.trod_bool Try.underlying4 f0
  obtain ⟨m, e1, _, w1⟩ := DataW.trod_int Try.underlying33 f1
  obtain ⟨n, e2, _, w2⟩ := DataW.trod_int Try.underlying33 f2
  simp only [List.cons.injEq, and_true] at e0 e1 e2
  subst e0; subst e1; subst e2
  simp [Lit.wf, IntKind.min, IntKind.max, IntKind.signed, IntKind.bits] at w1 w2
  refine ⟨⟨b, m.toNat, n.toNat⟩, ⟨by simp only; omega, by simp only; omega⟩, ?_⟩
  simp only [List.cons.injEq, Value.int.injEq, true_and, and_true]
  omega
theorem open_pfx (n : Nat) (cs : List Value) (x : DataW H × List MemPlace) (h : DataW.trod enc Try.prog w base spare held n 42 cs = some x) : ∃ (a : Ad) (k : Int), a.wf ∧ (Lit.int .i64 k).wf = true ∧ cs = encP a k := by
  obtain ⟨xs, m, rfl, rfl, hlen, hxs, hf⟩ := DataW.trod_struct Try.underlying42 h
  rw [cells_pfx] at hlen
  have f0 := hf 0 _ rfl
  have f1 := hf 1 _ rfl
  simp [cells_addr, cells_int] at f0 f1
  rw [List.getElem?_eq_getElem (by rw [hxs]; decide)] at f0 f1
  obtain ⟨a, hw, e0⟩ := open_addr _ _ _ f0
  obtain ⟨k, e1, _, w1⟩ := DataW.trod_int Try.underlying3 f1
  refine ⟨a, k, hw, w1, ?_⟩
  have h4 : cs = cs.take 3 ++ (cs.drop 3).take 1 := by
    rw [List.take_of_length_le (l := cs.drop 3) (by simp; omega), List.take_append_drop]
  rw [h4, e0, e1]
  rfl
end
end Go.Proofs.Ytpgjbiapghembaa
