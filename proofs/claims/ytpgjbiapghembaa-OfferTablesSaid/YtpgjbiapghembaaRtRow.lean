/-
  Rows of routes that the call itself makes: append, read; two routes held against each other. Conditions: none.
-/
import Derived.Test.YtpgjbiapghembaaCopy
namespace Go.Proofs.Ytpgjbiapghembaa
open Go.RowKit
set_option maxHeartbeats 400000
set_option maxRecDepth 100000

theorem encR_len (r : Rt) : (encR r).length = 5 := rfl
theorem one_encR (o : Rt) : ∀ u ∈ encR o, u.oneCell' = true := by
  intro u hu
  simp [encR] at hu
  rcases hu with rfl | rfl | rfl | rfl | rfl <;> rfl
theorem info_rt : (Try.prog.info? 48).map (fun i => (i.zero, i.size, i.bytes)) = some (some (.agg #[.bool false, .int .u64 0, .int .u64 0, .int .i64 0, .int .i64 0]), 5, 40) := by kernel_rfl
theorem app_rt {ops : Array Oper} {rest : List Oper} {o : Oper} {a : Act} {Q : Exit → Act → World → Prop} (W0 W : World) (hB : Below W0.heap.size W0 W) (hgd : o.guard = none) (s x : Operand)
    (ho : o.op = .call { callee := .builtin .append, args := #[s, x], argTypes := #[26, 26] })
    (v : Value) (L : List Rt) (hs : a.eval s = v) (hown : W.ownsRow W0.heap.size 48 5 v L.length (L.flatMap encR))
    (b c : Nat) (y : Rt) (et : TypeId) (hx : a.eval x = .slice (some ⟨b, 0, none⟩) 1 c) (hb : b = W.heap.size) (hn : L.length ≤ 1000000)
    (h : ∀ (g : Gr W0) (blk cap : Nat), (v.ownBlock = some blk ∨ W.heap.size ≤ blk) → W.grownBy (grow W0 g) v.ownBlock → (grow W0 g).ownsRow W0.heap.size 48 5 (.slice (some ⟨blk, 0, none⟩) (L.length + 1) cap) (L.length + 1) ((L ++ [y]).flatMap encR) → wpList Try.prog ops Q rest (a.put o.dst (.slice (some ⟨blk, 0, none⟩) (L.length + 1) cap)) (grow W0 g)) :
    wpList Try.prog ops Q (o :: rest) a (W.alloc (.cells #[.bool y.ad.six, .int .u64 (y.ad.hi : Nat), .int .u64 (y.ad.lo : Nat), .int .i64 y.len, .int .i64 y.hop] et)) := by
  obtain ⟨i0, hi, hz0, hz1, hz2⟩ := info_parts info_rt
  refine wpList_append_lay W0 W hB hgd s x 26 ho 48 i0 _ 5 40 Try.underlying26 hi hz0 hz1 hz2 rfl (by decide) v L.length (L.flatMap encR) hs hown b 1 c (encR y) et hx hb rfl (one_encR y) (by decide) (by simp only [maxLen]; omega) (by omega) fun g blk cap h1 h2 h3 => ?_
  refine h g blk cap h1 h2 ?_
  rw [flat_snoc]
  exact h3
def rtE (x y : Rt) : Bool := decide (x = y)
theorem rtE_self (x : Rt) : rtE x x = true := by simp [rtE]
theorem guardRt : Try.prog.eqGuardType Try.prog.depth 48 = false := by kernel_rfl
attribute [go_sem] guardRt
theorem equalIn_rt (d : Nat) (x y : Rt) (w : World) : (Op.equalIn (d + 4) 48 (.agg #[.bool x.ad.six, .int .u64 (x.ad.hi : Nat), .int .u64 (x.ad.lo : Nat), .int .i64 x.len, .int .i64 x.hop]) (.agg #[.bool y.ad.six, .int .u64 (y.ad.hi : Nat), .int .u64 (y.ad.lo : Nat), .int .i64 y.len, .int .i64 y.hop])).run Try.prog w = .ok (rtE x y) w := by
  have hS : Try.prog.underlying 48 = some (.struct (Try.prog.fieldsOf 48)) := by kernel_rfl
  have hp : Try.prog.stoodInHeld 48 = false := by kernel_rfl
  rw [run_equalIn_agg w (d + 3) 48 _ _ hS hp]
  simp only [Program.fieldsOf, Try.underlying48]
  simp [go_sem, equalIn_pfx]
  have e := pfE_rt x.ad y.ad x.len y.len
  have e2 : rtE x y = decide ((x.ad = y.ad ∧ x.len = y.len) ∧ x.hop = y.hop) := by
    unfold rtE
    rw [decide_eq_decide]
    cases x; cases y
    simp [and_assoc]
  rw [e2]
  simp only [e]
  by_cases h1 : x.ad = y.ad ∧ x.len = y.len <;> by_cases h2 : x.hop = y.hop <;> simp [h1, h2]
theorem neq_rt (x y : Rt) (w : World) : (binOp .neq 48 (.agg #[.bool x.ad.six, .int .u64 (x.ad.hi : Nat), .int .u64 (x.ad.lo : Nat), .int .i64 x.len, .int .i64 x.hop]) (.agg #[.bool y.ad.six, .int .u64 (y.ad.hi : Nat), .int .u64 (y.ad.lo : Nat), .int .i64 y.len, .int .i64 y.hop])).run Try.prog w = .ok (.bool (!(rtE x y))) w := by
  rw [run_neq_struct, show (10000 : Nat) = 9996 + 4 from rfl, equalIn_rt]
  rfl
attribute [go_sem ↓] neq_rt
end Go.Proofs.Ytpgjbiapghembaa
