/-
  '==' and '!=' at the program's structs, as the model runs them. Conditions: none.
-/
import Derived.Test.YtpeojbaepbdmjaaDoorGrow
namespace Go.Proofs.YtpeojbaepbdmjaaDoor
open Go.RowKit

def adE (s : Bool) (a b : Int) (s' : Bool) (a' b' : Int) : Bool := decide (s = s' ∧ a = a' ∧ b = b')
def pfE (s : Bool) (a b n : Int) (s' : Bool) (a' b' n' : Int) : Bool := decide (s = s' ∧ a = a' ∧ b = b' ∧ n = n')
theorem guardAddr : Tryd.prog.eqGuardType Tryd.prog.depth 24 = false := by kernel_rfl
theorem guardPfx : Tryd.prog.eqGuardType Tryd.prog.depth 30 = false := by kernel_rfl
attribute [go_sem] guardAddr guardPfx
theorem equalIn_addr (d : Nat) (s : Bool) (a b : Int) (s' : Bool) (a' b' : Int) (w : World) : (Op.equalIn (d + 2) 24 (.agg #[.bool s, .int .u64 a, .int .u64 b]) (.agg #[.bool s', .int .u64 a', .int .u64 b'])).run Tryd.prog w = .ok (adE s a b s' a' b') w := by
  have hS : Tryd.prog.underlying 24 = some (.struct (Tryd.prog.fieldsOf 24)) := by kernel_rfl
  have hp : Tryd.prog.stoodInHeld 24 = false := by kernel_rfl
  rw [run_equalIn_agg w (d + 1) 24 _ _ hS hp]
  simp only [Program.fieldsOf, Tryd.underlying24]
  go_simp
  by_cases h1 : s = s' <;> by_cases h2 : a = a' <;> by_cases h3 : b = b' <;> simp [h1, h2, h3, adE]
theorem eql_addr (s : Bool) (a b : Int) (s' : Bool) (a' b' : Int) (w : World) : (binOp .eql 24 (.agg #[.bool s, .int .u64 a, .int .u64 b]) (.agg #[.bool s', .int .u64 a', .int .u64 b'])).run Tryd.prog w = .ok (.bool (adE s a b s' a' b')) w := by
  rw [run_eql_struct, show (10000 : Nat) = 9998 + 2 from rfl, equalIn_addr]
  rfl
theorem neq_addr (s : Bool) (a b : Int) (s' : Bool) (a' b' : Int) (w : World) : (binOp .neq 24 (.agg #[.bool s, .int .u64 a, .int .u64 b]) (.agg #[.bool s', .int .u64 a', .int .u64 b'])).run Tryd.prog w = .ok (.bool (!(adE s a b s' a' b'))) w := by
  rw [run_neq_struct, show (10000 : Nat) = 9998 + 2 from rfl, equalIn_addr]
  rfl
theorem equalIn_pfx (d : Nat) (s : Bool) (a b n : Int) (s' : Bool) (a' b' n' : Int) (w : World) : (Op.equalIn (d + 3) 30 (.agg #[.bool s, .int .u64 a, .int .u64 b, .int .i64 n]) (.agg #[.bool s', .int .u64 a', .int .u64 b', .int .i64 n'])).run Tryd.prog w = .ok (pfE s a b n s' a' b' n') w := by
  have hS : Tryd.prog.underlying 30 = some (.struct (Tryd.prog.fieldsOf 30)) := by kernel_rfl
  have hp : Tryd.prog.stoodInHeld 30 = false := by kernel_rfl
  rw [run_equalIn_agg w (d + 2) 30 _ _ hS hp]
  simp only [Program.fieldsOf, Tryd.underlying30]
  simp [go_sem, equalIn_addr]
  by_cases h1 : s = s' <;> by_cases h2 : a = a' <;> by_cases h3 : b = b' <;> by_cases h4 : n = n' <;> simp [h1, h2, h3, h4, adE, pfE]
theorem eql_pfx (s : Bool) (a b n : Int) (s' : Bool) (a' b' n' : Int) (w : World) : (binOp .eql 30 (.agg #[.bool s, .int .u64 a, .int .u64 b, .int .i64 n]) (.agg #[.bool s', .int .u64 a', .int .u64 b', .int .i64 n'])).run Tryd.prog w = .ok (.bool (pfE s a b n s' a' b' n')) w := by
  rw [run_eql_struct, show (10000 : Nat) = 9997 + 3 from rfl, equalIn_pfx]
  rfl
theorem neq_pfx (s : Bool) (a b n : Int) (s' : Bool) (a' b' n' : Int) (w : World) : (binOp .neq 30 (.agg #[.bool s, .int .u64 a, .int .u64 b, .int .i64 n]) (.agg #[.bool s', .int .u64 a', .int .u64 b', .int .i64 n'])).run Tryd.prog w = .ok (.bool (!(pfE s a b n s' a' b' n'))) w := by
  rw [run_neq_struct, show (10000 : Nat) = 9997 + 3 from rfl, equalIn_pfx]
  rfl
attribute [go_sem ↓] eql_addr neq_addr eql_pfx neq_pfx
end Go.Proofs.YtpeojbaepbdmjaaDoor
