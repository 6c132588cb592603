/-
  Walk of the references' numberText: the digits of a number, to base 10 or 16. Conditions: the number is not negative.
-/
import Derived.Test.YtpeojbaepbdmjaaDoorOf2
namespace Go.Proofs.YtpeojbaepbdmjaaDoor
open Go.RowKit Go.Lib
set_option maxHeartbeats 1600000
set_option maxRecDepth 100000

theorem ext_fin : ∀ d : Fin 16, (((⟨#[48, 49, 50, 51, 52, 53, 54, 55, 56, 57, 97, 98, 99, 100, 101, 102]⟩ : ByteArray).extract d.val 16).extract 0 1) = ⟨#[hexD d.val]⟩ := by decide
theorem ext_hex (d : Nat) (h : d < 16) : (((⟨#[48, 49, 50, 51, 52, 53, 54, 55, 56, 57, 97, 98, 99, 100, 101, 102]⟩ : ByteArray).extract d 16).extract 0 1) = ⟨#[hexD d]⟩ := ext_fin ⟨d, h⟩
theorem numText_any (b : Nat) (hb : b = 10 ∨ b = 16) (n : Nat) : n < 1000000 → ∀ w : World, Calls Tryd.prog 13 #[.int .i64 n, .int .i64 b] w (Ret (.string ⟨(digs b n).toArray⟩) w) := by
  induction n using Nat.strongRecOn with
  | _ n ih =>
    intro hn w
    by_cases hlt : n < b
    · have H := hide (digs_small hlt)
      have hr : n % b = n := Nat.mod_eq_of_lt hlt
      have hx := ext_hex n (by omega)
      clear ih
      rcases hb with rfl | rfl
      all_goals
        go_enter Tryd.func13, Tryd.ntmps13
        go_wp2_with fail
        go_ret
        exact ret_eq (by rw [H.out]; rfl) (by (repeat (first | exact Below.refl _ _ | assumption | apply below_alloc | apply below_grow | apply below_setCell | apply below_drew)); all_goals first | omega | (simp [go_sem]; done) | (simp [go_sem]; omega))
    · have H := hide (digs_big (b := b) (u := n) (by omega) (by omega))
      have hI := ih (n / b) (Nat.div_lt_self (by omega) (by omega)) (Nat.lt_of_le_of_lt (Nat.div_le_self _ _) hn)
      have hmb : n % b < b := Nat.mod_lt _ (by omega)
      have hx := ext_hex (n % b) (by omega)
      have hl : (digs b (n / b)).length ≤ 6 := digs_len b _ 6 (by omega) (Nat.lt_of_le_of_lt (Nat.div_le_self _ _) (Nat.lt_of_lt_of_le hn (Nat.pow_le_pow_left (by omega : 10 ≤ b) 6))) (by decide)
      clear ih
      have a1 : ∀ W, (Op.stringOp .add ⟨(digs b (n / b)).toArray⟩ ⟨#[hexD (n % b)]⟩).run Tryd.prog W = .ok (.string ⟨(digs b (n / b) ++ [hexD (n % b)]).toArray⟩) W := fun W => run_string_add_lists W (digs b (n / b)) [hexD (n % b)] (by omega) (by simp)
      rcases hb with rfl | rfl
      all_goals
        go_enter Tryd.func13, Tryd.ntmps13
        go_wp2_with (go_at_call 13; refine (hI _).mono ?_; rintro e w' ⟨rfl, g, rfl⟩)
        go_ret
        exact ret_eq (by rw [H.out]; rfl) (by (repeat (first | exact Below.refl _ _ | assumption | apply below_alloc | apply below_grow | apply below_setCell | apply below_drew)); all_goals first | omega | (simp [go_sem]; done) | (simp [go_sem]; omega))
end Go.Proofs.YtpeojbaepbdmjaaDoor
