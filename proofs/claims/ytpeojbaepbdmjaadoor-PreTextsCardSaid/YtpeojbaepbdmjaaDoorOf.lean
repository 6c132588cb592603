/-
  Walk of addr.Of. Conditions: the words of an address are 64-bit numbers; the tables of the library hold what their text says.
-/
import Derived.Test.YtpeojbaepbdmjaaDoorRun
namespace Go.Proofs.YtpeojbaepbdmjaaDoor
open Go.RowKit Go.Lib
set_option maxHeartbeats 1600000
set_option maxRecDepth 100000

def quad (lo i : Nat) : Nat := lo / 2 ^ (24 - 8 * i) % 256
def quadL (lo : Nat) : List Nat := (List.range 4).map (quad lo)
def dotT (lo : Nat) : List UInt8 := Lib.join ((quadL lo).map Lib.decDigits) [46]
theorem mask8 (n : Nat) (hn : n < 18446744073709551616) : bits .and .u64 (n : Int) 255 = ((n % 256 : Nat) : Int) := by
  rw [show n % 256 = n &&& 255 from (Nat.and_two_pow_sub_one_eq_mod n 8).symm]
  exact u64_and_nat n 255 hn (by decide)
theorem quad_v (lo : Nat) (h : lo < 18446744073709551616) : bits .and .u64 ((lo : Int) / 16777216) 255 = (quad lo 0 : Nat) ∧ bits .and .u64 ((lo : Int) / 65536) 255 = (quad lo 1 : Nat) ∧ bits .and .u64 ((lo : Int) / 256) 255 = (quad lo 2 : Nat) ∧ bits .and .u64 (lo : Int) 255 = (quad lo 3 : Nat) := by
  rw [show (lo : Int) / 16777216 = ((lo / 16777216 : Nat) : Int) by omega, show (lo : Int) / 65536 = ((lo / 65536 : Nat) : Int) by omega, show (lo : Int) / 256 = ((lo / 256 : Nat) : Int) by omega, mask8 _ (by omega), mask8 _ (by omega), mask8 _ (by omega), mask8 _ h]
  refine ⟨rfl, rfl, rfl, ?_⟩
  simp [quad]
theorem decDigits_len (u : Nat) (h : u < 1000) : (Lib.decDigits u).length ≤ 3 := by
  rw [Lib.decDigits_length]
  unfold Lib.nDigits
  split
  · omega
  · unfold Lib.nDigits
    split
    · omega
    · unfold Lib.nDigits
      rw [dif_pos (by omega)]
      omega
theorem dotT_len (lo : Nat) : (dotT lo).length ≤ 1000 := by
  have := join_len [46] ((quadL lo).map Lib.decDigits) 3 (fun x hx => by
    obtain ⟨u, hu, rfl⟩ := List.mem_map.1 hx
    obtain ⟨i, _, rfl⟩ := List.mem_map.1 hu
    exact decDigits_len _ (by unfold quad; omega))
  have h4 : ((quadL lo).map Lib.decDigits).length = 4 := by simp [quadL]
  rw [h4] at this
  unfold dotT
  simp only [List.length_cons, List.length_nil] at this
  omega
/-- What the tables of the library hold, in each world that grows from this one. -/
def Tabs (w : World) : Prop :=
  3 < w.heap.size ∧ ∀ w', Below w.heap.size w w' → w'.cell? ⟨3, 15, none⟩ = some (.int .u8 4) ∧ Lib.TabIs Tryd.prog w' "internal/strconv.uint64pow10" .u64 Lib.pow10Tab
theorem Tabs.on {w w' : World} (h : Tabs w) (hB : Below w.heap.size w w') : Tabs w' := ⟨Nat.lt_of_lt_of_le h.1 hB.size, fun w'' hB' => h.2 w'' (hB.trans (hB'.mono hB.size))⟩
theorem of_four (hi lo : Nat) (w : World) (h2 : lo < 18446744073709551616) (hT : Tabs w) :
    Calls Tryd.prog 10 #[.agg #[.bool false, .int .u64 hi, .int .u64 lo]] w (Ret (strV (dotT lo)) w) := by
  have HT := hide hT
  clear hT
  go_enter Tryd.func10, Tryd.ntmps10
  go_wp2_with fail
  go_loopw [3, 11] (fun v i wr => ∃ k : Nat, k ≤ 4 ∧ i = .int .i64 k ∧ ∃ g : Gr (w.alloc (.cells #[.bool false, .int .u64 hi, .int .u64 lo] 24)), wr = grow (w.alloc (.cells #[.bool false, .int .u64 hi, .int .u64 lo] 24)) g ∧ (grow (w.alloc (.cells #[.bool false, .int .u64 hi, .int .u64 lo] 24)) g).ownsRow (w.alloc (.cells #[.bool false, .int .u64 hi, .int .u64 lo] 24)).heap.size 9 1 v k ((((quadL lo).map Lib.decDigits).take k).map strV)) (fun _ i _ => 4 - (RowKit.intOf i).toNat)
  case atStart => exact ⟨0, by omega, rfl, ⟨_, Below.refl _ _⟩, rfl, World.ownsRow_nil _ _ _ _⟩
  case round =>
    obtain ⟨k, hk, rfl, g, rfl, hown⟩ := hrel
    have w0 : IntKind.i64.wrap 0 = 0 := by decide
    have w8 : IntKind.i64.wrap 8 = 8 := by decide
    have w16 : IntKind.i64.wrap 16 = 16 := by decide
    have w24 : IntKind.i64.wrap 24 = 24 := by decide
    obtain ⟨q0, q1, q2, q3⟩ := quad_v lo h2
    rcases (show k = 4 ∨ k = 0 ∨ k = 1 ∨ k = 2 ∨ k = 3 by omega) with rfl | rfl | rfl | rfl | rfl
    · have hJ := join_own (sep := [46]) hown (by simp [quadL]) (by
        rw [List.take_of_length_le (by simp [quadL])]
        have := dotT_len lo
        unfold dotT at this
        omega)
      rw [List.take_of_length_le (by simp [quadL])] at hJ
      clear hown
      go_wp2_with (go_at_call 18; refine (hJ).mono ?_; rintro e w' ⟨rfl, g2, rfl⟩)
      go_ret
      exact ret_eq rfl (by (repeat (first | exact Below.refl _ _ | assumption | apply below_alloc | apply below_grow | apply below_setCell | apply below_drew)); all_goals first | omega | (simp [go_sem]; done) | (simp [go_sem]; omega))
    · have HS := hide (p := (((quadL lo).map Lib.decDigits).take (0 + 1)).map strV = (((quadL lo).map Lib.decDigits).take 0).map strV ++ [strV (Lib.decDigits (quad lo 0))]) rfl
      have hq : quad lo 0 < 18446744073709551616 := by unfold quad; omega
      generalize quad lo 0 = q at *
      go_wp2_with (first | (go_at_call 17; refine (fmt10_any q hq _ (HT.out.2 _ (by (repeat (first | exact Below.refl _ _ | assumption | apply below_alloc | apply below_grow | apply below_setCell | apply below_drew)); all_goals first | omega | (simp [go_sem]; done) | (simp [go_sem]; omega))).2).mono ?_; rintro e w' ⟨rfl, g2, rfl⟩) | (at_builtin; refine app_str (w.alloc (.cells #[.bool false, .int .u64 hi, .int .u64 lo] 24)) _ (by (repeat (first | exact Below.refl _ _ | assumption | apply below_alloc | apply below_grow | apply below_setCell | apply below_drew)); all_goals first | omega | (simp [go_sem]; done) | (simp [go_sem]; omega)) (by rfl) _ _ (by rfl) _ _ _ (by rfl) (own_grow hown _) _ _ _ _ (by rfl) (by simp [go_sem]) (by rfl) (by omega) ?_; intro g' blk cap hle hown'))
      go_roundw
      case rel => exact ⟨1, by omega, by go_num, g', rfl, by rw [HS.out]; exact hown'⟩
      case measure => simp [RowKit.intOf]
    · have HS := hide (p := (((quadL lo).map Lib.decDigits).take (1 + 1)).map strV = (((quadL lo).map Lib.decDigits).take 1).map strV ++ [strV (Lib.decDigits (quad lo 1))]) rfl
      have hq : quad lo 1 < 18446744073709551616 := by unfold quad; omega
      generalize quad lo 1 = q at *
      go_wp2_with (first | (go_at_call 17; refine (fmt10_any q hq _ (HT.out.2 _ (by (repeat (first | exact Below.refl _ _ | assumption | apply below_alloc | apply below_grow | apply below_setCell | apply below_drew)); all_goals first | omega | (simp [go_sem]; done) | (simp [go_sem]; omega))).2).mono ?_; rintro e w' ⟨rfl, g2, rfl⟩) | (at_builtin; refine app_str (w.alloc (.cells #[.bool false, .int .u64 hi, .int .u64 lo] 24)) _ (by (repeat (first | exact Below.refl _ _ | assumption | apply below_alloc | apply below_grow | apply below_setCell | apply below_drew)); all_goals first | omega | (simp [go_sem]; done) | (simp [go_sem]; omega)) (by rfl) _ _ (by rfl) _ _ _ (by rfl) (own_grow hown _) _ _ _ _ (by rfl) (by simp [go_sem]) (by rfl) (by omega) ?_; intro g' blk cap hle hown'))
      go_roundw
      case rel => exact ⟨2, by omega, by go_num, g', rfl, by rw [HS.out]; exact hown'⟩
      case measure => simp [RowKit.intOf]
    · have HS := hide (p := (((quadL lo).map Lib.decDigits).take (2 + 1)).map strV = (((quadL lo).map Lib.decDigits).take 2).map strV ++ [strV (Lib.decDigits (quad lo 2))]) rfl
      have hq : quad lo 2 < 18446744073709551616 := by unfold quad; omega
      generalize quad lo 2 = q at *
      go_wp2_with (first | (go_at_call 17; refine (fmt10_any q hq _ (HT.out.2 _ (by (repeat (first | exact Below.refl _ _ | assumption | apply below_alloc | apply below_grow | apply below_setCell | apply below_drew)); all_goals first | omega | (simp [go_sem]; done) | (simp [go_sem]; omega))).2).mono ?_; rintro e w' ⟨rfl, g2, rfl⟩) | (at_builtin; refine app_str (w.alloc (.cells #[.bool false, .int .u64 hi, .int .u64 lo] 24)) _ (by (repeat (first | exact Below.refl _ _ | assumption | apply below_alloc | apply below_grow | apply below_setCell | apply below_drew)); all_goals first | omega | (simp [go_sem]; done) | (simp [go_sem]; omega)) (by rfl) _ _ (by rfl) _ _ _ (by rfl) (own_grow hown _) _ _ _ _ (by rfl) (by simp [go_sem]) (by rfl) (by omega) ?_; intro g' blk cap hle hown'))
      go_roundw
      case rel => exact ⟨3, by omega, by go_num, g', rfl, by rw [HS.out]; exact hown'⟩
      case measure => simp [RowKit.intOf]
    · have HS := hide (p := (((quadL lo).map Lib.decDigits).take (3 + 1)).map strV = (((quadL lo).map Lib.decDigits).take 3).map strV ++ [strV (Lib.decDigits (quad lo 3))]) rfl
      have hq : quad lo 3 < 18446744073709551616 := by unfold quad; omega
      generalize quad lo 3 = q at *
      go_wp2_with (first | (go_at_call 17; refine (fmt10_any q hq _ (HT.out.2 _ (by (repeat (first | exact Below.refl _ _ | assumption | apply below_alloc | apply below_grow | apply below_setCell | apply below_drew)); all_goals first | omega | (simp [go_sem]; done) | (simp [go_sem]; omega))).2).mono ?_; rintro e w' ⟨rfl, g2, rfl⟩) | (at_builtin; refine app_str (w.alloc (.cells #[.bool false, .int .u64 hi, .int .u64 lo] 24)) _ (by (repeat (first | exact Below.refl _ _ | assumption | apply below_alloc | apply below_grow | apply below_setCell | apply below_drew)); all_goals first | omega | (simp [go_sem]; done) | (simp [go_sem]; omega)) (by rfl) _ _ (by rfl) _ _ _ (by rfl) (own_grow hown _) _ _ _ _ (by rfl) (by simp [go_sem]) (by rfl) (by omega) ?_; intro g' blk cap hle hown'))
      go_roundw
      case rel => exact ⟨4, by omega, by go_num, g', rfl, by rw [HS.out]; exact hown'⟩
      case measure => simp [RowKit.intOf]
end Go.Proofs.YtpeojbaepbdmjaaDoor
