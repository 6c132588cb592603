/-
  Walks of the references' bits of an address. Conditions: the words of an address are 64-bit numbers.
-/
import Derived.Test.YtpeojbaepbdmjaaDoorTy
import Derived.Test.YtpeojbaepbdmjaaDoorPre
namespace Go.Proofs.YtpeojbaepbdmjaaDoor
open Go.RowKit
set_option maxHeartbeats 400000
set_option maxRecDepth 100000

/-- Bit j of a word of W bits, the highest first. -/
def bitAt (W n j : Nat) : Int := ((n / 2 ^ (W - 1 - j) % 2 : Nat) : Int)
def bitsV (W n k : Nat) : List Value := (List.range k).map fun j => .int .i64 (bitAt W n j)
def bitsA (a : Ad) : List Value := if a.six then bitsV 64 a.hi 64 ++ bitsV 64 a.lo 64 else bitsV 32 a.lo 32
theorem bitAt_bits (W n j : Nat) (hn : n < 18446744073709551616) : bits .and .u64 ((n : Int) / 2 ^ (W - 1 - j)) 1 = bitAt W n j := by
  have e1 : ((n : Int) / 2 ^ (W - 1 - j)) = ((n / 2 ^ (W - 1 - j) : Nat) : Int) := by rw [Int.natCast_ediv]; simp
  rw [e1, bitAt, ← nat_mask1]
  exact u64_and_nat _ 1 (Nat.lt_of_le_of_lt (Nat.div_le_self _ _) hn) (by decide)
theorem bitAt_le (W n j : Nat) : 0 ≤ bitAt W n j ∧ bitAt W n j ≤ 1 := by unfold bitAt; omega
theorem bitsV_succ (W n k : Nat) : bitsV W n (k + 1) = bitsV W n k ++ [.int .i64 (bitAt W n k)] := by
  simp [bitsV, List.range_succ]
theorem bits_four (hi lo : Nat) (w : World) (h2 : lo < 18446744073709551616) :
    Calls Tryd.prog 22 #[.agg #[.bool false, .int .u64 hi, .int .u64 lo]] w (RetRow 3 1 32 (bitsV 32 lo 32) w) := by
  go_enter Tryd.func22, Tryd.ntmps22
  go_wp2
  go_loopw [3, 6] (fun v i wr => ∃ k : Nat, k ≤ 32 ∧ i = .int .i64 (31 - k) ∧ ∃ g : Gr (w.alloc (Obj.cells #[Value.bool false, Value.int IntKind.u64 hi, Value.int IntKind.u64 lo] 24)), wr = grow _ g ∧ (grow _ g).ownsRow (w.alloc (Obj.cells #[Value.bool false, Value.int IntKind.u64 hi, Value.int IntKind.u64 lo] 24)).heap.size 3 1 v k (bitsV 32 lo k)) (fun _ i _ => (intOf i + 1).toNat)
  case atStart => exact ⟨0, by omega, rfl, ⟨_, Below.refl _ _⟩, rfl, World.ownsRow_nil _ _ _ _⟩
  case round =>
    obtain ⟨k, hk, rfl, g, rfl, hown⟩ := hrel
    by_cases hlt : k < 32
    · have e2 := bitAt_bits 32 lo k h2
      have ⟨e3, e4⟩ := bitAt_le 32 lo k
      simp only [Nat.add_one_sub_one] at e2
      go_wp2_with (at_builtin; refine app_int (w.alloc (Obj.cells #[Value.bool false, Value.int IntKind.u64 hi, Value.int IntKind.u64 lo] 24)) _ (grow_below _ g) (by rfl) _ _ (by rfl) _ _ _ (by rfl) hown _ _ _ _ (by rfl) (by simp [go_sem]) (by rfl) (by omega) ?_; intro g' blk cap hle hown')
      have HS := hide (bitsV_succ 32 lo k)
      go_roundw
      case rel => exact ⟨k + 1, by omega, by go_num, g', rfl, by rw [HS.out]; exact hown'⟩
      case measure => simp [intOf]; omega
    · obtain rfl : k = 32 := by omega
      go_wp2_with fail
      go_ret
      exact retRow_of (by (repeat (first | exact Below.refl _ _ | assumption | apply below_alloc | apply below_grow | apply below_setCell | apply below_drew)); all_goals first | omega | (simp [go_sem]; done) | (simp [go_sem]; omega)) (by simp) hown (by omega)
theorem bits_six (hi lo : Nat) (w : World) (h1 : hi < 18446744073709551616) (h2 : lo < 18446744073709551616) :
    Calls Tryd.prog 22 #[.agg #[.bool true, .int .u64 hi, .int .u64 lo]] w (RetRow 3 1 128 (bitsV 64 hi 64 ++ bitsV 64 lo 64) w) := by
  go_enter Tryd.func22, Tryd.ntmps22
  go_wp2
  go_loopw [3, 4] (fun v i wr => ∃ k : Nat, k ≤ 64 ∧ i = .int .i64 (63 - k) ∧ ∃ g : Gr (w.alloc (Obj.cells #[Value.bool true, Value.int IntKind.u64 hi, Value.int IntKind.u64 lo] 24)), wr = grow _ g ∧ (grow _ g).ownsRow (w.alloc (Obj.cells #[Value.bool true, Value.int IntKind.u64 hi, Value.int IntKind.u64 lo] 24)).heap.size 3 1 v k (bitsV 64 hi k)) (fun _ i _ => (intOf i + 1).toNat)
  case atStart => exact ⟨0, by omega, rfl, ⟨_, Below.refl _ _⟩, rfl, World.ownsRow_nil _ _ _ _⟩
  case round =>
    obtain ⟨k, hk, rfl, g, rfl, hown⟩ := hrel
    by_cases hlt : k < 64
    · have e2 := bitAt_bits 64 hi k h1
      have ⟨e3, e4⟩ := bitAt_le 64 hi k
      simp only [Nat.add_one_sub_one] at e2
      go_wp2_with (at_builtin; refine app_int (w.alloc (Obj.cells #[Value.bool true, Value.int IntKind.u64 hi, Value.int IntKind.u64 lo] 24)) _ (grow_below _ g) (by rfl) _ _ (by rfl) _ _ _ (by rfl) hown _ _ _ _ (by rfl) (by simp [go_sem]) (by rfl) (by omega) ?_; intro g' blk cap hle hown')
      have HS := hide (bitsV_succ 64 hi k)
      go_roundw
      case rel => exact ⟨k + 1, by omega, by go_num, g', rfl, by rw [HS.out]; exact hown'⟩
      case measure => simp [intOf]; omega
    · rw [show (63 - (k : Int)) = -1 by omega]
      obtain rfl : k = 64 := by omega
      go_wp2_with fail
      go_loopw [3, 5] (fun v i wr => ∃ k : Nat, k ≤ 64 ∧ i = .int .i64 (63 - k) ∧ ∃ g : Gr (w.alloc (Obj.cells #[Value.bool true, Value.int IntKind.u64 hi, Value.int IntKind.u64 lo] 24)), wr = grow _ g ∧ (grow _ g).ownsRow (w.alloc (Obj.cells #[Value.bool true, Value.int IntKind.u64 hi, Value.int IntKind.u64 lo] 24)).heap.size 3 1 v (64 + k) (bitsV 64 hi 64 ++ bitsV 64 lo k)) (fun _ i _ => (intOf i + 1).toNat)
      case atStart => exact ⟨0, by omega, rfl, g, rfl, by simpa [bitsV] using hown⟩
      case round =>
        clear hown
        obtain ⟨k, hk, rfl, g, rfl, hown⟩ := hrel
        by_cases hlt : k < 64
        · have e2 := bitAt_bits 64 lo k h2
          have ⟨e3, e4⟩ := bitAt_le 64 lo k
          simp only [Nat.add_one_sub_one] at e2
          go_wp2_with (at_builtin; refine app_int (w.alloc (Obj.cells #[Value.bool true, Value.int IntKind.u64 hi, Value.int IntKind.u64 lo] 24)) _ (grow_below _ g) (by rfl) _ _ (by rfl) _ _ _ (by rfl) hown _ _ _ _ (by rfl) (by simp [go_sem]) (by rfl) (by omega) ?_; intro g' blk cap hle hown')
          have HS := hide (bitsV_succ 64 lo k)
          go_roundw
          case rel => exact ⟨k + 1, by omega, by go_num, g', rfl, by rw [HS.out, ← List.append_assoc]; exact hown'⟩
          case measure => simp [intOf]; omega
        · obtain rfl : k = 64 := by omega
          go_wp2_with fail
          go_ret
          exact retRow_of (by (repeat (first | exact Below.refl _ _ | assumption | apply below_alloc | apply below_grow | apply below_setCell | apply below_drew)); all_goals first | omega | (simp [go_sem]; done) | (simp [go_sem]; omega)) (by simp) hown (by omega)
theorem bits_any (six : Bool) (hi lo : Nat) (w : World) (h1 : hi < 18446744073709551616) (h2 : lo < 18446744073709551616) :
    Calls Tryd.prog 22 #[.agg #[.bool six, .int .u64 hi, .int .u64 lo]] w (RetRow 3 1 (wd six) (bitsA ⟨six, hi, lo⟩) w) := by
  cases six
  · exact bits_four hi lo w h2
  · exact bits_six hi lo w h1 h2
/-- Bit j of an address, the highest first. -/
def Ad.bit (a : Ad) (j : Nat) : Nat := a.num / 2 ^ (wd a.six - 1 - j) % 2
theorem bitsV_get (W n k j : Nat) (h : j < k) : (bitsV W n k)[j]? = some (.int .i64 (bitAt W n j)) := by
  simp [bitsV, h]
theorem bitsV_length (W n k : Nat) : (bitsV W n k).length = k := by simp [bitsV]
theorem bitsA_get (a : Ad) (hw : a.wf) (j : Nat) (h : j < wd a.six) : (bitsA a)[j]? = some (.int .i64 (a.bit j : Nat)) := by
  obtain ⟨six, hi, lo⟩ := a
  obtain ⟨_, h2⟩ := hw
  cases six
  · simp only [wd, Bool.false_eq_true, if_false] at h
    simp only [bitsA, Bool.false_eq_true, if_false, Ad.bit, Ad.num, wd]
    exact bitsV_get _ _ _ _ h
  · simp only [wd, if_true] at h
    simp only [bitsA, if_true, Ad.bit, Ad.num, wd]
    simp only at h2
    by_cases hj : j < 64
    · rw [List.getElem?_append_left (by rw [bitsV_length]; exact hj), bitsV_get _ _ _ _ hj, bitAt]
      have e : (2 : Nat) ^ (128 - 1 - j) = 18446744073709551616 * 2 ^ (64 - 1 - j) := by
        rw [show 128 - 1 - j = 64 + (64 - 1 - j) by omega, Nat.pow_add]
      have e2 : (hi * 18446744073709551616 + lo) / 18446744073709551616 = hi := by omega
      rw [e, ← Nat.div_div_eq_div_mul, e2]
    · rw [List.getElem?_append_right (by rw [bitsV_length]; omega), bitsV_length, bitsV_get _ _ _ _ (by omega), bitAt]
      rw [show 64 - 1 - (j - 64) = 128 - 1 - j by omega]
      have e : 18446744073709551616 = 2 * 2 ^ (j - 64) * 2 ^ (128 - 1 - j) := by
        rw [Nat.mul_assoc, ← Nat.pow_add, show j - 64 + (128 - 1 - j) = 63 by omega]
      have hp := Nat.two_pow_pos (128 - 1 - j)
      generalize 2 ^ (128 - 1 - j) = k at *
      generalize 2 ^ (j - 64) = m at *
      have e3 : (hi * 18446744073709551616 + lo) / k = hi * (2 * m) + lo / k := by
        rw [e, ← Nat.mul_assoc, Nat.add_comm, Nat.add_mul_div_right _ _ hp, Nat.add_comm]
      rw [e3, show hi * (2 * m) = 2 * (hi * m) by rw [Nat.mul_left_comm], Nat.mul_add_mod]
theorem refMay_any (six : Bool) (hi lo : Nat) (w : World) :
    Calls Tryd.prog 11 #[.agg #[.bool six, .int .u64 hi, .int .u64 lo]] w (Ret (.bool (Ad.may ⟨six, hi, lo⟩)) w) := by
  have e : (decide ((lo : Int) ≤ 4294967295)) = (lo / 4294967296 == 0) := by
    rw [Bool.eq_iff_iff, beq_iff_eq, decide_eq_true_eq]; omega
  cases six
  · by_cases h : hi = 0
    · subst h
      go_enter Tryd.func11, Tryd.ntmps11
      go_wp2
      go_ret
      refine ret_b ?_ (by (repeat (first | exact Below.refl _ _ | assumption | apply below_alloc | apply below_grow | apply below_setCell | apply below_drew)); all_goals first | omega | (simp [go_sem]; done) | (simp [go_sem]; omega))
      simp [Ad.may]
    · have hb : ((hi : Int) == 0) = false := by simpa using h
      go_enter Tryd.func11, Tryd.ntmps11
      go_wp2
      go_ret
      refine ret_b ?_ (by (repeat (first | exact Below.refl _ _ | assumption | apply below_alloc | apply below_grow | apply below_setCell | apply below_drew)); all_goals first | omega | (simp [go_sem]; done) | (simp [go_sem]; omega))
      simp [Ad.may, h]
  · go_enter Tryd.func11, Tryd.ntmps11
    go_wp2
    go_ret
    exact ret_b rfl (by (repeat (first | exact Below.refl _ _ | assumption | apply below_alloc | apply below_grow | apply below_setCell | apply below_drew)); all_goals first | omega | (simp [go_sem]; done) | (simp [go_sem]; omega))
end Go.Proofs.YtpeojbaepbdmjaaDoor
