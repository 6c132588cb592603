/-
  Walk of addr.run. Conditions: none.
-/
import Derived.Test.YtpeojbaepbdmjaaDoorGroups
namespace Go.Proofs.YtpeojbaepbdmjaaDoor
open Go.RowKit
set_option maxHeartbeats 800000
set_option maxRecDepth 100000

/-- How many zeros a list begins with. -/
def zc : List Nat → Nat
  | [] => 0
  | x :: r => if x = 0 then zc r + 1 else 0
theorem zc_of : ∀ (l : List Nat) (m : Nat), (∀ j, j < m → l[j]? = some 0) → l[m]? ≠ some 0 → zc l = m
  | [], m, h1, _ => by
    cases m with
    | zero => rfl
    | succ m => have := h1 0 (by omega); simp at this
  | x :: r, m, h1, h2 => by
    cases m with
    | zero =>
      unfold zc
      rw [if_neg (fun e => h2 (by simp [e]))]
    | succ m =>
      have h0 := h1 0 (by omega)
      simp at h0
      unfold zc
      rw [if_pos h0, zc_of r m (fun j hj => by have := h1 (j + 1) (by omega); simpa using this) (by simpa using h2)]
/-- The longest run of zeros, the first of them: from where, how many; of those that begin ahead of k. -/
def runS (l : List Nat) : Nat → Nat × Nat
  | 0 => (0, 0)
  | k + 1 => if (runS l k).2 < zc (l.drop k) then (k, zc (l.drop k)) else runS l k
def runR (l : List Nat) : Nat × Nat := if (runS l 8).2 < 2 then (0, 0) else runS l 8
theorem runS_hi {l : List Nat} {k n a b : Nat} (hn : n = zc (l.drop k)) (e : runS l k = (a, b)) (h : b < n) : runS l (k + 1) = (k, n) := by
  subst hn
  unfold runS
  rw [e, if_pos h]
theorem runS_lo {l : List Nat} {k n a b : Nat} (hn : n = zc (l.drop k)) (e : runS l k = (a, b)) (h : ¬ b < n) : runS l (k + 1) = (a, b) := by
  subst hn
  unfold runS
  rw [e, if_neg h]
theorem run_any (l : List Nat) (w : World) (hl : l.length = 8) :
    Calls Tryd.prog 20 #[.agg (l.map u64v).toArray] w (Ret (.tuple #[.int .i64 (runR l).1, .int .i64 (runR l).2]) w) := by
  go_enter Tryd.func20, Tryd.ntmps20
  go_wp2_with fail
  go_loopw [4, 5, 6] (fun f m i wr => ∃ k a b : Nat, k ≤ 8 ∧ i = .int .i64 k ∧ f = .int .i64 a ∧ m = .int .i64 b ∧ runS l k = (a, b) ∧ Below w.heap.size w wr ∧ wr.heap[w.heap.size]? = some (.cells (l.map u64v).toArray 43 (0, 0))) (fun _ _ i _ => 8 - (RowKit.intOf i).toNat)
  case atStart => exact ⟨0, 0, 0, by omega, rfl, rfl, rfl, rfl, (by (repeat (first | exact Below.refl _ _ | assumption | apply below_alloc | apply below_grow | apply below_setCell | apply below_drew)); all_goals first | omega | (simp [go_sem]; done) | (simp [go_sem]; omega)), hx_old (n := w.heap.size + 1) (w := w.alloc (.cells (l.map u64v).toArray 43)) (by (repeat (first | exact Below.refl _ _ | assumption | apply below_alloc | apply below_grow | apply below_setCell | apply below_drew)); all_goals first | omega | (simp [go_sem]; done) | (simp [go_sem]; omega)) (by omega) (hx_new rfl)⟩
  case round =>
    obtain ⟨k, a, b, hk, rfl, rfl, rfl, hR, hB, hg⟩ := hrel
    have hcells : ∀ j x, l[j]? = some x → wr.cell? ⟨w.heap.size, j, none⟩ = some (.int .u64 (x : Nat)) := fun j x h => (cell_of_row wr w.heap.size j _ _ (0, 0) hg).trans (by simp [h, u64v])
    have HH := hide (And.intro hB hg)
    have HR := hide hR
    have HC := hide hcells
    clear hB hg hR hcells
    by_cases hlt : k < 8
    · have hd8 : decide ((k : Int) < 8) = true := by simp; omega
      go_wp2_with fail
      go_loopw [7] (fun n w' => ∃ m : Nat, n = .int .i64 m ∧ k + m ≤ 8 ∧ (∀ j, j < m → l[k + j]? = some 0) ∧ w' = wr) (fun n _ => 8 - (RowKit.intOf n).toNat)
      case atStart => exact ⟨0, rfl, by omega, fun j hj => by omega, rfl⟩
      case round =>
        obtain ⟨m, rfl, hm, hz, rfl⟩ := hrel
        have HZ := hide hz
        clear hz
        by_cases hlt2 : k + m < 8
        · obtain ⟨x, hx⟩ : ∃ x, l[k + m]? = some x := ⟨_, List.getElem?_eq_getElem (by omega)⟩
          have hcell := HC.out (k + m) x hx
          have HX := hide hx
          clear hx
          by_cases h0 : x = 0
          · have HN := hide (p := ∀ j, j < m + 1 → l[k + j]? = some 0) (fun j hj => by
              rcases Nat.lt_or_ge j m with h | h
              · exact HZ.out j h
              · rw [show j = m by omega, HX.out, h0])
            subst h0
            go_wp2_with fail
            go_roundw
            case rel => exact ⟨m + 1, by go_num, by omega, HN.out, trivial⟩
            case measure => simp [RowKit.intOf]; omega
          · have hzc := hide (p := m = zc (l.drop k)) (zc_of _ m (fun j hj => by rw [List.getElem?_drop]; exact HZ.out j hj) (by rw [List.getElem?_drop, HX.out]; simpa using h0)).symm
            have hx0 : ((x : Int) == 0) = false := by simpa using h0
            by_cases hb : b < m
            · have HR2 := hide (runS_hi hzc.out HR.out hb)
              go_wp2_with fail
              go_roundw
              case rel => exact ⟨k + 1, k, m, by omega, by go_num, rfl, rfl, HR2.out, HH.out.1, HH.out.2⟩
              case measure => simp [RowKit.intOf]; omega
            · have HR2 := hide (runS_lo hzc.out HR.out hb)
              go_wp2_with fail
              go_roundw
              case rel => exact ⟨k + 1, a, b, by omega, by go_num, rfl, rfl, HR2.out, HH.out.1, HH.out.2⟩
              case measure => simp [RowKit.intOf]; omega
        · have hzc := hide (p := m = zc (l.drop k)) (zc_of _ m (fun j hj => by rw [List.getElem?_drop]; exact HZ.out j hj) (by rw [List.getElem?_drop, List.getElem?_eq_none (by omega)]; simp)).symm
          by_cases hb : b < m
          · have HR2 := hide (runS_hi hzc.out HR.out hb)
            go_wp2_with fail
            go_roundw
            case rel => exact ⟨k + 1, k, m, by omega, by go_num, rfl, rfl, HR2.out, HH.out.1, HH.out.2⟩
            case measure => simp [RowKit.intOf]; omega
          · have HR2 := hide (runS_lo hzc.out HR.out hb)
            go_wp2_with fail
            go_roundw
            case rel => exact ⟨k + 1, a, b, by omega, by go_num, rfl, rfl, HR2.out, HH.out.1, HH.out.2⟩
            case measure => simp [RowKit.intOf]; omega
    · obtain rfl : k = 8 := by omega
      by_cases h2 : b < 2
      · have H := hide (p := runR l = (0, 0)) (by unfold runR; rw [HR.out, if_pos h2])
        go_wp2_with fail
        go_ret2
        exact ret_eq (by rw [H.out]; rfl) HH.out.1
      · have H := hide (p := runR l = (a, b)) (by unfold runR; rw [HR.out, if_neg h2])
        go_wp2_with fail
        go_ret2
        exact ret_eq (by rw [H.out]; rfl) HH.out.1
end Go.Proofs.YtpeojbaepbdmjaaDoor
