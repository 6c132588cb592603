/-
  Walk of the reference's ViaAll. Conditions: none.
-/
import Derived.Test.YtihaplieedefcaaViaZero
namespace Go.Proofs.Ytihaplieedefcaa
open Go.RowKit
set_option maxHeartbeats 400000
set_option maxRecDepth 100000

theorem refAll_bad (A : Option Addr) (n c : Nat) (l : List Vi) (w : World) (hl : Rd w 3 A n encV l) (hn : n ≤ c) (hc : c ≤ 9223372036854775807) (h0 : vfault l ≠ 0) :
    Calls Try.prog 33 #[.slice A n c] w (Ret (.tuple #[.slice none 0 0, .int .i64 (vfault l)]) w) := by
  have hb1 : (vfault l != 0) = true := by simpa using h0
  have H := viaFault_any A n c l w hl hn hc
  go_enter Try.func33, Try.ntmps33
  go_wp2_with (go_at_call 81; refine (H).mono ?_; rintro e w' ⟨rfl, g, rfl⟩)
  go_ret2
  exact ret_eq rfl (by (repeat (first | exact Below.refl _ _ | assumption | apply below_alloc | apply below_grow | apply below_setCell | apply below_drew)); all_goals first | omega | (simp [go_sem]; done) | (simp [go_sem]; omega))
theorem rg_snoc (f : Int → Option Vi) (k : Nat) (p d z : Int) (h : portF f ((k : Int) + 1) = (p, d, z)) : (List.range (k + 1)).filterMap (fun i : Nat => vres f ((i : Int) + 1)) = (List.range k).filterMap (fun i : Nat => vres f ((i : Int) + 1)) ++ (if z = 0 then [⟨(k : Int) + 1, p, 0⟩] else []) := by
  have hv : vres f ((k : Int) + 1) = if z = 0 then some ⟨(k : Int) + 1, p, 0⟩ else none := by unfold vres; rw [h]
  rw [List.range_succ, List.filterMap_append]
  by_cases hz : z = 0
  · rw [if_pos hz] at hv; simp [hv, hz]
  · rw [if_neg hz] at hv; simp [hv, hz]
theorem refAll_good (A : Option Addr) (n c : Nat) (l : List Vi) (w : World) (hl : Rd w 3 A n encV l) (hn : n ≤ c) (hc : c ≤ 9223372036854775807) (h0 : vfault l = 0) :
    Calls Try.prog 33 #[.slice A n c] w fun e w' => ∃ (v : Value) (g : Gr w), e = .returned (.tuple #[v, .int .i64 0]) ∧ w' = grow w g ∧ (grow w g).ownsRow w.heap.size 78 3 v (vall (vmap l)).length ((vall (vmap l)).flatMap encV) := by
  have H := ret_mono (viaFault_any A n c l w hl hn hc) (by rw [h0])
  go_enter Try.func33, Try.ntmps33
  go_wp2_with (go_at_call 81; refine (H).mono ?_; rintro e w' ⟨rfl, g, rfl⟩)
  go_loopw [5, 6] (fun v i wr => ∃ (g : Gr w) (k : Nat), k ≤ 999 ∧ i = .int .i64 ((k : Int) + 1) ∧ wr = grow w g ∧ (grow w g).ownsRow w.heap.size 78 3 v ((List.range k).filterMap (fun i : Nat => vres (vmap l) ((i : Int) + 1))).length (((List.range k).filterMap (fun i : Nat => vres (vmap l) ((i : Int) + 1))).flatMap encV)) (fun _ i _ => 1000 - (intOf i).toNat)
  case atStart => exact ⟨_, 0, by omega, rfl, rfl, own_nil _ _ _ _⟩
  case round =>
    obtain ⟨g0, k, hk, rfl, rfl, hown⟩ := hrel
    by_cases hlt : k < 999
    · rcases hpf : portF (vmap l) ((k : Int) + 1) with ⟨p, d, z⟩
      have HP : Calls Try.prog 82 #[.slice A n c, .int .i64 ((k : Int) + 1), .slice none 0 0] (grow w g0) (Ret (.tuple #[.int .i64 p, .int .i64 d, .int .i64 z]) (grow w g0)) := by
        have := port_zero l A n c ((k : Int) + 1) (grow w g0) (hl.below (grow_below _ _)) hn hc
        rw [show portGo (vmap l) 10 [] ((k : Int) + 1) = (p, d, z) from hpf] at this
        exact this
      have HF := hide (rg_snoc (vmap l) k p d z hpf)
      have HO := hide hown
      have hlen : ((List.range k).filterMap (fun i : Nat => vres (vmap l) ((i : Int) + 1))).length ≤ 1000000 := by
        have := List.length_filterMap_le (fun i : Nat => vres (vmap l) ((i : Int) + 1)) (List.range k)
        simp at this
        omega
      clear hown hpf
      by_cases hz : z = 0
      · subst hz
        go_wp2_with (first | (go_at_call 82; refine (HP).mono ?_; rintro e w' ⟨rfl, g, rfl⟩) | (at_builtin; refine app_viak w _ (by (repeat (first | exact Below.refl _ _ | assumption | apply below_alloc | apply below_grow | apply below_setCell | apply below_drew)); all_goals first | omega | (simp [go_sem]; done) | (simp [go_sem]; omega)) (by rfl) _ _ (by rfl) u5 _ _ (by rfl) (by repeat (first | with_reducible exact HO.out | apply own_grow | apply World.ownsRow.alloc | apply World.ownsRow.drew | (refine own_far ?_ _ _ _ (by simp [go_sem, Value.ownBlock]; try omega)))) _ _ _ _ _ _ (by rfl) (by simp [go_sem]) hlen ?_; intro g5 blk cap hle5 _ hgrow5 hown5))
        go_roundw
        case rel => exact ⟨g5, k + 1, by omega, by go_num, rfl, by rw [HF.out, if_pos trivial, flat_snoc, List.length_append]; exact hown5⟩
        case measure => simp [intOf]; omega
      · have hz1 : (z == 0) = false := by simpa using hz
        have HZ := hide hz
        clear hz
        go_wp2_with (go_at_call 82; refine (HP).mono ?_; rintro e w' ⟨rfl, g, rfl⟩)
        go_roundw
        case rel => exact ⟨⟨grow (grow w g0) g, (by (repeat (first | exact Below.refl _ _ | assumption | apply below_alloc | apply below_grow | apply below_setCell | apply below_drew)); all_goals first | omega | (simp [go_sem]; done) | (simp [go_sem]; omega))⟩, k + 1, by omega, by go_num, rfl, by rw [HF.out, if_neg HZ.out, List.append_nil]; exact own_grow HO.out g⟩
        case measure => simp [intOf]; omega
    · obtain rfl : k = 999 := by omega
      have HO := hide hown
      go_wp2_with fail
      go_ret2
      exact ⟨_, g0, rfl, rfl, HO.out⟩
end Go.Proofs.Ytihaplieedefcaa
