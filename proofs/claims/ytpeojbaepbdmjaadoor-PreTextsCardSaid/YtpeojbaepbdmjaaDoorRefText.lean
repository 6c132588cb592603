/-
  Walk of the references' AddrText. Conditions: the words of an address are 64-bit numbers.
-/
import Derived.Test.YtpeojbaepbdmjaaDoorRefPl
namespace Go.Proofs.YtpeojbaepbdmjaaDoor
open Go.RowKit Go.Lib
set_option maxHeartbeats 1600000
set_option maxRecDepth 100000

def dotK (lo k : Nat) : List UInt8 := Lib.join (((quadL lo).map Lib.decDigits).take k) [46]
theorem dotK_len (lo k : Nat) : (dotK lo k).length ≤ 1000 := by
  have := join_len [46] (((quadL lo).map Lib.decDigits).take k) 3 (fun x hx => by
    obtain ⟨u, hu, rfl⟩ := List.mem_map.1 (List.mem_of_mem_take hx)
    obtain ⟨i, _, rfl⟩ := List.mem_map.1 hu
    exact decDigits_len _ (by unfold quad; omega))
  have h4 : (((quadL lo).map Lib.decDigits).take k).length ≤ 4 := by simp [quadL]; omega
  unfold dotK
  simp only [List.length_cons, List.length_nil] at this
  omega
theorem refText_four (hi lo : Nat) (w : World) (h1 : hi < 18446744073709551616) (h2 : lo < 18446744073709551616) (hm : Ad.may ⟨false, hi, lo⟩ = true) :
    Calls Tryd.prog 6 #[.agg #[.bool false, .int .u64 hi, .int .u64 lo]] w (Ret (.tuple #[.string ⟨(dotT lo).toArray⟩, .int .i64 0]) w) := by
  have hPt := fun w => parts_four hi lo w h1 h2
  rw [parts4] at hPt
  go_enter Tryd.func6, Tryd.ntmps6
  go_wp2_with (first | (go_at_call 11; refine (ret_mono (refMay_any _ _ _ _) (congrArg Value.bool hm)).mono ?_; rintro e w' ⟨rfl, ga, rfl⟩) | (go_at_call 12; refine (hPt _).mono ?_; rintro e w' ⟨bb, cap, gB, rfl, rfl, hle, hown⟩; have hcap := own_cap hown; have hlt := own_lt hown))
  obtain ⟨w1, hw1⟩ : ∃ w1, w1 = grow (grow (w.alloc (.cells #[.bool false, .int .u64 hi, .int .u64 lo] 24)) ga) gB := ⟨_, rfl⟩
  have hB1 := hide (p := Below w.heap.size w w1) (by rw [hw1]; exact (by (repeat (first | exact Below.refl _ _ | assumption | apply below_alloc | apply below_grow | apply below_setCell | apply below_drew)); all_goals first | omega | (simp [go_sem]; done) | (simp [go_sem]; omega)))
  rw [← hw1] at hown hlt ⊢
  have HC := hide (p := ∀ j x, (quadL lo)[j]? = some x → w1.cell? ⟨bb, j, none⟩ = some (.int .i64 (x : Nat))) (fun j x h => (own_cell hown j (by have := (List.getElem?_eq_some_iff.1 h).1; simp [quadL] at this; omega)).trans (by rw [List.getElem?_map, h]; rfl))
  clear hw1 hown hle hPt hm
  go_loopw [4, 22] (fun v i wr => ∃ k : Nat, k ≤ 4 ∧ i = .int .i64 k ∧ v = .string ⟨(dotK lo k).toArray⟩ ∧ ∃ g : Gr w1, wr = grow w1 g) (fun _ i _ => 4 - (RowKit.intOf i).toNat)
  case atStart => exact ⟨0, by omega, rfl, rfl, ⟨_, Below.refl _ _⟩, rfl⟩
  case round =>
    obtain ⟨k, hk, rfl, rfl, g, rfl⟩ := hrel
    by_cases hkl : k < 4
    · obtain ⟨q, hq⟩ : ∃ q, (quadL lo)[k]? = some q := ⟨_, List.getElem?_eq_getElem (by simp [quadL]; omega)⟩
      have hcell := HC.out k q hq
      have hq6 : q < 256 := by
        obtain ⟨i, _, rfl⟩ := List.mem_map.1 (List.mem_of_getElem? hq)
        unfold quad; omega
      have hI := numText_any 10 (.inl rfl) q (by omega)
      have HJ := hide (p := dotK lo (k + 1) = if k = 0 then digs 10 q else dotK lo k ++ [46] ++ digs 10 q) (by rw [digs10]; exact join_take [46] (by rw [List.getElem?_map, hq]; rfl))
      have hdl : (digs 10 q).length ≤ 3 := digs_len 10 q 3 (by decide) (by omega) (by decide)
      have hxl := dotK_len lo k
      clear hq
      generalize hX : dotK lo k = X at *
      generalize digs 10 q = D at *
      have a1 : ∀ W, (Op.stringOp .add ⟨X.toArray⟩ ⟨#[46]⟩).run Tryd.prog W = .ok (.string ⟨(X ++ [46]).toArray⟩) W := fun W => run_string_add_lists W X [46] (by omega) (by simp)
      have a2 : ∀ W, (Op.stringOp .add ⟨(X ++ [46]).toArray⟩ ⟨D.toArray⟩).run Tryd.prog W = .ok (.string ⟨(X ++ [46] ++ D).toArray⟩) W := fun W => run_string_add_lists W (X ++ [46]) D (by simp; omega) (by omega)
      have a3 : ∀ W, (Op.stringOp .add ⟨X.toArray⟩ ⟨D.toArray⟩).run Tryd.prog W = .ok (.string ⟨(X ++ D).toArray⟩) W := fun W => run_string_add_lists W X D (by omega) (by omega)
      by_cases hk0 : k = 0
      · subst hk0
        have hX0 : X = [] := hX ▸ rfl
        have HJ' := hide (p := dotK lo (0 + 1) = D) (by rw [HJ.out, if_pos rfl])
        have HX := hide hX
        clear hX
        go_wp2_with (go_at_call 13; refine (hI _).mono ?_; rintro e w' ⟨rfl, g2, rfl⟩)
        go_roundw
        case rel => exact ⟨1, by omega, by go_num, by rw [show dotK lo 1 = D from HJ'.out]; subst hX0; rfl, gr_of (by (repeat (first | exact Below.refl _ _ | assumption | apply below_alloc | apply below_grow | apply below_setCell | apply below_drew)); all_goals first | omega | (simp [go_sem]; done) | (simp [go_sem]; omega))⟩
        case measure => simp [RowKit.intOf]
      · have HJ' := hide (p := dotK lo (k + 1) = X ++ [46] ++ D) (by rw [HJ.out, if_neg hk0])
        have hk1 : 0 < k := by omega
        have HX := hide hX
        clear hX
        go_wp2_with (go_at_call 13; refine (hI _).mono ?_; rintro e w' ⟨rfl, g2, rfl⟩)
        go_roundw
        case rel => exact ⟨k + 1, by omega, by go_num, by rw [HJ'.out, List.append_assoc]; rfl, gr_of (by (repeat (first | exact Below.refl _ _ | assumption | apply below_alloc | apply below_grow | apply below_setCell | apply below_drew)); all_goals first | omega | (simp [go_sem]; done) | (simp [go_sem]; omega))⟩
        case measure => simp [RowKit.intOf]; omega
    · obtain rfl : k = 4 := by omega
      go_wp2_with fail
      go_ret2
      exact ret_eq rfl (hB1.out.trans (g.2.mono hB1.out.size))
end Go.Proofs.YtpeojbaepbdmjaaDoor
