/-
  Walk of the references' partsOf. Conditions: the words of an address are 64-bit numbers.
-/
import Derived.Test.YtpeojbaepbdmjaaDoorParts
namespace Go.Proofs.YtpeojbaepbdmjaaDoor
open Go.RowKit Go.Lib
set_option maxHeartbeats 1600000
set_option maxRecDepth 100000

theorem parts_four (hi lo : Nat) (w : World) (h1 : hi < 18446744073709551616) (h2 : lo < 18446744073709551616) :
    Calls Tryd.prog 12 #[.agg #[.bool false, .int .u64 hi, .int .u64 lo], .int .i64 8] w (RetRow 3 1 4 ((outP (Ad.num ⟨false, hi, lo⟩) 32 8 32).map iv) w) := by
  have hBits : ∀ w, Calls Tryd.prog 22 #[.agg #[.bool false, .int .u64 hi, .int .u64 lo]] w (RetRow 3 1 32 (bitsA ⟨false, hi, lo⟩) w) := fun w => bits_any false hi lo w h1 h2
  have hget := bitsA_get ⟨false, hi, lo⟩ ⟨h1, h2⟩
  have HG := hide (p := ∀ j, j < 32 → (bitsA ⟨false, hi, lo⟩)[j]? = some (.int .i64 ((Ad.num ⟨false, hi, lo⟩ / 2 ^ (32 - 1 - j) % 2 : Nat) : Int))) (fun j hj => hget j hj)
  clear hget
  generalize Ad.num ⟨false, hi, lo⟩ = num at *
  go_enter Tryd.func12, Tryd.ntmps12
  go_wp2_with (go_at_call 22; refine (hBits _).mono ?_; rintro e w' ⟨bb, cap, gB, rfl, rfl, hle, hown⟩; have hcap := own_cap hown; have hlt := own_lt hown)
  obtain ⟨w1, hw1⟩ : ∃ w1, w1 = grow (w.alloc (.cells #[.bool false, .int .u64 hi, .int .u64 lo] 24)) gB := ⟨_, rfl⟩
  have hB1 := hide (p := Below w.heap.size w w1) (by rw [hw1]; exact (by (repeat (first | exact Below.refl _ _ | assumption | apply below_alloc | apply below_grow | apply below_setCell | apply below_drew)); all_goals first | omega | (simp [go_sem]; done) | (simp [go_sem]; omega)))
  rw [← hw1] at hown hlt ⊢
  have HC := hide (p := ∀ j, j < 32 → w1.cell? ⟨bb, j, none⟩ = some (.int .i64 ((num / 2 ^ (32 - 1 - j) % 2 : Nat) : Int))) (fun j hj => (own_cell hown j (by omega)).trans (HG.out j hj))
  clear hw1 hown HG hle
  go_loopw [5, 11] (fun v i wr => ∃ k : Nat, k ≤ 32 ∧ i = .int .i64 k ∧ ∃ g : Gr w1, wr = grow w1 g ∧ (grow w1 g).ownsRow w1.heap.size 3 1 v ((outP num 32 8 k).length) ((outP num 32 8 k).map iv)) (fun _ i _ => 32 - (RowKit.intOf i).toNat)
  case atStart => exact ⟨0, by omega, rfl, ⟨_, Below.refl _ _⟩, rfl, World.ownsRow_nil _ _ _ _⟩
  case round =>
    obtain ⟨k, hk, rfl, g, rfl, hown⟩ := hrel
    by_cases hkl : k < 32
    · have hcell := HC.out k hkl
      have hc1 : num / 2 ^ (32 - 1 - k) % 2 ≤ 1 := by omega
      have hlen := outP_len (num := num) (W := 32) (wide := 8) (k := k) (by decide)
      have hlen1 := outP_len1 (num := num) (W := 32) (wide := 8) (k := k) (by decide)
      by_cases h0 : k % 8 = 0
      · have HS := hide (outP_new (num := num) (wide := 8) (by decide) hkl h0)
        rw [if_pos h0] at hlen
        have hb0 : ((k : Int) % 8 == 0) = true := by simp; omega
        have hb1 : (k : Int) % 8 = 0 := by omega
        generalize num / 2 ^ (32 - 1 - k) % 2 = c at *
        have hq : k / 8 < 100 := by omega
        rw [hlen] at hown
        have HL1 := hide hlen1
        have HL0 := hide hlen
        have HK := hide h0
        clear hlen hlen1 h0
        generalize k / 8 = m at *
        go_wp2_with (at_builtin; refine app_int w1 _ (grow_below _ g) (by rfl) _ _ (by rfl) _ _ _ (by rfl) hown _ _ _ _ (by rfl) (by simp [go_sem]) (by rfl) (by omega) ?_; intro g' blk cap' hle' hown'; have hraw : cellRaw (grow w1 g') blk m = some (.int .i64 0) := (own_raw hown' m (by omega)).trans (by rw [List.getElem?_append_right (by rw [List.length_map, HL0.out]; omega), List.length_map, HL0.out, Nat.sub_self]; rfl); have hnl : ¬ blk < w1.heap.size := (by omega); have hfz : frozenRaw (grow w1 g') blk m = false := os_free hown' m)
        go_roundw
        case rel =>
          obtain ⟨G, hG⟩ : ∃ G : Gr w1, (grow w1 g').setCell ⟨blk, m, none⟩ (.int .i64 (c : Nat)) = grow w1 G := gr_of (below_setCell (grow_below _ _) hle')
          have h5 := os_set hown' m (iv c)
          rw [HS.out] at h5
          refine ⟨k + 1, by omega, by go_num, G, hG, ?_⟩
          rw [← hG, HL1.out]
          exact h5
        case measure => simp [RowKit.intOf]; omega
      · have HS := hide (outP_set (num := num) (wide := 8) (by decide) hkl h0)
        rw [if_neg h0] at hlen
        have hb0 : ((k : Int) % 8 == 0) = false := by simp; omega
        have hq : k / 8 < 100 := by omega
        rw [hlen] at hown
        obtain ⟨blk, cap', rfl⟩ := own_form hown (by omega)
        have hle' := own_le hown
        have hp := pval_lt num 32 8 k (k / 8) (by decide)
        have hraw : cellRaw (grow w1 g) blk (k / 8) = some (.int .i64 (pval num 32 8 k (k / 8) : Nat)) := (own_raw hown (k / 8) (by omega)).trans (by rw [List.getElem?_map, outP_get (by omega)]; rfl)
        have hnl : ¬ blk < w1.heap.size := by omega
        have hfz : frozenRaw (grow w1 g) blk (k / 8) = false := os_free hown (k / 8)
        generalize num / 2 ^ (32 - 1 - k) % 2 = c at *
        generalize pval num 32 8 k (k / 8) = p at *
        have HL1 := hide hlen1
        have HO := hide hown
        clear hlen hlen1 h0 hown
        generalize k / 8 = m at *
        go_wp2_with fail
        go_roundw
        case rel =>
          obtain ⟨G, hG⟩ : ∃ G : Gr w1, (grow w1 g).setCell ⟨blk, m, none⟩ (.int .i64 (2 * (p : Nat) + (c : Nat))) = grow w1 G := gr_of (below_setCell (grow_below _ _) hle')
          have h5 := os_set HO.out m (iv (2 * p + c))
          rw [HS.out] at h5
          refine ⟨k + 1, by omega, by go_num, G, hG, ?_⟩
          rw [← hG, HL1.out]
          exact h5
        case measure => simp [RowKit.intOf]; omega
    · obtain rfl : k = 32 := by omega
      go_wp2_with fail
      go_ret
      exact retRow_of (base := w1.heap.size) (hB1.out.trans (g.2.mono hB1.out.size)) hB1.out.size hown (by decide)
theorem parts_six (hi lo : Nat) (w : World) (h1 : hi < 18446744073709551616) (h2 : lo < 18446744073709551616) :
    Calls Tryd.prog 12 #[.agg #[.bool true, .int .u64 hi, .int .u64 lo], .int .i64 16] w (RetRow 3 1 8 ((outP (Ad.num ⟨true, hi, lo⟩) 128 16 128).map iv) w) := by
  have hBits : ∀ w, Calls Tryd.prog 22 #[.agg #[.bool true, .int .u64 hi, .int .u64 lo]] w (RetRow 3 1 128 (bitsA ⟨true, hi, lo⟩) w) := fun w => bits_any true hi lo w h1 h2
  have hget := bitsA_get ⟨true, hi, lo⟩ ⟨h1, h2⟩
  have HG := hide (p := ∀ j, j < 128 → (bitsA ⟨true, hi, lo⟩)[j]? = some (.int .i64 ((Ad.num ⟨true, hi, lo⟩ / 2 ^ (128 - 1 - j) % 2 : Nat) : Int))) (fun j hj => hget j hj)
  clear hget
  generalize Ad.num ⟨true, hi, lo⟩ = num at *
  go_enter Tryd.func12, Tryd.ntmps12
  go_wp2_with (go_at_call 22; refine (hBits _).mono ?_; rintro e w' ⟨bb, cap, gB, rfl, rfl, hle, hown⟩; have hcap := own_cap hown; have hlt := own_lt hown)
  obtain ⟨w1, hw1⟩ : ∃ w1, w1 = grow (w.alloc (.cells #[.bool true, .int .u64 hi, .int .u64 lo] 24)) gB := ⟨_, rfl⟩
  have hB1 := hide (p := Below w.heap.size w w1) (by rw [hw1]; exact (by (repeat (first | exact Below.refl _ _ | assumption | apply below_alloc | apply below_grow | apply below_setCell | apply below_drew)); all_goals first | omega | (simp [go_sem]; done) | (simp [go_sem]; omega)))
  rw [← hw1] at hown hlt ⊢
  have HC := hide (p := ∀ j, j < 128 → w1.cell? ⟨bb, j, none⟩ = some (.int .i64 ((num / 2 ^ (128 - 1 - j) % 2 : Nat) : Int))) (fun j hj => (own_cell hown j (by omega)).trans (HG.out j hj))
  clear hw1 hown HG hle
  go_loopw [5, 11] (fun v i wr => ∃ k : Nat, k ≤ 128 ∧ i = .int .i64 k ∧ ∃ g : Gr w1, wr = grow w1 g ∧ (grow w1 g).ownsRow w1.heap.size 3 1 v ((outP num 128 16 k).length) ((outP num 128 16 k).map iv)) (fun _ i _ => 128 - (RowKit.intOf i).toNat)
  case atStart => exact ⟨0, by omega, rfl, ⟨_, Below.refl _ _⟩, rfl, World.ownsRow_nil _ _ _ _⟩
  case round =>
    obtain ⟨k, hk, rfl, g, rfl, hown⟩ := hrel
    by_cases hkl : k < 128
    · have hcell := HC.out k hkl
      have hc1 : num / 2 ^ (128 - 1 - k) % 2 ≤ 1 := by omega
      have hlen := outP_len (num := num) (W := 128) (wide := 16) (k := k) (by decide)
      have hlen1 := outP_len1 (num := num) (W := 128) (wide := 16) (k := k) (by decide)
      by_cases h0 : k % 16 = 0
      · have HS := hide (outP_new (num := num) (wide := 16) (by decide) hkl h0)
        rw [if_pos h0] at hlen
        have hb0 : ((k : Int) % 16 == 0) = true := by simp; omega
        have hb1 : (k : Int) % 16 = 0 := by omega
        generalize num / 2 ^ (128 - 1 - k) % 2 = c at *
        have hq : k / 16 < 100 := by omega
        rw [hlen] at hown
        have HL1 := hide hlen1
        have HL0 := hide hlen
        have HK := hide h0
        clear hlen hlen1 h0
        generalize k / 16 = m at *
        go_wp2_with (at_builtin; refine app_int w1 _ (grow_below _ g) (by rfl) _ _ (by rfl) _ _ _ (by rfl) hown _ _ _ _ (by rfl) (by simp [go_sem]) (by rfl) (by omega) ?_; intro g' blk cap' hle' hown'; have hraw : cellRaw (grow w1 g') blk m = some (.int .i64 0) := (own_raw hown' m (by omega)).trans (by rw [List.getElem?_append_right (by rw [List.length_map, HL0.out]; omega), List.length_map, HL0.out, Nat.sub_self]; rfl); have hnl : ¬ blk < w1.heap.size := (by omega); have hfz : frozenRaw (grow w1 g') blk m = false := os_free hown' m)
        go_roundw
        case rel =>
          obtain ⟨G, hG⟩ : ∃ G : Gr w1, (grow w1 g').setCell ⟨blk, m, none⟩ (.int .i64 (c : Nat)) = grow w1 G := gr_of (below_setCell (grow_below _ _) hle')
          have h5 := os_set hown' m (iv c)
          rw [HS.out] at h5
          refine ⟨k + 1, by omega, by go_num, G, hG, ?_⟩
          rw [← hG, HL1.out]
          exact h5
        case measure => simp [RowKit.intOf]; omega
      · have HS := hide (outP_set (num := num) (wide := 16) (by decide) hkl h0)
        rw [if_neg h0] at hlen
        have hb0 : ((k : Int) % 16 == 0) = false := by simp; omega
        have hq : k / 16 < 100 := by omega
        rw [hlen] at hown
        obtain ⟨blk, cap', rfl⟩ := own_form hown (by omega)
        have hle' := own_le hown
        have hp := pval_lt num 128 16 k (k / 16) (by decide)
        have hraw : cellRaw (grow w1 g) blk (k / 16) = some (.int .i64 (pval num 128 16 k (k / 16) : Nat)) := (own_raw hown (k / 16) (by omega)).trans (by rw [List.getElem?_map, outP_get (by omega)]; rfl)
        have hnl : ¬ blk < w1.heap.size := by omega
        have hfz : frozenRaw (grow w1 g) blk (k / 16) = false := os_free hown (k / 16)
        generalize num / 2 ^ (128 - 1 - k) % 2 = c at *
        generalize pval num 128 16 k (k / 16) = p at *
        have HL1 := hide hlen1
        have HO := hide hown
        clear hlen hlen1 h0 hown
        generalize k / 16 = m at *
        go_wp2_with fail
        go_roundw
        case rel =>
          obtain ⟨G, hG⟩ : ∃ G : Gr w1, (grow w1 g).setCell ⟨blk, m, none⟩ (.int .i64 (2 * (p : Nat) + (c : Nat))) = grow w1 G := gr_of (below_setCell (grow_below _ _) hle')
          have h5 := os_set HO.out m (iv (2 * p + c))
          rw [HS.out] at h5
          refine ⟨k + 1, by omega, by go_num, G, hG, ?_⟩
          rw [← hG, HL1.out]
          exact h5
        case measure => simp [RowKit.intOf]; omega
    · obtain rfl : k = 128 := by omega
      go_wp2_with fail
      go_ret
      exact retRow_of (base := w1.heap.size) (hB1.out.trans (g.2.mono hB1.out.size)) hB1.out.size hown (by decide)
end Go.Proofs.YtpeojbaepbdmjaaDoor
