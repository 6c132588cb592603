/-
  Walk of the references' AddrText, eight groups. Conditions: the words of an address are 64-bit numbers.
-/
import Derived.Test.YtpeojbaepbdmjaaDoorRefText
namespace Go.Proofs.YtpeojbaepbdmjaaDoor
open Go.RowKit Go.Lib
set_option maxHeartbeats 1600000
set_option maxRecDepth 100000

theorem hexT_take {l : List Nat} {k x : Nat} (h : l[k]? = some x) : hexT (l.take (k + 1)) = if k = 0 then digs 16 x else hexT (l.take k) ++ [58] ++ digs 16 x := by
  unfold hexT
  rw [List.map_take, List.map_take]
  exact join_take [58] (by rw [List.getElem?_map, h]; rfl)
def outS (l : List Nat) (f m k : Nat) : List UInt8 := if k ≤ f then hexT (l.take k) else hexT (l.take f) ++ [58, 58] ++ hexT ((l.drop (f + m)).take (k - (f + m)))
theorem outS_len (l : List Nat) (f m k : Nat) (hl : l.length = 8) (h : ∀ x ∈ l, x < 65536) : (outS l f m k).length ≤ 1000 := by
  have h1 := hexT_len (l.take k) (fun x hx => h x (List.mem_of_mem_take hx))
  have h2 := hexT_len (l.take f) (fun x hx => h x (List.mem_of_mem_take hx))
  have h3 := hexT_len ((l.drop (f + m)).take (k - (f + m))) (fun x hx => h x (List.mem_of_mem_drop (List.mem_of_mem_take hx)))
  rw [List.length_take] at h1 h2 h3
  rw [List.length_drop] at h3
  unfold outS
  split
  · omega
  · simp only [List.length_append, List.length_cons, List.length_nil]
    omega
theorem outS_le {l : List Nat} {f m k : Nat} (h : k ≤ f) : outS l f m k = hexT (l.take k) := by unfold outS; rw [if_pos h]
theorem outS_gt {l : List Nat} {f m k : Nat} (h : ¬ k ≤ f) : outS l f m k = hexT (l.take f) ++ [58, 58] ++ hexT ((l.drop (f + m)).take (k - (f + m))) := by unfold outS; rw [if_neg h]
theorem outS_lo {l : List Nat} {f m k x : Nat} (hk : k < f) (hx : l[k]? = some x) : outS l f m (k + 1) = if k = 0 then digs 16 x else outS l f m k ++ [58] ++ digs 16 x := by
  rw [outS_le (show k + 1 ≤ f by omega), outS_le (show k ≤ f by omega), hexT_take hx]
theorem outS_mid {l : List Nat} {f m : Nat} (hm : 2 ≤ m) : outS l f m (f + m) = outS l f m f ++ [58, 58] := by
  rw [outS_gt (show ¬ f + m ≤ f by omega), outS_le (show f ≤ f by omega), Nat.sub_self]
  simp [hexT, Lib.join_nil]
theorem outS_hi {l : List Nat} {f m k x : Nat} (hm : 2 ≤ m) (hk : f + m ≤ k) (hx : l[k]? = some x) : outS l f m (k + 1) = if k = f + m then outS l f m k ++ digs 16 x else outS l f m k ++ [58] ++ digs 16 x := by
  rw [outS_gt (show ¬ k + 1 ≤ f by omega), outS_gt (show ¬ k ≤ f by omega), show k + 1 - (f + m) = k - (f + m) + 1 by omega, hexT_take (x := x) (by rw [List.getElem?_drop, show f + m + (k - (f + m)) = k by omega]; exact hx)]
  by_cases h : k = f + m
  · rw [if_pos h, if_pos (show k - (f + m) = 0 by omega), show k - (f + m) = 0 by omega]
    simp [hexT, Lib.join_nil]
  · rw [if_neg h, if_neg (show ¬ k - (f + m) = 0 by omega)]
    simp
theorem refText_six (hi lo : Nat) (w : World) (h1 : hi < 18446744073709551616) (h2 : lo < 18446744073709551616) (hm : Ad.may ⟨true, hi, lo⟩ = true) :
    Calls Tryd.prog 6 #[.agg #[.bool true, .int .u64 hi, .int .u64 lo]] w (Ret (.tuple #[.string ⟨(sixT (grpL hi lo)).toArray⟩, .int .i64 0]) w) := by
  have hPt := fun w => parts_six hi lo w h1 h2
  rw [parts6 hi lo h2] at hPt
  have hlen : (grpL hi lo).length = 8 := by simp [grpL]
  have HL := hide (grpL_lt hi lo)
  generalize grpL hi lo = l at *
  go_enter Tryd.func6, Tryd.ntmps6
  go_wp2_with (first | (go_at_call 11; refine (ret_mono (refMay_any _ _ _ _) (congrArg Value.bool hm)).mono ?_; rintro e w' ⟨rfl, ga, rfl⟩) | (go_at_call 12; refine (hPt _).mono ?_; rintro e w' ⟨bb, cap, gB, rfl, rfl, hle, hown⟩; have hcap := own_cap hown; have hlt := own_lt hown))
  obtain ⟨w1, hw1⟩ : ∃ w1, w1 = grow (grow (w.alloc (.cells #[.bool true, .int .u64 hi, .int .u64 lo] 24)) ga) gB := ⟨_, rfl⟩
  have hB1 := hide (p := Below w.heap.size w w1) (by rw [hw1]; exact (by (repeat (first | exact Below.refl _ _ | assumption | apply below_alloc | apply below_grow | apply below_setCell | apply below_drew)); all_goals first | omega | (simp [go_sem]; done) | (simp [go_sem]; omega)))
  rw [← hw1] at hown hlt ⊢
  have HC := hide (p := ∀ j x, l[j]? = some x → w1.cell? ⟨bb, j, none⟩ = some (.int .i64 (x : Nat))) (fun j x h => (own_cell hown j (by have := (List.getElem?_eq_some_iff.1 h).1; omega)).trans (by rw [List.getElem?_map, h]; rfl))
  clear hw1 hown hle hPt hm
  go_loopw [8, 9, 41] (fun f m i wr => ∃ (k : Nat) (a : Int) (b : Nat), k ≤ 8 ∧ f = .int .i64 a ∧ m = .int .i64 b ∧ i = .int .i64 k ∧ refS l k = (a, b) ∧ b ≤ 8 ∧ wr = w1) (fun _ _ i _ => 8 - (RowKit.intOf i).toNat)
  case atStart => exact ⟨0, -1, 1, by omega, rfl, rfl, rfl, by simp [refS, runS], by omega, rfl⟩
  case round =>
    obtain ⟨k, a, b, hk, rfl, rfl, rfl, hR, hb8, rfl⟩ := hrel
    have HR := hide hR
    clear hR
    by_cases hkl : k < 8
    · have hd8 : decide ((k : Int) < 8) = true := by simp; omega
      go_wp2_with fail
      go_loopw [11] (fun n w' => ∃ m : Nat, n = .int .i64 m ∧ k + m ≤ 8 ∧ (∀ j, j < m → l[k + j]? = some 0) ∧ w' = wr) (fun n _ => 8 - (RowKit.intOf n).toNat)
      case atStart => exact ⟨0, rfl, by omega, fun j hj => by omega, rfl⟩
      case round =>
        obtain ⟨m, rfl, hm, hz, rfl⟩ := hrel
        have HZ := hide hz
        clear hz
        by_cases hlt2 : k + m < 8
        · obtain ⟨x, hx⟩ : ∃ x, l[k + m]? = some x := ⟨_, List.getElem?_eq_getElem (by omega)⟩
          have hcell := HC.out (k + m) x hx
          have HX := hide hx
          clear hx
          by_cases h0 : x = 0
          · have HN := hide (p := ∀ j, j < m + 1 → l[k + j]? = some 0) (fun j hj => by
              rcases Nat.lt_or_ge j m with h | h
              · exact HZ.out j h
              · rw [show j = m by omega, HX.out, h0])
            subst h0
            go_wp2_with fail
            go_roundw
            case rel => exact ⟨m + 1, by go_num, by omega, HN.out, trivial⟩
            case measure => simp [RowKit.intOf]; omega
          · have hzc := hide (p := m = zc (l.drop k)) (zc_of _ m (fun j hj => by rw [List.getElem?_drop]; exact HZ.out j hj) (by rw [List.getElem?_drop, HX.out]; simpa using h0)).symm
            have hx0 : ((x : Int) == 0) = false := by simpa using h0
            by_cases hb : b < m
            · have HR2 := hide (refS_hi hzc.out HR.out hb)
              go_wp2_with fail
              go_roundw
              case rel => exact ⟨k + 1, k, m, by omega, rfl, rfl, by go_num, HR2.out, by omega, trivial⟩
              case measure => simp [RowKit.intOf]; omega
            · have HR2 := hide (refS_lo hzc.out HR.out hb)
              go_wp2_with fail
              go_roundw
              case rel => exact ⟨k + 1, a, b, by omega, rfl, rfl, by go_num, HR2.out, hb8, trivial⟩
              case measure => simp [RowKit.intOf]; omega
        · have hzc := hide (p := m = zc (l.drop k)) (zc_of _ m (fun j hj => by rw [List.getElem?_drop]; exact HZ.out j hj) (by rw [List.getElem?_drop, List.getElem?_eq_none (by omega)]; simp)).symm
          by_cases hb : b < m
          · have HR2 := hide (refS_hi hzc.out HR.out hb)
            go_wp2_with fail
            go_roundw
            case rel => exact ⟨k + 1, k, m, by omega, rfl, rfl, by go_num, HR2.out, by omega, trivial⟩
            case measure => simp [RowKit.intOf]; omega
          · have HR2 := hide (refS_lo hzc.out HR.out hb)
            go_wp2_with fail
            go_roundw
            case rel => exact ⟨k + 1, a, b, by omega, rfl, rfl, by go_num, HR2.out, hb8, trivial⟩
            case measure => simp [RowKit.intOf]; omega
    · obtain rfl : k = 8 := by omega
      have hRq := HR.out
      rw [refS_eq] at hRq
      by_cases hz : (runR l).2 = 0
      · rw [if_pos hz] at hRq
        simp only [Prod.mk.injEq] at hRq
        obtain ⟨rfl, rfl⟩ := hRq
        have HS := hide (p := sixT l = hexT l) (by unfold sixT; rw [if_pos hz])
        clear hz HR
        rw [show ((1 : Nat) : Int) = 1 from rfl, show ((8 : Nat) : Int) = 8 from rfl]
        go_wp2_with fail
        go_loopw [4, 12] (fun v i w' => ∃ k : Nat, k ≤ 8 ∧ i = .int .i64 k ∧ v = .string ⟨(hexT (l.take k)).toArray⟩ ∧ ∃ g : Gr wr, w' = grow wr g) (fun _ i _ => 8 - (RowKit.intOf i).toNat)
        case atStart => exact ⟨0, by omega, rfl, rfl, ⟨_, Below.refl _ _⟩, rfl⟩
        case round =>
          obtain ⟨k, hk, rfl, rfl, g, rfl⟩ := hrel
          by_cases hkl : k < 8
          · obtain ⟨x, hx⟩ : ∃ x, l[k]? = some x := ⟨_, List.getElem?_eq_getElem (by omega)⟩
            have hcell := HC.out k x hx
            have hx6 := HL.out x (List.mem_of_getElem? hx)
            have HJ := hide (hexT_take hx)
            have hxl : (hexT (l.take k)).length ≤ 1000 := by
              have := hexT_len (l.take k) (fun x hx => HL.out x (List.mem_of_mem_take hx))
              rw [List.length_take] at this
              omega
            clear hx
            generalize hX : hexT (l.take k) = X at *
            have hdl : (digs 16 x).length ≤ 4 := digs_len 16 x 4 (by decide) (by omega) (by decide)
            have hI := numText_any 16 (.inr rfl) x (by omega)
            generalize digs 16 x = D at *
            have a1 : ∀ W, (Op.stringOp .add ⟨X.toArray⟩ ⟨#[58]⟩).run Tryd.prog W = .ok (.string ⟨(X ++ [58]).toArray⟩) W := fun W => run_string_add_lists W X [58] (by omega) (by simp)
            have a2 : ∀ W, (Op.stringOp .add ⟨(X ++ [58]).toArray⟩ ⟨D.toArray⟩).run Tryd.prog W = .ok (.string ⟨(X ++ [58] ++ D).toArray⟩) W := fun W => run_string_add_lists W (X ++ [58]) D (by simp; omega) (by omega)
            have a3 : ∀ W, (Op.stringOp .add ⟨X.toArray⟩ ⟨D.toArray⟩).run Tryd.prog W = .ok (.string ⟨(X ++ D).toArray⟩) W := fun W => run_string_add_lists W X D (by omega) (by omega)
            by_cases hk0 : k = 0
            · subst hk0
              have hX0 : X = [] := hX ▸ rfl
              have HJ' := hide (p := hexT (l.take (0 + 1)) = D) (by rw [HJ.out, if_pos rfl])
              have HX := hide hX
              clear hX
              go_wp2_with (go_at_call 13; refine (hI _).mono ?_; rintro e w' ⟨rfl, g2, rfl⟩)
              go_roundw
              case rel => exact ⟨1, by omega, by go_num, by rw [show hexT (l.take 1) = D from HJ'.out]; first | (subst hX0; rfl) | exact congrArg Value.string (ByteArray.mk_append_mk [] D), gr_of (by (repeat (first | exact Below.refl _ _ | assumption | apply below_alloc | apply below_grow | apply below_setCell | apply below_drew)); all_goals first | omega | (simp [go_sem]; done) | (simp [go_sem]; omega))⟩
              case measure => simp [RowKit.intOf]
            · have HJ' := hide (p := hexT (l.take (k + 1)) = X ++ [58] ++ D) (by rw [HJ.out, if_neg hk0])
              have hk1 : 0 < k := by omega
              have hk2 : ((k : Int) == -1) = false := by first | (simp; done) | (simp; omega)
              have hk3 : ((k : Int) == 0) = false := by first | (simp; done) | (simp; omega)
              have HX := hide hX
              clear hX
              go_wp2_with (go_at_call 13; refine (hI _).mono ?_; rintro e w' ⟨rfl, g2, rfl⟩)
              go_roundw
              case rel => exact ⟨k + 1, by omega, by go_num, by rw [HJ'.out, List.append_assoc]; rfl, gr_of (by (repeat (first | exact Below.refl _ _ | assumption | apply below_alloc | apply below_grow | apply below_setCell | apply below_drew)); all_goals first | omega | (simp [go_sem]; done) | (simp [go_sem]; omega))⟩
              case measure => simp [RowKit.intOf]; omega
          · obtain rfl : k = 8 := by omega
            go_wp2_with fail
            go_ret2
            exact ret_eq (by rw [HS.out, List.take_of_length_le (by omega)]; rfl) (hB1.out.trans (g.2.mono hB1.out.size))
      · rw [if_neg hz] at hRq
        have hm2 := runR_two hz
        have hfm := runR_le l hlen
        have HS := hide (p := sixT l = outS l (runR l).1 (runR l).2 8) (by
          unfold sixT outS
          rw [if_neg hz, if_neg (by omega), List.take_of_length_le (l := l.drop _) (by rw [List.length_drop]; omega)])
        generalize (runR l).1 = f at *
        generalize (runR l).2 = m at *
        simp only [Prod.mk.injEq] at hRq
        obtain ⟨rfl, rfl⟩ := hRq
        clear hz HR
        rw [show ((8 : Nat) : Int) = 8 from rfl]
        go_wp2_with fail
        go_loopw [4, 12] (fun v i w' => ∃ k : Nat, k ≤ 8 ∧ i = .int .i64 k ∧ v = .string ⟨(outS l f m k).toArray⟩ ∧ (k ≤ f ∨ f + m ≤ k) ∧ ∃ g : Gr wr, w' = grow wr g) (fun _ i _ => 8 - (RowKit.intOf i).toNat)
        case atStart => exact ⟨0, by omega, rfl, by unfold outS; rw [if_pos (by omega)]; rfl, .inl (by omega), ⟨_, Below.refl _ _⟩, rfl⟩
        case round =>
          obtain ⟨k, hk, rfl, rfl, hkf, g, rfl⟩ := hrel
          have hxl := outS_len l f m k hlen HL.out
          by_cases hkl : k < 8
          · by_cases hkk : k = f
            · subst hkk
              have HM := hide (outS_mid (l := l) (f := k) (m := m) hm2)
              generalize outS l k m k = X at *
              have a4 : ∀ W, (Op.stringOp .add ⟨X.toArray⟩ ⟨#[58, 58]⟩).run Tryd.prog W = .ok (.string ⟨(X ++ [58, 58]).toArray⟩) W := fun W => run_string_add_lists W X [58, 58] (by omega) (by simp)
              go_wp2_with fail
              go_roundw
              case rel => exact ⟨k + m, by omega, by go_num, by rw [HM.out], .inr (by omega), gr_of (by (repeat (first | exact Below.refl _ _ | assumption | apply below_alloc | apply below_grow | apply below_setCell | apply below_drew)); all_goals first | omega | (simp [go_sem]; done) | (simp [go_sem]; omega))⟩
              case measure => simp [RowKit.intOf]; omega
            · obtain ⟨x, hx⟩ : ∃ x, l[k]? = some x := ⟨_, List.getElem?_eq_getElem (by omega)⟩
              have hcell := HC.out k x hx
              have hx6 := HL.out x (List.mem_of_getElem? hx)
              have HLO := hide (fun h => outS_lo (f := f) (m := m) (k := k) h hx)
              have HHI := hide (fun h => outS_hi (f := f) (m := m) (k := k) hm2 h hx)
              clear hx
              have hk2 : ((k : Int) == (f : Int)) = false := by simp; omega
              have HX := hide (p := k = 0 → 0 < f → outS l f m k = []) (fun h0 _ => by subst h0; unfold outS; rw [if_pos (by omega)]; rfl)
              generalize hX : outS l f m k = X at *
              have hdl : (digs 16 x).length ≤ 4 := digs_len 16 x 4 (by decide) (by omega) (by decide)
              have hI := numText_any 16 (.inr rfl) x (by omega)
              generalize digs 16 x = D at *
              have a1 : ∀ W, (Op.stringOp .add ⟨X.toArray⟩ ⟨#[58]⟩).run Tryd.prog W = .ok (.string ⟨(X ++ [58]).toArray⟩) W := fun W => run_string_add_lists W X [58] (by omega) (by simp)
              have a2 : ∀ W, (Op.stringOp .add ⟨(X ++ [58]).toArray⟩ ⟨D.toArray⟩).run Tryd.prog W = .ok (.string ⟨(X ++ [58] ++ D).toArray⟩) W := fun W => run_string_add_lists W (X ++ [58]) D (by simp; omega) (by omega)
              have a3 : ∀ W, (Op.stringOp .add ⟨X.toArray⟩ ⟨D.toArray⟩).run Tryd.prog W = .ok (.string ⟨(X ++ D).toArray⟩) W := fun W => run_string_add_lists W X D (by omega) (by omega)
              rcases Nat.lt_or_ge k f with hlo | hhi
              · have hk3 : ((k : Int) == (f : Int) + (m : Int)) = false := by simp; omega
                by_cases hk0 : k = 0
                · have HJ' := hide (p := outS l f m (0 + 1) = D) (by have := HLO.out hlo; rw [if_pos hk0] at this; rw [← this, hk0])
                  have hX0 : X = [] := HX.out hk0 (by omega)
                  subst hk0
                  clear hX
                  go_wp2_with (go_at_call 13; refine (hI _).mono ?_; rintro e w' ⟨rfl, g2, rfl⟩)
                  go_roundw
                  case rel => exact ⟨1, by omega, by go_num, by rw [show outS l f m 1 = D from HJ'.out]; first | (subst hX0; rfl) | exact congrArg Value.string (ByteArray.mk_append_mk [] D), .inl (by omega), gr_of (by (repeat (first | exact Below.refl _ _ | assumption | apply below_alloc | apply below_grow | apply below_setCell | apply below_drew)); all_goals first | omega | (simp [go_sem]; done) | (simp [go_sem]; omega))⟩
                  case measure => simp [RowKit.intOf]
                · have HJ' := hide (p := outS l f m (k + 1) = X ++ [58] ++ D) (by have := HLO.out hlo; rw [if_neg hk0] at this; (try rw [hX] at this); exact this)
                  have hk1 : 0 < k := by omega
                  clear hX
                  go_wp2_with (go_at_call 13; refine (hI _).mono ?_; rintro e w' ⟨rfl, g2, rfl⟩)
                  go_roundw
                  case rel => exact ⟨k + 1, by omega, by go_num, by rw [HJ'.out, List.append_assoc]; rfl, .inl (by omega), gr_of (by (repeat (first | exact Below.refl _ _ | assumption | apply below_alloc | apply below_grow | apply below_setCell | apply below_drew)); all_goals first | omega | (simp [go_sem]; done) | (simp [go_sem]; omega))⟩
                  case measure => simp [RowKit.intOf]; omega
              · have hk1 : 0 < k := by omega
                have hfz : ¬ ((f : Int) < 0) := by omega
                by_cases hkm : k = f + m
                · subst hkm
                  have HJ' := hide (p := outS l f m (f + m + 1) = X ++ D) (by have := HHI.out (by omega); rw [if_pos rfl] at this; (try rw [hX] at this); exact this)
                  have hk5 : ((f : Int) + (m : Int) == (f : Int)) = false := by simp; omega
                  have hk6 : 0 < (f : Int) + (m : Int) := by omega
                  clear hX hk2
                  go_wp2_with (go_at_call 13; refine (hI _).mono ?_; rintro e w' ⟨rfl, g2, rfl⟩)
                  go_roundw
                  case rel => exact ⟨f + m + 1, by omega, by go_num, by rw [HJ'.out], .inr (by omega), gr_of (by (repeat (first | exact Below.refl _ _ | assumption | apply below_alloc | apply below_grow | apply below_setCell | apply below_drew)); all_goals first | omega | (simp [go_sem]; done) | (simp [go_sem]; omega))⟩
                  case measure => simp [RowKit.intOf]; omega
                · have HJ' := hide (p := outS l f m (k + 1) = X ++ [58] ++ D) (by have := HHI.out (by omega); rw [if_neg hkm] at this; (try rw [hX] at this); exact this)
                  have hk3 : ((k : Int) == (f : Int) + (m : Int)) = false := by simp; omega
                  clear hX
                  go_wp2_with (go_at_call 13; refine (hI _).mono ?_; rintro e w' ⟨rfl, g2, rfl⟩)
                  go_roundw
                  case rel => exact ⟨k + 1, by omega, by go_num, by rw [HJ'.out, List.append_assoc]; rfl, .inr (by omega), gr_of (by (repeat (first | exact Below.refl _ _ | assumption | apply below_alloc | apply below_grow | apply below_setCell | apply below_drew)); all_goals first | omega | (simp [go_sem]; done) | (simp [go_sem]; omega))⟩
                  case measure => simp [RowKit.intOf]; omega
          · obtain rfl : k = 8 := by omega
            go_wp2_with fail
            go_ret2
            exact ret_eq (by rw [HS.out]; rfl) (hB1.out.trans (g.2.mono hB1.out.size))
end Go.Proofs.YtpeojbaepbdmjaaDoor
