/-
  Walks of addr.Of and addr.Text. Conditions: the words of an address are 64-bit numbers; the tables of the library hold what their text says.
-/
import Derived.Test.YtpeojbaepbdmjaaDoorOf
namespace Go.Proofs.YtpeojbaepbdmjaaDoor
open Go.RowKit Go.Lib
set_option maxHeartbeats 1600000
set_option maxRecDepth 100000

def grpL (hi lo : Nat) : List Nat := (List.range 8).map (grp hi lo)
theorem grpL_c (hi lo : Nat) : grpC hi lo 4 = ((grpL hi lo).map u64v).toArray := rfl
theorem grpL_lt (hi lo : Nat) : ∀ x ∈ grpL hi lo, x < 65536 := fun x hx => by
  obtain ⟨i, _, rfl⟩ := List.mem_map.1 hx
  unfold grp
  omega
theorem zc_le : ∀ l : List Nat, zc l ≤ l.length
  | [] => by simp [zc]
  | x :: r => by
    have := zc_le r
    unfold zc
    split <;> simp <;> omega
theorem runS_le (l : List Nat) (k : Nat) (hk : k ≤ l.length) : (runS l k).1 + (runS l k).2 ≤ l.length := by
  induction k with
  | zero => simp [runS]
  | succ k ih =>
    have ih := ih (by omega)
    unfold runS
    split
    · have := zc_le (l.drop k)
      rw [List.length_drop] at this
      simp only
      omega
    · exact ih
theorem runR_le (l : List Nat) (hl : l.length = 8) : (runR l).1 + (runR l).2 ≤ 8 := by
  unfold runR
  split
  · simp
  · have := runS_le l 8 (by omega)
    omega
def sixT (l : List Nat) : List UInt8 := if (runR l).2 = 0 then hexT l else hexT (l.take (runR l).1) ++ [58, 58] ++ hexT (l.drop ((runR l).1 + (runR l).2))
def ofT (six : Bool) (hi lo : Nat) : List UInt8 := if six then sixT (grpL hi lo) else dotT lo
theorem groups_lit (six : Bool) (hi lo : Nat) (w : World) (h1 : hi < 18446744073709551616) (h2 : lo < 18446744073709551616) :
    Calls Tryd.prog 19 #[.agg #[.bool six, .int .u64 hi, .int .u64 lo]] w (Ret (.agg #[.int .u64 (grp hi lo 0 : Nat), .int .u64 (grp hi lo 1 : Nat), .int .u64 (grp hi lo 2 : Nat), .int .u64 (grp hi lo 3 : Nat), .int .u64 (grp hi lo 4 : Nat), .int .u64 (grp hi lo 5 : Nat), .int .u64 (grp hi lo 6 : Nat), .int .u64 (grp hi lo 7 : Nat)]) w) := groups_any six hi lo w h1 h2
theorem run_lit (hi lo f m : Nat) (w : World) (h : runR (grpL hi lo) = (f, m)) : Calls Tryd.prog 20 #[.agg #[.int .u64 (grp hi lo 0 : Nat), .int .u64 (grp hi lo 1 : Nat), .int .u64 (grp hi lo 2 : Nat), .int .u64 (grp hi lo 3 : Nat), .int .u64 (grp hi lo 4 : Nat), .int .u64 (grp hi lo 5 : Nat), .int .u64 (grp hi lo 6 : Nat), .int .u64 (grp hi lo 7 : Nat)]] w (Ret (.tuple #[.int .i64 f, .int .i64 m]) w) := by
  have := run_any (grpL hi lo) w (by simp [grpL])
  rw [h] at this
  exact this
theorem heap_lit (hi lo : Nat) (w : World) (b : Nat) (h : b = w.heap.size) : (w.alloc (.cells #[.int .u64 (grp hi lo 0 : Nat), .int .u64 (grp hi lo 1 : Nat), .int .u64 (grp hi lo 2 : Nat), .int .u64 (grp hi lo 3 : Nat), .int .u64 (grp hi lo 4 : Nat), .int .u64 (grp hi lo 5 : Nat), .int .u64 (grp hi lo 6 : Nat), .int .u64 (grp hi lo 7 : Nat)] 43)).heap[b]? = some (.cells ((grpL hi lo).map u64v).toArray 43 (0, 0)) := hx_new h
theorem cells_lit {hi lo : Nat} {w W : World} {b o : Nat} (h : w.heap[b]? = some (.cells ((grpL hi lo).map u64v).toArray 43 (0, 0))) (l : List Nat) (hl : ∀ j x, l[j]? = some x → (grpL hi lo)[o + j]? = some x) (hB : Below w.heap.size w W) : ∀ j x, l[j]? = some x → W.cell? ⟨b, o + j, none⟩ = some (.int .u64 (x : Nat)) := by
  intro j x hx
  have hlt : b < w.heap.size := by
    rcases Nat.lt_or_ge b w.heap.size with h' | h'
    · exact h'
    · rw [Array.getElem?_eq_none h'] at h; cases h
  refine (hB.cell (p := ⟨b, o + j, none⟩) hlt).trans ((cell_of_row w b (o + j) _ _ (0, 0) h).trans ?_)
  simp [hl j x hx, u64v]
theorem of_six (hi lo : Nat) (w : World) (h1 : hi < 18446744073709551616) (h2 : lo < 18446744073709551616) (hT : Tabs w) :
    Calls Tryd.prog 10 #[.agg #[.bool true, .int .u64 hi, .int .u64 lo]] w (Ret (strV (sixT (grpL hi lo))) w) := by
  have HT := hide hT
  have hle := runR_le (grpL hi lo) (by simp [grpL])
  obtain ⟨f, m, hfm⟩ : ∃ f m, runR (grpL hi lo) = (f, m) := ⟨_, _, rfl⟩
  rw [hfm] at hle
  simp only at hle
  have HL := hide (grpL_lt hi lo)
  have hlen : (grpL hi lo).length = 8 := by simp [grpL]
  have hslh : ∀ b W, (Instr.sliceAt 43 (.pointer (some ⟨b, 0, none⟩)) none (some (.int .i64 (f : Nat))) none).run Tryd.prog W = .ok (.slice (some ⟨b, 0, none⟩) f 8) W := fun b W => by
    have hal : Tryd.prog.arrayLen 43 = 8 := by kernel_rfl
    rw [run_sliceAt_array_h W 43 ⟨b, 0, none⟩ (by kernel_rfl) .i64 (f : Nat) (by omega) (by rw [hal]; omega)]
    go_simp
  obtain ⟨o, ho⟩ : ∃ o, o = if f + m = 8 then 0 else f + m := ⟨_, rfl⟩
  have hsll : ∀ b W, (Instr.sliceAt 43 (.pointer (some ⟨b, 0, none⟩)) (some (.int .i64 ((f : Nat) + (m : Nat)))) none none).run Tryd.prog W = .ok (.slice (some ⟨b, o, none⟩) (8 - (f + m)) (8 - (f + m))) W := fun b W => by
    have hal : Tryd.prog.arrayLen 43 = 8 := by kernel_rfl
    rw [run_sliceAt_array_l W 43 ⟨b, 0, none⟩ (by kernel_rfl) .i64 ((f : Nat) + (m : Nat)) (by omega) (by rw [hal]; omega)]
    have e : ((f : Int) + (m : Int)).toNat = f + m := by omega
    go_simp
    by_cases h8 : f + m = 8
    · simp [h8]
    · rw [if_neg (fun e => h8 e.symm), if_neg h8]
  have hif : ∀ b, (if 8 = f + m then (⟨b, 0, none⟩ : Addr) else ⟨b, f + m, none⟩) = ⟨b, o, none⟩ := fun b => by
    by_cases h8 : f + m = 8
    · simp [ho, h8]
    · rw [if_neg (fun e => h8 e.symm), ho, if_neg h8]
  have HO := hide ho
  clear ho hif
  have hRL := fun w => run_lit hi lo f m w hfm
  by_cases hm : m = 0
  · have HS := hide (p := sixT (grpL hi lo) = hexT (grpL hi lo)) (by unfold sixT; rw [hfm, if_pos hm])
    clear hT hfm
    subst hm
    go_enter Tryd.func10, Tryd.ntmps10
    go_wp2_with (first | (go_at_call 19; refine (groups_lit true hi lo _ h1 h2).mono ?_; rintro e w' ⟨rfl, ga, rfl⟩) | (go_at_call 20; refine (hRL _).mono ?_; rintro e w' ⟨rfl, gb, rfl⟩))
    refine (hex_any _ 0 8 8 (grpL hi lo) _ hlen (by decide) (by decide) (by simp [go_sem]; omega) (cells_lit (w := ((grow (w.alloc (.cells #[.bool true, .int .u64 hi, .int .u64 lo] 24)) ga).alloc (.cells #[.int .u64 (grp hi lo 0 : Nat), .int .u64 (grp hi lo 1 : Nat), .int .u64 (grp hi lo 2 : Nat), .int .u64 (grp hi lo 3 : Nat), .int .u64 (grp hi lo 4 : Nat), .int .u64 (grp hi lo 5 : Nat), .int .u64 (grp hi lo 6 : Nat), .int .u64 (grp hi lo 7 : Nat)] 43))) (heap_lit hi lo _ _ (by simp [go_sem])) _ (fun j x h => by simpa using h) (by (repeat (first | exact Below.refl _ _ | assumption | apply below_alloc | apply below_grow | apply below_setCell | apply below_drew)); all_goals first | omega | (simp [go_sem]; done) | (simp [go_sem]; omega))) HL.out (HT.out.2 _ (by (repeat (first | exact Below.refl _ _ | assumption | apply below_alloc | apply below_grow | apply below_setCell | apply below_drew)); all_goals first | omega | (simp [go_sem]; done) | (simp [go_sem]; omega))).1 (by have := HT.out.1; simp [go_sem]; omega)).mono ?_
    rintro e w' ⟨rfl, g3, rfl⟩
    go_wp2_with fail
    go_ret
    exact ret_eq (by rw [HS.out]; rfl) (by (repeat (first | exact Below.refl _ _ | assumption | apply below_alloc | apply below_grow | apply below_setCell | apply below_drew)); all_goals first | omega | (simp [go_sem]; done) | (simp [go_sem]; omega))
  · have HS := hide (p := sixT (grpL hi lo) = hexT ((grpL hi lo).take f) ++ [58, 58] ++ hexT ((grpL hi lo).drop (f + m))) (by unfold sixT; rw [hfm, if_neg hm])
    have hm0 : ((m : Int) == 0) = false := by simpa using hm
    clear hT hfm
    go_enter Tryd.func10, Tryd.ntmps10
    go_wp2_with (first | (go_at_call 19; refine (groups_lit true hi lo _ h1 h2).mono ?_; rintro e w' ⟨rfl, ga, rfl⟩) | (go_at_call 20; refine (hRL _).mono ?_; rintro e w' ⟨rfl, gb, rfl⟩))
    have hH1 : ∀ W, Below ((grow (w.alloc (.cells #[.bool true, .int .u64 hi, .int .u64 lo] 24)) ga).alloc (.cells #[.int .u64 (grp hi lo 0 : Nat), .int .u64 (grp hi lo 1 : Nat), .int .u64 (grp hi lo 2 : Nat), .int .u64 (grp hi lo 3 : Nat), .int .u64 (grp hi lo 4 : Nat), .int .u64 (grp hi lo 5 : Nat), .int .u64 (grp hi lo 6 : Nat), .int .u64 (grp hi lo 7 : Nat)] 43)).heap.size ((grow (w.alloc (.cells #[.bool true, .int .u64 hi, .int .u64 lo] 24)) ga).alloc (.cells #[.int .u64 (grp hi lo 0 : Nat), .int .u64 (grp hi lo 1 : Nat), .int .u64 (grp hi lo 2 : Nat), .int .u64 (grp hi lo 3 : Nat), .int .u64 (grp hi lo 4 : Nat), .int .u64 (grp hi lo 5 : Nat), .int .u64 (grp hi lo 6 : Nat), .int .u64 (grp hi lo 7 : Nat)] 43)) W → Calls Tryd.prog 21 #[.slice (some ⟨w.heap.size + 1 + more ga, 0, none⟩) f 8] W (Ret (.string ⟨(hexT ((grpL hi lo).take f)).toArray⟩) W) := fun W hB =>
      hex_any _ 0 f 8 ((grpL hi lo).take f) _ (by simp [hlen]; omega) (by omega) (by omega) (by have := hB.size; simp [go_sem] at this; omega) (cells_lit (w := ((grow (w.alloc (.cells #[.bool true, .int .u64 hi, .int .u64 lo] 24)) ga).alloc (.cells #[.int .u64 (grp hi lo 0 : Nat), .int .u64 (grp hi lo 1 : Nat), .int .u64 (grp hi lo 2 : Nat), .int .u64 (grp hi lo 3 : Nat), .int .u64 (grp hi lo 4 : Nat), .int .u64 (grp hi lo 5 : Nat), .int .u64 (grp hi lo 6 : Nat), .int .u64 (grp hi lo 7 : Nat)] 43))) (heap_lit hi lo _ _ (by simp [go_sem])) _ (fun j x h => by
        rw [Nat.zero_add]
        have hj := (List.getElem?_eq_some_iff.1 h).1
        rw [List.length_take] at hj
        rwa [List.getElem?_take_of_lt (by omega)] at h) hB) (fun x hx => HL.out x (List.mem_of_mem_take hx)) (HT.out.2 _ (Below.trans (b := ((grow (w.alloc (.cells #[.bool true, .int .u64 hi, .int .u64 lo] 24)) ga).alloc (.cells #[.int .u64 (grp hi lo 0 : Nat), .int .u64 (grp hi lo 1 : Nat), .int .u64 (grp hi lo 2 : Nat), .int .u64 (grp hi lo 3 : Nat), .int .u64 (grp hi lo 4 : Nat), .int .u64 (grp hi lo 5 : Nat), .int .u64 (grp hi lo 6 : Nat), .int .u64 (grp hi lo 7 : Nat)] 43))) (by (repeat (first | exact Below.refl _ _ | assumption | apply below_alloc | apply below_grow | apply below_setCell | apply below_drew)); all_goals first | omega | (simp [go_sem]; done) | (simp [go_sem]; omega)) (hB.mono (by simp [go_sem]; omega)))).1 (by have := HT.out.1; have := hB.size; simp [go_sem] at this; omega)
    have hH2 : ∀ W, Below ((grow (w.alloc (.cells #[.bool true, .int .u64 hi, .int .u64 lo] 24)) ga).alloc (.cells #[.int .u64 (grp hi lo 0 : Nat), .int .u64 (grp hi lo 1 : Nat), .int .u64 (grp hi lo 2 : Nat), .int .u64 (grp hi lo 3 : Nat), .int .u64 (grp hi lo 4 : Nat), .int .u64 (grp hi lo 5 : Nat), .int .u64 (grp hi lo 6 : Nat), .int .u64 (grp hi lo 7 : Nat)] 43)).heap.size ((grow (w.alloc (.cells #[.bool true, .int .u64 hi, .int .u64 lo] 24)) ga).alloc (.cells #[.int .u64 (grp hi lo 0 : Nat), .int .u64 (grp hi lo 1 : Nat), .int .u64 (grp hi lo 2 : Nat), .int .u64 (grp hi lo 3 : Nat), .int .u64 (grp hi lo 4 : Nat), .int .u64 (grp hi lo 5 : Nat), .int .u64 (grp hi lo 6 : Nat), .int .u64 (grp hi lo 7 : Nat)] 43)) W → Calls Tryd.prog 21 #[.slice (some ⟨w.heap.size + 1 + more ga, o, none⟩) (8 - (f + m)) (8 - (f + m))] W (Ret (.string ⟨(hexT ((grpL hi lo).drop (f + m))).toArray⟩) W) := fun W hB =>
      hex_any _ o _ _ ((grpL hi lo).drop (f + m)) _ (by simp [hlen]) (by omega) (by omega) (by have := hB.size; simp [go_sem] at this; omega) (cells_lit (w := ((grow (w.alloc (.cells #[.bool true, .int .u64 hi, .int .u64 lo] 24)) ga).alloc (.cells #[.int .u64 (grp hi lo 0 : Nat), .int .u64 (grp hi lo 1 : Nat), .int .u64 (grp hi lo 2 : Nat), .int .u64 (grp hi lo 3 : Nat), .int .u64 (grp hi lo 4 : Nat), .int .u64 (grp hi lo 5 : Nat), .int .u64 (grp hi lo 6 : Nat), .int .u64 (grp hi lo 7 : Nat)] 43))) (heap_lit hi lo _ _ (by simp [go_sem])) _ (fun j x h => by
        rw [List.getElem?_drop] at h
        have hj := (List.getElem?_eq_some_iff.1 h).1
        rw [HO.out, if_neg (by omega)]
        exact h) hB) (fun x hx => HL.out x (List.mem_of_mem_drop hx)) (HT.out.2 _ (Below.trans (b := ((grow (w.alloc (.cells #[.bool true, .int .u64 hi, .int .u64 lo] 24)) ga).alloc (.cells #[.int .u64 (grp hi lo 0 : Nat), .int .u64 (grp hi lo 1 : Nat), .int .u64 (grp hi lo 2 : Nat), .int .u64 (grp hi lo 3 : Nat), .int .u64 (grp hi lo 4 : Nat), .int .u64 (grp hi lo 5 : Nat), .int .u64 (grp hi lo 6 : Nat), .int .u64 (grp hi lo 7 : Nat)] 43))) (by (repeat (first | exact Below.refl _ _ | assumption | apply below_alloc | apply below_grow | apply below_setCell | apply below_drew)); all_goals first | omega | (simp [go_sem]; done) | (simp [go_sem]; omega)) (hB.mono (by simp [go_sem]; omega)))).1 (by have := HT.out.1; have := hB.size; simp [go_sem] at this; omega)
    have lx : (hexT ((grpL hi lo).take f)).length ≤ 1000 := by
      have := hexT_len ((grpL hi lo).take f) (fun x hx => HL.out x (List.mem_of_mem_take hx))
      rw [List.length_take] at this
      omega
    have ly : (hexT ((grpL hi lo).drop (f + m))).length ≤ 1000 := by
      have := hexT_len ((grpL hi lo).drop (f + m)) (fun x hx => HL.out x (List.mem_of_mem_drop hx))
      rw [List.length_drop] at this
      omega
    generalize hexT ((grpL hi lo).take f) = x at *
    generalize hexT ((grpL hi lo).drop (f + m)) = y at *
    have a1 : ∀ W, (Op.stringOp .add ⟨x.toArray⟩ ⟨#[58, 58]⟩).run Tryd.prog W = .ok (.string ⟨(x ++ [58, 58]).toArray⟩) W := fun W => run_string_add_lists W x [58, 58] (by omega) (by simp)
    have a2 : ∀ W, (Op.stringOp .add ⟨(x ++ [58, 58]).toArray⟩ ⟨y.toArray⟩).run Tryd.prog W = .ok (.string ⟨(x ++ [58, 58] ++ y).toArray⟩) W := fun W => run_string_add_lists W (x ++ [58, 58]) y (by simp; omega) (by omega)
    have hG1 := fun G : Gr (grow ((grow (w.alloc (.cells #[.bool true, .int .u64 hi, .int .u64 lo] 24)) ga).alloc (.cells #[.int .u64 (grp hi lo 0 : Nat), .int .u64 (grp hi lo 1 : Nat), .int .u64 (grp hi lo 2 : Nat), .int .u64 (grp hi lo 3 : Nat), .int .u64 (grp hi lo 4 : Nat), .int .u64 (grp hi lo 5 : Nat), .int .u64 (grp hi lo 6 : Nat), .int .u64 (grp hi lo 7 : Nat)] 43)) gb) => hH1 (grow (grow ((grow (w.alloc (.cells #[.bool true, .int .u64 hi, .int .u64 lo] 24)) ga).alloc (.cells #[.int .u64 (grp hi lo 0 : Nat), .int .u64 (grp hi lo 1 : Nat), .int .u64 (grp hi lo 2 : Nat), .int .u64 (grp hi lo 3 : Nat), .int .u64 (grp hi lo 4 : Nat), .int .u64 (grp hi lo 5 : Nat), .int .u64 (grp hi lo 6 : Nat), .int .u64 (grp hi lo 7 : Nat)] 43)) gb) G) (gb.2.trans (G.2.mono gb.2.size))
    have hG2 := fun G : Gr (grow ((grow (w.alloc (.cells #[.bool true, .int .u64 hi, .int .u64 lo] 24)) ga).alloc (.cells #[.int .u64 (grp hi lo 0 : Nat), .int .u64 (grp hi lo 1 : Nat), .int .u64 (grp hi lo 2 : Nat), .int .u64 (grp hi lo 3 : Nat), .int .u64 (grp hi lo 4 : Nat), .int .u64 (grp hi lo 5 : Nat), .int .u64 (grp hi lo 6 : Nat), .int .u64 (grp hi lo 7 : Nat)] 43)) gb) => hH2 (grow (grow ((grow (w.alloc (.cells #[.bool true, .int .u64 hi, .int .u64 lo] 24)) ga).alloc (.cells #[.int .u64 (grp hi lo 0 : Nat), .int .u64 (grp hi lo 1 : Nat), .int .u64 (grp hi lo 2 : Nat), .int .u64 (grp hi lo 3 : Nat), .int .u64 (grp hi lo 4 : Nat), .int .u64 (grp hi lo 5 : Nat), .int .u64 (grp hi lo 6 : Nat), .int .u64 (grp hi lo 7 : Nat)] 43)) gb) G) (gb.2.trans (G.2.mono gb.2.size))
    clear hH1 hH2
    (refine wp_region_grow (by kernel_rfl) (by kernel_rfl) ?_; (repeat (go_big_quiet_step ((first | (go_at_call 21; with_reducible exact gr_ret (hG1 _)) | (go_at_call 21; with_reducible exact gr_ret (hG2 _)))))); refine wpQuiet_nil ?_; rintro _ ⟨gq, rfl⟩)
    go_wp2_with fail
    go_ret
    exact ret_eq (by rw [HS.out, List.append_assoc]; rfl) (by (repeat (first | exact Below.refl _ _ | assumption | apply below_alloc | apply below_grow | apply below_setCell | apply below_drew)); all_goals first | omega | (simp [go_sem]; done) | (simp [go_sem]; omega))
theorem of_any (six : Bool) (hi lo : Nat) (w : World) (h1 : hi < 18446744073709551616) (h2 : lo < 18446744073709551616) (hT : Tabs w) :
    Calls Tryd.prog 10 #[.agg #[.bool six, .int .u64 hi, .int .u64 lo]] w (Ret (strV (ofT six hi lo)) w) := by
  cases six
  · exact of_four hi lo w h2 hT
  · exact of_six hi lo w h1 h2 hT
theorem text_any (six : Bool) (hi lo : Nat) (w : World) (h1 : hi < 18446744073709551616) (h2 : lo < 18446744073709551616) (hT : Tabs w) :
    Calls Tryd.prog 5 #[.agg #[.bool six, .int .u64 hi, .int .u64 lo]] w (Ret (if Ad.may ⟨six, hi, lo⟩ then .tuple #[strV (ofT six hi lo), .int .i64 0] else .tuple #[strV [], .int .i64 4]) w) := by
  have HT := hide hT
  clear hT
  rcases hm : Ad.may ⟨six, hi, lo⟩ with _ | _
  · go_enter Tryd.func5, Tryd.ntmps5
    go_wp2_with (go_at_call 9; refine (ret_mono (may_any _ _ _ _) (congrArg Value.bool hm)).mono ?_; rintro e w' ⟨rfl, g, rfl⟩)
    go_ret2
    exact ret_eq rfl (by (repeat (first | exact Below.refl _ _ | assumption | apply below_alloc | apply below_grow | apply below_setCell | apply below_drew)); all_goals first | omega | (simp [go_sem]; done) | (simp [go_sem]; omega))
  · go_enter Tryd.func5, Tryd.ntmps5
    go_wp2_with (first | (go_at_call 9; refine (ret_mono (may_any _ _ _ _) (congrArg Value.bool hm)).mono ?_; rintro e w' ⟨rfl, g, rfl⟩) | (go_at_call 10; refine (of_any _ _ _ _ h1 h2 (HT.out.on (by (repeat (first | exact Below.refl _ _ | assumption | apply below_alloc | apply below_grow | apply below_setCell | apply below_drew)); all_goals first | omega | (simp [go_sem]; done) | (simp [go_sem]; omega)))).mono ?_; rintro e w' ⟨rfl, g2, rfl⟩))
    go_ret2
    exact ret_eq rfl (by (repeat (first | exact Below.refl _ _ | assumption | apply below_alloc | apply below_grow | apply below_setCell | apply below_drew)); all_goals first | omega | (simp [go_sem]; done) | (simp [go_sem]; omega))
end Go.Proofs.YtpeojbaepbdmjaaDoor
