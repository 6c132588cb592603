/-
  Walk of addr.groups. Conditions: the words of an address are 64-bit numbers.
-/
import Derived.Test.YtpeojbaepbdmjaaDoorText
import Derived.Test.YtpeojbaepbdmjaaDoorPre
import Derived.Deep.RegionHeld3
namespace Go.Proofs.YtpeojbaepbdmjaaDoor
open Go.RowKit
set_option maxHeartbeats 1600000
set_option maxRecDepth 100000

def u64v (n : Nat) : Value := .int .u64 (n : Nat)
/-- A group of 16 bits. -/
def grp (hi lo : Nat) (i : Nat) : Nat := (if i < 4 then hi / 2 ^ (48 - 16 * i) else lo / 2 ^ (48 - 16 * (i - 4))) % 65536
def grpC (hi lo : Nat) (k : Nat) : Array Value := ((List.range 8).map fun j => if j < k ∨ (4 ≤ j ∧ j < 4 + k) then u64v (grp hi lo j) else .int .u64 0).toArray
def zeros8 : Array Value := #[.int .u64 0, .int .u64 0, .int .u64 0, .int .u64 0, .int .u64 0, .int .u64 0, .int .u64 0, .int .u64 0]
def GrpAt (six : Bool) (hi lo : Nat) (w : World) (k : Nat) (wr : World) : Prop :=
  Below w.heap.size w wr ∧ wr.heap[w.heap.size]? = some (.cells #[.bool six, .int .u64 hi, .int .u64 lo] 24 (0, 0)) ∧ wr.heap[w.heap.size + 1]? = some (.cells zeros8 43 (0, 0)) ∧ wr.heap[w.heap.size + 1 + 1]? = some (.cells (grpC hi lo k) 43 (0, 0))
theorem mask16 (n : Nat) (hn : n < 18446744073709551616) : bits .and .u64 (n : Int) 65535 = ((n % 65536 : Nat) : Int) := by
  rw [show n % 65536 = n &&& 65535 from (Nat.and_two_pow_sub_one_eq_mod n 16).symm]
  exact u64_and_nat n 65535 hn (by decide)
theorem mask16d (n d : Nat) (hn : n < 18446744073709551616) : bits .and .u64 ((n : Int) / (d : Nat)) 65535 = ((n / d % 65536 : Nat) : Int) := by
  rw [← Int.natCast_ediv]
  exact mask16 _ (Nat.lt_of_le_of_lt (Nat.div_le_self _ _) hn)
theorem grp_s0 (hi lo : Nat) (h1 : hi < 18446744073709551616) (h2 : lo < 18446744073709551616) :
    ((grpC hi lo 0).setIfInBounds 0 (.int .u64 (bits .and .u64 ((hi : Int) / 281474976710656) 65535))).setIfInBounds 4 (.int .u64 (bits .and .u64 ((lo : Int) / 281474976710656) 65535)) = grpC hi lo 1 := by
  have e1 := h1
  have e2 := h2
  rw [show ((hi : Int) / 281474976710656) = ((hi / 281474976710656 : Nat) : Int) by omega, show ((lo : Int) / 281474976710656) = ((lo / 281474976710656 : Nat) : Int) by omega, mask16 _ (by omega), mask16 _ (by omega)]
  rfl
theorem grp_s1 (hi lo : Nat) (h1 : hi < 18446744073709551616) (h2 : lo < 18446744073709551616) :
    ((grpC hi lo 1).setIfInBounds 1 (.int .u64 (bits .and .u64 ((hi : Int) / 4294967296) 65535))).setIfInBounds 5 (.int .u64 (bits .and .u64 ((lo : Int) / 4294967296) 65535)) = grpC hi lo 2 := by
  have e1 := h1
  have e2 := h2
  rw [show ((hi : Int) / 4294967296) = ((hi / 4294967296 : Nat) : Int) by omega, show ((lo : Int) / 4294967296) = ((lo / 4294967296 : Nat) : Int) by omega, mask16 _ (by omega), mask16 _ (by omega)]
  rfl
theorem grp_s2 (hi lo : Nat) (h1 : hi < 18446744073709551616) (h2 : lo < 18446744073709551616) :
    ((grpC hi lo 2).setIfInBounds 2 (.int .u64 (bits .and .u64 ((hi : Int) / 65536) 65535))).setIfInBounds 6 (.int .u64 (bits .and .u64 ((lo : Int) / 65536) 65535)) = grpC hi lo 3 := by
  have e1 := h1
  have e2 := h2
  rw [show ((hi : Int) / 65536) = ((hi / 65536 : Nat) : Int) by omega, show ((lo : Int) / 65536) = ((lo / 65536 : Nat) : Int) by omega, mask16 _ (by omega), mask16 _ (by omega)]
  rfl
theorem grp_s3 (hi lo : Nat) (h1 : hi < 18446744073709551616) (h2 : lo < 18446744073709551616) :
    ((grpC hi lo 3).setIfInBounds 3 (.int .u64 (bits .and .u64 ((hi : Int)) 65535))).setIfInBounds 7 (.int .u64 (bits .and .u64 ((lo : Int)) 65535)) = grpC hi lo 4 := by
  have e1 := h1
  have e2 := h2
  rw [show ((hi : Int)) = ((hi : Nat) : Int) by omega, show ((lo : Int)) = ((lo : Nat) : Int) by omega, mask16 _ (by omega), mask16 _ (by omega)]
  rw [show hi % 65536 = hi / 2 ^ 0 % 65536 by simp, show lo % 65536 = lo / 2 ^ 0 % 65536 by simp]
  rfl
theorem hx_ne {w : World} {b c i : Nat} {v : Value} {o : Obj} (h : w.heap[b]? = some o) (hne : b ≠ c) : (w.setCell ⟨c, i, none⟩ v).heap[b]? = some o := (Below.heap_setCell _ _ _ _ hne).trans h
theorem hx_new {w : World} {o : Obj} {b : Nat} (h : b = w.heap.size) : (w.alloc o).heap[b]? = some o := by subst h; exact heap_alloc_new w o
theorem groups_any (six : Bool) (hi lo : Nat) (w : World) (h1 : hi < 18446744073709551616) (h2 : lo < 18446744073709551616) :
    Calls Tryd.prog 19 #[.agg #[.bool six, .int .u64 hi, .int .u64 lo]] w (Ret (.agg (grpC hi lo 4)) w) := by
  go_enter Tryd.func19, Tryd.ntmps19
  go_wp2_with fail
  go_loopw [5] (fun i wr => ∃ k : Nat, k ≤ 4 ∧ i = .int .i64 k ∧ GrpAt six hi lo w k wr) (fun i _ => 4 - (RowKit.intOf i).toNat)
  case atStart => exact ⟨0, by omega, rfl, (by (repeat (first | exact Below.refl _ _ | assumption | apply below_alloc | apply below_grow | apply below_setCell | apply below_drew)); all_goals first | omega | (simp [go_sem]; done) | (simp [go_sem]; omega)), hx_old (n := w.heap.size + 1) (w := w.alloc (.cells #[.bool six, .int .u64 hi, .int .u64 lo] 24)) (by (repeat (first | exact Below.refl _ _ | assumption | apply below_alloc | apply below_grow | apply below_setCell | apply below_drew)); all_goals first | omega | (simp [go_sem]; done) | (simp [go_sem]; omega)) (by omega) (heap_alloc_new w _), hx_old (n := (w.alloc (.cells #[.bool six, .int .u64 hi, .int .u64 lo] 24)).heap.size + 1) (w := (w.alloc (.cells #[.bool six, .int .u64 hi, .int .u64 lo] 24)).alloc (.cells zeros8 43)) (by (repeat (first | exact Below.refl _ _ | assumption | apply below_alloc | apply below_grow | apply below_setCell | apply below_drew)); all_goals first | omega | (simp [go_sem]; done) | (simp [go_sem]; omega)) (by simp) (hx_new (by simp)), hx_new (by simp)⟩
  case round =>
    obtain ⟨k, hk, rfl, hB, ha, hr, ho⟩ := hrel
    have c1 : wr.cell? ⟨w.heap.size, 1, none⟩ = some (.int .u64 hi) := cell_of_row wr w.heap.size 1 _ _ (0, 0) ha
    have c2 : wr.cell? ⟨w.heap.size, 2, none⟩ = some (.int .u64 lo) := cell_of_row wr w.heap.size 2 _ _ (0, 0) ha
    have hfr : ∀ j, wr.frozen? ⟨w.heap.size + 1 + 1, j, none⟩ = false := fun j => by simp [World.frozen?, ho]
    have HH := hide (And.intro hB (And.intro ha (And.intro hr ho)))
    have hoc : ∀ j, wr.cell? ⟨w.heap.size + 1 + 1, j, none⟩ = (grpC hi lo k)[j]? := fun j => cell_of_row wr (w.heap.size + 1 + 1) j _ _ (0, 0) ho
    clear hB ha hr
    clear ho
    rcases (show k = 4 ∨ k = 0 ∨ k = 1 ∨ k = 2 ∨ k = 3 by omega) with rfl | rfl | rfl | rfl | rfl
    · have o0 : wr.cell? ⟨w.heap.size + 1 + 1, 0, none⟩ = some (.int .u64 (grp hi lo 0 : Nat)) := hoc 0
      have o1 : wr.cell? ⟨w.heap.size + 1 + 1, 1, none⟩ = some (.int .u64 (grp hi lo 1 : Nat)) := hoc 1
      have o2 : wr.cell? ⟨w.heap.size + 1 + 1, 2, none⟩ = some (.int .u64 (grp hi lo 2 : Nat)) := hoc 2
      have o3 : wr.cell? ⟨w.heap.size + 1 + 1, 3, none⟩ = some (.int .u64 (grp hi lo 3 : Nat)) := hoc 3
      have o4 : wr.cell? ⟨w.heap.size + 1 + 1, 4, none⟩ = some (.int .u64 (grp hi lo 4 : Nat)) := hoc 4
      have o5 : wr.cell? ⟨w.heap.size + 1 + 1, 5, none⟩ = some (.int .u64 (grp hi lo 5 : Nat)) := hoc 5
      have o6 : wr.cell? ⟨w.heap.size + 1 + 1, 6, none⟩ = some (.int .u64 (grp hi lo 6 : Nat)) := hoc 6
      have o7 : wr.cell? ⟨w.heap.size + 1 + 1, 7, none⟩ = some (.int .u64 (grp hi lo 7 : Nat)) := hoc 7
      have hr := HH.out.2.2.1
      have r0 : wr.cell? ⟨w.heap.size + 1, 0, none⟩ = some (.int .u64 0) := cell_of_row wr (w.heap.size + 1) 0 _ _ (0, 0) hr
      have r1 : wr.cell? ⟨w.heap.size + 1, 1, none⟩ = some (.int .u64 0) := cell_of_row wr (w.heap.size + 1) 1 _ _ (0, 0) hr
      have r2 : wr.cell? ⟨w.heap.size + 1, 2, none⟩ = some (.int .u64 0) := cell_of_row wr (w.heap.size + 1) 2 _ _ (0, 0) hr
      have r3 : wr.cell? ⟨w.heap.size + 1, 3, none⟩ = some (.int .u64 0) := cell_of_row wr (w.heap.size + 1) 3 _ _ (0, 0) hr
      have r4 : wr.cell? ⟨w.heap.size + 1, 4, none⟩ = some (.int .u64 0) := cell_of_row wr (w.heap.size + 1) 4 _ _ (0, 0) hr
      have r5 : wr.cell? ⟨w.heap.size + 1, 5, none⟩ = some (.int .u64 0) := cell_of_row wr (w.heap.size + 1) 5 _ _ (0, 0) hr
      have r6 : wr.cell? ⟨w.heap.size + 1, 6, none⟩ = some (.int .u64 0) := cell_of_row wr (w.heap.size + 1) 6 _ _ (0, 0) hr
      have r7 : wr.cell? ⟨w.heap.size + 1, 7, none⟩ = some (.int .u64 0) := cell_of_row wr (w.heap.size + 1) 7 _ _ (0, 0) hr
      have rf : ∀ j, wr.frozen? ⟨w.heap.size + 1, j, none⟩ = false := fun j => by simp [World.frozen?, hr]
      clear hr hoc
      go_wp2_with fail
      have hBB : Below w.heap.size w ((((((((wr.setCell ⟨w.heap.size + 1, 0, none⟩ (.int .u64 (grp hi lo 0 : Nat))).setCell ⟨w.heap.size + 1, 1, none⟩ (.int .u64 (grp hi lo 1 : Nat))).setCell ⟨w.heap.size + 1, 2, none⟩ (.int .u64 (grp hi lo 2 : Nat))).setCell ⟨w.heap.size + 1, 3, none⟩ (.int .u64 (grp hi lo 3 : Nat))).setCell ⟨w.heap.size + 1, 4, none⟩ (.int .u64 (grp hi lo 4 : Nat))).setCell ⟨w.heap.size + 1, 5, none⟩ (.int .u64 (grp hi lo 5 : Nat))).setCell ⟨w.heap.size + 1, 6, none⟩ (.int .u64 (grp hi lo 6 : Nat))).setCell ⟨w.heap.size + 1, 7, none⟩ (.int .u64 (grp hi lo 7 : Nat))) := (below_setCell (below_setCell (below_setCell (below_setCell (below_setCell (below_setCell (below_setCell (below_setCell HH.out.1 (by omega)) (by omega)) (by omega)) (by omega)) (by omega)) (by omega)) (by omega)) (by omega))
      refine bodyPost_ret (v := .agg (grpC hi lo 4)) ?_ rfl (ret_of hBB)
      have hf : ((((((((wr.setCell ⟨w.heap.size + 1, 0, none⟩ (.int .u64 (grp hi lo 0 : Nat))).setCell ⟨w.heap.size + 1, 1, none⟩ (.int .u64 (grp hi lo 1 : Nat))).setCell ⟨w.heap.size + 1, 2, none⟩ (.int .u64 (grp hi lo 2 : Nat))).setCell ⟨w.heap.size + 1, 3, none⟩ (.int .u64 (grp hi lo 3 : Nat))).setCell ⟨w.heap.size + 1, 4, none⟩ (.int .u64 (grp hi lo 4 : Nat))).setCell ⟨w.heap.size + 1, 5, none⟩ (.int .u64 (grp hi lo 5 : Nat))).setCell ⟨w.heap.size + 1, 6, none⟩ (.int .u64 (grp hi lo 6 : Nat))).setCell ⟨w.heap.size + 1, 7, none⟩ (.int .u64 (grp hi lo 7 : Nat))).heap[w.heap.size + 1]? = some (.cells (grpC hi lo 4) 43 (0, 0)) := (hx_set (hx_set (hx_set (hx_set (hx_set (hx_set (hx_set (hx_set HH.out.2.2.1))))))))
      generalize ((((((((wr.setCell ⟨w.heap.size + 1, 0, none⟩ (.int .u64 (grp hi lo 0 : Nat))).setCell ⟨w.heap.size + 1, 1, none⟩ (.int .u64 (grp hi lo 1 : Nat))).setCell ⟨w.heap.size + 1, 2, none⟩ (.int .u64 (grp hi lo 2 : Nat))).setCell ⟨w.heap.size + 1, 3, none⟩ (.int .u64 (grp hi lo 3 : Nat))).setCell ⟨w.heap.size + 1, 4, none⟩ (.int .u64 (grp hi lo 4 : Nat))).setCell ⟨w.heap.size + 1, 5, none⟩ (.int .u64 (grp hi lo 5 : Nat))).setCell ⟨w.heap.size + 1, 6, none⟩ (.int .u64 (grp hi lo 6 : Nat))).setCell ⟨w.heap.size + 1, 7, none⟩ (.int .u64 (grp hi lo 7 : Nat))) = W at hf hBB ⊢
      clear o0 o1 o2 o3 o4 o5 o6 o7 r0 r1 r2 r3 r4 r5 r6 r7
      have f0 : W.cell? ⟨w.heap.size + 1, 0, none⟩ = some (.int .u64 (grp hi lo 0 : Nat)) := cell_of_row W (w.heap.size + 1) 0 _ _ (0, 0) hf
      have f1 : W.cell? ⟨w.heap.size + 1, 1, none⟩ = some (.int .u64 (grp hi lo 1 : Nat)) := cell_of_row W (w.heap.size + 1) 1 _ _ (0, 0) hf
      have f2 : W.cell? ⟨w.heap.size + 1, 2, none⟩ = some (.int .u64 (grp hi lo 2 : Nat)) := cell_of_row W (w.heap.size + 1) 2 _ _ (0, 0) hf
      have f3 : W.cell? ⟨w.heap.size + 1, 3, none⟩ = some (.int .u64 (grp hi lo 3 : Nat)) := cell_of_row W (w.heap.size + 1) 3 _ _ (0, 0) hf
      have f4 : W.cell? ⟨w.heap.size + 1, 4, none⟩ = some (.int .u64 (grp hi lo 4 : Nat)) := cell_of_row W (w.heap.size + 1) 4 _ _ (0, 0) hf
      have f5 : W.cell? ⟨w.heap.size + 1, 5, none⟩ = some (.int .u64 (grp hi lo 5 : Nat)) := cell_of_row W (w.heap.size + 1) 5 _ _ (0, 0) hf
      have f6 : W.cell? ⟨w.heap.size + 1, 6, none⟩ = some (.int .u64 (grp hi lo 6 : Nat)) := cell_of_row W (w.heap.size + 1) 6 _ _ (0, 0) hf
      have f7 : W.cell? ⟨w.heap.size + 1, 7, none⟩ = some (.int .u64 (grp hi lo 7 : Nat)) := cell_of_row W (w.heap.size + 1) 7 _ _ (0, 0) hf
      rw [show grpC hi lo 4 = #[.int .u64 (grp hi lo 0 : Nat), .int .u64 (grp hi lo 1 : Nat), .int .u64 (grp hi lo 2 : Nat), .int .u64 (grp hi lo 3 : Nat), .int .u64 (grp hi lo 4 : Nat), .int .u64 (grp hi lo 5 : Nat), .int .u64 (grp hi lo 6 : Nat), .int .u64 (grp hi lo 7 : Nat)] from rfl]
      simp [results, Tryd.results19, go_sem, f0, f1, f2, f3, f4, f5, f6, f7]
    · have o1 : wr.cell? ⟨w.heap.size + 1 + 1, 0, none⟩ = some (.int .u64 0) := hoc 0
      have o2 : wr.cell? ⟨w.heap.size + 1 + 1, 4, none⟩ = some (.int .u64 0) := hoc 4
      clear hoc
      have w0 : IntKind.i64.wrap 0 = 0 := by decide
      have w4 : IntKind.i64.wrap 4 = 4 := by decide
      have w5 : IntKind.i64.wrap 5 = 5 := by decide
      have w6 : IntKind.i64.wrap 6 = 6 := by decide
      have w7 : IntKind.i64.wrap 7 = 7 := by decide
      have w16 : IntKind.i64.wrap 16 = 16 := by decide
      have w32 : IntKind.i64.wrap 32 = 32 := by decide
      have w48 : IntKind.i64.wrap 48 = 48 := by decide
      go_wp2_with fail
      go_region_held3 (fun w' => w'.cell? ⟨w.heap.size, 1, none⟩ = some (.int .u64 hi) ∧ w'.cell? ⟨w.heap.size, 2, none⟩ = some (.int .u64 lo))
        ((go_split_ands; refine ⟨?_, ?_⟩ <;> (repeat (first | (with_reducible first | exact c1 | exact c2) | (simp only [World.cell?_drew]) | (rw [World.cell?_setCell_other _ _ _ _ (by simp)])))))
        (fail)
      all_goals go_wp2_with fail
      all_goals go_roundw
      all_goals first
        | (exact ⟨1, by omega, by go_num, below_drew (below_setCell (below_setCell HH.out.1 (by omega)) (by omega)), hx_ne (hx_ne HH.out.2.1 (by omega)) (by omega), hx_ne (hx_ne HH.out.2.2.1 (by omega)) (by omega), (hx_set (hx_set HH.out.2.2.2)).trans (by rw [grp_s0 hi lo h1 h2])⟩)
        | (simp [RowKit.intOf]; done)
        | (simp [RowKit.intOf]; omega)
    · have o1 : wr.cell? ⟨w.heap.size + 1 + 1, 1, none⟩ = some (.int .u64 0) := hoc 1
      have o2 : wr.cell? ⟨w.heap.size + 1 + 1, 5, none⟩ = some (.int .u64 0) := hoc 5
      clear hoc
      have w0 : IntKind.i64.wrap 0 = 0 := by decide
      have w4 : IntKind.i64.wrap 4 = 4 := by decide
      have w5 : IntKind.i64.wrap 5 = 5 := by decide
      have w6 : IntKind.i64.wrap 6 = 6 := by decide
      have w7 : IntKind.i64.wrap 7 = 7 := by decide
      have w16 : IntKind.i64.wrap 16 = 16 := by decide
      have w32 : IntKind.i64.wrap 32 = 32 := by decide
      have w48 : IntKind.i64.wrap 48 = 48 := by decide
      go_wp2_with fail
      go_region_held3 (fun w' => w'.cell? ⟨w.heap.size, 1, none⟩ = some (.int .u64 hi) ∧ w'.cell? ⟨w.heap.size, 2, none⟩ = some (.int .u64 lo))
        ((go_split_ands; refine ⟨?_, ?_⟩ <;> (repeat (first | (with_reducible first | exact c1 | exact c2) | (simp only [World.cell?_drew]) | (rw [World.cell?_setCell_other _ _ _ _ (by simp)])))))
        (fail)
      all_goals go_wp2_with fail
      all_goals go_roundw
      all_goals first
        | (exact ⟨2, by omega, by go_num, below_drew (below_setCell (below_setCell HH.out.1 (by omega)) (by omega)), hx_ne (hx_ne HH.out.2.1 (by omega)) (by omega), hx_ne (hx_ne HH.out.2.2.1 (by omega)) (by omega), (hx_set (hx_set HH.out.2.2.2)).trans (by rw [grp_s1 hi lo h1 h2])⟩)
        | (simp [RowKit.intOf]; done)
        | (simp [RowKit.intOf]; omega)
    · have o1 : wr.cell? ⟨w.heap.size + 1 + 1, 2, none⟩ = some (.int .u64 0) := hoc 2
      have o2 : wr.cell? ⟨w.heap.size + 1 + 1, 6, none⟩ = some (.int .u64 0) := hoc 6
      clear hoc
      have w0 : IntKind.i64.wrap 0 = 0 := by decide
      have w4 : IntKind.i64.wrap 4 = 4 := by decide
      have w5 : IntKind.i64.wrap 5 = 5 := by decide
      have w6 : IntKind.i64.wrap 6 = 6 := by decide
      have w7 : IntKind.i64.wrap 7 = 7 := by decide
      have w16 : IntKind.i64.wrap 16 = 16 := by decide
      have w32 : IntKind.i64.wrap 32 = 32 := by decide
      have w48 : IntKind.i64.wrap 48 = 48 := by decide
      go_wp2_with fail
      go_region_held3 (fun w' => w'.cell? ⟨w.heap.size, 1, none⟩ = some (.int .u64 hi) ∧ w'.cell? ⟨w.heap.size, 2, none⟩ = some (.int .u64 lo))
        ((go_split_ands; refine ⟨?_, ?_⟩ <;> (repeat (first | (with_reducible first | exact c1 | exact c2) | (simp only [World.cell?_drew]) | (rw [World.cell?_setCell_other _ _ _ _ (by simp)])))))
        (fail)
      all_goals go_wp2_with fail
      all_goals go_roundw
      all_goals first
        | (exact ⟨3, by omega, by go_num, below_drew (below_setCell (below_setCell HH.out.1 (by omega)) (by omega)), hx_ne (hx_ne HH.out.2.1 (by omega)) (by omega), hx_ne (hx_ne HH.out.2.2.1 (by omega)) (by omega), (hx_set (hx_set HH.out.2.2.2)).trans (by rw [grp_s2 hi lo h1 h2])⟩)
        | (simp [RowKit.intOf]; done)
        | (simp [RowKit.intOf]; omega)
    · have o1 : wr.cell? ⟨w.heap.size + 1 + 1, 3, none⟩ = some (.int .u64 0) := hoc 3
      have o2 : wr.cell? ⟨w.heap.size + 1 + 1, 7, none⟩ = some (.int .u64 0) := hoc 7
      clear hoc
      have w0 : IntKind.i64.wrap 0 = 0 := by decide
      have w4 : IntKind.i64.wrap 4 = 4 := by decide
      have w5 : IntKind.i64.wrap 5 = 5 := by decide
      have w6 : IntKind.i64.wrap 6 = 6 := by decide
      have w7 : IntKind.i64.wrap 7 = 7 := by decide
      have w16 : IntKind.i64.wrap 16 = 16 := by decide
      have w32 : IntKind.i64.wrap 32 = 32 := by decide
      have w48 : IntKind.i64.wrap 48 = 48 := by decide
      go_wp2_with fail
      go_region_held3 (fun w' => w'.cell? ⟨w.heap.size, 1, none⟩ = some (.int .u64 hi) ∧ w'.cell? ⟨w.heap.size, 2, none⟩ = some (.int .u64 lo))
        ((go_split_ands; refine ⟨?_, ?_⟩ <;> (repeat (first | (with_reducible first | exact c1 | exact c2) | (simp only [World.cell?_drew]) | (rw [World.cell?_setCell_other _ _ _ _ (by simp)])))))
        (fail)
      all_goals go_wp2_with fail
      all_goals go_roundw
      all_goals first
        | (exact ⟨4, by omega, by go_num, below_drew (below_setCell (below_setCell HH.out.1 (by omega)) (by omega)), hx_ne (hx_ne HH.out.2.1 (by omega)) (by omega), hx_ne (hx_ne HH.out.2.2.1 (by omega)) (by omega), (hx_set (hx_set HH.out.2.2.2)).trans (by rw [grp_s3 hi lo h1 h2])⟩)
        | (simp [RowKit.intOf]; done)
        | (simp [RowKit.intOf]; omega)
end Go.Proofs.YtpeojbaepbdmjaaDoor
