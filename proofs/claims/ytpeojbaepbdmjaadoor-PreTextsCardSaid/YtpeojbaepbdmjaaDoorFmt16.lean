/-
  Walk of strconv.FormatUint at base 16. Conditions: the tables of the library hold what their text says.
-/
import Derived.Test.YtpeojbaepbdmjaaDoorFmt
namespace Go.Proofs.YtpeojbaepbdmjaaDoor
open Go.RowKit Go.Lib
set_option maxHeartbeats 1600000
set_option maxRecDepth 100000

theorem tz64_any (w : World) (h : w.cell? ⟨3, 15, none⟩ = some (.int .u8 4)) : Calls Tryd.prog 48 #[.int .u64 16] w (Ret (.int .i64 4) w) := by
  have e1 : IntKind.u64.wrap (-16) = 18446744073709551600 := by decide
  have e2 : bits .and .u64 16 18446744073709551600 = 16 := by kernel_rfl
  have e3 : IntKind.u64.wrap 4573923408821661840 = 4573923408821661840 := by decide
  go_enter Tryd.func48, Tryd.ntmps48
  go_wp2
  go_ret
  exact ret_of (by (repeat (first | exact Below.refl _ _ | assumption | apply below_alloc | apply below_grow | apply below_setCell | apply below_drew)); all_goals first | omega | (simp [go_sem]; done) | (simp [go_sem]; omega))
theorem tz_any (w : World) (h : w.cell? ⟨3, 15, none⟩ = some (.int .u8 4)) : Calls Tryd.prog 44 #[.int .u64 16] w (Ret (.int .i64 4) w) := by
  go_enter Tryd.func44, Tryd.ntmps44
  go_wp2_with (go_at_call 48; refine (tz64_any _ h).mono ?_; rintro e w' ⟨rfl, g, rfl⟩)
  go_ret
  exact ret_of (by (repeat (first | exact Below.refl _ _ | assumption | apply below_alloc | apply below_grow | apply below_setCell | apply below_drew)); all_goals first | omega | (simp [go_sem]; done) | (simp [go_sem]; omega))
theorem pow_any (w : World) : Calls Tryd.prog 43 #[.int .i64 16] w (Ret (.bool true) w) := by
  go_enter Tryd.func43, Tryd.ntmps43
  go_wp2
  go_ret
  exact ret_of (by (repeat (first | exact Below.refl _ _ | assumption | apply below_alloc | apply below_grow | apply below_setCell | apply below_drew)); all_goals first | omega | (simp [go_sem]; done) | (simp [go_sem]; omega))
def hexD (d : Nat) : UInt8 := (#[48, 49, 50, 51, 52, 53, 54, 55, 56, 57, 97, 98, 99, 100, 101, 102] : Array UInt8)[d]!
def digs (b u : Nat) : List UInt8 := if h : u < b ∨ b < 2 then [hexD u] else digs b (u / b) ++ [hexD (u % b)]
termination_by u
decreasing_by exact Nat.div_lt_self (by omega) (by omega)
theorem digs_small {b u : Nat} (h : u < b) : digs b u = [hexD u] := by rw [digs, dif_pos (.inl h)]
theorem digs_big {b u : Nat} (h : b ≤ u) (hb : 2 ≤ b) : digs b u = digs b (u / b) ++ [hexD (u % b)] := by rw [digs, dif_neg (by omega)]
theorem hex_at : ∀ d : Fin 16, ((⟨#[48, 49, 50, 51, 52, 53, 54, 55, 56, 57, 97, 98, 99, 100, 101, 102, 103, 104, 105, 106, 107, 108, 109, 110, 111, 112, 113, 114, 115, 116, 117, 118, 119, 120, 121, 122]⟩ : ByteArray)[d.val]'(Nat.lt_of_lt_of_le d.isLt (by decide))) = hexD d := by decide
theorem hex_idx (d : Nat) (hd : d < 16) (h : d < (⟨#[48, 49, 50, 51, 52, 53, 54, 55, 56, 57, 97, 98, 99, 100, 101, 102, 103, 104, 105, 106, 107, 108, 109, 110, 111, 112, 113, 114, 115, 116, 117, 118, 119, 120, 121, 122]⟩ : ByteArray).size) : ((⟨#[48, 49, 50, 51, 52, 53, 54, 55, 56, 57, 97, 98, 99, 100, 101, 102, 103, 104, 105, 106, 107, 108, 109, 110, 111, 112, 113, 114, 115, 116, 117, 118, 119, 120, 121, 122]⟩ : ByteArray)[d]'h) = hexD d := hex_at ⟨d, hd⟩
theorem hx_set {w : World} {b i : Nat} {cs : Array Value} {t : TypeId} {v : Value} (h : w.heap[b]? = some (.cells cs t (0, 0))) : (w.setCell ⟨b, i, none⟩ v).heap[b]? = some (.cells (cs.setIfInBounds i v) t (0, 0)) := by
  rw [setCell_eq_setRow w b i cs t (0, 0) v h]
  exact setRow_heap w b cs _ t _ h
theorem hx_old {n : Nat} {w W : World} {b : Nat} {o : Obj} (hB : Below n w W) (hb : b < n) (h : w.heap[b]? = some o) : W.heap[b]? = some o := (hB.block b hb).trans h
def HexAt (w : World) (u0 v i : Nat) (wr : World) : Prop :=
  ∃ (cs : Array Value) (tail : List UInt8), Below w.heap.size w wr ∧ wr.heap[w.heap.size]? = some (.cells cs 76 (0, 0)) ∧ cs.size = 65 ∧ i + tail.length = 65 ∧ tail.length ≤ 3 ∧ v < 16 ^ (4 - tail.length) ∧ digs 16 u0 = digs 16 v ++ tail ∧ ∀ j (h : j < tail.length), cs[i + j]? = some (u8c tail[j])
def zeros65 : Array Value := Array.replicate 65 (.int .u8 0)
theorem zeroV65 (w : World) : (zeroValue 76).run Tryd.prog w = .ok (.agg zeros65) w := by kernel_rfl
attribute [go_sem ↓] zeroV65
theorem fbits_any (u : Nat) (hu : u < 65536) (w : World) (htz : w.cell? ⟨3, 15, none⟩ = some (.int .u8 4)) (hg : 3 < w.heap.size) :
    Calls Tryd.prog 35 #[.slice none 0 0, .int .u64 u, .int .i64 16, .bool false, .bool false] w (Ret (.tuple #[.slice none 0 0, .string ⟨(digs 16 u).toArray⟩]) w) := by
  have HTZ := hide (p := ∀ w', Below w.heap.size w w' → w'.cell? ⟨3, 15, none⟩ = some (.int .u8 4)) (fun w' h => (h.cell (p := ⟨3, 15, none⟩) hg).trans htz)
  go_enter Tryd.func35, Tryd.ntmps35
  go_wp2_with (first | (go_at_call 43; refine (pow_any _).mono ?_; rintro e w' ⟨rfl, g, rfl⟩) | (go_at_call 44; refine (tz_any _ (HTZ.out _ (by (repeat (first | exact Below.refl _ _ | assumption | apply below_alloc | apply below_grow | apply below_setCell | apply below_drew)); all_goals first | omega | (simp [go_sem]; done) | (simp [go_sem]; omega)))).mono ?_; rintro e w' ⟨rfl, g, rfl⟩))
  go_loopw [1, 13] (fun v i wr => ∃ (vn k : Nat), v = .int .u64 vn ∧ i = .int .i64 k ∧ HexAt w u vn k wr) (fun v _ _ => (RowKit.intOf v).toNat)
  case atStart =>
    refine ⟨u, 65, rfl, rfl, zeros65, [], (by (repeat (first | exact Below.refl _ _ | assumption | apply below_alloc | apply below_grow | apply below_setCell | apply below_drew)); all_goals first | omega | (simp [go_sem]; done) | (simp [go_sem]; omega)), ?_, rfl, rfl, by simp, by simpa using hu, by simp, by simp⟩
    exact hx_old (n := w.heap.size + 1) (w := w.alloc (.cells zeros65 76)) (by (repeat (first | exact Below.refl _ _ | assumption | apply below_alloc | apply below_grow | apply below_setCell | apply below_drew)); all_goals first | omega | (simp [go_sem]; done) | (simp [go_sem]; omega)) (by omega) (heap_alloc_new w _)
  case round =>
    obtain ⟨v, i, rfl, rfl, cs, tail, hB, hcs, hsz, hit, ht3, hv, hdg, htl⟩ := hrel
    have hbl : w.heap.size < wr.heap.size := by
      rcases Nat.lt_or_ge w.heap.size wr.heap.size with h | h
      · exact h
      · rw [Array.getElem?_eq_none h] at hcs; cases hcs
    have hfr : ∀ k, wr.frozen? ⟨w.heap.size, k, none⟩ = false := fun k => by simp [World.frozen?, hcs]
    obtain ⟨x, hx⟩ : ∃ x, cs[i - 1]? = some x := ⟨_, Array.getElem?_eq_getElem (by omega)⟩
    have hcell : wr.cell? ⟨w.heap.size, i - 1, none⟩ = some x := (cell_of_row wr w.heap.size (i - 1) _ _ (0, 0) hcs).trans hx
    have HH := hide (And.intro hB (And.intro hcs (And.intro hdg htl)))
    have hv64 : v < 65536 := Nat.lt_of_lt_of_le hv (Nat.pow_le_pow_right (by decide) (by omega) : 16 ^ (4 - tail.length) ≤ 16 ^ 4)
    clear hcs hx hB htl hdg hu
    by_cases hge : 16 ≤ v
    · have e1 : bits .and .u64 (v : Int) 15 = ((v % 16 : Nat) : Int) := by
        rw [show v % 16 = v &&& 15 from (Nat.and_two_pow_sub_one_eq_mod v 4).symm]
        exact u64_and_nat v 15 (by omega) (by decide)
      have e2 := hex_idx (v % 16) (Nat.mod_lt _ (by decide))
      go_wp2_with fail
      go_roundw
      case rel =>
        obtain ⟨hB, hcs, hdg, htl⟩ := HH.out
        have ht2 : tail.length ≤ 2 := by
          rcases Nat.lt_or_ge tail.length 3 with h | h
          · omega
          · rw [show tail.length = 3 by omega] at hv; omega
        refine ⟨v / 16, i - 1, by go_num, by go_num, cs.setIfInBounds (i - 1) (u8c (hexD (v % 16))), hexD (v % 16) :: tail, below_setCell hB (Nat.le_refl _), hx_set hcs, by simpa using hsz, by simp; omega, by simp; omega, ?_, ?_, ?_⟩
        · rw [List.length_cons]
          rw [show 4 - tail.length = (4 - (tail.length + 1)) + 1 by omega, Nat.pow_succ] at hv
          exact Nat.div_lt_of_lt_mul (by omega)
        · rw [hdg, digs_big hge (by decide), List.append_assoc]; rfl
        · intro j hj
          cases j with
          | zero =>
            rw [Nat.add_zero, Array.getElem?_setIfInBounds, if_pos rfl, if_pos (by omega)]
            rfl
          | succ j =>
            have hj' : j < tail.length := by simpa using hj
            have := htl j hj'
            rw [Array.getElem?_setIfInBounds, if_neg (by omega)]
            rw [show i - 1 + (j + 1) = i + j by omega]
            exact this
      case measure => simp [RowKit.intOf]; omega
    · have e2 := hex_idx v (by omega)
      have hsl : ∀ W, (Instr.sliceAt 76 (.pointer (some ⟨w.heap.size, 0, none⟩)) (some (.int .i64 ((i : Int) - 1))) none none).run Tryd.prog W = .ok (.slice (some ⟨w.heap.size, i - 1, none⟩) (65 - (i - 1)) (65 - (i - 1))) W := fun W => by
        have hal : Tryd.prog.arrayLen 76 = 65 := by kernel_rfl
        rw [run_sliceAt_array_l W 76 ⟨w.heap.size, 0, none⟩ (by kernel_rfl) .i64 ((i : Int) - 1) (by omega) (by rw [hal]; omega)]
        go_simp
        omega
      obtain ⟨hB, hcs, hdg, htl⟩ := HH.out
      have hcv : (convert 54 9 (.slice (some ⟨w.heap.size, i - 1, none⟩) (65 - (i - 1)) (65 - (i - 1)))).run Tryd.prog (wr.setCell ⟨w.heap.size, i - 1, none⟩ (.int .u8 ((hexD v).toNat : Int))) = .ok (.string ⟨(digs 16 u).toArray⟩) (wr.setCell ⟨w.heap.size, i - 1, none⟩ (.int .u8 ((hexD v).toNat : Int))) := by
        have h := run_convert_bytes_back (P := Tryd.prog) (wr.setCell ⟨w.heap.size, i - 1, none⟩ (.int .u8 ((hexD v).toNat : Int))) 54 9 5 ⟨w.heap.size, i - 1, none⟩ (65 - (i - 1)) (hexD v :: tail) Tryd.underlying54 Tryd.underlying5 Tryd.underlying9 (fun j hj => by
          rw [Lib.add_plain]
          cases j with
          | zero => exact World.cell?_setCell_same _ _ _ hcell
          | succ j =>
            have hj' : j < tail.length := by simpa using hj
            rw [World.cell?_setCell_other _ _ _ _ (by simp), show i - 1 + (j + 1) = i + j by omega]
            exact (cell_of_row wr w.heap.size (i + j) _ _ (0, 0) hcs).trans (htl j hj'))
        rw [List.length_cons, show tail.length + 1 = 65 - (i - 1) by omega] at h
        rw [hdg, digs_small (by omega)]
        exact h
      clear hB hcs hdg htl
      go_wp2_with fail
      go_ret2
      refine ret_of ?_
      exact below_setCell HH.out.1 (Nat.le_refl _)
theorem fmt16_any (u : Nat) (hu : u < 65536) (w : World) (htz : w.cell? ⟨3, 15, none⟩ = some (.int .u8 4)) (hg : 3 < w.heap.size) :
    Calls Tryd.prog 17 #[.int .u64 u, .int .i64 16] w (Ret (.string ⟨(digs 16 u).toArray⟩) w) := by
  have H : Calls Tryd.prog 26 #[.int .u64 u, .int .i64 16] w (Ret (.string ⟨(digs 16 u).toArray⟩) w) := by
    go_enter Tryd.func26, Tryd.ntmps26
    go_wp2_with (go_at_call 35; refine (fbits_any u hu _ htz hg).mono ?_; rintro e w' ⟨rfl, g, rfl⟩)
    go_ret
    exact ret_of (by (repeat (first | exact Below.refl _ _ | assumption | apply below_alloc | apply below_grow | apply below_setCell | apply below_drew)); all_goals first | omega | (simp [go_sem]; done) | (simp [go_sem]; omega))
  go_enter Tryd.func17, Tryd.ntmps17
  go_wp2_with (go_at_call 26; refine (H).mono ?_; rintro e w' ⟨rfl, g, rfl⟩)
  go_ret
  exact ret_of (by (repeat (first | exact Below.refl _ _ | assumption | apply below_alloc | apply below_grow | apply below_setCell | apply below_drew)); all_goals first | omega | (simp [go_sem]; done) | (simp [go_sem]; omega))
end Go.Proofs.YtpeojbaepbdmjaaDoor
