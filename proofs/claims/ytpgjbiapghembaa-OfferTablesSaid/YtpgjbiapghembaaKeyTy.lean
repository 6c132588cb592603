/-
  Keys that are structs of bools and integers: what a map's key reads as, both ways. Conditions: none.
-/
import Derived.Test.YtpgjbiapghembaaMap
import Derived.DeepKeys4
import Derived.Test.YtpgjbiapghembaaNum
namespace Go.Proofs.Ytpgjbiapghembaa
open Go.RowKit
open Go.Maps (Keyed)
set_option maxRecDepth 100000

theorem seatLaidB : laidOutB Try.prog = true := by kernel_rfl
section
variable {P : Program} {d : Nat} {t : TypeId} {cs : List Value} {ls : List Lit}
theorem kl_bool (ht : P.underlying t = some .bool) (h : P.keyLits (d + 1) t cs = some ls) : ∃ b, cs = [.bool b] := by
  unfold Program.keyLits at h
  rw [ht] at h
  split at h <;> simp_all
theorem kl_int {q : IntKind} (ht : P.underlying t = some (.int q)) (h : P.keyLits (d + 1) t cs = some ls) : ∃ n, cs = [.int q n] ∧ (Lit.int q n).wf = true := by
  unfold Program.keyLits at h
  rw [ht] at h
  split at h <;> simp_all
theorem kl_struct {fs : Array Field} (ht : P.underlying t = some (.struct fs)) (h : P.keyLits (d + 1) t cs = some ls) :
    cs.length = P.cellsOf t ∧ ∀ (i : Nat) (f : Field), fs[i]? = some f → ∃ l', P.keyLits d f.type ((cs.drop f.offset).take (P.cellsOf f.type)) = some l' := by
  unfold Program.keyLits at h
  rw [ht] at h
  simp only at h
  split at h
  · rename_i hc
    refine ⟨hc.1, fun i f hf => ?_⟩
    cases hm : fs.toList.mapM (fun f => P.keyLits d f.type ((cs.drop f.offset).take (P.cellsOf f.type))) with
    | none => rw [hm] at h; cases h
    | some r =>
      have h1 := mapM_some_get hm i f (by simpa using hf)
      have h2 := mapM_some_length hm
      rw [List.getElem?_eq_getElem (by rw [h2]; have := (Array.getElem?_eq_some_iff.1 hf).1; simpa using this)] at h1
      exact ⟨_, h1⟩
  · cases h
theorem lk_bool (ht : P.underlying t = some .bool) (b : Bool) : P.keyLits (d + 1) t [.bool b] = some [.bool b] := by
  unfold Program.keyLits
  rw [ht]
theorem lk_int {q : IntKind} (ht : P.underlying t = some (.int q)) {n : Int} (hw : (Lit.int q n).wf = true) : P.keyLits (d + 1) t [.int q n] = some [.int q n] := by
  unfold Program.keyLits
  rw [ht]
  simp [hw]
theorem lk_struct {fs : Array Field} (ht : P.underlying t = some (.struct fs)) (hn : fs.all (·.name != "_") = true) (hlen : cs.length = P.cellsOf t)
    (h : ∀ (i : Nat) (f : Field), fs[i]? = some f → ∃ l', P.keyLits d f.type ((cs.drop f.offset).take (P.cellsOf f.type)) = some l') : ∃ ls, P.keyLits (d + 1) t cs = some ls := by
  unfold Program.keyLits
  rw [ht]
  simp only
  rw [if_pos ⟨hlen, hn⟩]
  obtain ⟨r, hr⟩ := MapFrom.mapM_some (f := fun f : Field => P.keyLits d f.type ((cs.drop f.offset).take (P.cellsOf f.type))) (l := fs.toList) (fun f hf => by
    obtain ⟨i, hi⟩ := List.mem_iff_getElem?.1 hf
    exact h i f (by simpa using hi))
  rw [hr]
  exact ⟨_, rfl⟩
end
section
variable {P : Program} {k : TypeId}
theorem keyOf_mk {fs : Array Field} {cs : Array Value} (ht : P.underlying k = some (.struct fs)) (hkt : P.keyType k = true) (hs : cs.size = P.cellsOf k) (h : ∃ ls, P.keyLits (P.types.size + 1) k cs.toList = some ls) : ∃ l, keyOf P k (.agg cs) = some l := by
  obtain ⟨ls, hl⟩ := h
  have hf : (Value.agg cs).formed P k = true := by simp [Value.formed, ht, hs]
  exact ⟨.string (keyBytes ls), by simp [keyOf, ht, hkt, hf, Value.cells, hl]⟩
theorem keyOf_inv {fs : Array Field} {v : Value} {l : Lit} (ht : P.underlying k = some (.struct fs)) (h : keyOf P k v = some l) : ∃ cs ls, v = .agg cs ∧ P.keyLits (P.types.size + 1) k cs.toList = some ls := by
  unfold keyOf at h
  rw [ht] at h
  simp only at h
  split at h
  · rename_i hc
    simp only [Bool.and_eq_true] at hc
    cases v with
    | agg cs =>
      cases hl : P.keyLits (P.types.size + 1) k (Value.agg cs).cells.toList with
      | none => rw [hl] at h; cases h
      | some ls => exact ⟨cs, ls, rfl, by simpa [Value.cells] using hl⟩
    | _ => simp [Value.formed, ht] at hc
  · cases h
end
theorem three (l : List Value) (h : l.length = 3) : ∃ a b c, l = [a, b, c] := by
  cases l with
  | nil => simp at h
  | cons a l => cases l with
    | nil => simp at h
    | cons b l => cases l with
      | nil => simp at h
      | cons c l => exact ⟨a, b, c, by rw [List.eq_nil_of_length_eq_zero (l := l) (by simpa using h)]⟩
theorem deep4 : ∃ d, Try.prog.types.size + 1 = d + 4 := ⟨Try.prog.types.size - 3, by have : 3 ≤ Try.prog.types.size := of_decide_eq_true (by kernel_rfl); omega⟩
theorem cells_addr : Try.prog.cellsOf 35 = 3 := by kernel_rfl
theorem cells_pfx : Try.prog.cellsOf 42 = 4 := by kernel_rfl
theorem cells_u64 : Try.prog.cellsOf 33 = 1 := by kernel_rfl
theorem cells_int : Try.prog.cellsOf 3 = 1 := by kernel_rfl
theorem cells_bool : Try.prog.cellsOf 4 = 1 := by kernel_rfl
theorem ka_mk (d : Nat) (a : Ad) (hw : a.wf) : ∃ l, Try.prog.keyLits (d + 2) 35 [.bool a.six, .int .u64 (a.hi : Nat), .int .u64 (a.lo : Nat)] = some l := by
  refine lk_struct Try.underlying35 (by kernel_rfl) (by rw [cells_addr]; rfl) fun i f hf => ?_
  have h1 : (Lit.int .u64 (a.hi : Nat)).wf = true := WalkArith.wf_u64 (by have := hw.1; omega)
  have h2 : (Lit.int .u64 (a.lo : Nat)).wf = true := WalkArith.wf_u64 (by have := hw.2; omega)
  match i, hf with
  | 0, hf => cases hf; exact ⟨_, by simpa [cells_bool] using lk_bool (d := d) Try.underlying4 a.six⟩
  | 1, hf => cases hf; exact ⟨_, by simpa [cells_u64] using lk_int (d := d) Try.underlying33 h1⟩
  | 2, hf => cases hf; exact ⟨_, by simpa [cells_u64] using lk_int (d := d) Try.underlying33 h2⟩
  | i + 3, hf => simp at hf
theorem ka_inv (d : Nat) {cs : List Value} {ls : List Lit} (h : Try.prog.keyLits (d + 2) 35 cs = some ls) : ∃ a : Ad, a.wf ∧ cs = [.bool a.six, .int .u64 (a.hi : Nat), .int .u64 (a.lo : Nat)] := by
  obtain ⟨hl, hf⟩ := kl_struct Try.underlying35 h
  rw [cells_addr] at hl
  obtain ⟨x, y, z, rfl⟩ := three cs hl
  obtain ⟨_, f0⟩ := hf 0 _ rfl
  obtain ⟨_, f1⟩ := hf 1 _ rfl
  obtain ⟨_, f2⟩ := hf 2 _ rfl
  simp [cells_bool, cells_u64] at f0 f1 f2
  obtain ⟨b, e0⟩ := kl_bool Try.underlying4 f0
  obtain ⟨m, e1, w1⟩ := kl_int Try.underlying33 f1
  obtain ⟨n, e2, w2⟩ := kl_int Try.underlying33 f2
  simp only [List.cons.injEq, and_true] at e0 e1 e2
  subst e0; subst e1; subst e2
  simp [Lit.wf, IntKind.min, IntKind.max, IntKind.signed, IntKind.bits] at w1 w2
  refine ⟨⟨b, m.toNat, n.toNat⟩, ⟨by simp only; omega, by simp only; omega⟩, ?_⟩
  simp only [List.cons.injEq, Value.int.injEq, true_and, and_true]
  omega
def encP (a : Ad) (n : Int) : List Value := [.bool a.six, .int .u64 (a.hi : Nat), .int .u64 (a.lo : Nat), .int .i64 n]
theorem kp_mk (d : Nat) (a : Ad) (n : Int) (hw : a.wf) (hn : (Lit.int .i64 n).wf = true) : ∃ l, Try.prog.keyLits (d + 3) 42 (encP a n) = some l := by
  refine lk_struct Try.underlying42 (by kernel_rfl) (by rw [cells_pfx]; rfl) fun i f hf => ?_
  match i, hf with
  | 0, hf => cases hf; simpa [cells_addr, encP] using ka_mk d a hw
  | 1, hf => cases hf; exact ⟨_, by simpa [cells_int, encP] using lk_int (d := d + 1) Try.underlying3 hn⟩
  | i + 2, hf => simp at hf
theorem kp_inv (d : Nat) {cs : List Value} {ls : List Lit} (h : Try.prog.keyLits (d + 3) 42 cs = some ls) : ∃ (a : Ad) (n : Int), a.wf ∧ (Lit.int .i64 n).wf = true ∧ cs = encP a n := by
  obtain ⟨hl, hf⟩ := kl_struct Try.underlying42 h
  obtain ⟨_, f0⟩ := hf 0 _ rfl
  obtain ⟨_, f1⟩ := hf 1 _ rfl
  simp [cells_addr, cells_int] at f0 f1
  obtain ⟨a, hw, e0⟩ := ka_inv d f0
  obtain ⟨n, e1, hn⟩ := kl_int Try.underlying3 f1
  refine ⟨a, n, hw, hn, ?_⟩
  rw [cells_pfx] at hl
  have h4 : cs = cs.take 3 ++ (cs.drop 3).take 1 := by
    rw [List.take_of_length_le (l := cs.drop 3) (by simp; omega), List.take_append_drop]
  rw [h4, e0, e1]
  rfl
theorem pfxKeyed : Keyed Try.prog 42 := Maps.Keyed.of_law (deep_law_laid seatLaidB (m := 3) (by omega) (of_decide_eq_true (by kernel_rfl)) (by kernel_rfl) (by kernel_rfl))
theorem encP_inj {a b : Ad} {n m : Int} (h : encP a n = encP b m) : a = b ∧ n = m := by
  obtain ⟨s, x, y⟩ := a
  obtain ⟨s', x', y'⟩ := b
  simp only [encP, List.cons.injEq, Value.bool.injEq, Value.int.injEq, true_and, and_true, Int.natCast_inj] at h
  obtain ⟨rfl, rfl, rfl, rfl⟩ := h
  exact ⟨rfl, rfl⟩
end Go.Proofs.Ytpgjbiapghembaa
