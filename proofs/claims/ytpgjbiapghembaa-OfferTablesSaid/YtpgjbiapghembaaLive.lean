/-
  Which offers are live: plain; the map of them; walk of offers.live. Conditions: the words of the addresses are 64-bit numbers.
-/
import Derived.Test.YtpgjbiapghembaaOffer
namespace Go.Proofs.Ytpgjbiapghembaa
open Go.RowKit
open Go.Maps (Keyed)
set_option maxHeartbeats 400000
set_option maxRecDepth 100000

/-- An offer's key: who offers what. -/
structure Ky where
  ad : Ad
  len : Int
  src : Int
  peer : Int
deriving DecidableEq
def Ofr.ky (o : Ofr) : Ky := ⟨o.ad, o.len, o.src, o.peer⟩
def encK (k : Ky) : List Value := [.bool k.ad.six, .int .u64 (k.ad.hi : Nat), .int .u64 (k.ad.lo : Nat), .int .i64 k.len, .int .i64 k.src, .int .i64 k.peer]
theorem cells_key : Try.prog.cellsOf 82 = 6 := by kernel_rfl
theorem kk_mk (d : Nat) (k : Ky) (hw : k.ad.wf) (h1 : (Lit.int .i64 k.len).wf = true) (h2 : (Lit.int .i64 k.src).wf = true) (h3 : (Lit.int .i64 k.peer).wf = true) : ∃ l, Try.prog.keyLits (d + 4) 82 (encK k) = some l := by
  refine lk_struct Try.underlying82 (by kernel_rfl) (by rw [cells_key]; rfl) fun i f hf => ?_
  match i, hf with
  | 0, hf => cases hf; simpa [cells_pfx, encK, encP] using kp_mk d k.ad k.len hw h1
  | 1, hf => cases hf; exact ⟨_, by simpa [cells_int, encK] using lk_int (d := d + 2) Try.underlying3 h2⟩
  | 2, hf => cases hf; exact ⟨_, by simpa [cells_int, encK] using lk_int (d := d + 2) Try.underlying3 h3⟩
  | i + 3, hf => simp at hf
theorem kk_inv (d : Nat) {cs : List Value} {ls : List Lit} (h : Try.prog.keyLits (d + 4) 82 cs = some ls) : ∃ k : Ky, (k.ad.wf ∧ (Lit.int .i64 k.len).wf = true ∧ (Lit.int .i64 k.src).wf = true ∧ (Lit.int .i64 k.peer).wf = true) ∧ cs = encK k := by
  obtain ⟨hl, hf⟩ := kl_struct Try.underlying82 h
  obtain ⟨_, f0⟩ := hf 0 _ rfl
  obtain ⟨_, f1⟩ := hf 1 _ rfl
  obtain ⟨_, f2⟩ := hf 2 _ rfl
  simp [cells_pfx, cells_int] at f0 f1 f2
  obtain ⟨a, n, hw, hn, e0⟩ := kp_inv d f0
  obtain ⟨x, e1, hx⟩ := kl_int Try.underlying3 f1
  obtain ⟨y, e2, hy⟩ := kl_int Try.underlying3 f2
  refine ⟨⟨a, n, x, y⟩, ⟨hw, hn, hx, hy⟩, ?_⟩
  rw [cells_key] at hl
  have h4 : cs = cs.take 4 ++ ((cs.drop 4).take 1 ++ (cs.drop 5).take 1) := by
    rw [List.take_of_length_le (l := cs.drop 5) (by simp; omega), ← List.drop_drop (i := 1) (j := 4), List.take_append_drop, List.take_append_drop]
  rw [h4, e0, e1, e2]
  rfl
theorem keyKeyed : Keyed Try.prog 82 := Maps.Keyed.of_law (deep_law_laid seatLaidB (m := 4) (by omega) (of_decide_eq_true (by kernel_rfl)) (by kernel_rfl) (by kernel_rfl))
theorem aggO_inj (x y : Ofr) (h : aggO x = aggO y) : x = y := by
  obtain ⟨⟨s, a, b⟩, l1, l2, l3, l4, l5⟩ := x
  obtain ⟨⟨s', a', b'⟩, m1, m2, m3, m4, m5⟩ := y
  simp only [aggO, Value.agg.injEq, Array.mk.injEq, List.cons.injEq, Value.bool.injEq, Value.int.injEq, true_and, and_true, Int.natCast_inj] at h
  obtain ⟨rfl, rfl, rfl, rfl, rfl, rfl, rfl, rfl⟩ := h
  rfl
/-- The map of the live offers. -/
def liveTy : MapTy Try.prog 77 82 44 Ky Ofr where
  keyed := keyKeyed
  under := Try.underlying77
  key k := .agg #[.bool k.ad.six, .int .u64 (k.ad.hi : Nat), .int .u64 (k.ad.lo : Nat), .int .i64 k.len, .int .i64 k.src, .int .i64 k.peer]
  ok k := k.ad.wf ∧ (Lit.int .i64 k.len).wf = true ∧ (Lit.int .i64 k.src).wf = true ∧ (Lit.int .i64 k.peer).wf = true
  fwd' k h := by
    refine keyOf_mk Try.underlying82 (by kernel_rfl) (by rw [cells_key]; rfl) ?_
    obtain ⟨d, hd⟩ := deep4
    rw [hd]
    exact kk_mk d k h.1 h.2.1 h.2.2.1 h.2.2.2
  bwd' v l h := by
    obtain ⟨cs, ls, rfl, hk⟩ := keyOf_inv Try.underlying82 h
    obtain ⟨d, hd⟩ := deep4
    rw [hd] at hk
    obtain ⟨k, hok, e⟩ := kk_inv d hk
    exact ⟨k, hok, by rw [← Array.toArray_toList (xs := cs), e]; rfl⟩
  kinj x y h := by
    obtain ⟨⟨s, a, b⟩, l1, l2, l3⟩ := x
    obtain ⟨⟨s', a', b'⟩, m1, m2, m3⟩ := y
    simp only [Value.agg.injEq, Array.mk.injEq, List.cons.injEq, Value.bool.injEq, Value.int.injEq, true_and, and_true, Int.natCast_inj] at h
    obtain ⟨rfl, rfl, rfl, rfl, rfl, rfl⟩ := h
    rfl
  val := aggO
  vinj := aggO_inj
  zero := ⟨⟨false, 0, 0⟩, 0, 0, 0, 0, 0⟩
  zeroRun w := by kernel_rfl
/-- The map of the best offers. -/
def bestTy : MapTy Try.prog 80 42 44 (Ad × Int) Ofr where
  keyed := pfxKeyed
  under := Try.underlying80
  key k := .agg #[.bool k.1.six, .int .u64 (k.1.hi : Nat), .int .u64 (k.1.lo : Nat), .int .i64 k.2]
  ok k := k.1.wf ∧ (Lit.int .i64 k.2).wf = true
  fwd' k h := by
    refine keyOf_mk Try.underlying42 (by kernel_rfl) (by rw [cells_pfx]; rfl) ?_
    obtain ⟨d, hd⟩ := deep4
    rw [hd]
    exact kp_mk (d + 1) k.1 k.2 h.1 h.2
  bwd' v l h := by
    obtain ⟨cs, ls, rfl, hk⟩ := keyOf_inv Try.underlying42 h
    obtain ⟨d, hd⟩ := deep4
    rw [hd] at hk
    obtain ⟨a, n, hw, hn, e⟩ := kp_inv (d + 1) hk
    exact ⟨(a, n), ⟨hw, hn⟩, by rw [← Array.toArray_toList (xs := cs), e]; rfl⟩
  kinj x y h := by
    obtain ⟨⟨s, a, b⟩, l1⟩ := x
    obtain ⟨⟨s', a', b'⟩, m1⟩ := y
    simp only [Value.agg.injEq, Array.mk.injEq, List.cons.injEq, Value.bool.injEq, Value.int.injEq, true_and, and_true, Int.natCast_inj] at h
    obtain ⟨rfl, rfl, rfl, rfl⟩ := h
    rfl
  val := aggO
  vinj := aggO_inj
  zero := ⟨⟨false, 0, 0⟩, 0, 0, 0, 0, 0⟩
  zeroRun w := by kernel_rfl
theorem liveTy_key (k : Ky) : liveTy.key k = .agg #[.bool k.ad.six, .int .u64 (k.ad.hi : Nat), .int .u64 (k.ad.lo : Nat), .int .i64 k.len, .int .i64 k.src, .int .i64 k.peer] := rfl
theorem liveTy_val (o : Ofr) : liveTy.val o = .agg #[.bool o.ad.six, .int .u64 (o.ad.hi : Nat), .int .u64 (o.ad.lo : Nat), .int .i64 o.len, .int .i64 o.src, .int .i64 o.peer, .int .i64 o.met, .int .i64 o.hop] := rfl
theorem bestTy_key (k : Ad × Int) : bestTy.key k = .agg #[.bool k.1.six, .int .u64 (k.1.hi : Nat), .int .u64 (k.1.lo : Nat), .int .i64 k.2] := rfl
theorem bestTy_val (o : Ofr) : bestTy.val o = .agg #[.bool o.ad.six, .int .u64 (o.ad.hi : Nat), .int .u64 (o.ad.lo : Nat), .int .i64 o.len, .int .i64 o.src, .int .i64 o.peer, .int .i64 o.met, .int .i64 o.hop] := rfl
attribute [go_sem] liveTy_key liveTy_val bestTy_key bestTy_val
end Go.Proofs.Ytpgjbiapghembaa
