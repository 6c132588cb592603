/-
  Rows of offers that the call itself makes: append, read, store. Conditions: none.
-/
import Derived.Test.YtpgjbiapghembaaCopy
import Derived.Test.YtpgjbiapghembaaOffer
namespace Go.Proofs.Ytpgjbiapghembaa
open Go.RowKit

theorem one_encO (o : Ofr) : ∀ u ∈ encO o, u.oneCell' = true := by
  intro u hu
  simp [encO] at hu
  rcases hu with rfl | rfl | rfl | rfl | rfl | rfl | rfl | rfl <;> rfl
theorem one_flatO (l : List Ofr) : ∀ u ∈ l.flatMap encO, u.oneCell' = true := by
  intro u hu
  obtain ⟨o, _, h⟩ := List.mem_flatMap.1 hu
  exact one_encO o u h
theorem info_ofrl : (Try.prog.info? 44).map (fun i => (i.zero, i.size, i.bytes)) = some (some (.agg #[.bool false, .int .u64 0, .int .u64 0, .int .i64 0, .int .i64 0, .int .i64 0, .int .i64 0, .int .i64 0]), 8, 64) := by kernel_rfl
theorem size_ofr : (Try.prog.info? 44).map (·.size) = some 8 := by kernel_rfl
theorem app_ofrl {ops : Array Oper} {rest : List Oper} {o : Oper} {a : Act} {Q : Exit → Act → World → Prop} (W0 W : World) (hB : Below W0.heap.size W0 W) (hgd : o.guard = none) (s x : Operand)
    (ho : o.op = .call { callee := .builtin .append, args := #[s, x], argTypes := #[24, 24] })
    (v : Value) (L : List Ofr) (hs : a.eval s = v) (hown : W.ownsRow W0.heap.size 44 8 v L.length (L.flatMap encO))
    (b c : Nat) (y : Ofr) (et : TypeId) (hx : a.eval x = .slice (some ⟨b, 0, none⟩) 1 c) (hb : b = W.heap.size) (hn : L.length ≤ 1000000)
    (h : ∀ (g : Gr W0) (blk cap : Nat), (v.ownBlock = some blk ∨ W.heap.size ≤ blk) → W.grownBy (grow W0 g) v.ownBlock → (grow W0 g).ownsRow W0.heap.size 44 8 (.slice (some ⟨blk, 0, none⟩) (L.length + 1) cap) (L.length + 1) ((L ++ [y]).flatMap encO) → wpList Try.prog ops Q rest (a.put o.dst (.slice (some ⟨blk, 0, none⟩) (L.length + 1) cap)) (grow W0 g)) :
    wpList Try.prog ops Q (o :: rest) a (W.alloc (.cells #[.bool y.ad.six, .int .u64 (y.ad.hi : Nat), .int .u64 (y.ad.lo : Nat), .int .i64 y.len, .int .i64 y.src, .int .i64 y.peer, .int .i64 y.met, .int .i64 y.hop] et)) := by
  obtain ⟨i0, hi, hz0, hz1, hz2⟩ := info_parts info_ofrl
  refine wpList_append_lay W0 W hB hgd s x 24 ho 44 i0 _ 8 64 Try.underlying24 hi hz0 hz1 hz2 rfl (by decide) v L.length (L.flatMap encO) hs hown b 1 c (encO y) et hx hb rfl (one_encO y) (by decide) (by simp only [maxLen]; omega) (by omega) fun g blk cap h1 h2 h3 => ?_
  refine h g blk cap h1 h2 ?_
  rw [flat_snoc]
  exact h3
theorem rdO1 {w : World} {b : Nat} {r : Ofr} (h : Rd w 8 (some ⟨b, 0, none⟩) 1 encO [r]) :
    w.cell? ⟨b, 0, none⟩ = some (.bool r.ad.six) ∧ w.cell? ⟨b, 1, none⟩ = some (.int .u64 (r.ad.hi : Nat)) ∧ w.cell? ⟨b, 2, none⟩ = some (.int .u64 (r.ad.lo : Nat)) ∧ w.cell? ⟨b, 3, none⟩ = some (.int .i64 r.len) ∧
      w.cell? ⟨b, 4, none⟩ = some (.int .i64 r.src) ∧ w.cell? ⟨b, 5, none⟩ = some (.int .i64 r.peer) ∧ w.cell? ⟨b, 6, none⟩ = some (.int .i64 r.met) ∧ w.cell? ⟨b, 7, none⟩ = some (.int .i64 r.hop) := by
  obtain ⟨b', off, e, _, hc⟩ := h.at_ (by decide)
  cases e
  have := rdO (k := 0) (r := r) hc rfl
  simpa using this
theorem rdO1r {w : World} {b : Nat} {r : Ofr} (h : Rd w 8 (some ⟨b, 0, none⟩) 1 encO [r]) :
    cellRaw w b 0 = some (.bool r.ad.six) ∧ cellRaw w b 1 = some (.int .u64 (r.ad.hi : Nat)) ∧ cellRaw w b 2 = some (.int .u64 (r.ad.lo : Nat)) ∧ cellRaw w b 3 = some (.int .i64 r.len) ∧
      cellRaw w b 4 = some (.int .i64 r.src) ∧ cellRaw w b 5 = some (.int .i64 r.peer) ∧ cellRaw w b 6 = some (.int .i64 r.met) ∧ cellRaw w b 7 = some (.int .i64 r.hop) := rdO1 h
theorem ins_splice (L : List Ofr) (o : Ofr) (j : Nat) (hj : j ≤ L.length) : splice ((L ++ [o]).flatMap encO) ((j + 1) * 8) ((((L ++ [o]).flatMap encO).drop (j * 8)).take ((L.length - j) * 8)) = ((L ++ [o]).take (j + 1) ++ L.drop j).flatMap encO := by
  unfold splice
  rw [← flat_drop encO_len, ← flat_take encO_len, ← flat_take encO_len]
  have e1 : ((L ++ [o]).drop j).take (L.length - j) = L.drop j := by
    rw [List.drop_append_of_le_length hj, List.take_append_of_le_length (by simp)]
    exact List.take_of_length_le (by simp)
  rw [e1]
  have e2 : (List.drop ((j + 1) * 8 + ((L.drop j).flatMap encO).length) ((L ++ [o]).flatMap encO)) = [] := by
    apply List.drop_eq_nil_of_le
    rw [flat_length encO_len, flat_length encO_len]
    simp
    omega
  rw [e2, List.append_nil, ← List.flatMap_append]
theorem set8 (M : List Ofr) (o : Ofr) (j : Nat) (hj : j < M.length) : ((((((((M.flatMap encO).set (j * 8) (.bool o.ad.six)).set (j * 8 + 1) (.int .u64 (o.ad.hi : Nat))).set (j * 8 + 2) (.int .u64 (o.ad.lo : Nat))).set (j * 8 + 3) (.int .i64 o.len)).set (j * 8 + 4) (.int .i64 o.src)).set (j * 8 + 5) (.int .i64 o.peer)).set (j * 8 + 6) (.int .i64 o.met)).set (j * 8 + 7) (.int .i64 o.hop) = (M.set j o).flatMap encO := by
  induction M generalizing j with
  | nil => simp at hj
  | cons x r ih =>
    cases j with
    | zero => rfl
    | succ j =>
      have := ih j (by simpa using hj)
      rw [List.set_cons_succ, List.flatMap_cons, List.flatMap_cons, ← this]
      have h8 : ∀ (l : List Value) (i : Nat) (v : Value), (encO x ++ l).set ((j + 1) * 8 + i) v = encO x ++ l.set (j * 8 + i) v := fun l i v => by
        rw [List.set_append_right _ _ (by rw [encO_len]; omega), encO_len]
        congr 2
        omega
      have h0 := fun l v => h8 l 0 v
      simp only [Nat.add_zero] at h0
      rw [h0, h8, h8, h8, h8, h8, h8, h8]
theorem own_set8 {w : World} {base : Nat} {e : TypeId} {b n cap : Nat} {M : List Ofr} (h : w.ownsRow base e 8 (.slice (some ⟨b, 0, none⟩) n cap) n (M.flatMap encO)) (o : Ofr) (j : Nat) (hj : j < M.length) :
    ((((((((w.setCell ⟨b, j * 8, none⟩ (.bool o.ad.six)).setCell ⟨b, j * 8 + 1, none⟩ (.int .u64 (o.ad.hi : Nat))).setCell ⟨b, j * 8 + 2, none⟩ (.int .u64 (o.ad.lo : Nat))).setCell ⟨b, j * 8 + 3, none⟩ (.int .i64 o.len)).setCell ⟨b, j * 8 + 4, none⟩ (.int .i64 o.src)).setCell ⟨b, j * 8 + 5, none⟩ (.int .i64 o.peer)).setCell ⟨b, j * 8 + 6, none⟩ (.int .i64 o.met)).setCell ⟨b, j * 8 + 7, none⟩ (.int .i64 o.hop)).ownsRow base e 8 (.slice (some ⟨b, 0, none⟩) n cap) n ((M.set j o).flatMap encO) := by
  rw [← set8 M o j hj]
  exact own_set (own_set (own_set (own_set (own_set (own_set (own_set (own_set h _ _) _ _) _ _) _ _) _ _) _ _) _ _) _ _
theorem below_set8 {n : Nat} {w W : World} {b o0 o1 o2 o3 o4 o5 o6 o7 : Nat} {v0 v1 v2 v3 v4 v5 v6 v7 : Value} (h : Below n w W) (hb : n ≤ b) :
    Below n w ((((((((W.setCell ⟨b, o0, none⟩ v0).setCell ⟨b, o1, none⟩ v1).setCell ⟨b, o2, none⟩ v2).setCell ⟨b, o3, none⟩ v3).setCell ⟨b, o4, none⟩ v4).setCell ⟨b, o5, none⟩ v5).setCell ⟨b, o6, none⟩ v6).setCell ⟨b, o7, none⟩ v7) :=
  below_setCell (below_setCell (below_setCell (below_setCell (below_setCell (below_setCell (below_setCell (below_setCell h hb) hb) hb) hb) hb) hb) hb) hb
theorem own_has {w : World} {base : Nat} {e : TypeId} {b n cap : Nat} {xs : List Value} (h : w.ownsRow base e 8 (.slice (some ⟨b, 0, none⟩) n cap) n xs) (j i : Nat) (hj : j < n) (hi : i < 8) : ∃ z, cellRaw w b (j * 8 + i) = some z := by
  have hl := h.1
  exact ⟨_, (own_raw h (j * 8 + i) (by omega)).trans (List.getElem?_eq_getElem (by omega))⟩
theorem own_freeR {w : World} {base : Nat} {e : TypeId} {size : Nat} {b n m cap : Nat} {xs : List Value} (h : w.ownsRow base e size (.slice (some ⟨b, 0, none⟩) n cap) m xs) (i : Nat) : frozenRaw w b i = false := own_free h i
end Go.Proofs.Ytpgjbiapghembaa
