/-
  What the walks ask of the program's types, and append onto a row of the call's own, type by type. Conditions: none.
-/
import Derived.Test.YtpeojbaepbdmjaaDoorOwn
namespace Go.Proofs.YtpeojbaepbdmjaaDoor
open Go.RowKit

theorem info_int : (Tryd.prog.info? 3).map (fun i => (i.zero, i.size, i.bytes)) = some (some (.int .i64 0), 1, 8) := by kernel_rfl
theorem app_int {ops : Array Oper} {rest : List Oper} {o : Oper} {a : Act} {Q : Exit → Act → World → Prop} (W0 W : World) (hB : Below W0.heap.size W0 W) (hgd : o.guard = none) (s x : Operand)
    (ho : o.op = .call { callee := .builtin .append, args := #[s, x], argTypes := #[34, 34] })
    (v : Value) (n : Nat) (xs : List Value) (hs : a.eval s = v) (hown : W.ownsRow W0.heap.size 3 1 v n xs)
    (b c : Nat) (y : Value) (et : TypeId) (hx : a.eval x = .slice (some ⟨b, 0, none⟩) 1 c) (hb : b = W.heap.size) (h1 : y.oneCell' = true) (hn : n ≤ 1000000000000)
    (h : ∀ (g : Gr W0) (blk cap : Nat), W0.heap.size ≤ blk → (grow W0 g).ownsRow W0.heap.size 3 1 (.slice (some ⟨blk, 0, none⟩) (n + 1) cap) (n + 1) (xs ++ [y]) → wpList Tryd.prog ops Q rest (a.put o.dst (.slice (some ⟨blk, 0, none⟩) (n + 1) cap)) (grow W0 g)) :
    wpList Tryd.prog ops Q (o :: rest) a (W.alloc (.cells #[y] et)) := by
  obtain ⟨i0, hi, hz0, hz1, hz2⟩ := info_parts info_int
  exact wpList_append_gr W0 W hB hgd s x 34 ho 3 i0 _ 1 8 Tryd.underlying34 hi hz0 hz1 hz2 rfl (by decide) v n xs hs hown b 1 c [y] et hx hb rfl (by simpa using h1) (by decide) (by simp only [maxLen]; omega) (by omega) h
theorem app_intk {ops : Array Oper} {rest : List Oper} {o : Oper} {a : Act} {Q : Exit → Act → World → Prop} (W0 W : World) (hB : Below W0.heap.size W0 W) (hgd : o.guard = none) (s x : Operand)
    (ho : o.op = .call { callee := .builtin .append, args := #[s, x], argTypes := #[34, 34] })
    (v : Value) (n : Nat) (xs : List Value) (hs : a.eval s = v) (hown : W.ownsRow W0.heap.size 3 1 v n xs)
    (b c : Nat) (y : Value) (et : TypeId) (hx : a.eval x = .slice (some ⟨b, 0, none⟩) 1 c) (hb : b = W.heap.size) (h1 : y.oneCell' = true) (hn : n ≤ 1000000000000)
    (h : ∀ (g : Gr W0) (blk cap : Nat), W0.heap.size ≤ blk → (∀ b' o, b' < W.heap.size → v.ownBlock ≠ some b' → cellRaw (grow W0 g) b' o = W.cell? ⟨b', o, none⟩) → W.grownBy (grow W0 g) v.ownBlock → (grow W0 g).ownsRow W0.heap.size 3 1 (.slice (some ⟨blk, 0, none⟩) (n + 1) cap) (n + 1) (xs ++ [y]) → wpList Tryd.prog ops Q rest (a.put o.dst (.slice (some ⟨blk, 0, none⟩) (n + 1) cap)) (grow W0 g)) :
    wpList Tryd.prog ops Q (o :: rest) a (W.alloc (.cells #[y] et)) := by
  obtain ⟨i0, hi, hz0, hz1, hz2⟩ := info_parts info_int
  exact wpList_append_grk W0 W hB hgd s x 34 ho 3 i0 _ 1 8 Tryd.underlying34 hi hz0 hz1 hz2 rfl (by decide) v n xs hs hown b 1 c [y] et hx hb rfl (by simpa using h1) (by decide) (by simp only [maxLen]; omega) (by omega) h
/-- append at a step of a region that draws its order: the world has only grown; rows of other blocks are as they were. -/
theorem step_app_gr {P : Program} {ops : Array Oper} {o : Oper} {a : Act} {K : Act → World → Prop} {Q : Exit → Act → World → Prop} {E : Prop} (W0 W : World) (hB : Below W0.heap.size W0 W) (hgd : o.guard = none) (s x : Operand) (t : TypeId)
    (ho : o.op = .call { callee := .builtin .append, args := #[s, x], argTypes := #[t, t] })
    (e : TypeId) (i : TypeInfo) (z : Value) (size bytes : Nat) (ht : P.underlying t = some (.slice e)) (hi : P.info? e = some i) (hz : i.zero = some z)
    (hsize : i.size = size) (hby : i.bytes = bytes) (hzs : z.cells.size = size) (hsz : 0 < size)
    (v : Value) (n : Nat) (xs : List Value) (hs : a.eval s = v) (hown : W.ownsRow W0.heap.size e size v n xs)
    (ad : Addr) (m c : Nat) (cs : List Value) (hx : a.eval x = .slice (some ad) m c) (hl : cs.length = m * size) (hnews : ∀ j u, cs[j]? = some u → W.cell? (ad.add j) = some u) (h1 : ∀ u ∈ cs, u.oneCell' = true)
    (hm : 0 < m) (h63 : n + m ≤ maxLen) (hbytes : (n + m) * bytes ≤ 140737488355328)
    (h : ∀ (g : Gr W0) (blk cap : Nat), W0.heap.size ≤ blk → (∀ b' o, b' < W.heap.size → v.ownBlock ≠ some b' → cellRaw (grow W0 g) b' o = W.cell? ⟨b', o, none⟩) → W.grownBy (grow W0 g) v.ownBlock → (grow W0 g).ownsRow W0.heap.size e size (.slice (some ⟨blk, 0, none⟩) (n + m) cap) (n + m) (xs ++ cs) → K (a.put o.dst (.slice (some ⟨blk, 0, none⟩) (n + m) cap)) (grow W0 g)) :
    if Region.wanted o (yielded ops a.tmps) = true then Oper.wp P o a W K Q else E := by
  refine step_append_lies _ hgd s x t ho W0.heap.size e i z size bytes ht hi hz hsize hby hzs hsz v n xs hs hown ad m c cs hx hl hnews h1 hm h63 hbytes hB.size _ rfl ?_
  intro g cap w1 hown1 hgrow hat _
  have hB2 : Below W0.heap.size W0 w1 := hB.grown hgrow hB.size (fun k hk => (hown.lt k hk).1)
  obtain ⟨G, rfl⟩ := gr_of hB2
  exact h G g cap (hown1.lt g rfl).1 (fun b' o hb' hne => hgrow.cell_far ⟨b', o, none⟩ hb' (fun e => hne e.symm)) hgrow hown1
theorem step_app_int {ops : Array Oper} {o : Oper} {a : Act} {K : Act → World → Prop} {Q : Exit → Act → World → Prop} {E : Prop} (W0 W : World) (hB : Below W0.heap.size W0 W) (hgd : o.guard = none) (s x : Operand)
    (ho : o.op = .call { callee := .builtin .append, args := #[s, x], argTypes := #[34, 34] })
    (v : Value) (n : Nat) (xs : List Value) (hs : a.eval s = v) (hown : W.ownsRow W0.heap.size 3 1 v n xs)
    (ad : Addr) (m c : Nat) (cs : List Value) (hx : a.eval x = .slice (some ad) m c) (hl : cs.length = m) (hnews : ∀ j u, cs[j]? = some u → W.cell? (ad.add j) = some u) (h1 : ∀ u ∈ cs, u.oneCell' = true)
    (hm : 0 < m) (hn : n ≤ 1000000) (hm2 : m ≤ 1000000) (N : Nat) (hN : n + m = N) (ys : List Value) (hys : xs ++ cs = ys)
    (h : ∀ (g : Gr W0) (blk cap : Nat), W0.heap.size ≤ blk → (∀ b' o, b' < W.heap.size → v.ownBlock ≠ some b' → cellRaw (grow W0 g) b' o = W.cell? ⟨b', o, none⟩) → W.grownBy (grow W0 g) v.ownBlock → (grow W0 g).ownsRow W0.heap.size 3 1 (.slice (some ⟨blk, 0, none⟩) N cap) N ys → K (a.put o.dst (.slice (some ⟨blk, 0, none⟩) N cap)) (grow W0 g)) :
    if Region.wanted o (yielded ops a.tmps) = true then Oper.wp Tryd.prog o a W K Q else E := by
  subst hN; subst hys
  obtain ⟨i0, hi, hz0, hz1, hz2⟩ := info_parts info_int
  exact step_app_gr W0 W hB hgd s x 34 ho 3 i0 _ 1 8 Tryd.underlying34 hi hz0 hz1 hz2 rfl (by decide) v n xs hs hown ad m c cs hx (by rw [hl]; omega) hnews h1 hm (by simp only [maxLen]; omega) (by omega) h
end Go.Proofs.YtpeojbaepbdmjaaDoor
