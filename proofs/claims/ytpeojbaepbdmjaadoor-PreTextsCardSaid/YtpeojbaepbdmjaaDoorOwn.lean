/-
  Rows of memory that a call itself makes, in worlds that have only grown: append, and what stays. Conditions: none.
-/
import Derived.Test.YtpeojbaepbdmjaaDoorGrow
import Derived.Deep.AppendLies
import Derived.OwnWalk
import Derived.Maps.AppendAt
namespace Go.Proofs.YtpeojbaepbdmjaaDoor
open Go.RowKit

/-- What the call owns stays owned when the world grows. -/
theorem own_grow {w : World} {base : Nat} {e : TypeId} {size : Nat} {v : Value} {n : Nat} {xs : List Value} (h : w.ownsRow base e size v n xs) (g : Gr w) : (grow w g).ownsRow base e size v n xs := by
  obtain ⟨h1, h2⟩ := h
  refine ⟨h1, ?_⟩
  rcases h2 with h2 | ⟨k, cap, cur, hv, hg, hh, r⟩
  · exact .inl h2
  · refine .inr ⟨k, cap, cur, hv, hg, ?_, r⟩
    have hk : k < w.heap.size := by
      rcases Nat.lt_or_ge k w.heap.size with hlt | hge
      · exact hlt
      · rw [Array.getElem?_eq_none hge] at hh; cases hh
    exact (g.2.block k hk).trans hh
theorem own_far {w : World} {base : Nat} {e : TypeId} {size : Nat} {v : Value} {n : Nat} {xs : List Value} (h : w.ownsRow base e size v n xs) (b o : Nat) (u : Value) (hb : v.ownBlock ≠ some b) : (w.setCell ⟨b, o, none⟩ u).ownsRow base e size v n xs := by
  obtain ⟨h1, h2⟩ := h
  refine ⟨h1, ?_⟩
  rcases h2 with h2 | ⟨k, cap, cur, rfl, hg, hh, r⟩
  · exact .inl h2
  · refine .inr ⟨k, cap, cur, rfl, hg, ?_, r⟩
    have hne : k ≠ b := by intro e; subst e; simp [Value.ownBlock] at hb
    rw [Below.heap_setCell _ _ _ _ hne]
    exact hh
/-- A cell of a row of the call's own. -/
theorem own_cell {w : World} {base : Nat} {e : TypeId} {size : Nat} {b n cap : Nat} {xs : List Value} (h : w.ownsRow base e size (.slice (some ⟨b, 0, none⟩) n cap) n xs) (j : Nat) (hj : j < n * size) : w.cell? ⟨b, j, none⟩ = xs[j]? := h.cellAt j hj

theorem own_raw {w : World} {base : Nat} {e : TypeId} {size : Nat} {b n cap : Nat} {xs : List Value} (h : w.ownsRow base e size (.slice (some ⟨b, 0, none⟩) n cap) n xs) (j : Nat) (hj : j < n * size) : cellRaw w b j = xs[j]? := h.cellAt j hj
theorem own_cap {w : World} {base : Nat} {e : TypeId} {size : Nat} {b n m cap : Nat} {xs : List Value} (h : w.ownsRow base e size (.slice (some ⟨b, 0, none⟩) n cap) m xs) : m ≤ cap ∧ cap ≤ 9223372036854775807 := by
  rcases h.2 with ⟨h1, _⟩ | ⟨k, cap', cur, hv, _, _, h3, h4, _⟩
  · cases h1
  · simp only [Value.slice.injEq] at hv
    obtain ⟨_, _, rfl⟩ := hv
    exact ⟨h3, by simpa [maxLen] using h4⟩
theorem own_mono {w : World} {base base' : Nat} {e : TypeId} {size : Nat} {v : Value} {n : Nat} {xs : List Value} (h : w.ownsRow base e size v n xs) (hb : base' ≤ base) : w.ownsRow base' e size v n xs := by
  obtain ⟨h1, h2⟩ := h
  refine ⟨h1, ?_⟩
  rcases h2 with h2 | ⟨k, cap, cur, hv, hg, r⟩
  · exact .inl h2
  · exact .inr ⟨k, cap, cur, hv, Nat.le_trans hb hg, r⟩
theorem own_le {w : World} {base : Nat} {e : TypeId} {size : Nat} {b n cap m : Nat} {xs : List Value} (h : w.ownsRow base e size (.slice (some ⟨b, 0, none⟩) n cap) m xs) : base ≤ b := (h.lt b rfl).1
theorem own_lt {w : World} {base : Nat} {e : TypeId} {size : Nat} {b n cap m : Nat} {xs : List Value} (h : w.ownsRow base e size (.slice (some ⟨b, 0, none⟩) n cap) m xs) : b < w.heap.size := (h.lt b rfl).2
theorem own_form {w : World} {base : Nat} {e : TypeId} {size : Nat} {v : Value} {n : Nat} {xs : List Value} (h : w.ownsRow base e size v n xs) (hn : 0 < n) : ∃ b cap, v = .slice (some ⟨b, 0, none⟩) n cap := by
  obtain ⟨g, cap, h, _, _⟩ := h.form hn
  exact ⟨g, cap, h⟩
/-- A row that a call hands back out of a world that has grown from w. -/
theorem retRow_of {t : TypeId} {size n : Nat} {xs : List Value} {w W : World} {v : Value} (hB : Below w.heap.size w W) {base : Nat} (hb : w.heap.size ≤ base) (h : W.ownsRow base t size v n xs) (hn : 0 < n) : RetRow t size n xs w (.returned v) W := by
  obtain ⟨b, cap, rfl⟩ := own_form h hn
  obtain ⟨g, rfl⟩ := gr_of hB
  exact ⟨b, cap, g, rfl, rfl, Nat.le_trans hb (own_le h), own_mono h hb⟩
theorem retOwn_of {t : TypeId} {size n : Nat} {xs : List Value} {w W : World} {v : Value} (hB : Below w.heap.size w W) {base : Nat} (hb : w.heap.size ≤ base) (h : W.ownsRow base t size v n xs) : RetOwn t size n xs w (.returned v) W := by
  obtain ⟨g, rfl⟩ := gr_of hB
  exact ⟨v, g, rfl, rfl, own_mono h hb⟩

theorem wpList_append_grk {P : Program} {ops : Array Oper} {rest : List Oper} {o : Oper} {a : Act} {Q : Exit → Act → World → Prop} (W0 W : World) (hB : Below W0.heap.size W0 W) (hgd : o.guard = none) (s x : Operand) (t : TypeId)
    (ho : o.op = .call { callee := .builtin .append, args := #[s, x], argTypes := #[t, t] })
    (e : TypeId) (i : TypeInfo) (z : Value) (size bytes : Nat) (ht : P.underlying t = some (.slice e)) (hi : P.info? e = some i) (hz : i.zero = some z)
    (hsize : i.size = size) (hby : i.bytes = bytes) (hzs : z.cells.size = size) (hsz : 0 < size)
    (v : Value) (n : Nat) (xs : List Value) (hs : a.eval s = v) (hown : W.ownsRow W0.heap.size e size v n xs)
    (b m c : Nat) (cs : List Value) (et : TypeId) (hx : a.eval x = .slice (some ⟨b, 0, none⟩) m c) (hb : b = W.heap.size) (hl : cs.length = m * size) (h1 : ∀ u ∈ cs, u.oneCell' = true)
    (hm : 0 < m) (h63 : n + m ≤ maxLen) (hbytes : (n + m) * bytes ≤ 140737488355328)
    (h : ∀ (g : Gr W0) (blk cap : Nat), W0.heap.size ≤ blk → (∀ b' o, b' < W.heap.size → v.ownBlock ≠ some b' → cellRaw (grow W0 g) b' o = W.cell? ⟨b', o, none⟩) → W.grownBy (grow W0 g) v.ownBlock → (grow W0 g).ownsRow W0.heap.size e size (.slice (some ⟨blk, 0, none⟩) (n + m) cap) (n + m) (xs ++ cs) → wpList P ops Q rest (a.put o.dst (.slice (some ⟨blk, 0, none⟩) (n + m) cap)) (grow W0 g)) :
    wpList P ops Q (o :: rest) a (W.alloc (.cells cs.toArray et)) := by
  subst hb
  refine wpList_append_lies _ hgd s x t ho W0.heap.size e i z size bytes ht hi hz hsize hby hzs hsz v n xs hs (hown.alloc _) ⟨W.heap.size, 0, none⟩ m c cs hx hl ?_ h1 hm h63 hbytes ?_ _ rfl ?_
  · have := World.news_of_block (heap_alloc_new W (.cells cs.toArray et))
    simpa using this
  · have := hB.size
    simp
    omega
  · intro g cap w1 hown1 hgrow hat _
    have hB1 : Below W0.heap.size W0 (W.alloc (.cells cs.toArray et)) := hB.alloc hB.size _
    have hB2 : Below W0.heap.size W0 w1 := hB1.grown hgrow hB1.size (fun k hk => by
      rcases hown.lt k hk with ⟨h, _⟩
      exact h)
    obtain ⟨G, rfl⟩ := gr_of hB2
    refine h G g cap ?_ (fun b' o hb' hne => ?_) ?_ hown1
    · rcases hown1.lt g rfl with ⟨h, _⟩
      exact h
    · have h1 := hgrow.cell_far ⟨b', o, none⟩ (by simp; omega) (by simpa using fun h => hne h.symm)
      unfold cellRaw
      rw [h1]
      exact World.cell?_alloc_old W _ ⟨b', o, none⟩ (by simp; omega)
    · have h2 := World.grownBy_alloc W (.cells cs.toArray et) v.ownBlock
      exact ⟨hgrow.os.trans h2.os, hgrow.tape.trans h2.tape, hgrow.output.trans h2.output, Nat.le_trans h2.size hgrow.size, fun k hk hne => (hgrow.block k (Nat.lt_of_lt_of_le hk h2.size) hne).trans (h2.block k hk hne)⟩
theorem wpList_append_gr {P : Program} {ops : Array Oper} {rest : List Oper} {o : Oper} {a : Act} {Q : Exit → Act → World → Prop} (W0 W : World) (hB : Below W0.heap.size W0 W) (hgd : o.guard = none) (s x : Operand) (t : TypeId)
    (ho : o.op = .call { callee := .builtin .append, args := #[s, x], argTypes := #[t, t] })
    (e : TypeId) (i : TypeInfo) (z : Value) (size bytes : Nat) (ht : P.underlying t = some (.slice e)) (hi : P.info? e = some i) (hz : i.zero = some z)
    (hsize : i.size = size) (hby : i.bytes = bytes) (hzs : z.cells.size = size) (hsz : 0 < size)
    (v : Value) (n : Nat) (xs : List Value) (hs : a.eval s = v) (hown : W.ownsRow W0.heap.size e size v n xs)
    (b m c : Nat) (cs : List Value) (et : TypeId) (hx : a.eval x = .slice (some ⟨b, 0, none⟩) m c) (hb : b = W.heap.size) (hl : cs.length = m * size) (h1 : ∀ u ∈ cs, u.oneCell' = true)
    (hm : 0 < m) (h63 : n + m ≤ maxLen) (hbytes : (n + m) * bytes ≤ 140737488355328)
    (h : ∀ (g : Gr W0) (blk cap : Nat), W0.heap.size ≤ blk → (grow W0 g).ownsRow W0.heap.size e size (.slice (some ⟨blk, 0, none⟩) (n + m) cap) (n + m) (xs ++ cs) → wpList P ops Q rest (a.put o.dst (.slice (some ⟨blk, 0, none⟩) (n + m) cap)) (grow W0 g)) :
    wpList P ops Q (o :: rest) a (W.alloc (.cells cs.toArray et)) :=
  wpList_append_grk W0 W hB hgd s x t ho e i z size bytes ht hi hz hsize hby hzs hsz v n xs hs hown b m c cs et hx hb hl h1 hm h63 hbytes fun g blk cap h3 _ _ h4 => h g blk cap h3 h4
end Go.Proofs.YtpeojbaepbdmjaaDoor
