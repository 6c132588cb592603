/-
  Rows of the call's own: a cell stored, cells copied over within a row, an append that tells where the new row lies. Conditions: none.
-/
import Derived.Test.YtpgjbiapghembaaRow
import Derived.Laws.CopyOwn
namespace Go.Proofs.Ytpgjbiapghembaa
open Go.RowKit

/-- A cell of a row of the call's own is stored. -/
theorem own_set {w : World} {base : Nat} {e : TypeId} {size : Nat} {b n cap : Nat} {xs : List Value} (h : w.ownsRow base e size (.slice (some ⟨b, 0, none⟩) n cap) n xs) (i : Nat) (u : Value) :
    (w.setCell ⟨b, i, none⟩ u).ownsRow base e size (.slice (some ⟨b, 0, none⟩) n cap) n (xs.set i u) := by
  refine ⟨by rw [List.length_set]; exact h.1, ?_⟩
  rcases h.2 with ⟨h', _⟩ | ⟨g', cap', cur, h', hbase, hg, h1, h2, h3, h4⟩
  · cases h'
  · simp only [Value.slice.injEq, Option.some.injEq, Addr.mk.injEq, and_true, true_and] at h'
    obtain ⟨rfl, rfl⟩ := h'
    refine .inr ⟨b, cap, cur.setIfInBounds i u, rfl, hbase, ?_, h1, h2, by simp [h3], ?_⟩
    · rw [setCell_eq_setRow w b i cur e (0, 0) u hg]
      exact setRow_heap w b cur _ e _ hg
    · rw [Array.toList_setIfInBounds, List.take_set, h4]
theorem own_free {w : World} {base : Nat} {e : TypeId} {size : Nat} {b n m cap : Nat} {xs : List Value} (h : w.ownsRow base e size (.slice (some ⟨b, 0, none⟩) n cap) m xs) (i : Nat) : w.frozen? ⟨b, i, none⟩ = false := by
  rcases h.2 with ⟨h', _⟩ | ⟨g', cap', cur, h', _, hg, _⟩
  · cases h'
  · simp only [Value.slice.injEq, Option.some.injEq, Addr.mk.injEq, and_true] at h'
    obtain ⟨rfl, rfl, rfl⟩ := h'
    simp [World.frozen?, hg]
theorem run_copy_k (P : Program) (w : World) (dT sT ty elem : TypeId) (g o dLen dCap : Nat) (a : Addr) (sLen sCap : Nat) (cur : Array Value) (t : TypeId) (cs : List Value) (size : Nat)
    (hu : P.underlying dT = some (.slice elem)) (hs : (P.info? elem).map (·.size) = some size)
    (hg : w.heap[g]? = some (.cells cur t (0, 0))) (hn : cs.length = Nat.min sLen dLen * size)
    (hsrc : ∀ j v, cs[j]? = some v → w.cell? (a.add j) = some v) (hfit : o + cs.length ≤ cur.size) (h1 : ∀ v ∈ cs, v.oneCell' = true) :
    (Builtin.copy_ #[dT, sT] ty #[.slice (some ⟨g, o, none⟩) dLen dCap, .slice (some a) sLen sCap]).run P w =
      .ok (goInt (Nat.min sLen dLen)) (w.setRow g (cur.toList.take o ++ cs ++ cur.toList.drop (o + cs.length)).toArray) := by
  have hl := run_loadCells_list (P := P) w a cs hsrc
  have hst := run_storeCells_at P g o t cs 0 cur w hg (by simpa using hfit) h1
  cases hq : P.info? elem with
  | none => simp [hq] at hs
  | some i =>
    have hi : i.size = size := by simpa [hq] using hs
    rw [hn] at hl
    simp [Builtin.copy_, run_underlying hu, Builtin.lenOf, Builtin.firstCells, sizeOf, typeInfo, hq, hi, hl, hst]
theorem run_copy_0 (P : Program) (w : World) (dT sT ty elem : TypeId) (dp sp : Option Addr) (dLen dCap sLen sCap size : Nat)
    (hu : P.underlying dT = some (.slice elem)) (hs : (P.info? elem).map (·.size) = some size) (hn : Nat.min sLen dLen = 0) :
    (Builtin.copy_ #[dT, sT] ty #[.slice dp dLen dCap, .slice sp sLen sCap]).run P w = .ok (goInt 0) w := by
  cases hq : P.info? elem with
  | none => simp [hq] at hs
  | some i =>
    have hl := run_loadCells_list (P := P) w
    cases dp <;> cases sp <;> simp [Builtin.copy_, run_underlying hu, Builtin.lenOf, Builtin.firstCells, sizeOf, typeInfo, hq, hn, storeCells]
    all_goals
      have := hl (by assumption) [] (by simp)
      simp at this
      simp [this, storeCells]
/-- 'copy' within a row of the call's own, at a step of a region that draws its order. -/
theorem step_copy_own {P : Program} {ops : Array Oper} {o : Oper} {a : Act} {K : Act → World → Prop} {Q : Exit → Act → World → Prop} {E : Prop} (W0 W : World) (hB : Below W0.heap.size W0 W) (hgd : o.guard = none) (d s : Operand) (T : TypeId)
    (ho : o.op = .call { callee := .builtin .copy, args := #[d, s], argTypes := #[T, T] }) (elem : TypeId) (size : Nat) (hu : P.underlying T = some (.slice elem)) (hsz : (P.info? elem).map (·.size) = some size)
    (dp sp : Option Addr) (dLen dCap sLen sCap : Nat) (hd : a.eval d = .slice dp dLen dCap) (hs : a.eval s = .slice sp sLen sCap)
    (base b n cap : Nat) (xs : List Value) (hown : W.ownsRow base elem size (.slice (some ⟨b, 0, none⟩) n cap) n xs) (hbase : W0.heap.size ≤ base) (h1 : ∀ v ∈ xs, v.oneCell' = true)
    (m : Nat) (hm : Nat.min sLen dLen = m) (off so : Nat) (hpos : 0 < m → dp = some ⟨b, off, none⟩ ∧ sp = some ⟨b, so, none⟩) (hf1 : off + m * size ≤ n * size) (hf2 : so + m * size ≤ n * size)
    (hK : ∀ G : Gr W0, W.grownBy (grow W0 G) (some b) → (grow W0 G).ownsRow base elem size (.slice (some ⟨b, 0, none⟩) n cap) n (splice xs off ((xs.drop so).take (m * size))) → K (a.put o.dst (goInt m)) (grow W0 G)) :
    if Region.wanted o (yielded ops a.tmps) = true then Oper.wp P o a W K Q else E := by
  have hw : Region.wanted o (yielded ops a.tmps) = true := by simp [Region.wanted, hgd]
  rw [if_pos hw]
  subst hm
  rcases Nat.eq_zero_or_pos (Nat.min sLen dLen) with h0 | h0
  · have hrun := run_copy_0 P W T T o.type elem dp sp dLen dCap sLen sCap size hu hsz h0
    unfold Oper.wp
    simp [execOp, ho, resolve, invoke, builtin, hd, hs, hrun, Result.andThen]
    obtain ⟨G, rfl⟩ := gr_of hB
    rw [h0] at hK
    refine hK G ⟨rfl, rfl, rfl, Nat.le_refl _, fun _ _ _ => rfl⟩ ?_
    simpa [splice] using hown
  · obtain ⟨rfl, rfl⟩ := hpos h0
    have hxl := hown.1
    have hown' := hown
    rcases hown.2 with ⟨h', _⟩ | ⟨g', cap', cur, h', hbg, hg, g1, g2, g3, g4⟩
    · cases h'
    · simp only [Value.slice.injEq, Option.some.injEq, Addr.mk.injEq, and_true, true_and] at h'
      obtain ⟨rfl, rfl⟩ := h'
      have hlc : ((xs.drop so).take (Nat.min sLen dLen * size)).length = Nat.min sLen dLen * size := by rw [List.length_take, List.length_drop, hxl]; omega
      have hnc : n * size ≤ cur.size := by rw [g3]; exact Nat.mul_le_mul_right _ g1
      have hsrc : ∀ j v, ((xs.drop so).take (Nat.min sLen dLen * size))[j]? = some v → W.cell? ((⟨b, so, none⟩ : Addr).add j) = some v := fun j v hj => by
        have hj2 := (List.getElem?_eq_some_iff.1 hj).1
        rw [hlc] at hj2
        rw [List.getElem?_take_of_lt hj2, List.getElem?_drop] at hj
        have : (⟨b, so, none⟩ : Addr).add j = ⟨b, so + j, none⟩ := by unfold Addr.add; split <;> simp_all
        rw [this, own_cell hown' _ (by omega), hj]
      have hone : ∀ v ∈ (xs.drop so).take (Nat.min sLen dLen * size), v.oneCell' = true := fun v hv => h1 v (List.mem_of_mem_drop (List.mem_of_mem_take hv))
      generalize (xs.drop so).take (Nat.min sLen dLen * size) = cs at *
      have hrun := run_copy_k P W T T o.type elem b off dLen dCap ⟨b, so, none⟩ sLen sCap cur elem cs size hu hsz hg hlc hsrc (by rw [hlc]; omega) hone
      have hgr : W.grownBy (W.setRow b (cur.toList.take off ++ cs ++ cur.toList.drop (off + cs.length)).toArray) (some b) :=
        ⟨rfl, rfl, rfl, by simp [World.setRow], fun k _ hk => setRow_other W b k _ (fun e => hk (by simp [e]))⟩
      obtain ⟨G, hG⟩ := gr_of (hB.grown hgr hB.size (fun k hk => by cases hk; exact Nat.le_trans hbase hbg))
      have hres := hK G (by rw [← hG]; exact hgr) ?_
      · unfold Oper.wp execOp
        simp only [ho, resolve, invoke, builtin, Sem.run_bind, Sem.run_pure, Result.andThen_ok, List.map_toArray, List.map_cons, List.map_nil, hd, hs, hrun]
        rw [hG]
        exact hres
      · rw [← hG]
        refine ⟨by rw [length_splice _ _ _ (by rw [hlc, hxl]; omega)]; exact hxl, .inr ⟨b, cap, _, rfl, hbg, setRow_heap W b cur _ elem _ hg, g1, g2, by simp [hlc]; omega, ?_⟩⟩
        simp only [splice, ← g4, hlc]
        have e1 : List.take off (List.take (n * size) cur.toList) = List.take off cur.toList := by rw [List.take_take, Nat.min_eq_left (by omega)]
        rw [e1, List.append_assoc, List.take_append, List.length_take, Array.length_toList, Nat.min_eq_left (show off ≤ cur.size by omega), List.take_of_length_le (by simp; omega), List.take_append, hlc,
          List.take_of_length_le (show cs.length ≤ _ by rw [hlc]; omega), List.drop_take]
        congr 3
        omega
/-- append of one new block's cells onto a row of the call's own: the new row, and where it lies. -/
theorem wpList_append_lay {P : Program} {ops : Array Oper} {rest : List Oper} {o : Oper} {a : Act} {Q : Exit → Act → World → Prop} (W0 W : World) (hB : Below W0.heap.size W0 W) (hgd : o.guard = none) (s x : Operand) (t : TypeId)
    (ho : o.op = .call { callee := .builtin .append, args := #[s, x], argTypes := #[t, t] })
    (e : TypeId) (i : TypeInfo) (z : Value) (size bytes : Nat) (ht : P.underlying t = some (.slice e)) (hi : P.info? e = some i) (hz : i.zero = some z)
    (hsize : i.size = size) (hby : i.bytes = bytes) (hzs : z.cells.size = size) (hsz : 0 < size)
    (v : Value) (n : Nat) (xs : List Value) (hs : a.eval s = v) (hown : W.ownsRow W0.heap.size e size v n xs)
    (b m c : Nat) (cs : List Value) (et : TypeId) (hx : a.eval x = .slice (some ⟨b, 0, none⟩) m c) (hb : b = W.heap.size) (hl : cs.length = m * size) (h1 : ∀ u ∈ cs, u.oneCell' = true)
    (hm : 0 < m) (h63 : n + m ≤ maxLen) (hbytes : (n + m) * bytes ≤ 140737488355328)
    (h : ∀ (g : Gr W0) (blk cap : Nat), (v.ownBlock = some blk ∨ W.heap.size ≤ blk) → W.grownBy (grow W0 g) v.ownBlock → (grow W0 g).ownsRow W0.heap.size e size (.slice (some ⟨blk, 0, none⟩) (n + m) cap) (n + m) (xs ++ cs) → wpList P ops Q rest (a.put o.dst (.slice (some ⟨blk, 0, none⟩) (n + m) cap)) (grow W0 g)) :
    wpList P ops Q (o :: rest) a (W.alloc (.cells cs.toArray et)) := by
  subst hb
  refine wpList_append_lies _ hgd s x t ho W0.heap.size e i z size bytes ht hi hz hsize hby hzs hsz v n xs hs (hown.alloc _) ⟨W.heap.size, 0, none⟩ m c cs hx hl ?_ h1 hm h63 hbytes ?_ _ rfl ?_
  · have := World.news_of_block (heap_alloc_new W (.cells cs.toArray et))
    simpa using this
  · have := hB.size
    simp
    omega
  · intro g cap w1 hown1 hgrow hat _
    have hB1 : Below W0.heap.size W0 (W.alloc (.cells cs.toArray et)) := hB.alloc hB.size _
    have hB2 : Below W0.heap.size W0 w1 := hB1.grown hgrow hB1.size (fun k hk => (hown.lt k hk).1)
    obtain ⟨G, rfl⟩ := gr_of hB2
    refine h G g cap (hat.imp id fun e => by simp at e; omega) ?_ hown1
    have h2 := World.grownBy_alloc W (.cells cs.toArray et) v.ownBlock
    exact ⟨hgrow.os.trans h2.os, hgrow.tape.trans h2.tape, hgrow.output.trans h2.output, Nat.le_trans h2.size hgrow.size, fun k hk hne => (hgrow.block k (Nat.lt_of_lt_of_le hk h2.size) hne).trans (h2.block k hk hne)⟩
/-- Elements read out of another block stay. -/
theorem Rd.kept {α : Type} {w w' : World} {size : Nat} {b off n : Nat} {enc : α → List Value} {l : List α} {row : Option Nat} (h : Rd w size (some ⟨b, off, none⟩) n enc l) (hg : w.grownBy w' row) (hb : row ≠ some b) : Rd w' size (some ⟨b, off, none⟩) n enc l :=
  ⟨h.1, fun hn => by
    obtain ⟨b', off', e, hlt, hc⟩ := h.2 hn
    cases e
    refine ⟨b, off, rfl, Nat.lt_of_lt_of_le hlt hg.size, fun k x hx i v hv => ?_⟩
    rw [← hc k x hx i v hv]
    exact World.cell?_of_block (hg.block b hlt (fun e => hb e.symm))⟩
theorem Rd.drop {α : Type} {w : World} {size : Nat} {b off n : Nat} {enc : α → List Value} {l : List α} (h : Rd w size (some ⟨b, off, none⟩) n enc l) (j : Nat) : Rd w size (some ⟨b, off + j * size, none⟩) (n - j) enc (l.drop j) :=
  ⟨by rw [List.length_drop, h.1], fun hn => by
    obtain ⟨b', off', e, hlt, hc⟩ := h.2 (by omega)
    cases e
    refine ⟨b, _, rfl, hlt, fun k x hx i v hv => ?_⟩
    rw [List.getElem?_drop] at hx
    have := hc _ x hx i v hv
    rw [Nat.add_mul] at this
    rw [← this]
    congr 2
    omega⟩
/-- One element in a block of its own. -/
theorem rd_new {α : Type} (w : World) (enc : α → List Value) (x : α) (t : TypeId) (cs : Array Value) (h : cs.toList = enc x) : Rd (w.alloc (.cells cs t)) (enc x).length (some ⟨w.heap.size, 0, none⟩) 1 enc [x] := by
  refine ⟨rfl, fun _ => ⟨_, 0, rfl, by simp, fun k y hk i v hv => ?_⟩⟩
  cases k with
  | succ k => simp at hk
  | zero =>
    simp only [List.getElem?_cons_zero, Option.some.injEq] at hk
    subst hk
    rw [Nat.zero_mul, Nat.add_zero, Nat.zero_add, World.cell?_alloc_mark, ← hv, ← h, Array.getElem?_toList]
end Go.Proofs.Ytpgjbiapghembaa
