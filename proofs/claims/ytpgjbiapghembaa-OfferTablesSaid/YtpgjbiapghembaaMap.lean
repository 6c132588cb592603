/-
  Maps of the call's own in worlds that have only grown: what a map holds, as a function from keys; the store, the look-up, the removal and the range loop's step. Conditions: none.
-/
import Derived.Test.YtpgjbiapghembaaOwn
import Derived.Maps.OwnOps
import Derived.Maps.OwnSet
import Derived.Maps.RangeWalk
import Derived.Sort.OwnSorted
namespace Go.Proofs.Ytpgjbiapghembaa
open Go.RowKit
open Go.Maps (Keyed)

/-- A map's type: how keys and elements lie. -/
structure MapTy (P : Program) (t k e : TypeId) (κ α : Type) where
  keyed : Keyed P k
  under : P.underlying t = some (.map k e)
  key : κ → Value
  ok : κ → Prop
  fwd' : ∀ x, ok x → ∃ l, keyOf P k (key x) = some l
  bwd' : ∀ v l, keyOf P k v = some l → ∃ x, ok x ∧ v = key x
  kinj : ∀ x y, key x = key y → x = y
  val : α → Value
  vinj : ∀ x y, val x = val y → x = y
  zero : α
  zeroRun : ∀ w, (zeroValue e).run P w = .ok (val zero) w

variable {P : Program} {t k e : TypeId} {κ α : Type}
/-- What a key reads as. -/
def MapTy.kl (M : MapTy P t k e κ α) (x : κ) : Lit := (keyOf P k (M.key x)).getD .nil
theorem MapTy.fwd (M : MapTy P t k e κ α) (x : κ) (h : M.ok x) : keyOf P k (M.key x) = some (M.kl x) := by
  obtain ⟨l, hl⟩ := M.fwd' x h
  unfold MapTy.kl
  rw [hl]
  rfl
theorem MapTy.bwd (M : MapTy P t k e κ α) (v : Value) (l : Lit) (h : keyOf P k v = some l) : ∃ x, M.ok x ∧ v = M.key x ∧ l = M.kl x := by
  obtain ⟨x, hx, rfl⟩ := M.bwd' v l h
  exact ⟨x, hx, rfl, Option.some.inj (h.symm.trans (M.fwd x hx))⟩
theorem MapTy.inj (M : MapTy P t k e κ α) {x y : κ} (hx : M.ok x) (hy : M.ok y) (h : M.kl x = M.kl y) : x = y :=
  M.kinj _ _ (M.keyed.inj (M.fwd x hx) (h ▸ M.fwd y hy))
open Classical in
/-- An element reads as itself. -/
noncomputable def MapTy.R (M : MapTy P t k e κ α) (v : Value) : Option (DataW α × List MemPlace) :=
  if h : ∃ x, v = M.val x then some (.held h.choose, []) else none
theorem MapTy.R_val (M : MapTy P t k e κ α) (x : α) : M.R (M.val x) = some (.held x, []) := by
  have h : ∃ y, M.val x = M.val y := ⟨x, rfl⟩
  unfold MapTy.R
  rw [dif_pos h, ← M.vinj _ _ h.choose_spec]
theorem MapTy.R_inv (M : MapTy P t k e κ α) {v : Value} {y : DataW α × List MemPlace} (h : M.R v = some y) : ∃ x, v = M.val x ∧ y = (.held x, []) := by
  unfold MapTy.R at h
  split at h
  · rename_i hx
    exact ⟨hx.choose, hx.choose_spec, (Option.some.inj h).symm⟩
  · cases h
theorem MapTy.isKey (M : MapTy P t k e κ α) (x : κ) (h : M.ok x) : WideAt.IsKeyLit (M.kl x) := M.keyed.key (M.fwd x h)

/-- What the datum says of each key. -/
def MapTy.Is (M : MapTy P t k e κ α) (D : DataW α) (f : κ → Option α) : Prop :=
  Maps.IsMap D ∧ ∀ x, M.ok x → Maps.has D (M.kl x) = (f x).isSome ∧ ∀ v, f x = some v → ∀ z, D.atKey (M.kl x) z = .held v
theorem MapTy.Is.at_ {M : MapTy P t k e κ α} {D : DataW α} {f : κ → Option α} (h : M.Is D f) (x : κ) (hx : M.ok x) (z : α) : D.atKey (M.kl x) (.held z) = .held ((f x).getD z) := by
  obtain ⟨h1, h2⟩ := h.2 x hx
  cases hf : f x with
  | none =>
    rw [hf] at h1
    rw [Maps.atKey_of_not_has (by simpa using h1)]
    rfl
  | some v => exact h2 v hf _
/-- Block b is the map f, of at most n entries. -/
def MapTy.At (M : MapTy P t k e κ α) (w : World) (b n : Nat) (f : κ → Option α) : Prop := ∃ D, w.ownsMap P k M.R b n D ∧ M.Is D f
theorem MapTy.At.grow {M : MapTy P t k e κ α} {w : World} {b n : Nat} {f : κ → Option α} (h : M.At w b n f) (g : Gr w) : M.At (grow w g) b n f := by
  obtain ⟨D, h, i⟩ := h
  refine ⟨D, ?_, i⟩
  have hlt := h.lt
  obtain ⟨es, clock, hb, F, hs, hD⟩ := h
  exact ⟨es, clock, (g.2.block b hlt).trans hb, F, hs, hD⟩
theorem MapTy.At.lt {M : MapTy P t k e κ α} {w : World} {b n : Nat} {f : κ → Option α} (h : M.At w b n f) : b < w.heap.size := h.choose_spec.1.lt
theorem MapTy.At.mono {M : MapTy P t k e κ α} {w : World} {b n m : Nat} {f : κ → Option α} (h : M.At w b n f) (hm : n ≤ m) : M.At w b m f := by
  obtain ⟨D, h, i⟩ := h
  exact ⟨D, h.mono hm, i⟩
theorem MapTy.At.same {M : MapTy P t k e κ α} {w : World} {b n : Nat} {f g : κ → Option α} (h : M.At w b n f) (e : ∀ x, f x = g x) : M.At w b n g := by
  rw [← funext e]; exact h
theorem MapTy.At.alloc {M : MapTy P t k e κ α} {w : World} {b n : Nat} {f : κ → Option α} (h : M.At w b n f) (o : Obj) : M.At (w.alloc o) b n f := by
  obtain ⟨D, h, i⟩ := h
  exact ⟨D, h.alloc o, i⟩
theorem MapTy.At.setCell {M : MapTy P t k e κ α} {w : World} {b n : Nat} {f : κ → Option α} (h : M.At w b n f) {c o : Nat} (hc : b ≠ c) (u : Value) : M.At (w.setCell ⟨c, o, none⟩ u) b n f := by
  obtain ⟨D, h, i⟩ := h
  exact ⟨D, h.setCell hc u, i⟩
theorem MapTy.made (M : MapTy P t k e κ α) (w : World) : M.At (w.alloc (.map #[] 0)) w.heap.size 0 (fun _ => none) :=
  ⟨_, World.ownsMap_made w P k M.R, ⟨⟨_, rfl⟩, fun _ _ => ⟨rfl, fun _ h => by cases h⟩⟩⟩
open Classical in
/-- One entry more. -/
noncomputable def upd (f : κ → Option α) (x : κ) (v : Option α) (y : κ) : Option α := if y = x then v else f y
theorem upd_same (f : κ → Option α) (x : κ) (v : Option α) : upd f x v x = v := by unfold upd; rw [if_pos rfl]
theorem upd_other (f : κ → Option α) {x y : κ} (h : y ≠ x) (v : Option α) : upd f x v y = f y := by unfold upd; rw [if_neg h]
theorem MapTy.Is.put {M : MapTy P t k e κ α} {D : DataW α} {f : κ → Option α} (h : M.Is D f) (x : κ) (hx : M.ok x) (v : α) : M.Is (D.put (M.kl x) (.held v)) (upd f x (some v)) := by
  refine ⟨h.1.put _ _, fun y hy => ?_⟩
  by_cases e : y = x
  · subst e
    rw [upd_same]
    exact ⟨Maps.has_put_same h.1 (M.isKey _ hy) _, fun u hu z => by cases hu; exact Maps.atKey_put_same h.1 (M.isKey _ hy) _ _⟩
  · rw [upd_other _ e]
    have hne : M.kl y ≠ M.kl x := fun hh => e (M.inj hy hx hh)
    obtain ⟨h1, h2⟩ := h.2 y hy
    exact ⟨(Maps.has_put_other hne _).trans h1, fun u hu z => (Maps.atKey_put_other hne _ _).trans (h2 u hu z)⟩
theorem MapTy.Is.del {M : MapTy P t k e κ α} {D : DataW α} {f : κ → Option α} (h : M.Is D f) (x : κ) (hx : M.ok x) : M.Is (D.del (M.kl x)) (upd f x none) := by
  refine ⟨h.1.del _, fun y hy => ?_⟩
  by_cases e : y = x
  · subst e
    rw [upd_same]
    exact ⟨Maps.has_del_same, fun u hu z => by cases hu⟩
  · rw [upd_other _ e]
    have hne : M.kl y ≠ M.kl x := fun hh => e (M.inj hy hx hh)
    obtain ⟨h1, h2⟩ := h.2 y hy
    exact ⟨(Maps.has_del_other hne).trans h1, fun u hu z => (Maps.atKey_del_other hne _).trans (h2 u hu z)⟩

section
variable {ops : Array Oper} {rest : List Oper} {o : Oper} {a : Act} {Q : Exit → Act → World → Prop}
/-- 'm[x] = v'. -/
theorem map_put (M : MapTy P t k e κ α) (W0 W : World) (hB : Below W0.heap.size W0 W) (hg : o.guard = none) (m x v : Operand) (hop : o.op = Op.mapUpdate t m x v) (b n : Nat) (f : κ → Option α)
    (hm : a.eval m = .map (some b)) (hown : M.At W b n f) (hb : W0.heap.size ≤ b) (hn : n < 1000000) (kx : κ) (vx : α) (hx : a.eval x = M.key kx) (hv : a.eval v = M.val vx) (hok : M.ok kx)
    (hK : ∀ g : Gr W0, (∀ b' o, b' < W.heap.size → b' ≠ b → cellRaw (grow W0 g) b' o = W.cell? ⟨b', o, none⟩) → W.grownBy (grow W0 g) (some b) → M.At (grow W0 g) b (n + 1) (upd f kx (some vx)) → wpList P ops Q rest (a.put o.dst undef) (grow W0 g)) : wpList P ops Q (o :: rest) a W := by
  obtain ⟨D, h, i⟩ := hown
  refine wpList_mapUpdate_own W hg m x v t hop k e M.keyed M.under M.R b n D hm h (by simp only [maxLen]; omega) _ _ (M.kl kx) hx hv (M.fwd _ hok) (.held vx) [] (M.R_val vx) ?_
  intro w1 hown1 hgrow1
  obtain ⟨g, rfl⟩ := gr_of (hB.grown hgrow1 hB.size (fun j hj => by cases hj; exact hb))
  exact hK g (fun b' o hb' hne => hgrow1.cell_far ⟨b', o, none⟩ hb' (fun e => hne (Option.some.inj e))) hgrow1 ⟨_, hown1, i.put kx hok vx⟩
/-- 'v, ok := m[x]'. -/
theorem map_look (M : MapTy P t k e κ α) (W : World) (hg : o.guard = none) (m x : Operand) (hop : o.op = Op.lookup t m x true) (b n : Nat) (f : κ → Option α)
    (hm : a.eval m = .map (some b)) (hown : M.At W b n f) (kx : κ) (hx : a.eval x = M.key kx) (hok : M.ok kx) (u : Option α) (hu : f kx = u) (vv : Value) (hvv : M.val (u.getD M.zero) = vv) (s : Bool) (hs : u.isSome = s)
    (hK : wpList P ops Q rest (a.put o.dst (.tuple #[vv, .bool s])) W) : wpList P ops Q (o :: rest) a W := by
  subst hu; subst hvv; subst hs
  obtain ⟨D, h, i⟩ := hown
  refine wpList_lookup_own_ok W hg m x t hop k e M.keyed M.under M.R (M.zeroRun W) _ _ (M.R_val _) b n D hm h _ (M.kl kx) hx (M.fwd _ hok) ?_
  intro v ps hv
  obtain ⟨y, rfl, hy⟩ := M.R_inv hv
  rw [i.at_ kx hok] at hy
  simp only [Prod.mk.injEq, DataW.held.injEq] at hy
  rw [← hy.1, (i.2 kx hok).1]
  exact hK
/-- 'delete(m, x)'. -/
theorem map_del (M : MapTy P t k e κ α) (W0 W : World) (hB : Below W0.heap.size W0 W) (hg : o.guard = none) (m x : Operand) (hop : o.op = Op.call { callee := Callee.builtin Builtin.delete, args := #[m, x], argTypes := #[t, k] }) (b n : Nat) (f : κ → Option α)
    (hm : a.eval m = .map (some b)) (hown : M.At W b n f) (hb : W0.heap.size ≤ b) (kx : κ) (hx : a.eval x = M.key kx) (hok : M.ok kx)
    (hK : ∀ g : Gr W0, M.At (grow W0 g) b n (upd f kx none) → wpList P ops Q rest (a.put o.dst (.tuple #[])) (grow W0 g)) : wpList P ops Q (o :: rest) a W := by
  obtain ⟨D, h, i⟩ := hown
  refine wpList_delete_own W hg m x t k hop e M.keyed M.under M.R b n D hm h _ (M.kl kx) hx (M.fwd _ hok) ?_
  intro w1 hown1 hturn
  obtain ⟨g, rfl⟩ := gr_of (hB.grown hturn.grown hB.size (fun j hj => by cases hj; exact hb))
  exact hK g ⟨_, hown1, i.del kx hok⟩
/-- The loop 'for x, v := range m' is under way: 'seen' has been handed out; 'cnt' are still to come. -/
def MapTy.Ranges (M : MapTy P t k e κ α) (w : World) (b r n : Nat) (f : κ → Option α) (seen : List κ) (cnt : Nat) : Prop :=
  ∃ D left, w.ranges P k M.R b r n D left cnt ∧ M.Is D f ∧ seen.Nodup ∧ (∀ x ∈ seen, M.ok x ∧ (f x).isSome = true) ∧ ∀ x, M.ok x → (left (M.kl x) = true ↔ (f x).isSome = true ∧ x ∉ seen)
theorem MapTy.Ranges.at_ {M : MapTy P t k e κ α} {w : World} {b r n cnt : Nat} {f : κ → Option α} {seen : List κ} (h : M.Ranges w b r n f seen cnt) : M.At w b n f := by
  obtain ⟨D, left, h, i, _⟩ := h
  exact ⟨D, h.owns, i⟩
theorem MapTy.Ranges.left {M : MapTy P t k e κ α} {w : World} {b r n cnt : Nat} {f : κ → Option α} {seen : List κ} (h : M.Ranges w b r n f seen cnt) : w.rangeLeft b r = cnt := by
  obtain ⟨D, left, h, i, _⟩ := h
  exact h.left_eq
theorem MapTy.Ranges.lt {M : MapTy P t k e κ α} {w : World} {b r n cnt : Nat} {f : κ → Option α} {seen : List κ} (h : M.Ranges w b r n f seen cnt) : b < w.heap.size ∧ r < w.heap.size := by
  obtain ⟨D, left, h, i, _⟩ := h
  exact ⟨h.owns.lt, h.lt⟩
theorem MapTy.Ranges.grow {M : MapTy P t k e κ α} {w : World} {b r n cnt : Nat} {f : κ → Option α} {seen : List κ} (h : M.Ranges w b r n f seen cnt) (g : Gr w) : M.Ranges (grow w g) b r n f seen cnt := by
  obtain ⟨D, left, h, i⟩ := h
  refine ⟨D, left, ?_, i⟩
  have h1 := h.owns.lt
  have h2 := h.lt
  obtain ⟨es, clock, since, s, c0, hb, F, hs, hD, hr, rest⟩ := h
  exact ⟨es, clock, since, s, c0, (g.2.block b h1).trans hb, F, hs, hD, (g.2.block r h2).trans hr, rest⟩
theorem MapTy.Ranges.alloc {M : MapTy P t k e κ α} {w : World} {b r n cnt : Nat} {f : κ → Option α} {seen : List κ} (h : M.Ranges w b r n f seen cnt) (o : Obj) : M.Ranges (w.alloc o) b r n f seen cnt := by
  obtain ⟨D, left, h, i⟩ := h
  exact ⟨D, left, h.alloc o, i⟩
theorem MapTy.At.kept {M : MapTy P t k e κ α} {w w' : World} {b n : Nat} {f : κ → Option α} {row : Option Nat} (h : M.At w b n f) (hg : w.grownBy w' row) (hb : some b ≠ row) : M.At w' b n f := by
  obtain ⟨D, h, i⟩ := h
  exact ⟨D, h.kept hg hb, i⟩
theorem MapTy.At.ne_row {M : MapTy P t k e κ α} {w : World} {b n : Nat} {f : κ → Option α} (h : M.At w b n f) {base : Nat} {et : TypeId} {size : Nat} {v : Value} {m : Nat} {xs : List Value} (ho : w.ownsRow base et size v m xs) : some b ≠ v.ownBlock := by
  obtain ⟨D, ⟨es, clock, hb, _⟩, i⟩ := h
  rcases ho.2 with ⟨rfl, _⟩ | ⟨g, cap, cur, rfl, _, hg, _⟩
  · simp [Value.ownBlock]
  · intro e1
    have : b = g := by simpa [Value.ownBlock] using e1
    subst this
    rw [hb] at hg
    cases hg
theorem MapTy.Ranges.kept {M : MapTy P t k e κ α} {w w' : World} {b r n cnt : Nat} {f : κ → Option α} {seen : List κ} {row : Option Nat} (h : M.Ranges w b r n f seen cnt) (hg : w.grownBy w' row) (hb : some b ≠ row) (hr : some r ≠ row) : M.Ranges w' b r n f seen cnt := by
  obtain ⟨D, left, h, i⟩ := h
  exact ⟨D, left, h.kept hg hb hr, i⟩
theorem MapTy.Ranges.ne_row {M : MapTy P t k e κ α} {w : World} {b r n cnt : Nat} {f : κ → Option α} {seen : List κ} (h : M.Ranges w b r n f seen cnt) {base : Nat} {et : TypeId} {size : Nat} {v : Value} {m : Nat} {xs : List Value} (ho : w.ownsRow base et size v m xs) : some r ≠ v.ownBlock := by
  obtain ⟨D, left, h, i⟩ := h
  exact row_ne_iter ho h
/-- 'range m'. -/
theorem map_range (M : MapTy P t k e κ α) (W0 W : World) (hB : Below W0.heap.size W0 W) (hg : o.guard = none) (m : Operand) (hop : o.op = Op.range t m) (b n : Nat) (f : κ → Option α)
    (hm : a.eval m = .map (some b)) (hown : M.At W b n f)
    (hK : ∀ (g : Gr W0) (cnt : Nat), cnt ≤ n → W.grownBy (grow W0 g) none → M.Ranges (grow W0 g) b W.heap.size n f [] cnt → wpList P ops Q rest (a.put o.dst (.pointer (some ⟨W.heap.size, 0, none⟩))) (grow W0 g)) : wpList P ops Q (o :: rest) a W := by
  obtain ⟨D, h, i⟩ := hown
  refine wpList_range_own W hg m t hop k e M.keyed M.under M.R b n D hm h ?_
  intro w1 h1 hg1 _
  obtain ⟨g, rfl⟩ := gr_of (hB.grown hg1 hB.size (fun j hj => by cases hj))
  refine hK g (Maps.size D) h.size_le hg1 ⟨D, Maps.has D, h1, i, List.nodup_nil, fun _ h => by simp at h, fun x hx => ?_⟩
  rw [(i.2 x hx).1]
  simp
/-- The step. -/
theorem map_next (M : MapTy P t k e κ α) (W0 W : World) (hB : Below W0.heap.size W0 W) (hg : o.guard = none) (it : Operand) (hop : o.op = Op.next it false) (b r n : Nat) (f : κ → Option α) (seen : List κ) (cnt : Nat)
    (hit : a.eval it = .pointer (some ⟨r, 0, none⟩)) (h : M.Ranges W b r n f seen cnt) (hr : W0.heap.size ≤ r)
    (hDone : (∀ x, M.ok x → ((f x).isSome = true ↔ x ∈ seen)) → wpList P ops Q rest (a.put o.dst (.tuple #[.bool false])) W)
    (hMore : ∀ (g : Gr W0) (x : κ) (v : α) (cnt' : Nat), M.ok x → f x = some v → x ∉ seen → M.Ranges (grow W0 g) b r n f (seen ++ [x]) cnt' → cnt' < cnt → W.rangeLeft b r = cnt →
      (Instr.entry (.pointer (some ⟨r, 0, none⟩))).run P (grow W0 g) = .ok (.tuple #[M.key x, M.val v]) (grow W0 g) → W.grownBy (grow W0 g) (some r) → wpList P ops Q rest (a.put o.dst (.tuple #[.bool true, M.key x, M.val v])) (grow W0 g)) :
    wpList P ops Q (o :: rest) a W := by
  obtain ⟨D, left, h, i, nd, hs, hl⟩ := h
  refine wpList_plain hg fun K' hK' => ?_
  unfold Oper.wp
  rcases h.next M.keyed o.type with ⟨h0, hl0, hrun⟩ | ⟨key, v, kl, y, w', cnt', hkey, hlk, hv, hat, hrun, hrg, hlt, hgr, hsz, hen⟩
  · simp [execOp, hop, hit, hrun, Result.andThen]
    refine hK' _ _ (hDone fun x hx => ⟨fun hf => ?_, fun hm => (hs x hm).2⟩)
    have := hl x hx
    rw [hl0] at this
    simp only [Bool.false_eq_true, false_iff, not_and, Classical.not_not] at this
    exact this hf
  · obtain ⟨x, hx, rfl, rfl⟩ := M.bwd key kl hkey
    obtain ⟨c, rfl, rfl⟩ := M.R_inv hv
    have hx1 := (hl x hx).1 hlk
    obtain ⟨u, hu⟩ := Option.isSome_iff_exists.1 hx1.1
    have huc : u = c := by
      have h1 := hat (.held u)
      rw [(i.2 x hx).2 u hu] at h1
      simpa using h1
    subst huc
    simp [execOp, hop, hit, hrun, Result.andThen]
    have hle := h.left_eq
    obtain ⟨g, rfl⟩ := gr_of (hB.grown hgr hB.size (fun j hj => by cases hj; exact hr))
    refine hK' _ _ (hMore g x u cnt' hx hu hx1.2 ⟨D, _, hrg, i, ?_, ?_, ?_⟩ hlt hle hen hgr)
    · rw [List.nodup_append]
      refine ⟨nd, by simp, fun a ha b hb e => ?_⟩
      simp only [List.mem_singleton] at hb
      exact hx1.2 (hb ▸ e ▸ ha)
    · intro y hy
      rcases List.mem_append.1 hy with hy | hy
      · exact hs y hy
      · simp only [List.mem_singleton] at hy
        subst hy
        exact ⟨hx, hx1.1⟩
    · intro y hy
      by_cases hyx : y = x
      · subst hyx
        simp [WideAt.sameKey_self (M.isKey _ hy)]
      · have hne : M.kl y ≠ M.kl x := fun hh => hyx (M.inj hy hx hh)
        have e1 : (M.kl y).sameKey (M.kl x) = false := Maps.sameKey_ne hne
        simp only [e1, Bool.not_false, Bool.and_true, List.mem_append, List.mem_singleton, hyx, or_false]
        exact hl y hy
end
end Go.Proofs.Ytpgjbiapghembaa
