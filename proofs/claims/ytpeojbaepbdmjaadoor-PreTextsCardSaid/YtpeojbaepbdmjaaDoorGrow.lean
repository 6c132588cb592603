/-
  Small words over the kit: worlds that have only grown ('grow'), a contract's post 'Ret v w' (it returns v and what was there is as it was), and a region that draws its order whose operations read and whose callees only let the world grow. Conditions: none.
-/
import Derived.Test.YtpeojbaepbdmjaaDoorProg
import Derived.WalkKit
import Derived.WalkLawsBesides
import Derived.WalkSpells
import Derived.Below
import Derived.Outline
import Derived.BigQuiet
import Derived.Deep.QuietTactic
import Derived.Laws.StructEq
import Derived.Laws.BitsAllLaws
import Derived.Laws.IdiomStrings
namespace Go.Proofs.YtpeojbaepbdmjaaDoor
open Go.RowKit

/-- A world in which all that lay in w lies as it lay. -/
def Gr (w : World) : Type := { w' : World // Below w.heap.size w w' }
instance (w : World) : Nonempty (Gr w) := ⟨⟨w, Below.refl _ _⟩⟩
def grow (w : World) (g : Gr w) : World := g.1
theorem grow_below (w : World) (g : Gr w) : Below w.heap.size w (grow w g) := g.2
/-- How many blocks have come. -/
def more {w : World} (g : Gr w) : Nat := (grow w g).heap.size - w.heap.size
theorem grow_size {w : World} (g : Gr w) : (grow w g).heap.size = w.heap.size + more g := by
  have := g.2.size
  unfold more grow
  omega
/-- The cell, not to be looked at. -/
def cellRaw (w : World) (b o : Nat) : Option Value := w.cell? ⟨b, o, none⟩
def frozenRaw (w : World) (b o : Nat) : Bool := w.frozen? ⟨b, o, none⟩
theorem grow_cell {w : World} (g : Gr w) (b o : Nat) : (grow w g).cell? ⟨b, o, none⟩ = if b < w.heap.size then w.cell? ⟨b, o, none⟩ else cellRaw (grow w g) b o := by
  split
  · rename_i h; exact g.2.cell (p := ⟨b, o, none⟩) h
  · rfl
theorem grow_frozen {w : World} (g : Gr w) (b o : Nat) : (grow w g).frozen? ⟨b, o, none⟩ = if b < w.heap.size then w.frozen? ⟨b, o, none⟩ else frozenRaw (grow w g) b o := by
  split
  · rename_i h; exact g.2.frozen (p := ⟨b, o, none⟩) h
  · rfl
theorem alloc_cell_ite (w : World) (c : Array Value) (t : TypeId) (fr : Nat × Nat) (b o : Nat) : (w.alloc (.cells c t fr)).cell? ⟨b, o, none⟩ = if b = w.heap.size then c[o]? else w.cell? ⟨b, o, none⟩ := by
  split
  · rename_i h; subst h; exact World.cell?_alloc_mark w c t fr o
  · rename_i h; exact World.cell?_alloc_old w (.cells c t fr) ⟨b, o, none⟩ h
attribute [go_sem] grow_cell grow_frozen grow_size alloc_cell_ite

theorem below_alloc {n : Nat} {w W : World} {o : Obj} (hb : Below n w W) (h : n ≤ W.heap.size) : Below n w (W.alloc o) := hb.alloc h o
theorem below_grow {n : Nat} {w W : World} {g : Gr W} (hb : Below n w W) (h : n ≤ W.heap.size) : Below n w (grow W g) := hb.trans (g.2.mono h)
theorem below_drew {n : Nat} {w W : World} (hb : Below n w W) : Below n w W.drew := hb.drew
theorem below_setCell {n : Nat} {w W : World} {b o : Nat} {v : Value} (hb : Below n w W) (h : n ≤ b) : Below n w (W.setCell ⟨b, o, none⟩ v) := hb.setCell (p := ⟨b, o, none⟩) h v
theorem below_self (w W : World) (h : W = w) : Below w.heap.size w W := by subst h; exact Below.refl _ _

/-- It returns v; what was there is as it was. -/
def Ret (v : Value) (w : World) (e : Ending) (w' : World) : Prop := e = .returned v ∧ ∃ g : Gr w, w' = grow w g
theorem ret_of {v : Value} {w W : World} (h : Below w.heap.size w W) : Ret v w (.returned v) W := ⟨rfl, ⟨W, h⟩, rfl⟩
theorem ret_eq {v u : Value} {w W : World} (e : u = v) (h : Below w.heap.size w W) : Ret v w (.returned u) W := by subst e; exact ret_of h

theorem ret_i {k : IntKind} {a b : Int} {w W : World} (e : a = b) (h : Below w.heap.size w W) : Ret (.int k b) w (.returned (.int k a)) W := by subst e; exact ret_of h
theorem ret_b {a b : Bool} {w W : World} (e : a = b) (h : Below w.heap.size w W) : Ret (.bool b) w (.returned (.bool a)) W := by subst e; exact ret_of h
theorem gr_of {w w' : World} (h : Below w.heap.size w w') : ∃ g : Gr w, w' = grow w g := ⟨⟨w', h⟩, rfl⟩
theorem gr_below {w w' : World} (h : ∃ g : Gr w, w' = grow w g) : Below w.heap.size w w' := by obtain ⟨g, rfl⟩ := h; exact g.2

theorem wp_region_grow {P : Program} {id : Nat} {Q : Exit → Act → World → Prop} {a : Act} {w : World} {l : List Oper} (hm : P.follows .mixedOrders = true) (hB : Region.lexB .any l.toArray = true)
    (h : wpQuiet P l.toArray (fun w' => ∃ g : Gr w, w' = grow w g) (fun a' => ∀ w', (∃ g : Gr w, w' = grow w g) → Q .normal a' w') l a) : (Code.region id l.toArray true).wp P Q a w :=
  wp_region_quiet (C := fun w' => ∃ g : Gr w, w' = grow w g) hm hB (gr_of ⟨rfl, rfl, rfl, Nat.le_refl _, fun _ _ => rfl⟩) (by simpa using h)
theorem gr_ret {P : Program} {f : FuncId} {args : Array Value} {w : World} {g : Gr w} {v : Value} (h : Calls P f args (grow w g) (Ret v (grow w g))) :
    Calls P f args (grow w g) fun e w'' => e = .returned v ∧ ∃ g' : Gr w, w'' = grow w g' :=
  h.mono fun _ _ ⟨he, hg⟩ => ⟨he, gr_of (g.2.trans ((gr_below hg).mono g.2.size))⟩
theorem gr_same {P : Program} {f : FuncId} {args : Array Value} {w : World} {g : Gr w} {v : Value} (h : Calls P f args (grow w g) fun e w' => e = .returned v ∧ grow w g = w') :
    Calls P f args (grow w g) fun e w'' => e = .returned v ∧ ∃ g' : Gr w, w'' = grow w g' :=
  h.mono fun _ _ ⟨he, hg⟩ => ⟨he, g, hg.symm⟩
theorem hide {p : Prop} (h : p) : Hid p := h
theorem ret_mono {P : Program} {f : FuncId} {args : Array Value} {w : World} {v u : Value} (h : Calls P f args w (Ret v w)) (e : v = u) : Calls P f args w (Ret u w) := by subst e; exact h
/-- It returns a slice of n elements in memory of its own, with these cells; what was there is as it was. -/
def RetRow (t : TypeId) (size n : Nat) (xs : List Value) (w : World) (e : Ending) (w' : World) : Prop :=
  ∃ (b cap : Nat) (g : Gr w), e = .returned (.slice (some ⟨b, 0, none⟩) n cap) ∧ w' = grow w g ∧ w.heap.size ≤ b ∧ (grow w g).ownsRow w.heap.size t size (.slice (some ⟨b, 0, none⟩) n cap) n xs
/-- The same, nil let in. -/
def RetOwn (t : TypeId) (size n : Nat) (xs : List Value) (w : World) (e : Ending) (w' : World) : Prop :=
  ∃ (v : Value) (g : Gr w), e = .returned v ∧ w' = grow w g ∧ (grow w g).ownsRow w.heap.size t size v n xs
end Go.Proofs.YtpeojbaepbdmjaaDoor
