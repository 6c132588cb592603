/-
  Walks: addr.hex; strings.Join over rows of the call's own. Conditions: the tables of the library hold what their text says.
-/
import Derived.Test.YtpeojbaepbdmjaaDoorFmt16
import Derived.Test.YtpeojbaepbdmjaaDoorTy
namespace Go.Proofs.YtpeojbaepbdmjaaDoor
open Go.RowKit Go.Lib
set_option maxHeartbeats 1600000
set_option maxRecDepth 100000

def strV (l : List UInt8) : Value := .string ⟨l.toArray⟩
theorem info_str : (Tryd.prog.info? 9).map (fun i => (i.zero, i.size, i.bytes)) = some (some (.string ⟨#[]⟩), 1, 16) := by kernel_rfl
theorem app_str {ops : Array Oper} {rest : List Oper} {o : Oper} {a : Act} {Q : Exit → Act → World → Prop} (W0 W : World) (hB : Below W0.heap.size W0 W) (hgd : o.guard = none) (s x : Operand)
    (ho : o.op = .call { callee := .builtin .append, args := #[s, x], argTypes := #[40, 40] })
    (v : Value) (n : Nat) (xs : List Value) (hs : a.eval s = v) (hown : W.ownsRow W0.heap.size 9 1 v n xs)
    (b c : Nat) (y : Value) (et : TypeId) (hx : a.eval x = .slice (some ⟨b, 0, none⟩) 1 c) (hb : b = W.heap.size) (h1 : y.oneCell' = true) (hn : n ≤ 1000000000)
    (h : ∀ (g : Gr W0) (blk cap : Nat), W0.heap.size ≤ blk → (grow W0 g).ownsRow W0.heap.size 9 1 (.slice (some ⟨blk, 0, none⟩) (n + 1) cap) (n + 1) (xs ++ [y]) → wpList Tryd.prog ops Q rest (a.put o.dst (.slice (some ⟨blk, 0, none⟩) (n + 1) cap)) (grow W0 g)) :
    wpList Tryd.prog ops Q (o :: rest) a (W.alloc (.cells #[y] et)) := by
  obtain ⟨i0, hi, hz0, hz1, hz2⟩ := info_parts info_str
  exact wpList_append_gr W0 W hB hgd s x 40 ho 9 i0 _ 1 16 Tryd.underlying40 hi hz0 hz1 hz2 rfl (by decide) v n xs hs hown b 1 c [y] et hx hb rfl (by simpa using h1) (by decide) (by simp only [maxLen]; omega) (by omega) h
theorem join_own {w : World} {base n : Nat} {v : Value} {xs : List (List UInt8)} {sep : List UInt8} (h : w.ownsRow base 9 1 v n (xs.map strV)) (hN : xs.length ≤ 1000) (hlen : (Lib.join xs sep).length ≤ 1000000) :
    Calls Tryd.prog 18 #[v, strV sep] w (Ret (strV (Lib.join xs sep)) w) := by
  have hn : xs.length = n := by have := h.1; simpa using this
  rcases Nat.eq_zero_or_pos n with h0 | h0
  · subst h0
    obtain rfl : xs = [] := List.length_eq_zero_iff.1 hn
    obtain ⟨a, c, rfl⟩ : ∃ a c, v = .slice a 0 c := by
      rcases h.2 with ⟨rfl, _⟩ | ⟨k, cap, cur, rfl, _⟩
      · exact ⟨_, _, rfl⟩
      · exact ⟨_, _, rfl⟩
    exact (Tryd.strings_Join_none a c ⟨sep.toArray⟩ w).mono fun e w' ⟨h1, h2⟩ => by subst h1; subst h2; exact ret_of (Below.refl _ _)
  · obtain ⟨b, cap, rfl⟩ := own_form h h0
    have hm : (xs.map fun l => (⟨l.toArray⟩ : ByteArray)).map (·.data.toList) = xs := by simp [List.map_map, Function.comp_def]
    have H := Tryd.strings_Join b 0 cap (xs.map fun l => ⟨l.toArray⟩) ⟨sep.toArray⟩ w (fun j x hx => by
      have hj := (List.getElem?_eq_some_iff.1 hx).1
      rw [List.length_map] at hj
      rw [Nat.zero_add, own_cell h j (by omega), List.getElem?_map]
      rw [List.getElem?_map] at hx
      revert hx
      cases xs[j]? with
      | none => intro h; cases h
      | some l => intro h; cases h; rfl) (own_lt h) (by simp; omega) (by rw [List.length_map, hn]; exact (own_cap h).1) (by rw [hm]; simp only; omega)
    rw [hm, List.length_map, hn] at H
    exact H.mono fun e w' ⟨h1, h2⟩ => by subst h1; exact ret_of h2
theorem digs_len (b u k : Nat) (hb : 2 ≤ b) (h : u < b ^ k) (hk : 1 ≤ k) : (digs b u).length ≤ k := by
  induction k generalizing u with
  | zero => omega
  | succ k ih =>
    rcases Nat.lt_or_ge u b with h1 | h1
    · rw [digs_small h1]; simp
    · rw [digs_big h1 hb]
      rcases Nat.eq_zero_or_pos k with h2 | h2
      · subst h2; rw [Nat.pow_one] at h; omega
      · have := ih (u / b) (Nat.div_lt_of_lt_mul (by rw [Nat.pow_succ] at h; rw [Nat.mul_comm]; exact h)) h2
        simp; omega
theorem join_len (sep : List UInt8) (xs : List (List UInt8)) (m : Nat) (h : ∀ x ∈ xs, x.length ≤ m) : (Lib.join xs sep).length ≤ xs.length * (m + sep.length) := by
  cases xs with
  | nil => simp [Lib.join_nil]
  | cons x r =>
    rw [Lib.join_cons, List.length_append]
    have h1 := h x (by simp)
    have h2 : ∀ r : List (List UInt8), (∀ x ∈ r, x.length ≤ m) → (Lib.joinTail sep r).length ≤ r.length * (m + sep.length) := by
      intro r
      induction r with
      | nil => intro _; simp [Lib.joinTail]
      | cons y r ih =>
        intro hr
        have h3 := ih fun x hx => hr x (by simp [hx])
        have h4 := hr y (by simp)
        simp only [Lib.joinTail, List.map_cons, List.flatten_cons, List.length_append, List.length_cons] at h3 ⊢
        rw [Nat.succ_mul]
        omega
    have h5 := h2 r fun x hx => h x (by simp [hx])
    simp only [List.length_cons]
    rw [Nat.succ_mul]
    omega
def hexT (l : List Nat) : List UInt8 := Lib.join (l.map (digs 16)) [58]
theorem hexT_len (l : List Nat) (h : ∀ x ∈ l, x < 65536) : (hexT l).length ≤ l.length * 5 := by
  have := join_len [58] (l.map (digs 16)) 4 (fun x hx => by
    obtain ⟨u, hu, rfl⟩ := List.mem_map.1 hx
    exact digs_len 16 u 4 (by decide) (h u hu) (by decide))
  simpa [hexT] using this
theorem hex_any (b o n c : Nat) (l : List Nat) (w : World) (hl : l.length = n) (hn : n ≤ 8) (hc : n ≤ c) (hb : b < w.heap.size) (hcells : ∀ j x, l[j]? = some x → w.cell? ⟨b, o + j, none⟩ = some (.int .u64 (x : Nat))) (hx : ∀ x ∈ l, x < 65536)
    (htz : w.cell? ⟨3, 15, none⟩ = some (.int .u8 4)) (hg : 3 < w.heap.size) :
    Calls Tryd.prog 21 #[.slice (some ⟨b, o, none⟩) n c] w (Ret (strV (hexT l)) w) := by
  have HTZ := hide (p := ∀ w', Below w.heap.size w w' → w'.cell? ⟨3, 15, none⟩ = some (.int .u8 4)) (fun w' h => (h.cell (p := ⟨3, 15, none⟩) hg).trans htz)
  have HC := hide hcells
  have HX := hide hx
  clear hcells hx htz
  have HL := hide hl
  clear hl
  go_enter Tryd.func21, Tryd.ntmps21
  go_wp2_with fail
  go_loopw [3, 8] (fun v i wr => ∃ k : Nat, k ≤ n ∧ i = .int .i64 k ∧ ∃ g : Gr w, wr = grow w g ∧ (grow w g).ownsRow w.heap.size 9 1 v k (((l.map (digs 16)).take k).map strV)) (fun _ i _ => n - (RowKit.intOf i).toNat)
  case atStart => exact ⟨0, by omega, rfl, ⟨_, Below.refl _ _⟩, rfl, World.ownsRow_nil _ _ _ _⟩
  case round =>
    obtain ⟨k, hk, rfl, g, rfl, hown⟩ := hrel
    by_cases hlt : k < n
    · obtain ⟨x, hxk⟩ : ∃ x, l[k]? = some x := ⟨_, List.getElem?_eq_getElem (by rw [HL.out]; exact hlt)⟩
      have hcell := HC.out k x hxk
      have hx6 := HX.out x (List.mem_of_getElem? hxk)
      have HS := hide (p := ((l.map (digs 16)).take (k + 1)).map strV = ((l.map (digs 16)).take k).map strV ++ [strV (digs 16 x)]) (by rw [List.take_add_one, List.getElem?_map, hxk]; simp)
      clear hxk
      go_wp2_with (first | (go_at_call 17; refine (fmt16_any x hx6 _ (HTZ.out _ (by (repeat (first | exact Below.refl _ _ | assumption | apply below_alloc | apply below_grow | apply below_setCell | apply below_drew)); all_goals first | omega | (simp [go_sem]; done) | (simp [go_sem]; omega))) (by simp [go_sem]; omega)).mono ?_; rintro e w' ⟨rfl, g2, rfl⟩) | (at_builtin; refine app_str w _ (by (repeat (first | exact Below.refl _ _ | assumption | apply below_alloc | apply below_grow | apply below_setCell | apply below_drew)); all_goals first | omega | (simp [go_sem]; done) | (simp [go_sem]; omega)) (by rfl) _ _ (by rfl) _ _ _ (by rfl) (own_grow hown _) _ _ _ _ (by rfl) (by simp [go_sem]) (by rfl) (by omega) ?_; intro g' blk cap hle hown'))
      go_roundw
      case rel => exact ⟨k + 1, by omega, by go_num, g', rfl, by rw [HS.out]; exact hown'⟩
      case measure => simp [RowKit.intOf]; omega
    · obtain rfl : k = n := by omega
      have hJ := join_own (sep := [58]) hown (by simp; omega) (by
        have := hexT_len l HX.out
        unfold hexT at this
        rw [List.take_of_length_le (by rw [List.length_map, HL.out]; omega)]
        rw [HL.out] at this
        omega)
      rw [List.take_of_length_le (by rw [List.length_map, HL.out]; omega)] at hJ
      clear hown
      go_wp2_with (go_at_call 18; refine (hJ).mono ?_; rintro e w' ⟨rfl, g2, rfl⟩)
      go_ret
      exact ret_eq rfl (by (repeat (first | exact Below.refl _ _ | assumption | apply below_alloc | apply below_grow | apply below_setCell | apply below_drew)); all_goals first | omega | (simp [go_sem]; done) | (simp [go_sem]; omega))
end Go.Proofs.YtpeojbaepbdmjaaDoor
