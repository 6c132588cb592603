/-
  Walks of addr.Less, cidr.Order, cmp.Or, offers.better. Conditions: the words of the addresses are 64-bit numbers; lengths of 0 to 128.
-/
import Derived.Test.YtpgjbiapghembaaLiveWalk
import Derived.StillTailTactics
namespace Go.Proofs.Ytpgjbiapghembaa
open Go.RowKit
set_option maxHeartbeats 400000
set_option maxRecDepth 100000

theorem sgrow_size (w : World) (os : Array Obj) : (Go.Sort.grow w os).heap.size = w.heap.size + os.size := by simp [Go.Sort.grow]
theorem sgrow_cell (w : World) (os : Array Obj) (b o : Nat) : (Go.Sort.grow w os).cell? ⟨b, o, none⟩ = if b < w.heap.size then w.cell? ⟨b, o, none⟩ else cellRaw (Go.Sort.grow w os) b o := by
  split
  · rename_i h
    exact World.cell?_of_block (by simp [Go.Sort.grow, Array.getElem?_append, h])
  · rfl
attribute [local go_sem] sgrow_size sgrow_cell
theorem less_exact (a b : Ad) (W : World) : Calls Try.prog 54 #[.agg #[.bool a.six, .int .u64 (a.hi : Nat), .int .u64 (a.lo : Nat)], .agg #[.bool b.six, .int .u64 (b.hi : Nat), .int .u64 (b.lo : Nat)]] W fun e w' => e = .returned (.bool (adLess a b)) ∧ ∃ os, w' = Go.Sort.grow W os := by
  obtain ⟨s, x, y⟩ := a
  obtain ⟨s', x', y'⟩ := b
  have H := hide (p := ∀ t, adLess ⟨t, x, y⟩ ⟨t, x', y'⟩ = decide (x < x' ∨ x = x' ∧ y < y')) (fun h => by simp [adLess])
  have H2 := hide (p := ∀ t t', t ≠ t' → adLess ⟨t, x, y⟩ ⟨t', x', y'⟩ = t') (fun t t' h => by simp [adLess, h])
  cases s <;> cases s'
  all_goals
    go_enter Try.func54, Try.ntmps54
    go_wp2
    all_goals
      go_ret
      refine ⟨?_, _, by rw [Go.Sort.alloc_eq_grow, Go.Sort.alloc_eq_grow, Go.Sort.grow_grow]⟩
      first
      | (rw [H2.out _ _ (by decide)]; rfl)
      | (rw [H.out]; congr 2; simp; done)
      | (rw [H.out]; congr 2; simp; omega)
      | (have e : x = x' := by omega
         subst e; rw [H.out]; simp; done)
      | (rw [H.out]; simp_all; done)
      | (rw [H.out]; simp_all; omega)
/-- Which prefix stands first. -/
def orderZ (a b : Ad × Int) : Int := if adLess a.1 b.1 = true then -1 else if adLess b.1 a.1 = true then 1 else a.2 - b.2
theorem order_exact (a b : Ad) (n m : Int) (hn : 0 ≤ n) (hn2 : n ≤ 128) (hm : 0 ≤ m) (hm2 : m ≤ 128) (W : World) :
    Calls Try.prog 35 #[.agg #[.bool a.six, .int .u64 (a.hi : Nat), .int .u64 (a.lo : Nat), .int .i64 n], .agg #[.bool b.six, .int .u64 (b.hi : Nat), .int .u64 (b.lo : Nat), .int .i64 m]] W fun e w' => e = .returned (.int .i64 (orderZ (a, n) (b, m))) ∧ ∃ os, w' = Go.Sort.grow W os := by
  have H1 := fun W => less_exact a b W
  have H2 := fun W => less_exact b a W
  have H := hide (p := orderZ (a, n) (b, m) = if adLess a b = true then -1 else if adLess b a = true then 1 else n - m) rfl
  rcases h1 : adLess a b with _ | _
  · rcases h2 : adLess b a with _ | _
    · rw [h1] at H1
      rw [h2] at H2
      rw [h1, h2] at H
      go_enter Try.func35, Try.ntmps35
      have tokX : True := trivial
      go_wp2_with (first | (go_at_call 54; clear tokX; refine (H1 _).mono ?_; rintro e w' ⟨rfl, os, rfl⟩) | (go_at_call 54; refine (H2 _).mono ?_; rintro e w' ⟨rfl, os2, rfl⟩))
      go_ret
      refine ⟨?_, _, by rw [Go.Sort.alloc_eq_grow, Go.Sort.alloc_eq_grow, Go.Sort.grow_grow, Go.Sort.grow_grow, Go.Sort.grow_grow]⟩
      rw [H.out]
      rfl
    · rw [h1] at H1
      rw [h2] at H2
      rw [h1, h2] at H
      go_enter Try.func35, Try.ntmps35
      have tokX : True := trivial
      go_wp2_with (first | (go_at_call 54; clear tokX; refine (H1 _).mono ?_; rintro e w' ⟨rfl, os, rfl⟩) | (go_at_call 54; refine (H2 _).mono ?_; rintro e w' ⟨rfl, os2, rfl⟩))
      go_ret
      refine ⟨?_, _, by rw [Go.Sort.alloc_eq_grow, Go.Sort.alloc_eq_grow, Go.Sort.grow_grow, Go.Sort.grow_grow, Go.Sort.grow_grow]⟩
      rw [H.out]
      rfl
  · rw [h1] at H1
    rw [h1] at H
    go_enter Try.func35, Try.ntmps35
    go_wp2_with (go_at_call 54; refine (H1 _).mono ?_; rintro e w' ⟨rfl, os, rfl⟩)
    go_ret
    refine ⟨?_, _, by rw [Go.Sort.alloc_eq_grow, Go.Sort.alloc_eq_grow, Go.Sort.grow_grow, Go.Sort.grow_grow]⟩
    rw [H.out]
    rfl
theorem or_any (A : Option Addr) (n c : Nat) (l : List Int) (w : World) (hl : Rd w 1 A n encI l) (hn : n ≤ c) (_hc : c ≤ 9223372036854775807) :
    Calls Try.prog 50 #[.slice A n c] w fun e w' => e = .returned (.int .i64 ((l.find? (· != 0)).getD 0)) ∧ w' = w := by
  have HL := hide hl.1
  go_enter Try.func50, Try.ntmps50
  go_wp2
  go_loopw [8] (fun i wr => ∃ k : Nat, k ≤ n ∧ i = .int .i64 k ∧ l.find? (· != 0) = (l.drop k).find? (· != 0) ∧ wr = w) (fun i _ => n - (intOf i).toNat)
  case atStart => exact ⟨0, by omega, rfl, rfl, rfl⟩
  case round =>
    obtain ⟨k, hk, rfl, hz, rfl⟩ := hrel
    have HZ := hide hz
    clear hz
    by_cases hlt : k < n
    · obtain ⟨b, off, rfl, hb, hcell⟩ := hl.at_ (by omega)
      have hlt' : k < l.length := by rw [HL.out]; exact hlt
      obtain ⟨r, hr⟩ : ∃ r, l[k]? = some r := ⟨_, List.getElem?_eq_getElem hlt'⟩
      have c0 := rdI hcell hr
      have HD := hide (p := l.drop k = r :: l.drop (k + 1)) (by rw [List.drop_eq_getElem_cons hlt', (List.getElem?_eq_some_iff.1 hr).2])
      clear hr hcell
      by_cases hs : r = 0
      · have H := hide (p := l.find? (· != 0) = (l.drop (k + 1)).find? (· != 0)) (by rw [HZ.out, HD.out, hs]; rfl)
        subst hs
        go_wp2_with fail
        go_roundw
        case rel => exact ⟨k + 1, by omega, by go_num, ⟨H.out, trivial⟩⟩
        case measure => simp [intOf]; omega
      · have hb2 : (r != 0) = true := by simpa using hs
        have H := hide (p := (l.find? (· != 0)).getD 0 = r) (by rw [HZ.out, HD.out, List.find?_cons_of_pos (by simpa using hs)]; rfl)
        clear hs
        go_wp2_with fail
        go_ret
        exact ⟨by rw [H.out]; rfl, rfl⟩
    · have H := hide (p := (l.find? (· != 0)).getD 0 = 0) (by rw [HZ.out, List.drop_of_length_le (by rw [HL.out]; omega)]; rfl)
      go_wp2_with fail
      go_ret
      exact ⟨by rw [H.out]; rfl, rfl⟩
theorem rd3 (W : World) (x y z : Int) (et : TypeId) : Rd (W.alloc (.cells #[.int .i64 x, .int .i64 y, .int .i64 z] et)) 1 (some ⟨W.heap.size, 0, none⟩) 3 encI [x, y, z] := by
  refine ⟨rfl, fun _ => ⟨_, 0, rfl, by simp, fun k r hk i v hi => ?_⟩⟩
  have hi0 : i = 0 := by
    have := (List.getElem?_eq_some_iff.1 hi).1
    simp [encI] at this
    exact this
  subst hi0
  simp only [encI, List.getElem?_cons_zero, Option.some.injEq] at hi
  subst hi
  rw [alloc_cell_ite, if_pos rfl]
  match k, hk with
  | 0, hk => cases hk; rfl
  | 1, hk => cases hk; rfl
  | 2, hk => cases hk; rfl
  | k + 3, hk => simp at hk
/-- Which of two offers is better. -/
def betterZ (a b : Ofr) : Int := (([cmpI a.src b.src, cmpI a.met b.met, cmpI a.peer b.peer] : List Int).find? (· != 0)).getD 0
theorem better_any (a b : Ofr) (w : World) :
    Calls Try.prog 32 #[.agg #[.bool a.ad.six, .int .u64 (a.ad.hi : Nat), .int .u64 (a.ad.lo : Nat), .int .i64 a.len, .int .i64 a.src, .int .i64 a.peer, .int .i64 a.met, .int .i64 a.hop], .agg #[.bool b.ad.six, .int .u64 (b.ad.hi : Nat), .int .u64 (b.ad.lo : Nat), .int .i64 b.len, .int .i64 b.src, .int .i64 b.peer, .int .i64 b.met, .int .i64 b.hop]] w (Ret (.int .i64 (betterZ a b)) w) := by
  go_enter Try.func32, Try.ntmps32
  go_wp2
  have hB : Below w.heap.size w ((w.alloc (Obj.cells #[Value.bool a.ad.six, Value.int IntKind.u64 a.ad.hi, Value.int IntKind.u64 a.ad.lo, Value.int IntKind.i64 a.len, Value.int IntKind.i64 a.src, Value.int IntKind.i64 a.peer, Value.int IntKind.i64 a.met, Value.int IntKind.i64 a.hop] 44)).alloc (Obj.cells #[Value.bool b.ad.six, Value.int IntKind.u64 b.ad.hi, Value.int IntKind.u64 b.ad.lo, Value.int IntKind.i64 b.len, Value.int IntKind.i64 b.src, Value.int IntKind.i64 b.peer, Value.int IntKind.i64 b.met, Value.int IntKind.i64 b.hop] 44)) := (by (repeat (first | exact Below.refl _ _ | assumption | apply below_alloc | apply below_grow | apply below_setCell | apply below_drew)); all_goals first | omega | (simp [go_sem]; done) | (simp [go_sem]; omega))
  have hs : ((w.alloc (Obj.cells #[Value.bool a.ad.six, Value.int IntKind.u64 a.ad.hi, Value.int IntKind.u64 a.ad.lo, Value.int IntKind.i64 a.len, Value.int IntKind.i64 a.src, Value.int IntKind.i64 a.peer, Value.int IntKind.i64 a.met, Value.int IntKind.i64 a.hop] 44)).alloc (Obj.cells #[Value.bool b.ad.six, Value.int IntKind.u64 b.ad.hi, Value.int IntKind.u64 b.ad.lo, Value.int IntKind.i64 b.len, Value.int IntKind.i64 b.src, Value.int IntKind.i64 b.peer, Value.int IntKind.i64 b.met, Value.int IntKind.i64 b.hop] 44)).heap.size = w.heap.size + 2 := by simp [go_sem]
  have a4 : ((w.alloc (Obj.cells #[Value.bool a.ad.six, Value.int IntKind.u64 a.ad.hi, Value.int IntKind.u64 a.ad.lo, Value.int IntKind.i64 a.len, Value.int IntKind.i64 a.src, Value.int IntKind.i64 a.peer, Value.int IntKind.i64 a.met, Value.int IntKind.i64 a.hop] 44)).alloc (Obj.cells #[Value.bool b.ad.six, Value.int IntKind.u64 b.ad.hi, Value.int IntKind.u64 b.ad.lo, Value.int IntKind.i64 b.len, Value.int IntKind.i64 b.src, Value.int IntKind.i64 b.peer, Value.int IntKind.i64 b.met, Value.int IntKind.i64 b.hop] 44)).cell? ⟨w.heap.size, 4, none⟩ = some (.int .i64 a.src) := by simp [go_sem]
  have a5 : ((w.alloc (Obj.cells #[Value.bool a.ad.six, Value.int IntKind.u64 a.ad.hi, Value.int IntKind.u64 a.ad.lo, Value.int IntKind.i64 a.len, Value.int IntKind.i64 a.src, Value.int IntKind.i64 a.peer, Value.int IntKind.i64 a.met, Value.int IntKind.i64 a.hop] 44)).alloc (Obj.cells #[Value.bool b.ad.six, Value.int IntKind.u64 b.ad.hi, Value.int IntKind.u64 b.ad.lo, Value.int IntKind.i64 b.len, Value.int IntKind.i64 b.src, Value.int IntKind.i64 b.peer, Value.int IntKind.i64 b.met, Value.int IntKind.i64 b.hop] 44)).cell? ⟨w.heap.size, 5, none⟩ = some (.int .i64 a.peer) := by simp [go_sem]
  have a6 : ((w.alloc (Obj.cells #[Value.bool a.ad.six, Value.int IntKind.u64 a.ad.hi, Value.int IntKind.u64 a.ad.lo, Value.int IntKind.i64 a.len, Value.int IntKind.i64 a.src, Value.int IntKind.i64 a.peer, Value.int IntKind.i64 a.met, Value.int IntKind.i64 a.hop] 44)).alloc (Obj.cells #[Value.bool b.ad.six, Value.int IntKind.u64 b.ad.hi, Value.int IntKind.u64 b.ad.lo, Value.int IntKind.i64 b.len, Value.int IntKind.i64 b.src, Value.int IntKind.i64 b.peer, Value.int IntKind.i64 b.met, Value.int IntKind.i64 b.hop] 44)).cell? ⟨w.heap.size, 6, none⟩ = some (.int .i64 a.met) := by simp [go_sem]
  have b4 : ((w.alloc (Obj.cells #[Value.bool a.ad.six, Value.int IntKind.u64 a.ad.hi, Value.int IntKind.u64 a.ad.lo, Value.int IntKind.i64 a.len, Value.int IntKind.i64 a.src, Value.int IntKind.i64 a.peer, Value.int IntKind.i64 a.met, Value.int IntKind.i64 a.hop] 44)).alloc (Obj.cells #[Value.bool b.ad.six, Value.int IntKind.u64 b.ad.hi, Value.int IntKind.u64 b.ad.lo, Value.int IntKind.i64 b.len, Value.int IntKind.i64 b.src, Value.int IntKind.i64 b.peer, Value.int IntKind.i64 b.met, Value.int IntKind.i64 b.hop] 44)).cell? ⟨w.heap.size + 1, 4, none⟩ = some (.int .i64 b.src) := by simp [go_sem]
  have b5 : ((w.alloc (Obj.cells #[Value.bool a.ad.six, Value.int IntKind.u64 a.ad.hi, Value.int IntKind.u64 a.ad.lo, Value.int IntKind.i64 a.len, Value.int IntKind.i64 a.src, Value.int IntKind.i64 a.peer, Value.int IntKind.i64 a.met, Value.int IntKind.i64 a.hop] 44)).alloc (Obj.cells #[Value.bool b.ad.six, Value.int IntKind.u64 b.ad.hi, Value.int IntKind.u64 b.ad.lo, Value.int IntKind.i64 b.len, Value.int IntKind.i64 b.src, Value.int IntKind.i64 b.peer, Value.int IntKind.i64 b.met, Value.int IntKind.i64 b.hop] 44)).cell? ⟨w.heap.size + 1, 5, none⟩ = some (.int .i64 b.peer) := by simp [go_sem]
  have b6 : ((w.alloc (Obj.cells #[Value.bool a.ad.six, Value.int IntKind.u64 a.ad.hi, Value.int IntKind.u64 a.ad.lo, Value.int IntKind.i64 a.len, Value.int IntKind.i64 a.src, Value.int IntKind.i64 a.peer, Value.int IntKind.i64 a.met, Value.int IntKind.i64 a.hop] 44)).alloc (Obj.cells #[Value.bool b.ad.six, Value.int IntKind.u64 b.ad.hi, Value.int IntKind.u64 b.ad.lo, Value.int IntKind.i64 b.len, Value.int IntKind.i64 b.src, Value.int IntKind.i64 b.peer, Value.int IntKind.i64 b.met, Value.int IntKind.i64 b.hop] 44)).cell? ⟨w.heap.size + 1, 6, none⟩ = some (.int .i64 b.met) := by simp [go_sem]
  generalize ((w.alloc (Obj.cells #[Value.bool a.ad.six, Value.int IntKind.u64 a.ad.hi, Value.int IntKind.u64 a.ad.lo, Value.int IntKind.i64 a.len, Value.int IntKind.i64 a.src, Value.int IntKind.i64 a.peer, Value.int IntKind.i64 a.met, Value.int IntKind.i64 a.hop] 44)).alloc (Obj.cells #[Value.bool b.ad.six, Value.int IntKind.u64 b.ad.hi, Value.int IntKind.u64 b.ad.lo, Value.int IntKind.i64 b.len, Value.int IntKind.i64 b.src, Value.int IntKind.i64 b.peer, Value.int IntKind.i64 b.met, Value.int IntKind.i64 b.hop] 44)) = W1 at hB hs a4 a5 a6 b4 b5 b6 ⊢
  refine wp_region_still_tail 15 (by kernel_rfl) (by kernel_rfl) ?_
  simp only [List.take_succ_cons, List.take_zero, List.drop_succ_cons, List.drop_zero]
  have hB2 : Below w.heap.size w W1.drew := hB.drew
  have hs2 : W1.drew.heap.size = w.heap.size + 2 := hs
  replace a4 : W1.drew.cell? ⟨w.heap.size, 4, none⟩ = some (.int .i64 a.src) := a4
  replace a5 : W1.drew.cell? ⟨w.heap.size, 5, none⟩ = some (.int .i64 a.peer) := a5
  replace a6 : W1.drew.cell? ⟨w.heap.size, 6, none⟩ = some (.int .i64 a.met) := a6
  replace b4 : W1.drew.cell? ⟨w.heap.size + 1, 4, none⟩ = some (.int .i64 b.src) := b4
  replace b5 : W1.drew.cell? ⟨w.heap.size + 1, 5, none⟩ = some (.int .i64 b.peer) := b5
  replace b6 : W1.drew.cell? ⟨w.heap.size + 1, 6, none⟩ = some (.int .i64 b.met) := b6
  change wpStill _ _ W1.drew (fun a' => wpList _ _ _ _ a' W1.drew) _ _
  generalize W1.drew = W2 at hB2 hs2 a4 a5 a6 b4 b5 b6 ⊢
  clear hB hs
  repeat (first | still_call (cmp_exact _ _ _) | still_step)
  refine wpStill_nil ?_
  have hle : w.heap.size ≤ W2.heap.size := by omega
  clear hs2 a4 a5 a6 b4 b5 b6
  have H := hide (p := betterZ a b = (([cmpI a.src b.src, cmpI a.met b.met, cmpI a.peer b.peer] : List Int).find? (· != 0)).getD 0) rfl
  go_wp2_with (go_at_call 50; refine (or_any _ _ _ _ _ (rd3 W2 (cmpI a.src b.src) (cmpI a.met b.met) (cmpI a.peer b.peer) _) (by omega) (by omega)).mono ?_; rintro e w' ⟨rfl, rfl⟩)
  go_ret
  refine ret_i ?_ (by (repeat (first | exact Below.refl _ _ | assumption | apply below_alloc | apply below_grow | apply below_setCell | apply below_drew)); all_goals first | omega | (simp [go_sem]; done) | (simp [go_sem]; omega))
  rw [H.out]
end Go.Proofs.Ytpgjbiapghembaa
