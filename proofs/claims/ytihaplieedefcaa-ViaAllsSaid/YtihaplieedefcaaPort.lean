/-
  Walks of slices.Index, slices.Contains at ints, and of via.port. Conditions: the map's next hops are 64-bit numbers.
-/
import Derived.Test.YtihaplieedefcaaVia
import Derived.Test.YtihaplieedefcaaRow
import Derived.Deep.LoopGhost
namespace Go.Proofs.Ytihaplieedefcaa
open Go.RowKit
set_option maxHeartbeats 400000
set_option maxRecDepth 100000

def encI (x : Int) : List Value := [.int .i64 x]
theorem rdI {w : World} {b off k : Nat} {l : List Int} {r : Int} (hc : ∀ k x, l[k]? = some x → ∀ i v, (encI x)[i]? = some v → w.cell? ⟨b, off + k * 1 + i, none⟩ = some v) (hr : l[k]? = some r) : w.cell? ⟨b, off + k, none⟩ = some (.int .i64 r) := by
  have := hc k r hr 0 _ rfl
  simpa using this
/-- Where it stands; -1: nowhere. -/
def ixI (l : List Int) (v : Int) : Int := if v ∈ l then (l.idxOf v : Nat) else -1
theorem ixI_ge (l : List Int) (v : Int) : decide (0 ≤ ixI l v) = decide (v ∈ l) := by
  unfold ixI
  by_cases h : v ∈ l <;> simp [h]
theorem ixI_at {l : List Int} {v : Int} {k : Nat} (hk : l[k]? = some v) (hs : ∀ j q, j < k → l[j]? = some q → q ≠ v) : ixI l v = k := by
  have hm : v ∈ l := List.mem_of_getElem? hk
  unfold ixI
  rw [if_pos hm]
  have hlt := List.idxOf_lt_length_of_mem hm
  have hg : l[l.idxOf v]? = some v := by rw [List.getElem?_eq_getElem hlt, List.getElem_idxOf hlt]
  rcases Nat.lt_trichotomy (l.idxOf v) k with h | h | h
  · exact absurd rfl (hs _ _ h hg)
  · rw [h]
  · have := List.not_of_lt_findIdx (p := (· == v)) (xs := l) (i := k) h
    rw [List.getElem?_eq_some_iff] at hk
    obtain ⟨hl, hv⟩ := hk
    simp [hv] at this
theorem ixI_none {l : List Int} {v : Int} (hs : ∀ (j : Nat) (q : Int), l[j]? = some q → q ≠ v) : ixI l v = -1 := by
  unfold ixI
  rw [if_neg]
  intro h
  obtain ⟨j, hj⟩ := List.mem_iff_getElem?.1 h
  exact hs j v hj rfl
theorem index_any (A : Option Addr) (n c : Nat) (l : List Int) (v : Int) (w : World) (hl : Rd w 1 A n encI l) (hn : n ≤ c) (_hc : c ≤ 9223372036854775807) :
    Calls Try.prog 196 #[.slice A n c, .int .i64 v] w (Ret (.int .i64 (ixI l v)) w) := by
  have HL := hide hl.1
  go_enter Try.func196, Try.ntmps196
  go_wp2
  go_loopw [8] (fun i wr => ∃ k : Nat, k ≤ n ∧ i = .int .i64 k ∧ (∀ j q, j < k → l[j]? = some q → q ≠ v) ∧ wr = w) (fun i _ => n - (intOf i).toNat)
  case atStart => exact ⟨0, by omega, rfl, fun j q h => by omega, rfl⟩
  case round =>
    obtain ⟨k, hk, rfl, hz, rfl⟩ := hrel
    have HZ := hide hz
    clear hz
    by_cases hlt : k < n
    · obtain ⟨b, off, rfl, hb, hcell⟩ := hl.at_ (by omega)
      obtain ⟨r, hr⟩ : ∃ r, l[k]? = some r := ⟨_, List.getElem?_eq_getElem (by rw [HL.out]; exact hlt)⟩
      have c0 := rdI hcell hr
      have HR := hide hr
      clear hr hcell
      by_cases hs : r = v
      · have H := hide (ixI_at (HR.out.trans (by rw [hs])) HZ.out)
        subst hs
        go_wp2_with fail
        go_ret
        exact ret_i (by rw [H.out]) (by (repeat (first | exact Below.refl _ _ | assumption | apply below_alloc | apply below_grow | apply below_setCell | apply below_drew)); all_goals first | omega | (simp [go_sem]; done) | (simp [go_sem]; omega))
      · have hb2 : (v == r) = false := by simpa using fun h => hs (Eq.symm h)
        have HS := hide hs
        clear hs
        go_wp2_with fail
        go_roundw
        case rel => exact ⟨k + 1, by omega, by go_num, ⟨fun j q' h1 h2 => by
          by_cases e : j = k
          · subst e
            have := HR.out.symm.trans h2
            simp only [Option.some.injEq] at this
            subst this
            exact HS.out
          · exact HZ.out j q' (by omega) h2, trivial⟩⟩
        case measure => simp [intOf]; omega
    · have H := hide (ixI_none (l := l) (v := v) fun j q h => HZ.out j q (by have := (List.getElem?_eq_some_iff.1 h).1; rw [HL.out] at this; omega) h)
      go_wp2_with fail
      go_ret
      exact ret_i (by rw [H.out]) (by (repeat (first | exact Below.refl _ _ | assumption | apply below_alloc | apply below_grow | apply below_setCell | apply below_drew)); all_goals first | omega | (simp [go_sem]; done) | (simp [go_sem]; omega))
theorem contains_any (A : Option Addr) (n c : Nat) (l : List Int) (v : Int) (w : World) (hl : Rd w 1 A n encI l) (hn : n ≤ c) (hc : c ≤ 9223372036854775807) :
    Calls Try.prog 140 #[.slice A n c, .int .i64 v] w (Ret (.bool (decide (v ∈ l))) w) := by
  have H := hide (ixI_ge l v)
  go_enter Try.func140, Try.ntmps140
  go_wp2_with (go_at_call 196; refine (index_any _ _ _ _ _ _ hl hn hc).mono ?_; rintro e w' ⟨rfl, g, rfl⟩)
  go_ret
  refine ret_b ?_ (by (repeat (first | exact Below.refl _ _ | assumption | apply below_alloc | apply below_grow | apply below_setCell | apply below_drew)); all_goals first | omega | (simp [go_sem]; done) | (simp [go_sem]; omega))
  rw [← H.out]
theorem encI_len (x : Int) : (encI x).length = 1 := rfl
/-- The port of a hop, hop by hop. -/
def portGo (f : Int → Option Vi) : Nat → List Int → Int → Int × Int × Int
  | 0, _, _ => (0, 0, 9)
  | m + 1, seen, hop => match f hop with
    | none => (0, 0, 7)
    | some v => if hop ∈ seen then (0, 0, 10) else if 8 < seen.length then (0, 0, 9) else if 0 < v.port then (v.port, ((seen.length : Nat) : Int), 0) else portGo f m (seen ++ [hop]) v.next
def portF (f : Int → Option Vi) (hop : Int) : Int × Int × Int := portGo f 10 [] hop
theorem portGo_1 (f : Int → Option Vi) (k : Nat) (seen : List Int) (hop : Int) (hk : k ≤ 9) (h : f hop = none) : portGo f (10 - k) seen hop = (0, 0, 7) := by
  obtain ⟨m, hm⟩ : ∃ m, 10 - k = m + 1 := ⟨9 - k, by omega⟩
  rw [hm, portGo, h]
theorem portGo_2 (f : Int → Option Vi) (k : Nat) (seen : List Int) (hop : Int) (hk : k ≤ 9) {v : Vi} (h : f hop = some v) (h2 : hop ∈ seen) : portGo f (10 - k) seen hop = (0, 0, 10) := by
  obtain ⟨m, hm⟩ : ∃ m, 10 - k = m + 1 := ⟨9 - k, by omega⟩
  rw [hm, portGo, h]
  simp only
  rw [if_pos h2]
theorem portGo_3 (f : Int → Option Vi) (seen : List Int) (hop : Int) (hs : seen.length = 9) {v : Vi} (h : f hop = some v) (h2 : ¬ hop ∈ seen) : portGo f 1 seen hop = (0, 0, 9) := by
  rw [portGo, h]
  simp only
  rw [if_neg h2, if_pos (by omega)]
theorem portGo_4 (f : Int → Option Vi) (k : Nat) (seen : List Int) (hop : Int) (hs : seen.length = k) (hk : k ≤ 8) {v : Vi} (h : f hop = some v) (h2 : ¬ hop ∈ seen) (h3 : 0 < v.port) : portGo f (10 - k) seen hop = (v.port, ((k : Nat) : Int), 0) := by
  obtain ⟨m, hm⟩ : ∃ m, 10 - k = m + 1 := ⟨9 - k, by omega⟩
  rw [hm, portGo, h]
  simp only
  rw [if_neg h2, if_neg (by omega), if_pos h3, hs]
theorem portGo_5 (f : Int → Option Vi) (k : Nat) (seen : List Int) (hop : Int) (hs : seen.length = k) (hk : k ≤ 8) {v : Vi} (h : f hop = some v) (h2 : ¬ hop ∈ seen) (h3 : ¬ 0 < v.port) : portGo f (10 - k) seen hop = portGo f (10 - (k + 1)) (seen ++ [hop]) v.next := by
  rw [show 10 - k = 10 - (k + 1) + 1 by omega, portGo, h]
  simp only
  rw [if_neg h2, if_neg (by omega), if_neg h3]
def portV (x : Int × Int × Int) : Value := .tuple #[.int .i64 x.1, .int .i64 x.2.1, .int .i64 x.2.2]
theorem ret3 {w W : World} {x : Int × Int × Int} {a b c : Int} (h : x = (a, b, c)) (hB : Below w.heap.size w W) : Ret (portV x) w (.returned (.tuple #[.int .i64 a, .int .i64 b, .int .i64 c])) W := by
  subst h; exact ret_of hB
theorem port_any (b nn : Nat) (f : Int → Option Vi) (hop : Int) (w : World) (hm : viaTy.At w b nn f) (hok : viaTy.ok hop) (hnext : ∀ h v, f h = some v → viaTy.ok v.next) :
    Calls Try.prog 77 #[.map (some b), .int .i64 hop] w (Ret (portV (portF f hop)) w) := by
  have hbl := hm.lt
  go_enter Try.func77, Try.ntmps77
  go_wp2
  go_loopw [1, 7, 8] (fun h v d wr => ∃ (k : Nat) (seen : List Int) (hop' : Int) (g : Gr w), k ≤ 9 ∧ seen.length = k ∧ h = .int .i64 hop' ∧ d = .int .i64 k ∧ viaTy.ok hop' ∧ portF f hop = portGo f (10 - k) seen hop' ∧ wr = grow _ g ∧ (grow _ g).ownsRow w.heap.size 3 1 v k (seen.flatMap encI)) (fun _ _ d _ => 10 - (intOf d).toNat)
  case atStart => exact ⟨0, [], hop, ⟨_, Below.refl _ _⟩, by omega, rfl, rfl, rfl, hok, rfl, rfl, own_nil _ _ _ _⟩
  case round =>
    obtain ⟨k, seen, hop', g0, hk, hlen, rfl, rfl, hok', hz, rfl, hown⟩ := hrel
    have HZ := hide hz
    have HL := hide hlen
    have HM := hide (hm.grow g0)
    obtain ⟨A, c, rfl, hrd, hnc, hc⟩ := own_rd encI_len hown (by decide)
    clear hz hlen
    rcases hf : f hop' with _ | u
    · have H := hide (HZ.out.trans (portGo_1 f k seen hop' hk hf))
      go_wp2_with (at_lookup; refine map_look viaTy _ (by rfl) _ _ (by rfl) _ nn f (by rfl) (by repeat (first | with_reducible exact HM.out | apply MapTy.At.grow | apply MapTy.At.alloc | (refine MapTy.At.setCell ?_ (by simp [go_sem]; try omega) _))) hop' (by rfl) hok' none hf (.agg #[.int .i64 0, .int .i64 0, .int .i64 0]) rfl false rfl ?_)
      go_ret3
      exact ret3 H.out (by (repeat (first | exact Below.refl _ _ | assumption | apply below_alloc | apply below_grow | apply below_setCell | apply below_drew)); all_goals first | omega | (simp [go_sem]; done) | (simp [go_sem]; omega))
    · by_cases h2 : hop' ∈ seen
      · have H := hide (HZ.out.trans (portGo_2 f k seen hop' hk hf h2))
        have d2 : decide (hop' ∈ seen) = true := decide_eq_true h2
        clear h2
        go_wp2_with (first | (at_lookup; refine map_look viaTy _ (by rfl) _ _ (by rfl) _ nn f (by rfl) (by repeat (first | with_reducible exact HM.out | apply MapTy.At.grow | apply MapTy.At.alloc | (refine MapTy.At.setCell ?_ (by simp [go_sem]; try omega) _))) hop' (by rfl) hok' (some u) hf (.agg #[.int .i64 u.hop, .int .i64 u.port, .int .i64 u.next]) rfl true rfl ?_) | (go_at_call 140; refine (contains_any _ _ _ _ _ _ (hrd.below (by (repeat (first | exact Below.refl _ _ | assumption | apply below_alloc | apply below_grow | apply below_setCell | apply below_drew)); all_goals first | omega | (simp [go_sem]; done) | (simp [go_sem]; omega))) hnc hc).mono ?_; rintro e w' ⟨rfl, g, rfl⟩))
        go_ret3
        exact ret3 H.out (by (repeat (first | exact Below.refl _ _ | assumption | apply below_alloc | apply below_grow | apply below_setCell | apply below_drew)); all_goals first | omega | (simp [go_sem]; done) | (simp [go_sem]; omega))
      · have d2 : decide (hop' ∈ seen) = false := decide_eq_false h2
        by_cases h9 : k = 9
        · have H := hide ((HZ.out.trans (by rw [h9])).trans (portGo_3 f seen hop' (by rw [HL.out, h9]) hf h2))
          subst h9
          clear h2
          go_wp2_with (first | (at_lookup; refine map_look viaTy _ (by rfl) _ _ (by rfl) _ nn f (by rfl) (by repeat (first | with_reducible exact HM.out | apply MapTy.At.grow | apply MapTy.At.alloc | (refine MapTy.At.setCell ?_ (by simp [go_sem]; try omega) _))) hop' (by rfl) hok' (some u) hf (.agg #[.int .i64 u.hop, .int .i64 u.port, .int .i64 u.next]) rfl true rfl ?_) | (go_at_call 140; refine (contains_any _ _ _ _ _ _ (hrd.below (by (repeat (first | exact Below.refl _ _ | assumption | apply below_alloc | apply below_grow | apply below_setCell | apply below_drew)); all_goals first | omega | (simp [go_sem]; done) | (simp [go_sem]; omega))) hnc hc).mono ?_; rintro e w' ⟨rfl, g, rfl⟩))
          go_ret3
          exact ret3 H.out (by (repeat (first | exact Below.refl _ _ | assumption | apply below_alloc | apply below_grow | apply below_setCell | apply below_drew)); all_goals first | omega | (simp [go_sem]; done) | (simp [go_sem]; omega))
        · have hk8 : k ≤ 8 := by omega
          by_cases h3 : 0 < u.port
          · have H := hide (HZ.out.trans (portGo_4 f k seen hop' HL.out hk8 hf h2 h3))
            clear h2
            go_wp2_with (first | (at_lookup; refine map_look viaTy _ (by rfl) _ _ (by rfl) _ nn f (by rfl) (by repeat (first | with_reducible exact HM.out | apply MapTy.At.grow | apply MapTy.At.alloc | (refine MapTy.At.setCell ?_ (by simp [go_sem]; try omega) _))) hop' (by rfl) hok' (some u) hf (.agg #[.int .i64 u.hop, .int .i64 u.port, .int .i64 u.next]) rfl true rfl ?_) | (go_at_call 140; refine (contains_any _ _ _ _ _ _ (hrd.below (by (repeat (first | exact Below.refl _ _ | assumption | apply below_alloc | apply below_grow | apply below_setCell | apply below_drew)); all_goals first | omega | (simp [go_sem]; done) | (simp [go_sem]; omega))) hnc hc).mono ?_; rintro e w' ⟨rfl, g, rfl⟩))
            go_ret3
            exact ret3 H.out (by (repeat (first | exact Below.refl _ _ | assumption | apply below_alloc | apply below_grow | apply below_setCell | apply below_drew)); all_goals first | omega | (simp [go_sem]; done) | (simp [go_sem]; omega))
          · have H := hide (HZ.out.trans (portGo_5 f k seen hop' HL.out hk8 hf h2 h3))
            have hn' := hide (hnext _ _ hf)
            clear h2
            go_wp2_with (first | (at_lookup; refine map_look viaTy _ (by rfl) _ _ (by rfl) _ nn f (by rfl) (by repeat (first | with_reducible exact HM.out | apply MapTy.At.grow | apply MapTy.At.alloc | (refine MapTy.At.setCell ?_ (by simp [go_sem]; try omega) _))) hop' (by rfl) hok' (some u) hf (.agg #[.int .i64 u.hop, .int .i64 u.port, .int .i64 u.next]) rfl true rfl ?_) | (go_at_call 140; refine (contains_any _ _ _ _ _ _ (hrd.below (by (repeat (first | exact Below.refl _ _ | assumption | apply below_alloc | apply below_grow | apply below_setCell | apply below_drew)); all_goals first | omega | (simp [go_sem]; done) | (simp [go_sem]; omega))) hnc hc).mono ?_; rintro e w' ⟨rfl, g, rfl⟩) | (at_builtin; refine app_intk w _ (by (repeat (first | exact Below.refl _ _ | assumption | apply below_alloc | apply below_grow | apply below_setCell | apply below_drew)); all_goals first | omega | (simp [go_sem]; done) | (simp [go_sem]; omega)) (by rfl) _ _ (by rfl) (.slice A k c) _ _ (by rfl) (by repeat (first | with_reducible exact hown | apply own_grow | apply World.ownsRow.alloc | (refine own_far ?_ _ _ _ (by simp [go_sem, Value.ownBlock]; try omega)))) _ _ _ _ (by rfl) (by simp [go_sem]) (by rfl) (by omega) ?_; intro g' blk cap hle hkeep _ hown'; have hk2 := hkeep (grow w g0).heap.size 2 (by simp [go_sem]; omega) (fun h => absurd (hown.lt _ h).2 (by omega)); simp [go_sem] at hk2; clear hkeep))
            go_roundw
            case rel => exact ⟨k + 1, seen ++ [hop'], u.next, g', by omega, by rw [List.length_append, HL.out]; rfl, rfl, by go_num, hn'.out, H.out, rfl, by rw [flat_snoc]; exact hown'⟩
            case measure => simp [intOf]; omega
end Go.Proofs.Ytihaplieedefcaa
