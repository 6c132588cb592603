/-
  Vias: as data and in memory; the map of the known ones; walks of via.out, via.known and the reference's ViaFault. Conditions: none.
-/
import Derived.Test.YtihaplieedefcaaMap
import Derived.Test.YtihaplieedefcaaRoute
namespace Go.Proofs.Ytihaplieedefcaa
open Go.RowKit
open Go.Maps (Keyed)
set_option maxHeartbeats 400000
set_option maxRecDepth 100000

structure Vi where
  hop : Int
  port : Int
  next : Int
deriving DecidableEq
def encV (v : Vi) : List Value := [.int .i64 v.hop, .int .i64 v.port, .int .i64 v.next]
theorem rdV {w : World} {b off k : Nat} {l : List Vi} {r : Vi} (hc : ∀ k x, l[k]? = some x → ∀ i v, (encV x)[i]? = some v → w.cell? ⟨b, off + k * 3 + i, none⟩ = some v) (hr : l[k]? = some r) :
    w.cell? ⟨b, off + k * 3, none⟩ = some (.int .i64 r.hop) ∧ w.cell? ⟨b, off + k * 3 + 1, none⟩ = some (.int .i64 r.port) ∧ w.cell? ⟨b, off + k * 3 + 2, none⟩ = some (.int .i64 r.next) :=
  ⟨hc k r hr 0 _ rfl, hc k r hr 1 _ rfl, hc k r hr 2 _ rfl⟩
/-- The map from hops to vias. -/
def viaTy : MapTy Try.prog 150 3 78 Int Vi where
  keyed := Maps.int_keyed Try.underlying3
  under := Try.underlying150
  key := Value.int .i64
  kl := Lit.int .i64
  ok x := (Lit.int .i64 x).wf = true
  fwd x h := Maps.keyOf_int_mk Try.underlying3 h
  bwd v l h := by
    obtain ⟨x, h1, h2, h3⟩ := Maps.keyOf_int_inv Try.underlying3 h
    exact ⟨x, h3, h1, h2⟩
  inj x y h := by cases h; rfl
  val v := .agg #[.int .i64 v.hop, .int .i64 v.port, .int .i64 v.next]
  vinj x y h := by
    cases x; cases y
    simp only [Value.agg.injEq] at h
    simpa using h
  zero := ⟨0, 0, 0⟩
  zeroRun w := by kernel_rfl
theorem viaTy_key (x : Int) : viaTy.key x = .int .i64 x := rfl
theorem viaTy_val (v : Vi) : viaTy.val v = .agg #[.int .i64 v.hop, .int .i64 v.port, .int .i64 v.next] := rfl
attribute [go_sem] viaTy_key viaTy_val
theorem wf_i64 {x : Int} (h1 : -9223372036854775808 ≤ x) (h2 : x ≤ 9223372036854775807) : (Lit.int .i64 x).wf = true := WalkArith.wf_i64 (by omega)
theorem hint_map (n : Int) (w : World) : (Instr.makeMap 150 (some (.int .i64 n))).run Try.prog w = .ok (.map (some w.heap.size)) (w.alloc (.map #[] 0)) := by
  simp [Instr.makeMap, run_underlying Try.underlying150, asInt, asIntOf, Result.andThen]

def vfGo (seen : List Vi) : List Vi → Int
  | [] => 0
  | v :: r => if v.hop < 1 ∨ 999 < v.hop then 2 else if (v.port = 0 ↔ v.next = 0) then 4 else if v.port < 0 ∨ 999 < v.port ∨ v.next < 0 ∨ 999 < v.next then 2 else if seen.any (fun q => decide (q.hop = v.hop)) then 8 else vfGo (seen ++ [v]) r
def vfault (l : List Vi) : Int := if 60 < l.length then 1 else vfGo [] l
def vmap (l : List Vi) (h : Int) : Option Vi := l.find? fun v => decide (v.hop = h)
theorem vfGo_at (l : List Vi) (k : Nat) (v : Vi) (hk : l[k]? = some v) : vfGo (l.take k) (l.drop k) = if v.hop < 1 ∨ 999 < v.hop then 2 else if (v.port = 0 ↔ v.next = 0) then 4 else if v.port < 0 ∨ 999 < v.port ∨ v.next < 0 ∨ 999 < v.next then 2 else if (l.take k).any (fun q => decide (q.hop = v.hop)) then 8 else vfGo (l.take (k + 1)) (l.drop (k + 1)) := by
  have hlt := (List.getElem?_eq_some_iff.1 hk).1
  have hr := (List.getElem?_eq_some_iff.1 hk).2
  rw [List.drop_eq_getElem_cons hlt, vfGo, hr, List.take_add_one, hk]
  rfl
theorem vmap_any (l : List Vi) (h : Int) : l.any (fun q => decide (q.hop = h)) = (vmap l h).isSome := by
  unfold vmap
  rw [Bool.eq_iff_iff, List.any_eq_true, List.find?_isSome]
theorem vmap_snoc (l : List Vi) (v : Vi) (hn : vmap l v.hop = none) (h : Int) : upd (vmap l) v.hop (some v) h = vmap (l ++ [v]) h := by
  unfold vmap at *
  rw [List.find?_append]
  by_cases e : h = v.hop
  · subst e
    rw [upd_same, hn]
    simp
  · rw [upd_other _ e]
    have : decide (v.hop = h) = false := by simp; exact fun hh => e hh.symm
    simp [this]

theorem out_any (n m : Int) (w : World) : Calls Try.prog 139 #[.int .i64 n, .int .i64 m] w (Ret (.bool (decide (n < m ∨ 999 < n))) w) := by
  go_enter Try.func139, Try.ntmps139
  go_wp2
  all_goals
    go_ret
    refine ret_b ?_ (by (repeat (first | exact Below.refl _ _ | assumption | apply below_alloc | apply below_grow | apply below_setCell | apply below_drew)); all_goals first | omega | (simp [go_sem]; done) | (simp [go_sem]; omega))
    simp_all
/-- What via.known hands back. -/
def KnownPost (l : List Vi) (w : World) (e : Ending) (w' : World) : Prop :=
  ∃ g : Gr w, w' = grow w g ∧ ((vfault l ≠ 0 ∧ e = .returned (.tuple #[.map none, .int .i64 (vfault l)])) ∨
    (vfault l = 0 ∧ ∃ b, e = .returned (.tuple #[.map (some b), .int .i64 0]) ∧ w.heap.size ≤ b ∧ viaTy.At (grow w g) b l.length (vmap l)))
theorem known_bad {l : List Vi} {w W : World} {z : Int} (h : vfault l = z) (hz : z ≠ 0) (hB : Below w.heap.size w W) : KnownPost l w (.returned (.tuple #[.map none, .int .i64 z])) W := by
  obtain ⟨g, rfl⟩ := gr_of hB
  exact ⟨g, rfl, .inl ⟨by rw [h]; exact hz, by rw [h]⟩⟩
theorem vfGo_1 {l : List Vi} {k : Nat} {v : Vi} (hk : l[k]? = some v) (h : v.hop < 1 ∨ 999 < v.hop) : vfGo (l.take k) (l.drop k) = 2 := by rw [vfGo_at l k v hk, if_pos h]
theorem vfGo_2 {l : List Vi} {k : Nat} {v : Vi} (hk : l[k]? = some v) (h : ¬ (v.hop < 1 ∨ 999 < v.hop)) (h2 : v.port = 0 ↔ v.next = 0) : vfGo (l.take k) (l.drop k) = 4 := by rw [vfGo_at l k v hk, if_neg h, if_pos h2]
theorem vfGo_3 {l : List Vi} {k : Nat} {v : Vi} (hk : l[k]? = some v) (h : ¬ (v.hop < 1 ∨ 999 < v.hop)) (h2 : ¬ (v.port = 0 ↔ v.next = 0)) (h3 : v.port < 0 ∨ 999 < v.port ∨ v.next < 0 ∨ 999 < v.next) : vfGo (l.take k) (l.drop k) = 2 := by rw [vfGo_at l k v hk, if_neg h, if_neg h2, if_pos h3]
theorem vfGo_4 {l : List Vi} {k : Nat} {v : Vi} (hk : l[k]? = some v) (h : ¬ (v.hop < 1 ∨ 999 < v.hop)) (h2 : ¬ (v.port = 0 ↔ v.next = 0)) (h3 : ¬ (v.port < 0 ∨ 999 < v.port ∨ v.next < 0 ∨ 999 < v.next)) (h4 : (vmap (l.take k) v.hop).isSome = true) : vfGo (l.take k) (l.drop k) = 8 := by
  rw [vfGo_at l k v hk, if_neg h, if_neg h2, if_neg h3, if_pos (by rw [vmap_any]; exact h4)]
theorem vfGo_5 {l : List Vi} {k : Nat} {v : Vi} (hk : l[k]? = some v) (h : ¬ (v.hop < 1 ∨ 999 < v.hop)) (h2 : ¬ (v.port = 0 ↔ v.next = 0)) (h3 : ¬ (v.port < 0 ∨ 999 < v.port ∨ v.next < 0 ∨ 999 < v.next)) (h4 : (vmap (l.take k) v.hop).isSome = false) : vfGo (l.take k) (l.drop k) = vfGo (l.take (k + 1)) (l.drop (k + 1)) := by
  rw [vfGo_at l k v hk, if_neg h, if_neg h2, if_neg h3, if_neg (by rw [vmap_any, h4]; decide)]
theorem known_any (A : Option Addr) (n c : Nat) (l : List Vi) (w : World) (hl : Rd w 3 A n encV l) (hn : n ≤ c) (_hc : c ≤ 9223372036854775807) :
    Calls Try.prog 76 #[.slice A n c] w (KnownPost l w) := by
  have hlen := hl.1
  by_cases h60 : 60 < n
  · have H := hide (p := vfault l = 1) (by unfold vfault; rw [if_pos (by omega)])
    go_enter Try.func76, Try.ntmps76
    go_wp2_with fail
    go_ret2
    exact known_bad H.out (by decide) (by (repeat (first | exact Below.refl _ _ | assumption | apply below_alloc | apply below_grow | apply below_setCell | apply below_drew)); all_goals first | omega | (simp [go_sem]; done) | (simp [go_sem]; omega))
  · have H0 := hide (p := vfault l = vfGo (l.take 0) (l.drop 0)) (by unfold vfault; rw [if_neg (by omega)]; rfl)
    have HL := hide hlen
    clear hlen
    have hmm := hint_map
    go_enter Try.func76, Try.ntmps76
    go_wp2_with fail
    go_loopw [17] (fun i wr => ∃ k : Nat, k ≤ n ∧ i = .int .i64 k ∧ vfault l = vfGo (l.take k) (l.drop k) ∧ ∃ g : Gr w, wr = grow _ g ∧ viaTy.At (grow _ g) w.heap.size k (vmap (l.take k))) (fun i _ => n - (intOf i).toNat)
    case atStart =>
      obtain ⟨g, hg⟩ := gr_of (w := w) (w' := w.alloc (.map #[] 0)) (by (repeat (first | exact Below.refl _ _ | assumption | apply below_alloc | apply below_grow | apply below_setCell | apply below_drew)); all_goals first | omega | (simp [go_sem]; done) | (simp [go_sem]; omega))
      refine ⟨0, by omega, rfl, H0.out, g, hg, ?_⟩
      rw [← hg]
      exact (viaTy.made w).same fun x => rfl
    case round =>
      obtain ⟨k, hk, rfl, hz, g, rfl, hown⟩ := hrel
      have HZ := hide hz
      clear hz H0
      by_cases hlt : k < n
      · obtain ⟨b, off, rfl, hb, hcell⟩ := hl.at_ (by omega)
        obtain ⟨r, hr⟩ : ∃ r, l[k]? = some r := ⟨_, List.getElem?_eq_getElem (by rw [HL.out]; exact hlt)⟩
        obtain ⟨c0, c1, c2⟩ := rdV hcell hr
        have HR := hide hr
        clear hr hcell
        by_cases t1 : r.hop < 1 ∨ 999 < r.hop
        · have H := hide (HZ.out.trans (vfGo_1 HR.out t1))
          have d1 : decide (r.hop < 1 ∨ 999 < r.hop) = true := decide_eq_true t1
          clear t1
          go_wp2_with (go_at_call 139; refine (out_any _ _ _).mono ?_; rintro e w' ⟨rfl, g, rfl⟩)
          go_ret2
          exact known_bad H.out (by decide) (by (repeat (first | exact Below.refl _ _ | assumption | apply below_alloc | apply below_grow | apply below_setCell | apply below_drew)); all_goals first | omega | (simp [go_sem]; done) | (simp [go_sem]; omega))
        · have T1 := hide t1
          have d1 : decide (r.hop < 1 ∨ 999 < r.hop) = false := decide_eq_false t1
          by_cases t2 : (r.port = 0 ↔ r.next = 0)
          · have H := hide (HZ.out.trans (vfGo_2 HR.out t1 t2))
            have d2 : ((r.port == 0) == (r.next == 0)) = true := by rw [beq_iff_eq, Bool.eq_iff_iff, beq_iff_eq, beq_iff_eq]; exact t2
            clear t1 t2
            go_wp2_with (go_at_call 139; refine (out_any _ _ _).mono ?_; rintro e w' ⟨rfl, g, rfl⟩)
            go_ret2
            exact known_bad H.out (by decide) (by (repeat (first | exact Below.refl _ _ | assumption | apply below_alloc | apply below_grow | apply below_setCell | apply below_drew)); all_goals first | omega | (simp [go_sem]; done) | (simp [go_sem]; omega))
          · have d2 : ((r.port == 0) == (r.next == 0)) = false := by rw [beq_eq_false_iff_ne, ne_eq, Bool.eq_iff_iff, beq_iff_eq, beq_iff_eq]; exact t2
            by_cases t3 : r.port < 0 ∨ 999 < r.port
            · have H := hide (HZ.out.trans (vfGo_3 HR.out t1 t2 (by omega)))
              have d3 : decide (r.port < 0 ∨ 999 < r.port) = true := decide_eq_true t3
              clear t1 t2 t3
              go_wp2_with (go_at_call 139; refine (out_any _ _ _).mono ?_; rintro e w' ⟨rfl, g, rfl⟩)
              go_ret2
              exact known_bad H.out (by decide) (by (repeat (first | exact Below.refl _ _ | assumption | apply below_alloc | apply below_grow | apply below_setCell | apply below_drew)); all_goals first | omega | (simp [go_sem]; done) | (simp [go_sem]; omega))
            · have d3 : decide (r.port < 0 ∨ 999 < r.port) = false := decide_eq_false t3
              by_cases t4 : r.next < 0 ∨ 999 < r.next
              · have H := hide (HZ.out.trans (vfGo_3 HR.out t1 t2 (by omega)))
                have d4 : decide (r.next < 0 ∨ 999 < r.next) = true := decide_eq_true t4
                clear t1 t2 t3 t4
                go_wp2_with (go_at_call 139; refine (out_any _ _ _).mono ?_; rintro e w' ⟨rfl, g, rfl⟩)
                go_ret2
                exact known_bad H.out (by decide) (by (repeat (first | exact Below.refl _ _ | assumption | apply below_alloc | apply below_grow | apply below_setCell | apply below_drew)); all_goals first | omega | (simp [go_sem]; done) | (simp [go_sem]; omega))
              · have d4 : decide (r.next < 0 ∨ 999 < r.next) = false := decide_eq_false t4
                have hok : viaTy.ok r.hop := wf_i64 (by omega) (by omega)
                rcases hs : vmap (l.take k) r.hop with _ | u
                · have H := hide (HZ.out.trans (vfGo_5 HR.out t1 t2 (by omega) (by rw [hs]; rfl)))
                  clear t1 t2 t3 t4
                  go_wp2_with (first | (go_at_call 139; refine (out_any _ _ _).mono ?_; rintro e w' ⟨rfl, g, rfl⟩) | (at_lookup; refine map_look viaTy _ (by rfl) _ _ (by rfl) _ k (vmap (l.take k)) (by rfl) (by repeat (first | with_reducible exact hown | apply MapTy.At.grow | apply MapTy.At.alloc | (refine MapTy.At.setCell ?_ (by simp [go_sem]; try omega) _))) r.hop (by rfl) hok none hs (.agg #[.int .i64 0, .int .i64 0, .int .i64 0]) rfl false rfl ?_) | (at_mapUpdate; refine map_put viaTy w _ (by (repeat (first | exact Below.refl _ _ | assumption | apply below_alloc | apply below_grow | apply below_setCell | apply below_drew)); all_goals first | omega | (simp [go_sem]; done) | (simp [go_sem]; omega)) (by rfl) _ _ _ (by rfl) _ k (vmap (l.take k)) (by rfl) (by repeat (first | with_reducible exact hown | apply MapTy.At.grow | apply MapTy.At.alloc | (refine MapTy.At.setCell ?_ (by simp [go_sem]; try omega) _))) (Nat.le_refl _) (by omega) r.hop r (by rfl) (by rfl) hok ?_; intro g5 hown5))
                  go_roundw
                  case rel => exact ⟨k + 1, by omega, by go_num, H.out, g5, rfl, hown5.same fun h => (vmap_snoc _ r hs h).trans (by rw [List.take_add_one, HR.out]; rfl)⟩
                  case measure => simp [intOf]; omega
                · have H := hide (HZ.out.trans (vfGo_4 HR.out t1 t2 (by omega) (by rw [hs]; rfl)))
                  clear t1 t2 t3 t4
                  go_wp2_with (first | (go_at_call 139; refine (out_any _ _ _).mono ?_; rintro e w' ⟨rfl, g, rfl⟩) | (at_lookup; refine map_look viaTy _ (by rfl) _ _ (by rfl) _ k (vmap (l.take k)) (by rfl) (by repeat (first | with_reducible exact hown | apply MapTy.At.grow | apply MapTy.At.alloc | (refine MapTy.At.setCell ?_ (by simp [go_sem]; try omega) _))) r.hop (by rfl) hok (some u) hs (.agg #[.int .i64 u.hop, .int .i64 u.port, .int .i64 u.next]) rfl true rfl ?_))
                  go_ret2
                  exact known_bad H.out (by decide) (by (repeat (first | exact Below.refl _ _ | assumption | apply below_alloc | apply below_grow | apply below_setCell | apply below_drew)); all_goals first | omega | (simp [go_sem]; done) | (simp [go_sem]; omega))
      · have H := hide (p := vfault l = 0) (by rw [HZ.out, List.drop_of_length_le (by rw [HL.out]; omega)]; rfl)
        obtain rfl : k = n := by omega
        have HO := hide hown
        go_wp2_with fail
        go_ret2
        refine ⟨g, rfl, .inr ⟨H.out, _, rfl, Nat.le_refl _, ?_⟩⟩
        have hown := HO.out
        rw [List.take_of_length_le (by rw [HL.out]; omega)] at hown
        rw [HL.out]
        exact hown
end Go.Proofs.Ytihaplieedefcaa
