/-
  Walk of offers.Best: it hands back the best offers in order. Conditions: the words of the addresses are 64-bit numbers. (UNDER WAY)
-/
import Derived.Test.YtpgjbiapghembaaBestInv
namespace Go.Proofs.Ytpgjbiapghembaa
open Go.RowKit
set_option maxHeartbeats 800000
set_option maxRecDepth 100000

theorem live_0 (A : Option Addr) (n c : Nat) (l : List Ofr) (w : World) (hl : Rd w 8 A n encO l) (hwf : wfO l) (hn : n ≤ c) (hc : c ≤ 9223372036854775807) (h0 : osfault l = 0) :
    Calls Try.prog 31 #[.slice A n c] w fun e w' => ∃ (b : Nat) (g : Gr w), e = .returned (.tuple #[.map (some b), .int .i64 0]) ∧ w' = grow w g ∧ w.heap.size ≤ b ∧ liveTy.At (grow w g) b l.length (liveF l) :=
  (live_any A n c l w hl hwf hn hc).mono fun e w' ⟨g, hw, h⟩ => by
    rcases h with ⟨h, _⟩ | ⟨_, b, he, hb, ha⟩
    · exact absurd h0 h
    · exact ⟨b, g, he, hw, hb, ha⟩
theorem live_1 (A : Option Addr) (n c : Nat) (l : List Ofr) (w : World) (hl : Rd w 8 A n encO l) (hwf : wfO l) (hn : n ≤ c) (hc : c ≤ 9223372036854775807) (h0 : osfault l ≠ 0) :
    Calls Try.prog 31 #[.slice A n c] w (Ret (.tuple #[.map none, .int .i64 (osfault l)]) w) :=
  (live_any A n c l w hl hwf hn hc).mono fun e w' ⟨g, hw, h⟩ => by
    rcases h with ⟨_, h⟩ | ⟨h, _⟩
    · exact ⟨h, g, hw⟩
    · exact absurd h h0
theorem ret_from {P : Program} {f : FuncId} {args : Array Value} {v : Value} (w0 W : World) (hB : Below w0.heap.size w0 W) (h : Calls P f args W (Ret v W)) : Calls P f args W fun e w' => e = .returned v ∧ ∃ G : Gr w0, w' = grow w0 G ∧ W.grownBy (grow w0 G) none :=
  h.mono fun e w' ⟨he, g, hw⟩ => by
    have hb := grow_below W g
    obtain ⟨G, hG⟩ := gr_of (hB.trans (hb.mono hB.size))
    refine ⟨he, G, hw.trans hG, ?_⟩
    rw [← hG]
    exact ⟨hb.os, hb.tape, hb.output, hb.size, fun k hk _ => hb.block k hk⟩
theorem best_bad (A : Option Addr) (n c : Nat) (l : List Ofr) (w : World) (hl : Rd w 8 A n encO l) (hwf : wfO l) (hn : n ≤ c) (hc : c ≤ 9223372036854775807) (h0 : osfault l ≠ 0) :
    Calls Try.prog 14 #[.slice A n c] w (Ret (.tuple #[.slice none 0 0, .int .i64 (osfault l)]) w) := by
  have hb1 : (osfault l != 0) = true := by simpa using h0
  have H := live_1 A n c l w hl hwf hn hc h0
  go_enter Try.func14, Try.ntmps14
  go_wp2_with (go_at_call 31; refine (H).mono ?_; rintro e w' ⟨rfl, g, rfl⟩)
  go_ret2
  exact ret_eq rfl (by (repeat (first | exact Below.refl _ _ | assumption | apply below_alloc | apply below_grow | apply below_setCell | apply below_drew)); all_goals first | omega | (simp [go_sem]; done) | (simp [go_sem]; omega))
theorem live_of {l : List Ofr} (hwf : wfO l) (h0 : osfault l = 0) {k : Ky} {u : Ofr} (h : liveF l k = some u) : u.ky = k ∧ u.ad.wf ∧ ofault u = 0 ∧ u ∈ alive l := by
  have ha := osfault_all h0
  have h1 := (liveF_iff l (fun o ho => (ofault_ok (ha o ho)).2.2.2.2.2.2.1) k u).1 h
  have h2 := alive_sub _ _ h1.1
  exact ⟨h1.2, hwf u h2, ha u h2, h1.1⟩
theorem pf_ok {o : Ofr} (hw : o.ad.wf) (h : ofault o = 0) : bestTy.ok o.pf := by
  have h2 := len_ok hw h
  exact ⟨hw, WalkArith.wf_i64 (by simp only [Ofr.pf]; omega)⟩
theorem bestOf_sorted {l : List Ofr} (hv : ∀ o ∈ l, 0 ≤ o.met ∧ o.met ≤ 999 ∧ 0 ≤ o.peer ∧ o.peer ≤ 999) {seen : List Ky} {G : Ad × Int → Option Ofr} (hinv : BestInv (liveF l) seen G) (hs : ∀ k, (liveF l k).isSome = true ↔ k ∈ seen)
    {seen2 : List (Ad × Int)} (hnd : seen2.Nodup) (h2 : ∀ o p, G p = some o → p ∈ seen2) {l' : List Ofr} (hp : l'.Perm (seen2.filterMap G)) (hsort : l'.Pairwise (fun x y => ¬ pfLess y.pf x.pf)) : BestOf (alive l) l' := by
  have hpf : ∀ p o, G p = some o → o.pf = p := fun p o h => (hinv.2.1 p o h).1
  refine ⟨?_, fun o => ?_⟩
  · have h1 : (seen2.filterMap G).Pairwise fun x y => x.pf ≠ y.pf := by
      rw [List.pairwise_filterMap]
      refine hnd.imp ?_
      intro a b hab x hx y hy
      rw [hpf _ _ hx, hpf _ _ hy]
      exact hab
    have h3 : l'.Pairwise fun x y => x.pf ≠ y.pf := (hp.pairwise_iff (fun h => Ne.symm h)).2 h1
    refine (hsort.and h3).imp ?_
    rintro x y ⟨h4, h5⟩
    by_cases h6 : pfLess x.pf y.pf
    · exact h6
    · exact absurd (pfLess_tot _ _ h6 h4) h5
  · rw [hp.mem_iff, List.mem_filterMap, ← bestInv_mem hv hinv hs]
    constructor
    · rintro ⟨p, _, h⟩
      rw [hpf _ _ h]
      exact h
    · intro h
      exact ⟨o.pf, h2 _ _ h, h⟩
theorem best_good (A : Option Addr) (n c : Nat) (l : List Ofr) (w : World) (hl : Rd w 8 A n encO l) (hwf : wfO l) (hn : n ≤ c) (hc : c ≤ 9223372036854775807) (h0 : osfault l = 0) :
    Calls Try.prog 14 #[.slice A n c] w fun e w' => ∃ (L : List Ofr) (v : Value) (g : Gr w), BestOf (alive l) L ∧ e = .returned (.tuple #[v, .int .i64 0]) ∧ w' = grow w g ∧ (grow w g).ownsRow w.heap.size 44 8 v L.length (L.flatMap encO) := by
  have H := live_0 A n c l w hl hwf hn hc h0
  have hmm := @run_makeMap Try.prog
  go_enter Try.func14, Try.ntmps14
  go_wp2_with (first | (go_at_call 31; refine H.mono ?_; rintro e w' ⟨b, g0, rfl, rfl, hle, hat⟩) | (at_range; refine map_range liveTy w _ (by (repeat (first | exact Below.refl _ _ | assumption | apply below_alloc | apply below_grow | apply below_setCell | apply below_drew)); all_goals first | omega | (simp [go_sem]; done) | (simp [go_sem]; omega)) (by rfl) _ (by rfl) b l.length (liveF l) (by rfl) (by repeat (first | with_reducible exact hat | apply MapTy.At.grow | apply MapTy.At.alloc | (refine MapTy.At.setCell ?_ (by simp [go_sem]; try omega) _))) ?_; intro g1 cnt hcnt hgr1 hrg))
  go_frame
  have hb1 : b < (grow w g0).heap.size := hat.lt
  have hbest : bestTy.At (grow w g1) (grow w g0).heap.size 0 (fun _ => none) := (bestTy.made (grow w g0)).kept hgr1 (by simp)
  have hr0 : w.heap.size ≤ ((grow w g0).alloc (Obj.map #[] 0)).heap.size := by simp [go_sem]; omega
  have hb2 : (grow w g0).heap.size < ((grow w g0).alloc (Obj.map #[] 0)).heap.size := by simp
  have hb3 : w.heap.size ≤ (grow w g0).heap.size := g0.2.size
  generalize ((grow w g0).alloc (Obj.map #[] 0)).heap.size = r at hrg hr0 hb2 ⊢
  rw [show w.heap.size + more g0 = (grow w g0).heap.size from (grow_size g0).symm]
  generalize (grow w g0).heap.size = b2 at hb1 hbest hb2 hb3 ⊢
  clear hat H
  go_loopw [8] (fun _ wr => ∃ (g : Gr w) (seen : List Ky) (cnt m : Nat) (G : Ad × Int → Option Ofr), wr = grow w g ∧ seen.length + cnt ≤ l.length ∧ m ≤ seen.length ∧ liveTy.Ranges (grow w g) b r l.length (liveF l) seen cnt ∧ bestTy.At (grow w g) b2 m G ∧ BestInv (liveF l) seen G) (fun _ wr => wr.rangeLeft b r)
  case atStart => exact ⟨g1, [], cnt, 0, fun _ => none, rfl, by simpa using hcnt, by simp, hrg, hbest, bestInv_nil _⟩
  case round =>
    clear hrg hcnt hbest hgr1
    obtain ⟨g, seen, cnt, m, G, rfl, hcnt, hm, hrg, hbest, hinv⟩ := hrel
    go_wp2_with (at_next; refine map_next liveTy w _ (by (repeat (first | exact Below.refl _ _ | assumption | apply below_alloc | apply below_grow | apply below_setCell | apply below_drew)); all_goals first | omega | (simp [go_sem]; done) | (simp [go_sem]; omega)) (by rfl) _ (by rfl) b r l.length (liveF l) seen cnt (by rfl) hrg hr0 ?_ ?_)
    · intro hdone
      have HD := hide hdone
      have HR := hide hrg
      have HI := hide hinv
      clear hdone hrg hinv
      go_wp2_with (at_range; refine map_range bestTy w _ (by (repeat (first | exact Below.refl _ _ | assumption | apply below_alloc | apply below_grow | apply below_setCell | apply below_drew)); all_goals first | omega | (simp [go_sem]; done) | (simp [go_sem]; omega)) (by rfl) _ (by rfl) b2 m G (by rfl) (by repeat (first | with_reducible exact hbest | apply MapTy.At.grow | apply MapTy.At.alloc | (refine MapTy.At.setCell ?_ (by simp [go_sem]; try omega) _))) ?_; intro g3 cnt3 hcnt3 _ hrg3)
      go_frame
      have hr2 : w.heap.size ≤ (grow w g).heap.size := g.2.size
      generalize (grow w g).heap.size = r2 at hrg3 hr2 ⊢
      go_loopw [11] (fun v wr => ∃ (g4 : Gr w) (seen2 : List (Ad × Int)) (cnt4 : Nat), wr = grow w g4 ∧ seen2.length + cnt4 ≤ m ∧ bestTy.Ranges (grow w g4) b2 r2 m G seen2 cnt4 ∧ (grow w g4).ownsRow w.heap.size 44 8 v (seen2.filterMap G).length ((seen2.filterMap G).flatMap encO)) (fun _ wr => wr.rangeLeft b2 r2)
      case atStart => exact ⟨g3, [], cnt3, rfl, by simpa using hcnt3, hrg3, own_nil _ _ _ _⟩
      case round =>
        clear hrg3 hcnt3 hbest
        obtain ⟨g4, seen2, cnt4, rfl, hcnt4, hrg4, hown⟩ := hrel
        go_wp2_with (at_next; refine map_next bestTy w _ (by (repeat (first | exact Below.refl _ _ | assumption | apply below_alloc | apply below_grow | apply below_setCell | apply below_drew)); all_goals first | omega | (simp [go_sem]; done) | (simp [go_sem]; omega)) (by rfl) _ (by rfl) b2 r2 m G seen2 cnt4 (by rfl) hrg4 hr2 ?_ ?_)
        · intro hdone2
          have HD2 := hide hdone2
          have HR2 := hide hrg4
          clear hdone2 hrg4
          have hvl : ∀ o ∈ seen2.filterMap G, o.ad.wf ∧ 0 ≤ o.len ∧ o.len ≤ 128 := fun o ho => by
            obtain ⟨p, _, hg⟩ := List.mem_filterMap.1 ho
            obtain ⟨_, h1, h2, _⟩ := live_of hwf h0 (HI.out.2.1 _ _ hg).2.2
            exact ⟨h1, len_ok h1 h2⟩
          have hnn : (seen2.filterMap G).length < 4611686018427387904 := by
            have h1 := List.length_filterMap_le G seen2
            have : l.length ≤ 100 := by
              unfold osfault at h0
              split at h0 <;> omega
            omega
          have HV := hide hvl
          have HN := hide hnn
          clear hvl hnn
          go_wp2_with (go_at_call 33; refine (bestSort w _ (by (repeat (first | exact Below.refl _ _ | assumption | apply below_alloc | apply below_grow | apply below_setCell | apply below_drew)); all_goals first | omega | (simp [go_sem]; done) | (simp [go_sem]; omega)) w.heap.size (Nat.le_refl _) _ _ _ HV.out hown HN.out).mono ?_; rintro e w' ⟨rfl, l', g5, rfl, hp, hs, hown5⟩)
          go_ret2
          obtain ⟨_, _, _, _, hnd2, hmem2, _⟩ := HR2.out
          obtain ⟨_, _, _, _, _, hmem, _⟩ := HR.out
          refine ⟨l', _, g5, ?_, rfl, rfl, by rw [hp.length_eq]; exact hown5⟩
          refine bestOf_sorted (fun o ho => by have := ofault_ok (osfault_all h0 o ho); omega) HI.out (fun k => ?_) hnd2 (fun o p hg => ?_) hp hs
          · constructor
            · intro h
              obtain ⟨u, hu⟩ := Option.isSome_iff_exists.1 h
              obtain ⟨e, h1, h2, _⟩ := live_of hwf h0 hu
              exact (HD.out k (e ▸ ky_ok h1 h2)).1 h
            · intro h
              exact (hmem k h).2
          · obtain ⟨h1, _, h3⟩ := HI.out.2.1 _ _ hg
            obtain ⟨_, h4, h5, _⟩ := live_of hwf h0 h3
            subst h1
            exact (HD2.out o.pf.1 o.pf.2 (pf_ok h4 h5)).1 (by rw [show G (o.pf.1, o.pf.2) = some o from hg]; rfl)
        · intro g5 pa pn u cnt5 hok hfx hns hrg5 hlt hle5 hen hgr
          have hown2 := hown.kept hgr (.inr (Ne.symm (hrg4.ne_row hown)))
          have HO := hide hown2
          have HLT := hide hlt
          have HLE := hide hle5
          have HC := hide hcnt4
          have HF := hide (p := (seen2 ++ [(pa, pn)]).filterMap G = seen2.filterMap G ++ [u]) (by rw [List.filterMap_append]; simp [hfx])
          have hlen : (seen2.filterMap G).length ≤ 1000000 := by
            have h1 := List.length_filterMap_le G seen2
            have : l.length ≤ 100 := by
              unfold osfault at h0
              split at h0 <;> omega
            omega
          clear hown hown2 hlt hle5 hcnt4 hgr hfx hrg4
          go_wp2_with (at_builtin; refine app_ofrk w _ (by (repeat (first | exact Below.refl _ _ | assumption | apply below_alloc | apply below_grow | apply below_setCell | apply below_drew)); all_goals first | omega | (simp [go_sem]; done) | (simp [go_sem]; omega)) (by rfl) _ _ (by rfl) u11 _ _ (by rfl) (by repeat (first | with_reducible exact HO.out | apply own_grow | apply World.ownsRow.alloc | apply World.ownsRow.drew | (refine own_far ?_ _ _ _ (by simp [go_sem, Value.ownBlock]; try omega)))) _ _ u _ (by rfl) (by simp [go_sem]) hlen ?_; intro g6 blk cap hle6 _ hgrow6 hown6; have HRK : bestTy.Ranges (grow w g6) b2 r2 m G (seen2 ++ [(pa, pn)]) cnt5 := MapTy.Ranges.kept (by repeat (first | with_reducible exact hrg5 | apply MapTy.Ranges.grow | apply MapTy.Ranges.alloc)) hgrow6 (MapTy.At.ne_row (MapTy.Ranges.at_ (by repeat (first | with_reducible exact hrg5 | apply MapTy.Ranges.grow | apply MapTy.Ranges.alloc))) (by repeat (first | with_reducible exact HO.out | apply own_grow | apply World.ownsRow.alloc | apply World.ownsRow.drew | (refine own_far ?_ _ _ _ (by simp [go_sem, Value.ownBlock]; try omega))))) (MapTy.Ranges.ne_row (by repeat (first | with_reducible exact hrg5 | apply MapTy.Ranges.grow | apply MapTy.Ranges.alloc)) (by repeat (first | with_reducible exact HO.out | apply own_grow | apply World.ownsRow.alloc | apply World.ownsRow.drew | (refine own_far ?_ _ _ _ (by simp [go_sem, Value.ownBlock]; try omega))))))
          go_roundw
          case rel => exact ⟨g6, seen2 ++ [(pa, pn)], cnt5, rfl, by have := HC.out; have := HLT.out; simp; omega, HRK, by rw [HF.out, flat_snoc, List.length_append]; exact hown6⟩
          case measure =>
            rw [HLE.out, MapTy.Ranges.left HRK]
            exact HLT.out
    · intro g2 x u cnt2 hok hfx hns hrg2 hlt hle2 hen hgr
      have hbest2 := hbest.kept hgr (by simp; omega)
      obtain ⟨hux, huw, huf, hua⟩ := live_of hwf h0 hfx
      have hpk := pf_ok huw huf
      have HLT := hide hlt
      have HLE := hide hle2
      have HC := hide hcnt
      have HFX := hide hfx
      have HUX := hide hux
      have hm5 : m < 1000000 := by
        have : l.length ≤ 100 := by
          unfold osfault at h0
          split at h0 <;> omega
        omega
      clear hlt hle2 hcnt hgr hfx hux hrg hbest
      rcases hg : G u.pf with _ | bb
      · have HI := hide (bestInv_put hinv HFX.out HUX.out (by rw [hg]; simp))
        have HG := hide hg
        clear hg
        go_wp2_with (first | (at_lookup; refine map_look bestTy _ (by rfl) _ _ (by rfl) b2 m G (by rfl) (by repeat (first | with_reducible exact hbest2 | apply MapTy.At.grow | apply MapTy.At.alloc | (refine MapTy.At.setCell ?_ (by simp [go_sem]; try omega) _))) u.pf (by rfl) hpk none HG.out (.agg #[.bool false, .int .u64 0, .int .u64 0, .int .i64 0, .int .i64 0, .int .i64 0, .int .i64 0, .int .i64 0]) rfl false rfl ?_) | (at_mapUpdate; refine map_put bestTy w _ (by (repeat (first | exact Below.refl _ _ | assumption | apply below_alloc | apply below_grow | apply below_setCell | apply below_drew)); all_goals first | omega | (simp [go_sem]; done) | (simp [go_sem]; omega)) (by rfl) _ _ _ (by rfl) b2 m G (by rfl) (by repeat (first | with_reducible exact hbest2 | apply MapTy.At.grow | apply MapTy.At.alloc | (refine MapTy.At.setCell ?_ (by simp [go_sem]; try omega) _))) hb3 (by omega) u.pf u (by rfl) (by rfl) hpk ?_; intro g5 _ hgrow5 hown5; have HRK : liveTy.Ranges (grow w g5) b r l.length (liveF l) (seen ++ [x]) cnt2 := MapTy.Ranges.kept (by repeat (first | with_reducible exact hrg2 | apply MapTy.Ranges.grow | apply MapTy.Ranges.alloc)) hgrow5 (by simp; omega) (by simp; omega)))
        go_frame
        go_roundw
        case rel => exact ⟨g5, seen ++ [x], cnt2, m + 1, _, rfl, by have := HC.out; have := HLT.out; simp; omega, by simp; omega, HRK, hown5, HI.out⟩
        case measure =>
          rw [HLE.out, MapTy.Ranges.left HRK]
          exact HLT.out
      · have hbb := live_of hwf h0 (hinv.2.1 _ _ hg).2.2
        have hlt := better_lt u bb (by have := ofault_ok huf; omega) (by have := ofault_ok hbb.2.2.1; omega)
        by_cases hw2 : worth u < worth bb
        · have HI := hide (bestInv_put hinv HFX.out HUX.out (by rw [hg]; intro b hb; cases hb; exact hw2))
          have db : decide (betterZ u bb < 0) = true := decide_eq_true (hlt.2 hw2)
          have HG := hide hg
          clear hg hlt hw2 hbb hinv
          go_wp2_with (first | (at_lookup; refine map_look bestTy _ (by rfl) _ _ (by rfl) b2 m G (by rfl) (by repeat (first | with_reducible exact hbest2 | apply MapTy.At.grow | apply MapTy.At.alloc | (refine MapTy.At.setCell ?_ (by simp [go_sem]; try omega) _))) u.pf (by rfl) hpk (some bb) HG.out (.agg #[.bool bb.ad.six, .int .u64 (bb.ad.hi : Nat), .int .u64 (bb.ad.lo : Nat), .int .i64 bb.len, .int .i64 bb.src, .int .i64 bb.peer, .int .i64 bb.met, .int .i64 bb.hop]) rfl true rfl ?_) | (go_at_call 32; refine (better_any u bb _).mono ?_; rintro e w' ⟨rfl, g, rfl⟩) | (at_mapUpdate; refine map_put bestTy w _ (by (repeat (first | exact Below.refl _ _ | assumption | apply below_alloc | apply below_grow | apply below_setCell | apply below_drew)); all_goals first | omega | (simp [go_sem]; done) | (simp [go_sem]; omega)) (by rfl) _ _ _ (by rfl) b2 m G (by rfl) (by repeat (first | with_reducible exact hbest2 | apply MapTy.At.grow | apply MapTy.At.alloc | (refine MapTy.At.setCell ?_ (by simp [go_sem]; try omega) _))) hb3 (by omega) u.pf u (by rfl) (by rfl) hpk ?_; intro g5 _ hgrow5 hown5; have HRK : liveTy.Ranges (grow w g5) b r l.length (liveF l) (seen ++ [x]) cnt2 := MapTy.Ranges.kept (by repeat (first | with_reducible exact hrg2 | apply MapTy.Ranges.grow | apply MapTy.Ranges.alloc)) hgrow5 (by simp; omega) (by simp; omega)))
          go_frame
          go_roundw
          case rel => exact ⟨g5, seen ++ [x], cnt2, m + 1, _, rfl, by have := HC.out; have := HLT.out; simp; omega, by simp; omega, HRK, hown5, HI.out⟩
          case measure =>
            rw [HLE.out, MapTy.Ranges.left HRK]
            exact HLT.out
        · have HI := hide (bestInv_skip hinv HFX.out HUX.out hg hw2)
          have db : decide (betterZ u bb < 0) = false := decide_eq_false (fun h => hw2 (hlt.1 h))
          have HG := hide hg
          clear hg hlt hw2 hbb hinv
          go_wp2_with (first | (at_lookup; refine map_look bestTy _ (by rfl) _ _ (by rfl) b2 m G (by rfl) (by repeat (first | with_reducible exact hbest2 | apply MapTy.At.grow | apply MapTy.At.alloc | (refine MapTy.At.setCell ?_ (by simp [go_sem]; try omega) _))) u.pf (by rfl) hpk (some bb) HG.out (.agg #[.bool bb.ad.six, .int .u64 (bb.ad.hi : Nat), .int .u64 (bb.ad.lo : Nat), .int .i64 bb.len, .int .i64 bb.src, .int .i64 bb.peer, .int .i64 bb.met, .int .i64 bb.hop]) rfl true rfl ?_) | (go_at_call 32; refine (ret_from w _ (by (repeat (first | exact Below.refl _ _ | assumption | apply below_alloc | apply below_grow | apply below_setCell | apply below_drew)); all_goals first | omega | (simp [go_sem]; done) | (simp [go_sem]; omega)) (better_any u bb _)).mono ?_; rintro e w' ⟨rfl, G9, rfl, hgr9⟩; have HRS : liveTy.Ranges (grow w G9) b r l.length (liveF l) (seen ++ [x]) cnt2 := MapTy.Ranges.kept (by repeat (first | with_reducible exact hrg2 | apply MapTy.Ranges.grow | apply MapTy.Ranges.alloc)) hgr9 (by simp) (by simp); have HBS : bestTy.At (grow w G9) b2 m G := MapTy.At.kept (by repeat (first | with_reducible exact hbest2 | apply MapTy.At.grow | apply MapTy.At.alloc | (refine MapTy.At.setCell ?_ (by simp [go_sem]; try omega) _))) hgr9 (by simp)))
          go_roundw
          case rel => exact ⟨G9, seen ++ [x], cnt2, m, G, rfl, by have := HC.out; have := HLT.out; simp; omega, by simp; omega, HRS, HBS, HI.out⟩
          case measure =>
            rw [HLE.out, MapTy.Ranges.left HRS]
            exact HLT.out
end Go.Proofs.Ytpgjbiapghembaa
