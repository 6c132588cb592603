/-
  Walk of offers.live: the map that it makes. Conditions: the words of the addresses are 64-bit numbers.
-/
import Derived.Test.YtpgjbiapghembaaOffPlain
namespace Go.Proofs.Ytpgjbiapghembaa
open Go.RowKit
set_option maxHeartbeats 400000
set_option maxRecDepth 100000

def ofGo : List Ofr → Int
  | [] => 0
  | o :: r => if ofault o ≠ 0 then ofault o else ofGo r
def osfault (l : List Ofr) : Int := if 100 < l.length then 1 else ofGo l
theorem ofGo_at {l : List Ofr} {k : Nat} {o : Ofr} (hk : l[k]? = some o) : ofGo (l.drop k) = if ofault o ≠ 0 then ofault o else ofGo (l.drop (k + 1)) := by
  have hlt := (List.getElem?_eq_some_iff.1 hk).1
  have hr := (List.getElem?_eq_some_iff.1 hk).2
  rw [List.drop_eq_getElem_cons hlt, ofGo, hr]
theorem ofGo_all : ∀ (l : List Ofr), ofGo l = 0 → ∀ o ∈ l, ofault o = 0
  | [], _, o, h => by simp at h
  | a :: r, h, o, ho => by
    unfold ofGo at h
    split at h
    · rename_i h1; exact absurd h h1
    · rename_i h1
      rcases List.mem_cons.1 ho with e | e
      · subst e; simpa using h1
      · exact ofGo_all r h o e
theorem osfault_all {l : List Ofr} (h : osfault l = 0) : ∀ o ∈ l, ofault o = 0 := by
  unfold osfault at h
  split at h
  · omega
  · exact ofGo_all l h
/-- What offers.live hands back. -/
def LivePost (l : List Ofr) (w : World) (e : Ending) (w' : World) : Prop :=
  ∃ g : Gr w, w' = grow w g ∧ ((osfault l ≠ 0 ∧ e = .returned (.tuple #[.map none, .int .i64 (osfault l)])) ∨
    (osfault l = 0 ∧ ∃ b, e = .returned (.tuple #[.map (some b), .int .i64 0]) ∧ w.heap.size ≤ b ∧ liveTy.At (grow w g) b l.length (liveF l)))
theorem live_bad {l : List Ofr} {w W : World} {z : Int} (h : osfault l = z) (hz : z ≠ 0) (hB : Below w.heap.size w W) : LivePost l w (.returned (.tuple #[.map none, .int .i64 z])) W := by
  obtain ⟨g, rfl⟩ := gr_of hB
  exact ⟨g, rfl, .inl ⟨by rw [h]; exact hz, by rw [h]⟩⟩
theorem len_ok {o : Ofr} (hw : o.ad.wf) (h : ofault o = 0) : 0 ≤ o.len ∧ o.len ≤ 128 := by
  obtain ⟨hz, _⟩ := ofault_ok h
  obtain ⟨_, h0, h1, _⟩ := (checkZ_ok o.ad o.len hw).1 hz
  have : (wd o.ad.six : Int) ≤ 128 := by cases o.ad.six <;> decide
  omega
theorem ky_ok {o : Ofr} (hw : o.ad.wf) (h : ofault o = 0) : liveTy.ok o.ky := by
  have h1 := ofault_ok h
  have h2 := len_ok hw h
  exact ⟨hw, WalkArith.wf_i64 (by simp only [Ofr.ky]; omega), WalkArith.wf_i64 (by simp only [Ofr.ky]; omega), WalkArith.wf_i64 (by simp only [Ofr.ky]; omega)⟩
theorem live_any (A : Option Addr) (n c : Nat) (l : List Ofr) (w : World) (hl : Rd w 8 A n encO l) (hwf : wfO l) (hn : n ≤ c) (_hc : c ≤ 9223372036854775807) :
    Calls Try.prog 31 #[.slice A n c] w (LivePost l w) := by
  have hlen := hl.1
  by_cases h100 : 100 < n
  · have H := hide (p := osfault l = 1) (by unfold osfault; rw [if_pos (by omega)])
    go_enter Try.func31, Try.ntmps31
    go_wp2_with fail
    go_ret2
    exact live_bad H.out (by decide) (by (repeat (first | exact Below.refl _ _ | assumption | apply below_alloc | apply below_grow | apply below_setCell | apply below_drew)); all_goals first | omega | (simp [go_sem]; done) | (simp [go_sem]; omega))
  · have H0 := hide (p := osfault l = ofGo (l.drop 0)) (by unfold osfault; rw [if_neg (by omega)]; rfl)
    have HL := hide hlen
    clear hlen
    have hmm := @run_makeMap Try.prog
    go_enter Try.func31, Try.ntmps31
    go_wp2_with fail
    go_loopw [15] (fun i wr => ∃ k : Nat, k ≤ n ∧ i = .int .i64 k ∧ osfault l = ofGo (l.drop k) ∧ ∃ g : Gr w, wr = grow _ g ∧ liveTy.At (grow _ g) w.heap.size k (liveF (l.take k))) (fun i _ => n - (intOf i).toNat)
    case atStart =>
      obtain ⟨g, hg⟩ := gr_of (w := w) (w' := w.alloc (.map #[] 0)) (by (repeat (first | exact Below.refl _ _ | assumption | apply below_alloc | apply below_grow | apply below_setCell | apply below_drew)); all_goals first | omega | (simp [go_sem]; done) | (simp [go_sem]; omega))
      refine ⟨0, by omega, rfl, H0.out, g, hg, ?_⟩
      rw [← hg]
      exact (liveTy.made w).same fun x => rfl
    case round =>
      obtain ⟨k, hk, rfl, hz, g0, rfl, hown⟩ := hrel
      have HZ := hide hz
      clear hz H0
      by_cases hlt : k < n
      · obtain ⟨b, off, rfl, hb, hcell⟩ := hl.at_ (by omega)
        obtain ⟨r, hr⟩ : ∃ r, l[k]? = some r := ⟨_, List.getElem?_eq_getElem (by rw [HL.out]; exact hlt)⟩
        obtain ⟨c0, c1, c2, c3, c4, c5, c6, c7⟩ := rdO hcell hr
        have HR := hide hr
        have hw := hwf r (List.mem_of_getElem? hr)
        clear hr hcell
        by_cases hf : ofault r = 0
        · have hok : liveTy.ok r.ky := ky_ok hw hf
          have HN := hide (p := osfault l = ofGo (l.drop (k + 1))) (by rw [HZ.out, ofGo_at HR.out, if_neg (by simpa using hf)])
          have hf1 : (ofault r != 0) = false := by simpa using hf
          have HS : liveF (l.take (k + 1)) = upd (liveF (l.take k)) r.ky (if r.met = 999 then none else some r) := by rw [List.take_add_one, HR.out]; exact liveF_snoc _ _
          have HS' := hide HS
          clear HS
          clear hf
          by_cases h9 : r.met = 999
          · have hb9 : (r.met == 999) = true := by simpa using h9
            have H9 := hide h9
            clear h9
            go_wp2_with (first | (go_at_call 49; refine (ocheck_any r _ hw).mono ?_; rintro e w' ⟨rfl, g, rfl⟩) | (at_mapUpdate; refine map_put liveTy w _ (by (repeat (first | exact Below.refl _ _ | assumption | apply below_alloc | apply below_grow | apply below_setCell | apply below_drew)); all_goals first | omega | (simp [go_sem]; done) | (simp [go_sem]; omega)) (by rfl) _ _ _ (by rfl) _ k (liveF (l.take k)) (by rfl) (by repeat (first | with_reducible exact hown | apply MapTy.At.grow | apply MapTy.At.alloc | (refine MapTy.At.setCell ?_ (by simp [go_sem]; try omega) _))) (Nat.le_refl _) (by omega) r.ky r (by rfl) (by rfl) hok ?_; intro g5 hkeep _ hown5; have k6 := hkeep (grow w g0).heap.size 6 (by first | (simp [go_sem]; done) | (simp [go_sem]; omega)) (by have := hown.lt; omega); simp [go_sem] at k6; have q0 := hkeep (w.heap.size + more g0 + 1 + more g) 0 (by first | (simp [go_sem]; done) | (simp [go_sem]; omega)) (by have := hown.lt; rw [grow_size] at this; omega); simp [go_sem] at q0; have q1 := hkeep (w.heap.size + more g0 + 1 + more g) 1 (by first | (simp [go_sem]; done) | (simp [go_sem]; omega)) (by have := hown.lt; rw [grow_size] at this; omega); simp [go_sem] at q1; have q2 := hkeep (w.heap.size + more g0 + 1 + more g) 2 (by first | (simp [go_sem]; done) | (simp [go_sem]; omega)) (by have := hown.lt; rw [grow_size] at this; omega); simp [go_sem] at q2; have q3 := hkeep (w.heap.size + more g0 + 1 + more g) 3 (by first | (simp [go_sem]; done) | (simp [go_sem]; omega)) (by have := hown.lt; rw [grow_size] at this; omega); simp [go_sem] at q3; have q4 := hkeep (w.heap.size + more g0 + 1 + more g) 4 (by first | (simp [go_sem]; done) | (simp [go_sem]; omega)) (by have := hown.lt; rw [grow_size] at this; omega); simp [go_sem] at q4; have q5 := hkeep (w.heap.size + more g0 + 1 + more g) 5 (by first | (simp [go_sem]; done) | (simp [go_sem]; omega)) (by have := hown.lt; rw [grow_size] at this; omega); simp [go_sem] at q5; clear hkeep) | (at_delete; refine map_del liveTy w _ (by (repeat (first | exact Below.refl _ _ | assumption | apply below_alloc | apply below_grow | apply below_setCell | apply below_drew)); all_goals first | omega | (simp [go_sem]; done) | (simp [go_sem]; omega)) (by rfl) _ _ (by rfl) _ (k + 1) (upd (liveF (l.take k)) r.ky (some r)) (by rfl) (by repeat (first | with_reducible exact hown5 | apply MapTy.At.grow | apply MapTy.At.alloc | (refine MapTy.At.setCell ?_ (by simp [go_sem]; try omega) _))) (Nat.le_refl _) r.ky (by rfl) hok ?_; intro g6 hown6))
            go_roundw
            case rel => exact ⟨k + 1, by omega, by go_num, HN.out, g6, rfl, by rw [HS'.out, if_pos H9.out]; rw [upd_upd] at hown6; exact hown6⟩
            case measure => simp [intOf]; omega
          · have hb9 : (r.met == 999) = false := by simpa using h9
            have H9 := hide h9
            clear h9
            go_wp2_with (first | (go_at_call 49; refine (ocheck_any r _ hw).mono ?_; rintro e w' ⟨rfl, g, rfl⟩) | (at_mapUpdate; refine map_put liveTy w _ (by (repeat (first | exact Below.refl _ _ | assumption | apply below_alloc | apply below_grow | apply below_setCell | apply below_drew)); all_goals first | omega | (simp [go_sem]; done) | (simp [go_sem]; omega)) (by rfl) _ _ _ (by rfl) _ k (liveF (l.take k)) (by rfl) (by repeat (first | with_reducible exact hown | apply MapTy.At.grow | apply MapTy.At.alloc | (refine MapTy.At.setCell ?_ (by simp [go_sem]; try omega) _))) (Nat.le_refl _) (by omega) r.ky r (by rfl) (by rfl) hok ?_; intro g5 hkeep _ hown5; have k6 := hkeep (grow w g0).heap.size 6 (by first | (simp [go_sem]; done) | (simp [go_sem]; omega)) (by have := hown.lt; omega); simp [go_sem] at k6; have q0 := hkeep (w.heap.size + more g0 + 1 + more g) 0 (by first | (simp [go_sem]; done) | (simp [go_sem]; omega)) (by have := hown.lt; rw [grow_size] at this; omega); simp [go_sem] at q0; have q1 := hkeep (w.heap.size + more g0 + 1 + more g) 1 (by first | (simp [go_sem]; done) | (simp [go_sem]; omega)) (by have := hown.lt; rw [grow_size] at this; omega); simp [go_sem] at q1; have q2 := hkeep (w.heap.size + more g0 + 1 + more g) 2 (by first | (simp [go_sem]; done) | (simp [go_sem]; omega)) (by have := hown.lt; rw [grow_size] at this; omega); simp [go_sem] at q2; have q3 := hkeep (w.heap.size + more g0 + 1 + more g) 3 (by first | (simp [go_sem]; done) | (simp [go_sem]; omega)) (by have := hown.lt; rw [grow_size] at this; omega); simp [go_sem] at q3; have q4 := hkeep (w.heap.size + more g0 + 1 + more g) 4 (by first | (simp [go_sem]; done) | (simp [go_sem]; omega)) (by have := hown.lt; rw [grow_size] at this; omega); simp [go_sem] at q4; have q5 := hkeep (w.heap.size + more g0 + 1 + more g) 5 (by first | (simp [go_sem]; done) | (simp [go_sem]; omega)) (by have := hown.lt; rw [grow_size] at this; omega); simp [go_sem] at q5; clear hkeep))
            go_roundw
            case rel => exact ⟨k + 1, by omega, by go_num, HN.out, g5, rfl, by rw [HS'.out, if_neg H9.out]; exact hown5⟩
            case measure => simp [intOf]; omega
        · have hf1 : (ofault r != 0) = true := by simpa using hf
          have H := hide (p := osfault l = ofault r) (by rw [HZ.out, ofGo_at HR.out, if_pos hf])
          have HF := hide hf
          clear hf
          go_wp2_with (go_at_call 49; refine (ocheck_any r _ hw).mono ?_; rintro e w' ⟨rfl, g, rfl⟩)
          go_ret2
          exact live_bad H.out HF.out (by (repeat (first | exact Below.refl _ _ | assumption | apply below_alloc | apply below_grow | apply below_setCell | apply below_drew)); all_goals first | omega | (simp [go_sem]; done) | (simp [go_sem]; omega))
      · have H := hide (p := osfault l = 0) (by rw [HZ.out, List.drop_of_length_le (by rw [HL.out]; omega)]; rfl)
        obtain rfl : k = n := by omega
        have HO := hide hown
        go_wp2_with fail
        go_ret2
        refine ⟨g0, rfl, .inr ⟨H.out, _, rfl, Nat.le_refl _, ?_⟩⟩
        have hown := HO.out
        rw [List.take_of_length_le (by rw [HL.out]; omega)] at hown
        rw [HL.out]
        exact hown
end Go.Proofs.Ytpgjbiapghembaa
