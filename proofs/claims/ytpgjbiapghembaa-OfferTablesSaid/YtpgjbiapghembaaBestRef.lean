/-
  Walk of the reference's OffersBest: refused offers. Conditions: the words of the addresses are 64-bit numbers.
-/
import Derived.Test.YtpgjbiapghembaaLiveWalk
import Derived.Test.YtpgjbiapghembaaRefLess
import Derived.Test.YtpgjbiapghembaaOfrRow
namespace Go.Proofs.Ytpgjbiapghembaa
open Go.RowKit
set_option maxHeartbeats 800000
set_option maxRecDepth 100000

theorem refBest_bad (A : Option Addr) (n c : Nat) (l : List Ofr) (w : World) (hl : Rd w 8 A n encO l) (hwf : wfO l) (_hn : n ≤ c) (_hc : c ≤ 9223372036854775807) (h0 : osfault l ≠ 0) :
    Calls Try.prog 15 #[.slice A n c] w (Ret (.tuple #[.slice none 0 0, .int .i64 (osfault l)]) w) := by
  have hlen := hl.1
  by_cases h100 : 100 < n
  · have H := hide (p := osfault l = 1) (by unfold osfault; rw [if_pos (by omega)])
    go_enter Try.func15, Try.ntmps15
    go_wp2_with fail
    go_ret2
    exact ret_eq (by rw [H.out]; rfl) (by (repeat (first | exact Below.refl _ _ | assumption | apply below_alloc | apply below_grow | apply below_setCell | apply below_drew)); all_goals first | omega | (simp [go_sem]; done) | (simp [go_sem]; omega))
  · have H0 := hide (p := osfault l = ofGo (l.drop 0)) (by unfold osfault; rw [if_neg (by omega)]; rfl)
    have HL := hide hlen
    have HB := hide h0
    clear hlen h0
    go_enter Try.func15, Try.ntmps15
    go_wp2_with fail
    go_loopw [26] (fun i wr => ∃ k : Nat, k ≤ n ∧ i = .int .i64 k ∧ osfault l = ofGo (l.drop k) ∧ ∃ g : Gr w, wr = grow _ g) (fun i _ => n - (intOf i).toNat)
    case atStart => exact ⟨0, by omega, rfl, H0.out, ⟨_, Below.refl _ _⟩, rfl⟩
    case round =>
      obtain ⟨k, hk, rfl, hz, g0, rfl⟩ := hrel
      have HZ := hide hz
      clear hz H0
      by_cases hlt : k < n
      · obtain ⟨b, off, rfl, hb, hcell⟩ := hl.at_ (by omega)
        obtain ⟨r, hr⟩ : ∃ r, l[k]? = some r := ⟨_, List.getElem?_eq_getElem (by rw [HL.out]; exact hlt)⟩
        obtain ⟨c0, c1, c2, c3, c4, c5, c6, c7⟩ := rdO hcell hr
        have HR := hide hr
        have hw := hwf r (List.mem_of_getElem? hr)
        clear hr hcell
        by_cases hf : ofault r = 0
        · have HN := hide (p := osfault l = ofGo (l.drop (k + 1))) (by rw [HZ.out, ofGo_at HR.out, if_neg (by simpa using hf)])
          have hf1 : (ofault r != 0) = false := by simpa using hf
          clear hf
          go_wp2_with (go_at_call 36; refine (ofault_any r _ hw).mono ?_; rintro e w' ⟨rfl, g, rfl⟩)
          go_roundw
          case rel => exact ⟨k + 1, by omega, by go_num, HN.out, gr_of (by (repeat (first | exact Below.refl _ _ | assumption | apply below_alloc | apply below_grow | apply below_setCell | apply below_drew)); all_goals first | omega | (simp [go_sem]; done) | (simp [go_sem]; omega))⟩
          case measure => simp [intOf]; omega
        · have hf1 : (ofault r != 0) = true := by simpa using hf
          have H := hide (p := osfault l = ofault r) (by rw [HZ.out, ofGo_at HR.out, if_pos hf])
          clear hf
          go_wp2_with (go_at_call 36; refine (ofault_any r _ hw).mono ?_; rintro e w' ⟨rfl, g, rfl⟩)
          go_ret2
          exact ret_eq (by rw [H.out]; rfl) (by (repeat (first | exact Below.refl _ _ | assumption | apply below_alloc | apply below_grow | apply below_setCell | apply below_drew)); all_goals first | omega | (simp [go_sem]; done) | (simp [go_sem]; omega))
      · exact absurd (by rw [HZ.out, List.drop_of_length_le (by rw [HL.out]; omega)]; rfl) HB.out
end Go.Proofs.Ytpgjbiapghembaa
