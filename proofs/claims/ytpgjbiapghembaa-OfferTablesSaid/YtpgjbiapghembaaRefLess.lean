/-
  Walk of the reference's addrLess. Conditions: the addresses may be.
-/
import Derived.Test.YtpgjbiapghembaaLessBits
namespace Go.Proofs.Ytpgjbiapghembaa
open Go.RowKit
set_option maxHeartbeats 800000
set_option maxRecDepth 100000

theorem refLess_same (s : Bool) (hi lo h' l' : Nat) (w : World) (ha : (⟨s, hi, lo⟩ : Ad).wf) (hb : (⟨s, h', l'⟩ : Ad).wf) (ma : (⟨s, hi, lo⟩ : Ad).may = true) (mb : (⟨s, h', l'⟩ : Ad).may = true) :
    Calls Try.prog 38 #[.agg #[.bool s, .int .u64 hi, .int .u64 lo], .agg #[.bool s, .int .u64 h', .int .u64 l']] w (Ret (.bool (adLess ⟨s, hi, lo⟩ ⟨s, h', l'⟩)) w) := by
  have HX := hide (bitsA_get ⟨s, hi, lo⟩ ha)
  have HY := hide (bitsA_get ⟨s, h', l'⟩ hb)
  have HA := hide (fun k => less_at (a := ⟨s, hi, lo⟩) (b := ⟨s, h', l'⟩) rfl ha hb ma mb k)
  have HO := hide (less_none (a := ⟨s, hi, lo⟩) (b := ⟨s, h', l'⟩) rfl ha hb ma mb)
  have hw : wd s ≤ 128 := by cases s <;> decide
  have hw1 : 0 < wd s := by cases s <;> decide
  have ⟨p1, p2⟩ := ha
  have ⟨a1, a2⟩ := hb
  clear ha hb ma mb
  have tokX : True := trivial
  have tokY : True := trivial
  go_enter Try.func38, Try.ntmps38
  go_wp2_with (first | (go_at_call 56; clear tokX; refine (bits_any _ _ _ _ p1 p2).mono ?_; rintro e w' ⟨bX, capX, gX, rfl, rfl, hleX, hownX⟩; have hcapX := own_cap hownX; have hltX := own_lt hownX; (try simp only [World.size_alloc, grow_size] at hleX hltX)) | (go_at_call 56; clear tokY; refine (bits_any _ _ _ _ a1 a2).mono ?_; rintro e w' ⟨bY, capY, gY, rfl, rfl, hleY, hownY⟩; have hcapY := own_cap hownY; have hltY := own_lt hownY; (try simp only [World.size_alloc, grow_size] at hleY hltY)))
  go_loopw [22] (fun i wr => ∃ m : Nat, m ≤ wd s ∧ i = .int .i64 m ∧ (∀ j, j < m → (⟨s, hi, lo⟩ : Ad).bit j = (⟨s, h', l'⟩ : Ad).bit j) ∧ ∃ g : Gr (grow _ gY), wr = grow _ g) (fun i _ => wd s - (intOf i).toNat)
  case atStart => exact ⟨0, by omega, rfl, fun j h => by omega, ⟨_, Below.refl _ _⟩, rfl⟩
  case round =>
    obtain ⟨m, hm', rfl, hz, g, rfl⟩ := hrel
    have HZ := hide hz
    clear hz
    by_cases hlt : m < wd s
    · have hcx := own_raw hownX m (by omega)
      have hcy := own_raw hownY m (by omega)
      rw [HX.out m (by omega)] at hcx
      rw [HY.out m (by omega)] at hcy
      by_cases hb : (⟨s, hi, lo⟩ : Ad).bit m = (⟨s, h', l'⟩ : Ad).bit m
      · rw [hb] at hcx
        have HN := hide hb
        clear hb
        go_wp2_with fail
        (refine wp_region_grow (by kernel_rfl) (by kernel_rfl) ?_; (repeat (go_big_quiet_step (fail))); refine wpQuiet_nil ?_; rintro _ ⟨gq, rfl⟩)
        go_wp2_with fail
        go_roundw
        case rel => exact ⟨m + 1, by omega, by go_num, fun j h3 => by
          by_cases e : j = m
          · subst e; exact HN.out
          · exact HZ.out j (by omega), gr_of (by (repeat (first | exact Below.refl _ _ | assumption | apply below_alloc | apply below_grow | apply below_setCell | apply below_drew)); all_goals first | omega | (simp [go_sem]; done) | (simp [go_sem]; omega))⟩
        case measure => simp [intOf]; omega
      · have hb' : (((⟨s, hi, lo⟩ : Ad).bit m : Int) != ((⟨s, h', l'⟩ : Ad).bit m : Int)) = true := by rw [bne_iff_ne]; omega
        have HF := hide (HA.out m hlt HZ.out hb)
        clear hb
        go_wp2_with fail
        (refine wp_region_grow (by kernel_rfl) (by kernel_rfl) ?_; (repeat (go_big_quiet_step (fail))); refine wpQuiet_nil ?_; rintro _ ⟨gq, rfl⟩)
        go_wp2_with fail
        (refine wp_region_grow (by kernel_rfl) (by kernel_rfl) ?_; (repeat (go_big_quiet_step (fail))); refine wpQuiet_nil ?_; rintro _ ⟨gq, rfl⟩)
        go_wp2_with fail
        go_ret
        refine ret_b ?_ (by (repeat (first | exact Below.refl _ _ | assumption | apply below_alloc | apply below_grow | apply below_setCell | apply below_drew)); all_goals first | omega | (simp [go_sem]; done) | (simp [go_sem]; omega))
        rw [HF.out]
    · have HF := hide (HO.out fun j hj => HZ.out j (by omega))
      go_wp2_with fail
      go_ret
      exact ret_b (by rw [HF.out]) (by (repeat (first | exact Below.refl _ _ | assumption | apply below_alloc | apply below_grow | apply below_setCell | apply below_drew)); all_goals first | omega | (simp [go_sem]; done) | (simp [go_sem]; omega))
theorem refLess_any (a b : Ad) (w : World) (ha : a.wf) (hb : b.wf) (ma : a.may = true) (mb : b.may = true) :
    Calls Try.prog 38 #[.agg #[.bool a.six, .int .u64 (a.hi : Nat), .int .u64 (a.lo : Nat)], .agg #[.bool b.six, .int .u64 (b.hi : Nat), .int .u64 (b.lo : Nat)]] w (Ret (.bool (adLess a b)) w) := by
  obtain ⟨s, x, y⟩ := a
  obtain ⟨s', x', y'⟩ := b
  by_cases hs : s = s'
  · subst hs
    exact refLess_same s x y x' y' w ha hb ma mb
  · have H := hide (p := adLess ⟨s, x, y⟩ ⟨s', x', y'⟩ = s') (by simp [adLess, hs])
    clear ha hb ma mb
    cases s <;> cases s'
    · exact absurd rfl hs
    · go_enter Try.func38, Try.ntmps38
      go_wp2
      go_ret
      exact ret_b (by rw [H.out]) (by (repeat (first | exact Below.refl _ _ | assumption | apply below_alloc | apply below_grow | apply below_setCell | apply below_drew)); all_goals first | omega | (simp [go_sem]; done) | (simp [go_sem]; omega))
    · go_enter Try.func38, Try.ntmps38
      go_wp2
      go_ret
      exact ret_b (by rw [H.out]) (by (repeat (first | exact Below.refl _ _ | assumption | apply below_alloc | apply below_grow | apply below_setCell | apply below_drew)); all_goals first | omega | (simp [go_sem]; done) | (simp [go_sem]; omega))
    · exact absurd rfl hs
theorem worth_any (o : Ofr) (w : World) (hs : 1 ≤ o.src ∧ o.src ≤ 4) (hm : 0 ≤ o.met ∧ o.met ≤ 999) (hp : 0 ≤ o.peer ∧ o.peer ≤ 999) :
    Calls Try.prog 37 #[.agg #[.bool o.ad.six, .int .u64 (o.ad.hi : Nat), .int .u64 (o.ad.lo : Nat), .int .i64 o.len, .int .i64 o.src, .int .i64 o.peer, .int .i64 o.met, .int .i64 o.hop]] w (Ret (.int .i64 (worth o)) w) := by
  obtain ⟨s1, s2⟩ := hs
  obtain ⟨m1, m2⟩ := hm
  obtain ⟨p1, p2⟩ := hp
  go_enter Try.func37, Try.ntmps37
  go_wp2
  go_ret
  refine ret_i ?_ (by (repeat (first | exact Below.refl _ _ | assumption | apply below_alloc | apply below_grow | apply below_setCell | apply below_drew)); all_goals first | omega | (simp [go_sem]; done) | (simp [go_sem]; omega))
  rfl
end Go.Proofs.Ytpgjbiapghembaa
