/-
  Walk of the reference's viaPort: it computes the plain port. Conditions: the next hops are 64-bit numbers.
-/
import Derived.Test.YtihaplieedefcaaAllWalk
import Derived.Test.YtihaplieedefcaaViaRef
import Derived.Deep.RegionHeld3
import Derived.Deep.DrawnRows
namespace Go.Proofs.Ytihaplieedefcaa
open Go.RowKit
set_option maxHeartbeats 800000
set_option maxRecDepth 100000
attribute [local go_sem ↓] Go.wp_at_zero Go.wp_at_succ

theorem vmap_at {l : List Vi} {h : Int} {j : Nat} {r : Vi} (hr : l[j]? = some r) (hh : r.hop = h) (hs : ∀ i q, i < j → l[i]? = some q → q.hop ≠ h) : vmap l h = some r := by
  unfold vmap
  rw [List.find?_eq_some_iff_getElem]
  obtain ⟨hl, e⟩ := List.getElem?_eq_some_iff.1 hr
  refine ⟨by simpa using hh, j, hl, e, fun i hi => ?_⟩
  have := hs i _ hi (List.getElem?_eq_getElem (by omega))
  simpa using this
theorem vmap_no {l : List Vi} {h : Int} (hs : ∀ (i : Nat) q, l[i]? = some q → q.hop ≠ h) : vmap l h = none := by
  unfold vmap
  rw [List.find?_eq_none]
  intro q hq
  obtain ⟨i, hi⟩ := List.mem_iff_getElem?.1 hq
  simpa using hs i q hi
/-- The contract, at been's of k hops. -/
def PortK (l : List Vi) (k : Nat) : Prop := ∀ (A : Option Addr) (n c : Nat) (B : Option Addr) (cb : Nat) (been : List Int) (hop : Int) (w : World), Rd w 3 A n encV l → n ≤ c → c ≤ 9223372036854775807 → Rd w 1 B k encI been → k ≤ cb → cb ≤ 9223372036854775807 →
  Calls Try.prog 82 #[.slice A n c, .int .i64 hop, .slice B k cb] w (Ret (portV (portGo (vmap l) (10 - k) been hop)) w)
theorem port_step (l : List Vi) (k : Nat) (hk : k ≤ 9) (hk1 : 1 ≤ k) (IH : k ≤ 8 → PortK l (k + 1)) : PortK l k := by
  intro A n c B cb been hop w hl hn hc hbn hcb hcb2
  have HL := hide hl.1
  have HB := hide hbn.1
  go_enter Try.func82, Try.ntmps82
  go_wp2
  go_loopw [15] (fun i wr => ∃ m : Nat, m ≤ n ∧ i = .int .i64 m ∧ (∀ j q, j < m → l[j]? = some q → q.hop ≠ hop) ∧ ∃ g : Gr w, wr = grow _ g) (fun i _ => n - (intOf i).toNat)
  case atStart => exact ⟨0, by omega, rfl, fun j q h => by omega, ⟨_, Below.refl _ _⟩, rfl⟩
  case round =>
    obtain ⟨m, hm, rfl, hz, g0, rfl⟩ := hrel
    have HZ := hide hz
    clear hz
    by_cases hlt : m < n
    · obtain ⟨b, off, rfl, hb, hcell⟩ := hl.at_ (by omega)
      obtain ⟨r, hr⟩ : ∃ r, l[m]? = some r := ⟨_, List.getElem?_eq_getElem (by rw [HL.out]; exact hlt)⟩
      obtain ⟨c0, c1, c2⟩ := rdV hcell hr
      have HR := hide hr
      have HC := hide hcell
      clear hr hcell
      by_cases hs : r.hop = hop
      · have hf := vmap_at HR.out hs HZ.out
        have hb2 : (r.hop != hop) = false := by simpa using hs
        have HF := hide hf
        clear hf hs
        go_wp2_with fail
        go_loopw [25] (fun i wr => ∃ y : Nat, y ≤ k ∧ i = .int .i64 y ∧ (∀ j q, j < y → been[j]? = some q → q ≠ hop) ∧ ∃ g : Gr ((grow w g0).alloc (Obj.cells #[Value.int IntKind.i64 r.hop, Value.int IntKind.i64 r.port, Value.int IntKind.i64 r.next] 78)), wr = grow _ g) (fun i _ => k - (intOf i).toNat)
        case atStart => exact ⟨0, by omega, rfl, fun j q h => by omega, ⟨_, Below.refl _ _⟩, rfl⟩
        case round =>
          obtain ⟨y, hy, rfl, hz, g1, rfl⟩ := hrel
          have HY := hide hz
          clear hz
          by_cases hlt2 : y < k
          · obtain ⟨b2, off2, rfl, hb2', hcell2⟩ := hbn.at_ (by omega)
            obtain ⟨q, hq⟩ : ∃ q, been[y]? = some q := ⟨_, List.getElem?_eq_getElem (by rw [HB.out]; exact hlt2)⟩
            have d0 := rdI hcell2 hq
            have HQ := hide hq
            clear hq hcell2
            by_cases hs : q = hop
            · have hb3 : (q == hop) = true := by simpa using hs
              have H := hide (portGo_2 (vmap l) k been hop hk HF.out (by rw [← hs]; exact List.mem_of_getElem? HQ.out))
              clear hs
              go_wp2_with fail
              go_ret3
              exact ret3 H.out (by (repeat (first | exact Below.refl _ _ | assumption | apply below_alloc | apply below_grow | apply below_setCell | apply below_drew)); all_goals first | omega | (simp [go_sem]; done) | (simp [go_sem]; omega))
            · have hb3 : (q == hop) = false := by simpa using hs
              have HS := hide hs
              clear hs
              go_wp2_with fail
              go_roundw
              case rel => exact ⟨y + 1, by omega, by go_num, fun j q' h1 h2 => by
                by_cases e : j = y
                · subst e
                  have := HQ.out.symm.trans h2
                  simp only [Option.some.injEq] at this
                  subst this
                  exact HS.out
                · exact HY.out j q' (by omega) h2, gr_of (by (repeat (first | exact Below.refl _ _ | assumption | apply below_alloc | apply below_grow | apply below_setCell | apply below_drew)); all_goals first | omega | (simp [go_sem]; done) | (simp [go_sem]; omega))⟩
              case measure => simp [intOf]; omega
          · have hni : ¬ hop ∈ been := fun h => by
              obtain ⟨j, hj⟩ := List.mem_iff_getElem?.1 h
              exact HY.out j hop (by have := (List.getElem?_eq_some_iff.1 hj).1; rw [HB.out] at this; omega) hj rfl
            have HN := hide hni
            clear hni
            by_cases h9 : k = 9
            · have H := hide (portGo_3 (vmap l) been hop (by rw [HB.out, h9]) HF.out HN.out)
              subst h9
              go_wp2_with fail
              go_ret3
              exact ret3 H.out (by (repeat (first | exact Below.refl _ _ | assumption | apply below_alloc | apply below_grow | apply below_setCell | apply below_drew)); all_goals first | omega | (simp [go_sem]; done) | (simp [go_sem]; omega))
            · have hk8 : k ≤ 8 := by omega
              by_cases h3 : 0 < r.port
              · have H := hide (portGo_4 (vmap l) k been hop HB.out hk8 HF.out HN.out h3)
                go_wp2_with fail
                go_ret3
                exact ret3 H.out (by (repeat (first | exact Below.refl _ _ | assumption | apply below_alloc | apply below_grow | apply below_setCell | apply below_drew)); all_goals first | omega | (simp [go_sem]; done) | (simp [go_sem]; omega))
              · have H := hide (portGo_5 (vmap l) k been hop HB.out hk8 HF.out HN.out h3)
                go_wp2_with fail
                obtain ⟨b2, off2, rfl, hb2', hcell2⟩ := hbn.at_ (by omega)
                rcases hpg : portGo (vmap l) (10 - (k + 1)) (been ++ [hop]) r.next with ⟨p, d, z⟩
                rw [hpg] at H
                have hB0 : Below w.heap.size w (grow ((grow w g0).alloc (Obj.cells #[Value.int IntKind.i64 r.hop, Value.int IntKind.i64 r.port, Value.int IntKind.i64 r.next] 78)) g1) := (by (repeat (first | exact Below.refl _ _ | assumption | apply below_alloc | apply below_grow | apply below_setCell | apply below_drew)); all_goals first | omega | (simp [go_sem]; done) | (simp [go_sem]; omega))
                have hT : w.heap.size + more g0 < (grow ((grow w g0).alloc (Obj.cells #[Value.int IntKind.i64 r.hop, Value.int IntKind.i64 r.port, Value.int IntKind.i64 r.next] 78)) g1).heap.size := by simp [go_sem]; omega
                have hc2 : (grow ((grow w g0).alloc (Obj.cells #[Value.int IntKind.i64 r.hop, Value.int IntKind.i64 r.port, Value.int IntKind.i64 r.next] 78)) g1).cell? ⟨w.heap.size + more g0, 2, none⟩ = some (.int .i64 r.next) := by simp [go_sem]
                generalize grow ((grow w g0).alloc (Obj.cells #[Value.int IntKind.i64 r.hop, Value.int IntKind.i64 r.port, Value.int IntKind.i64 r.next] 78)) g1 = Wr at hB0 hT hc2 ⊢
                have hbn' := hbn.below hB0
                have hl' := hl.below hB0
                have REC : ∀ (g : Gr Wr) (B' : Addr) (cb' : Nat), (grow Wr g).ownsRow Wr.heap.size 3 1 (.slice (some B') (k + 1) cb') (k + 1) ((been ++ [hop]).flatMap encI) →
                    Calls Try.prog 82 #[.slice (some ⟨b, off, none⟩) n c, .int .i64 r.next, .slice (some B') (k + 1) cb'] (grow Wr g) (Ret (.tuple #[.int .i64 p, .int .i64 d, .int .i64 z]) (grow Wr g)) := fun g B' cb' ho => by
                  obtain ⟨A', c', e, h1, h2, h3⟩ := own_rd encI_len ho (by decide)
                  cases e
                  have := IH hk8 _ n c _ cb' (been ++ [hop]) r.next (grow Wr g) (hl'.below (grow_below _ g)) hn hc h1 h2 h3
                  rw [hpg] at this
                  exact this
                have HFL : (been.flatMap encI).length = k := by rw [flat_length encI_len, HB.out]; omega
                have HONE : ∀ u ∈ been.flatMap encI, u.oneCell' = true := by
                  intro u hu
                  obtain ⟨x, _, hx⟩ := List.mem_flatMap.1 hu
                  simp [encI] at hx
                  subst hx
                  rfl
                have HNEWS : ∀ j u, (been.flatMap encI)[j]? = some u → Wr.cell? ((⟨b2, off2, none⟩ : Addr).add j) = some u := by
                  intro j u hu
                  have hj := (List.getElem?_eq_some_iff.1 hu).1
                  rw [HFL] at hj
                  obtain ⟨x, hx⟩ : ∃ x, been[j]? = some x := ⟨_, List.getElem?_eq_getElem (by rw [HB.out]; exact hj)⟩
                  have h4 := flat_get encI_len been j x hx 0 _ rfl
                  rw [Nat.mul_one, Nat.add_zero, hu] at h4
                  have h5 := (hB0.cell (p := ⟨b2, off2 + j * 1 + 0, none⟩) hb2').trans (hcell2 j x hx 0 _ rfl)
                  have h6 : (⟨b2, off2, none⟩ : Addr).add j = ⟨b2, off2 + j, none⟩ := by unfold Addr.add; split <;> simp_all
                  rw [h6, h4]
                  simpa using h5
                clear hbn' hl' hcell2 IH hbn hl
                go_region_held3 (fun w' => w'.cell? ⟨w.heap.size + more g0, 2, none⟩ = some (.int .i64 r.next)) (repeat (first | exact hc2 | (simp only [World.cell?_drew]) | (rw [alloc_cell_ite, if_neg (by first | omega | (simp [go_sem]; done) | (simp [go_sem]; omega))]) | (rw [grow_cell, if_pos (by first | omega | (simp [go_sem]; done) | (simp [go_sem]; omega))])))
                  (first
                  | (refine step_app_int Wr _ (by (repeat (first | exact Below.refl _ _ | assumption | apply below_alloc | apply below_grow | apply below_setCell | apply below_drew)); all_goals first | omega | (simp [go_sem]; done) | (simp [go_sem]; omega)) (by rfl) (.const (.slice none 0 0)) (.tmp 46) (by rfl) (.slice none 0 0) 0 [] (by rfl) (own_nil _ _ _ _) ⟨b2, off2, none⟩ k cb (been.flatMap encI) (by rfl) HFL (by intro j u hu; have h7 := HNEWS j u hu; have h8 : ((⟨b2, off2, none⟩ : Addr).add j).block = b2 := by { unfold Addr.add; split <;> rfl }; (try simp only [World.cell?_drew]); first | exact h7 | (rw [World.cell?_alloc_old _ _ _ (by rw [h8]; have := hB0.size; omega)]; exact h7)) HONE (by omega) (by omega) (by omega) k (by omega) (been.flatMap encI) rfl ?_; intro gA bA capA hleA hkA hgA hownA)
                  | (refine step_app_int Wr _ (by (repeat (first | exact Below.refl _ _ | assumption | apply below_alloc | apply below_grow | apply below_setCell | apply below_drew)); all_goals first | omega | (simp [go_sem]; done) | (simp [go_sem]; omega)) (by rfl) (.tmp 47) (.tmp 49) (by rfl) (.slice (some ⟨bA, 0, none⟩) k capA) k (been.flatMap encI) (by rfl) (by repeat (first | with_reducible exact hownA | apply own_grow | apply World.ownsRow.alloc | apply World.ownsRow.drew | (refine own_far ?_ _ _ _ (by simp [go_sem, Value.ownBlock]; try omega)))) _ 1 1 [.int .i64 hop] (by rfl) (by rfl) (by intro j u hu; cases j with | zero => (simp at hu; subst hu; (try simp only [World.cell?_drew]); first | (simp [Addr.add, go_sem]; done) | (have hk := hkA Wr.heap.size 0 (by simp [go_sem]) (by simp [Value.ownBlock]); simp [Addr.add, go_sem] at hk ⊢; exact hk)) | succ j => simp at hu) (by intro u hu; simp at hu; subst hu; rfl) (by omega) (by omega) (by omega) (k + 1) rfl ((been ++ [hop]).flatMap encI) (by rw [flat_snoc]; rfl) ?_; intro gC bC capC hleC _ _ hownC)
                  | (go_at_call 82; refine (REC gC _ capC hownC).mono ?_; rintro e w' ⟨rfl, gD, rfl⟩))
                all_goals
                  go_wp2_with fail
                  go_ret3
                  exact ret3 H.out (by (repeat (first | exact Below.refl _ _ | assumption | apply below_alloc | apply below_grow | apply below_setCell | apply below_drew)); all_goals first | omega | (simp [go_sem]; done) | (simp [go_sem]; omega))
      · have hb2 : (r.hop != hop) = true := by simpa using hs
        have HS := hide hs
        clear hs
        go_wp2_with fail
        go_roundw
        case rel => exact ⟨m + 1, by omega, by go_num, fun j q' h1 h2 => by
          by_cases e : j = m
          · subst e
            have := HR.out.symm.trans h2
            simp only [Option.some.injEq] at this
            subst this
            exact HS.out
          · exact HZ.out j q' (by omega) h2, gr_of (by (repeat (first | exact Below.refl _ _ | assumption | apply below_alloc | apply below_grow | apply below_setCell | apply below_drew)); all_goals first | omega | (simp [go_sem]; done) | (simp [go_sem]; omega))⟩
        case measure => simp [intOf]; omega
    · have H := hide (portGo_1 (vmap l) k been hop hk (vmap_no fun j q h => HZ.out j q (by have := (List.getElem?_eq_some_iff.1 h).1; rw [HL.out] at this; omega) h))
      go_wp2_with fail
      go_ret3
      exact ret3 H.out (by (repeat (first | exact Below.refl _ _ | assumption | apply below_alloc | apply below_grow | apply below_setCell | apply below_drew)); all_goals first | omega | (simp [go_sem]; done) | (simp [go_sem]; omega))
theorem port_all (l : List Vi) : ∀ j k : Nat, j + k = 9 → 1 ≤ k → PortK l k
  | 0, k, h, hk => port_step l k (by omega) hk fun h8 => by omega
  | j + 1, k, h, hk => port_step l k (by omega) hk fun _ => port_all l j (k + 1) (by omega) (by omega)
end Go.Proofs.Ytihaplieedefcaa
