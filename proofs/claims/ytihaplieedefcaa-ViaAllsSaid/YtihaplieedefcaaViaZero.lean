/-
  Walk of the reference's viaPort at no hops come to yet, and of ViaAll. Conditions: none.
-/
import Derived.Test.YtihaplieedefcaaViaPort
namespace Go.Proofs.Ytihaplieedefcaa
open Go.RowKit
set_option maxHeartbeats 800000
set_option maxRecDepth 100000
attribute [local go_sem ↓] Go.wp_at_zero Go.wp_at_succ

theorem port_zero (l : List Vi) (A : Option Addr) (n c : Nat) (hop : Int) (w : World) (hl : Rd w 3 A n encV l) (hn : n ≤ c) (hc : c ≤ 9223372036854775807) :
    Calls Try.prog 82 #[.slice A n c, .int .i64 hop, .slice none 0 0] w (Ret (portV (portGo (vmap l) 10 [] hop)) w) := by
  have HL := hide hl.1
  go_enter Try.func82, Try.ntmps82
  go_wp2
  go_loopw [15] (fun i wr => ∃ m : Nat, m ≤ n ∧ i = .int .i64 m ∧ (∀ j q, j < m → l[j]? = some q → q.hop ≠ hop) ∧ ∃ g : Gr w, wr = grow _ g) (fun i _ => n - (intOf i).toNat)
  case atStart => exact ⟨0, by omega, rfl, fun j q h => by omega, ⟨_, Below.refl _ _⟩, rfl⟩
  case round =>
    obtain ⟨m, hm, rfl, hz, g0, rfl⟩ := hrel
    have HZ := hide hz
    clear hz
    by_cases hlt : m < n
    · obtain ⟨b, off, rfl, hb, hcell⟩ := hl.at_ (by omega)
      obtain ⟨r, hr⟩ : ∃ r, l[m]? = some r := ⟨_, List.getElem?_eq_getElem (by rw [HL.out]; exact hlt)⟩
      obtain ⟨c0, c1, c2⟩ := rdV hcell hr
      have HR := hide hr
      clear hr hcell
      by_cases hs : r.hop = hop
      · have hf := vmap_at HR.out hs HZ.out
        have hb2 : (r.hop != hop) = false := by simpa using hs
        have HF := hide hf
        clear hf hs
        go_wp2_with fail
        go_loopw [25] (fun i wr => i = .int .i64 0 ∧ ∃ g : Gr ((grow w g0).alloc (Obj.cells #[Value.int IntKind.i64 r.hop, Value.int IntKind.i64 r.port, Value.int IntKind.i64 r.next] 78)), wr = grow _ g) (fun _ _ => 0)
        case atStart => exact ⟨rfl, ⟨_, Below.refl _ _⟩, rfl⟩
        case round =>
          obtain ⟨rfl, g1, rfl⟩ := hrel
          by_cases h3 : 0 < r.port
          · have H := hide (portGo_4 (vmap l) 0 [] hop rfl (by omega) HF.out (by simp) h3)
            go_wp2_with fail
            go_ret3
            exact ret3 H.out (by (repeat (first | exact Below.refl _ _ | assumption | apply below_alloc | apply below_grow | apply below_setCell | apply below_drew)); all_goals first | omega | (simp [go_sem]; done) | (simp [go_sem]; omega))
          · have H := hide (portGo_5 (vmap l) 0 [] hop rfl (by omega) HF.out (by simp) h3)
            go_wp2_with fail
            rcases hpg : portGo (vmap l) (10 - (0 + 1)) ([] ++ [hop]) r.next with ⟨p, d, z⟩
            rw [hpg] at H
            have hB0 : Below w.heap.size w (grow ((grow w g0).alloc (Obj.cells #[Value.int IntKind.i64 r.hop, Value.int IntKind.i64 r.port, Value.int IntKind.i64 r.next] 78)) g1) := (by (repeat (first | exact Below.refl _ _ | assumption | apply below_alloc | apply below_grow | apply below_setCell | apply below_drew)); all_goals first | omega | (simp [go_sem]; done) | (simp [go_sem]; omega))
            have hT : w.heap.size + more g0 < (grow ((grow w g0).alloc (Obj.cells #[Value.int IntKind.i64 r.hop, Value.int IntKind.i64 r.port, Value.int IntKind.i64 r.next] 78)) g1).heap.size := by simp [go_sem]; omega
            have hc2 : (grow ((grow w g0).alloc (Obj.cells #[Value.int IntKind.i64 r.hop, Value.int IntKind.i64 r.port, Value.int IntKind.i64 r.next] 78)) g1).cell? ⟨w.heap.size + more g0, 2, none⟩ = some (.int .i64 r.next) := by simp [go_sem]
            generalize grow ((grow w g0).alloc (Obj.cells #[Value.int IntKind.i64 r.hop, Value.int IntKind.i64 r.port, Value.int IntKind.i64 r.next] 78)) g1 = Wr at hB0 hT hc2 ⊢
            have hl' := hl.below hB0
            have REC : ∀ (g : Gr Wr) (B' : Addr) (cb' : Nat), (grow Wr g).ownsRow Wr.heap.size 3 1 (.slice (some B') 1 cb') 1 [.int .i64 hop] →
                Calls Try.prog 82 #[.slice (some ⟨b, off, none⟩) n c, .int .i64 r.next, .slice (some B') 1 cb'] (grow Wr g) (Ret (.tuple #[.int .i64 p, .int .i64 d, .int .i64 z]) (grow Wr g)) := fun g B' cb' ho => by
              obtain ⟨A', c', e, h1, h2, h3⟩ := own_rd (l := [hop]) encI_len ho (by decide)
              cases e
              have := port_all l 8 1 (by omega) (by omega) _ n c _ cb' [hop] r.next (grow Wr g) (hl'.below (grow_below _ g)) hn hc h1 h2 h3
              rw [show portGo (vmap l) (10 - 1) [hop] r.next = (p, d, z) from hpg] at this
              exact this
            clear hl' hl
            go_region_held3 (fun w' => w'.cell? ⟨w.heap.size + more g0, 2, none⟩ = some (.int .i64 r.next)) (repeat (first | exact hc2 | (simp only [World.cell?_drew]) | (rw [alloc_cell_ite, if_neg (by first | omega | (simp [go_sem]; done) | (simp [go_sem]; omega))]) | (rw [grow_cell, if_pos (by first | omega | (simp [go_sem]; done) | (simp [go_sem]; omega))])))
              (first
              | (refine step_app_int Wr _ (by (repeat (first | exact Below.refl _ _ | assumption | apply below_alloc | apply below_grow | apply below_setCell | apply below_drew)); all_goals first | omega | (simp [go_sem]; done) | (simp [go_sem]; omega)) (by rfl) (.tmp 47) (.tmp 49) (by rfl) (.slice none 0 0) 0 [] (by rfl) (own_nil _ _ _ _) _ 1 1 [.int .i64 hop] (by rfl) (by rfl) (by intro j u hu; cases j with | zero => (simp at hu; subst hu; (try simp only [World.cell?_drew]); (simp [Addr.add, go_sem]; done)) | succ j => simp at hu) (by intro u hu; simp at hu; subst hu; rfl) (by omega) (by omega) (by omega) 1 rfl [.int .i64 hop] rfl ?_; intro gC bC capC hleC _ _ hownC)
              | (go_at_call 82; refine (REC gC _ capC hownC).mono ?_; rintro e w' ⟨rfl, gD, rfl⟩))
            all_goals
              go_wp2_with fail
              go_ret3
              exact ret3 H.out (by (repeat (first | exact Below.refl _ _ | assumption | apply below_alloc | apply below_grow | apply below_setCell | apply below_drew)); all_goals first | omega | (simp [go_sem]; done) | (simp [go_sem]; omega))
      · have hb2 : (r.hop != hop) = true := by simpa using hs
        have HS := hide hs
        clear hs
        go_wp2_with fail
        go_roundw
        case rel => exact ⟨m + 1, by omega, by go_num, fun j q' h1 h2 => by
          by_cases e : j = m
          · subst e
            have := HR.out.symm.trans h2
            simp only [Option.some.injEq] at this
            subst this
            exact HS.out
          · exact HZ.out j q' (by omega) h2, gr_of (by (repeat (first | exact Below.refl _ _ | assumption | apply below_alloc | apply below_grow | apply below_setCell | apply below_drew)); all_goals first | omega | (simp [go_sem]; done) | (simp [go_sem]; omega))⟩
        case measure => simp [intOf]; omega
    · have H := hide (portGo_1 (vmap l) 0 [] hop (by omega) (vmap_no fun j q h => HZ.out j q (by have := (List.getElem?_eq_some_iff.1 h).1; rw [HL.out] at this; omega) h))
      go_wp2_with fail
      go_ret3
      exact ret3 H.out (by (repeat (first | exact Below.refl _ _ | assumption | apply below_alloc | apply below_grow | apply below_setCell | apply below_drew)); all_goals first | omega | (simp [go_sem]; done) | (simp [go_sem]; omega))
end Go.Proofs.Ytihaplieedefcaa
