/-
  Walk of the reference's ViaFault. Conditions: none.
-/
import Derived.Test.YtihaplieedefcaaVia
namespace Go.Proofs.Ytihaplieedefcaa
open Go.RowKit
set_option maxHeartbeats 400000
set_option maxRecDepth 100000

theorem vmap_found (l : List Vi) (j : Nat) (q : Vi) (k : Nat) (hj : j < k) (hq : l[j]? = some q) : (vmap (l.take k) q.hop).isSome = true := by
  unfold vmap
  rw [List.find?_isSome]
  exact ⟨q, List.mem_of_getElem? (by rw [List.getElem?_take_of_lt hj]; exact hq), by simp⟩
theorem vmap_none (l : List Vi) (k : Nat) (h : Int) (hs : ∀ j q, j < k → l[j]? = some q → q.hop ≠ h) : (vmap (l.take k) h).isSome = false := by
  unfold vmap
  rw [Bool.eq_false_iff]
  intro hc
  rw [List.find?_isSome] at hc
  obtain ⟨q, hq, hd⟩ := hc
  obtain ⟨j, hj⟩ := List.mem_iff_getElem?.1 hq
  have hlt : j < k := by
    rcases Nat.lt_or_ge j k with h | h
    · exact h
    · rw [List.getElem?_take_eq_none h] at hj; cases hj
  rw [List.getElem?_take_of_lt hlt] at hj
  exact hs j q hlt hj (by simpa using hd)
theorem viaFault_any (A : Option Addr) (n c : Nat) (l : List Vi) (w : World) (hl : Rd w 3 A n encV l) (hn : n ≤ c) (_hc : c ≤ 9223372036854775807) :
    Calls Try.prog 81 #[.slice A n c] w (Ret (.int .i64 (vfault l)) w) := by
  have hlen := hl.1
  by_cases h60 : 60 < n
  · have H := hide (p := vfault l = 1) (by unfold vfault; rw [if_pos (by omega)])
    go_enter Try.func81, Try.ntmps81
    go_wp2_with fail
    go_ret
    exact ret_i (by rw [H.out]) (by (repeat (first | exact Below.refl _ _ | assumption | apply below_alloc | apply below_grow | apply below_setCell | apply below_drew)); all_goals first | omega | (simp [go_sem]; done) | (simp [go_sem]; omega))
  · have H0 := hide (p := vfault l = vfGo (l.take 0) (l.drop 0)) (by unfold vfault; rw [if_neg (by omega)]; rfl)
    have HL := hide hlen
    clear hlen
    go_enter Try.func81, Try.ntmps81
    go_wp2_with fail
    go_loopw [12] (fun i wr => ∃ k : Nat, k ≤ n ∧ i = .int .i64 k ∧ vfault l = vfGo (l.take k) (l.drop k) ∧ ∃ g : Gr w, wr = grow _ g) (fun i _ => n - (intOf i).toNat)
    case atStart => exact ⟨0, by omega, rfl, H0.out, ⟨_, Below.refl _ _⟩, rfl⟩
    case round =>
      obtain ⟨k, hk, rfl, hz, g, rfl⟩ := hrel
      have HZ := hide hz
      clear hz H0
      by_cases hlt : k < n
      · obtain ⟨b, off, rfl, hb, hcell⟩ := hl.at_ (by omega)
        obtain ⟨r, hr⟩ : ∃ r, l[k]? = some r := ⟨_, List.getElem?_eq_getElem (by rw [HL.out]; exact hlt)⟩
        obtain ⟨c0, c1, c2⟩ := rdV hcell hr
        have HR := hide hr
        have HC := hide hcell
        clear hr hcell
        by_cases t1 : r.hop < 1 ∨ 999 < r.hop
        · have H := hide (HZ.out.trans (vfGo_1 HR.out t1))
          rcases t1 with t1 | t1
          all_goals
            go_wp2_with fail
            go_ret
            exact ret_i (by rw [H.out]) (by (repeat (first | exact Below.refl _ _ | assumption | apply below_alloc | apply below_grow | apply below_setCell | apply below_drew)); all_goals first | omega | (simp [go_sem]; done) | (simp [go_sem]; omega))
        · have T1 := hide t1
          have s1 : 1 ≤ r.hop := by omega
          have s2 : r.hop ≤ 999 := by omega
          by_cases t2 : (r.port = 0 ↔ r.next = 0)
          · have H := hide (HZ.out.trans (vfGo_2 HR.out t1 t2))
            by_cases p0 : r.port = 0
            · have n0 := t2.1 p0
              rw [p0] at c1
              rw [n0] at c2
              clear t1 t2 p0 n0
              go_wp2_with fail
              go_ret
              exact ret_i (by rw [H.out]) (by (repeat (first | exact Below.refl _ _ | assumption | apply below_alloc | apply below_grow | apply below_setCell | apply below_drew)); all_goals first | omega | (simp [go_sem]; done) | (simp [go_sem]; omega))
            · have n0 : ¬ r.next = 0 := fun h => p0 (t2.2 h)
              have p1 : (r.port == 0) = false := by simpa using p0
              have p2 : (r.port != 0) = true := by simpa using p0
              have n1 : (r.next == 0) = false := by simpa using n0
              have n2 : (r.next != 0) = true := by simpa using n0
              clear t1 t2 p0 n0
              go_wp2_with fail
              go_ret
              exact ret_i (by rw [H.out]) (by (repeat (first | exact Below.refl _ _ | assumption | apply below_alloc | apply below_grow | apply below_setCell | apply below_drew)); all_goals first | omega | (simp [go_sem]; done) | (simp [go_sem]; omega))
          · by_cases t3 : r.port < 0 ∨ 999 < r.port ∨ r.next < 0 ∨ 999 < r.next
            · have H := hide (HZ.out.trans (vfGo_3 HR.out t1 t2 t3))
              by_cases p0 : r.port = 0
              · have n0 : ¬ r.next = 0 := fun h => t2 ⟨fun _ => h, fun _ => p0⟩
                have n1 : (r.next == 0) = false := by simpa using n0
                have n2 : (r.next != 0) = true := by simpa using n0
                have t4 : r.next < 0 ∨ 999 < r.next := by omega
                rw [p0] at c1
                clear t1 t2 t3 p0 n0
                rcases t4 with t4 | t4
                all_goals
                  go_wp2_with fail
                  go_ret
                  exact ret_i (by rw [H.out]) (by (repeat (first | exact Below.refl _ _ | assumption | apply below_alloc | apply below_grow | apply below_setCell | apply below_drew)); all_goals first | omega | (simp [go_sem]; done) | (simp [go_sem]; omega))
              · have n0 : r.next = 0 := by
                  by_cases h : r.next = 0
                  · exact h
                  · exact absurd ⟨fun h' => absurd h' p0, fun h' => absurd h' h⟩ t2
                have p1 : (r.port == 0) = false := by simpa using p0
                have p2 : (r.port != 0) = true := by simpa using p0
                have t4 : r.port < 0 ∨ 999 < r.port := by omega
                rw [n0] at c2
                clear t1 t2 t3 p0 n0
                rcases t4 with t4 | t4
                all_goals
                  go_wp2_with fail
                  go_ret
                  exact ret_i (by rw [H.out]) (by (repeat (first | exact Below.refl _ _ | assumption | apply below_alloc | apply below_grow | apply below_setCell | apply below_drew)); all_goals first | omega | (simp [go_sem]; done) | (simp [go_sem]; omega))
            · have HCC := hide (fun h4 => HZ.out.trans (vfGo_4 HR.out t1 t2 t3 h4))
              have HD := hide (fun h4 => HZ.out.trans (vfGo_5 HR.out t1 t2 t3 h4))
              have s3 : 0 ≤ r.port := by omega
              have s4 : r.port ≤ 999 := by omega
              have s5 : 0 ≤ r.next := by omega
              have s6 : r.next ≤ 999 := by omega
              have T2 := hide t2
              clear t1 t2 t3
              have hcase : (r.port = 0 ∧ (r.next == 0) = false ∧ (r.next != 0) = true) ∨ (r.next = 0 ∧ (r.port == 0) = false ∧ (r.port != 0) = true) := by
                by_cases p0 : r.port = 0
                · have n0 : ¬ r.next = 0 := fun h => T2.out ⟨fun _ => h, fun _ => p0⟩
                  exact .inl ⟨p0, by simpa using n0, by simpa using n0⟩
                · have n0 : r.next = 0 := by
                    by_cases h : r.next = 0
                    · exact h
                    · exact absurd ⟨fun h' => absurd h' p0, fun h' => absurd h' h⟩ T2.out
                  exact .inr ⟨n0, by simpa using p0, by simpa using p0⟩
              rcases hcase with ⟨p0, n1, n2⟩ | ⟨p0, n1, n2⟩
              all_goals
                first | rw [p0] at c1 | rw [p0] at c2
                have P0 := hide p0
                clear p0
                go_wp2_with fail
                go_loopw [65] (fun i wr => ∃ m : Nat, m ≤ k ∧ i = .int .i64 m ∧ (∀ j q, j < m → l[j]? = some q → q.hop ≠ r.hop) ∧ ∃ g : Gr ((grow w g).alloc (Obj.cells #[Value.int IntKind.i64 r.hop, Value.int IntKind.i64 r.port, Value.int IntKind.i64 r.next] 78)), wr = grow _ g) (fun i _ => k - (intOf i).toNat)
                case atStart => exact ⟨0, by omega, rfl, fun j q h => by omega, by rw [P0.out]; exact ⟨⟨_, Below.refl _ _⟩, rfl⟩⟩
                case round =>
                  obtain ⟨m, hm, rfl, hz, g2, rfl⟩ := hrel
                  have HY := hide hz
                  clear hz
                  by_cases hlt2 : m < k
                  · obtain ⟨q, hq⟩ : ∃ q, l[m]? = some q := ⟨_, List.getElem?_eq_getElem (by rw [HL.out]; omega)⟩
                    clear c0 c1 c2
                    obtain ⟨c0, c1, c2⟩ := rdV HC.out hq
                    have HQ := hide hq
                    clear hq
                    by_cases hs : q.hop = r.hop
                    · have hb2 : (q.hop == r.hop) = true := by simpa using hs
                      have H := hide (HCC.out (hs ▸ vmap_found l m q k hlt2 HQ.out))
                      clear hs
                      go_wp2_with fail
                      go_ret
                      exact ret_i (by rw [H.out]) (by (repeat (first | exact Below.refl _ _ | assumption | apply below_alloc | apply below_grow | apply below_setCell | apply below_drew)); all_goals first | omega | (simp [go_sem]; done) | (simp [go_sem]; omega))
                    · have hb2 : (q.hop == r.hop) = false := by simpa using hs
                      have HS := hide hs
                      clear hs
                      go_wp2_with fail
                      go_roundw
                      case rel => exact ⟨m + 1, by omega, by go_num, fun j q' h1 h2 => by
                        by_cases e : j = m
                        · subst e
                          have := HQ.out.symm.trans h2
                          simp only [Option.some.injEq] at this
                          subst this
                          exact HS.out
                        · exact HY.out j q' (by omega) h2, gr_of (by (repeat (first | exact Below.refl _ _ | assumption | apply below_alloc | apply below_grow | apply below_setCell | apply below_drew)); all_goals first | omega | (simp [go_sem]; done) | (simp [go_sem]; omega))⟩
                      case measure => simp [intOf]; omega
                  · have H := hide (HD.out (vmap_none l k r.hop fun j q h1 h2 => HY.out j q (by omega) h2))
                    go_wp2_with fail
                    go_roundw
                    case rel => exact ⟨k + 1, by omega, by go_num, H.out, gr_of (by (repeat (first | exact Below.refl _ _ | assumption | apply below_alloc | apply below_grow | apply below_setCell | apply below_drew)); all_goals first | omega | (simp [go_sem]; done) | (simp [go_sem]; omega))⟩
                    case measure => simp [intOf]; omega
      · have H := hide (p := vfault l = 0) (by rw [HZ.out, List.drop_of_length_le (by rw [HL.out]; omega)]; rfl)
        go_wp2_with fail
        go_ret
        exact ret_i (by rw [H.out]) (by (repeat (first | exact Below.refl _ _ | assumption | apply below_alloc | apply below_grow | apply below_setCell | apply below_drew)); all_goals first | omega | (simp [go_sem]; done) | (simp [go_sem]; omega))
end Go.Proofs.Ytihaplieedefcaa
