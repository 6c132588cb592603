/-
  Routes, as data and in memory; the plain law of a table's faults; the walk of the reference's TableFault. Conditions: the words of the addresses are 64-bit numbers.
-/
import Derived.Test.YtihaplieedefcaaRefPre
namespace Go.Proofs.Ytihaplieedefcaa
open Go.RowKit
set_option maxHeartbeats 400000
set_option maxRecDepth 100000

structure Rt where
  ad : Ad
  len : Int
  hop : Int
deriving DecidableEq
def encR (r : Rt) : List Value := [.bool r.ad.six, .int .u64 (r.ad.hi : Nat), .int .u64 (r.ad.lo : Nat), .int .i64 r.len, .int .i64 r.hop]
/-- A slice's n elements, read out of memory that is there. -/
def Rd {α : Type} (w : World) (size : Nat) (A : Option Addr) (n : Nat) (enc : α → List Value) (l : List α) : Prop :=
  l.length = n ∧ (0 < n → ∃ b off, A = some ⟨b, off, none⟩ ∧ b < w.heap.size ∧ ∀ k x, l[k]? = some x → ∀ i v, (enc x)[i]? = some v → w.cell? ⟨b, off + k * size + i, none⟩ = some v)
theorem Rd.at_ {α : Type} {w : World} {size : Nat} {A : Option Addr} {n : Nat} {enc : α → List Value} {l : List α} (h : Rd w size A n enc l) (hn : 0 < n) :
    ∃ b off, A = some ⟨b, off, none⟩ ∧ b < w.heap.size ∧ ∀ k x, l[k]? = some x → ∀ i v, (enc x)[i]? = some v → w.cell? ⟨b, off + k * size + i, none⟩ = some v := h.2 hn
theorem Rd.below {α : Type} {w w' : World} {size : Nat} {A : Option Addr} {n : Nat} {enc : α → List Value} {l : List α} (h : Rd w size A n enc l) (hb : Below w.heap.size w w') : Rd w' size A n enc l :=
  ⟨h.1, fun hn => by
    obtain ⟨b, off, e, hlt, hc⟩ := h.2 hn
    exact ⟨b, off, e, Nat.lt_of_lt_of_le hlt hb.size, fun k x hx i v hv => (hb.cell (p := ⟨b, off + k * size + i, none⟩) hlt).trans (hc k x hx i v hv)⟩⟩
theorem rdR {w : World} {b off k : Nat} {l : List Rt} {r : Rt} (hc : ∀ k x, l[k]? = some x → ∀ i v, (encR x)[i]? = some v → w.cell? ⟨b, off + k * 5 + i, none⟩ = some v) (hr : l[k]? = some r) :
    w.cell? ⟨b, off + k * 5, none⟩ = some (.bool r.ad.six) ∧ w.cell? ⟨b, off + k * 5 + 1, none⟩ = some (.int .u64 (r.ad.hi : Nat)) ∧ w.cell? ⟨b, off + k * 5 + 2, none⟩ = some (.int .u64 (r.ad.lo : Nat)) ∧ w.cell? ⟨b, off + k * 5 + 3, none⟩ = some (.int .i64 r.len) ∧ w.cell? ⟨b, off + k * 5 + 4, none⟩ = some (.int .i64 r.hop) :=
  ⟨hc k r hr 0 _ rfl, hc k r hr 1 _ rfl, hc k r hr 2 _ rfl, hc k r hr 3 _ rfl, hc k r hr 4 _ rfl⟩
def wfR (l : List Rt) : Prop := ∀ r ∈ l, r.ad.wf
def tfGo (seen : List Rt) : List Rt → Int
  | [] => 0
  | r :: rs => if checkZ r.ad r.len ≠ 0 then checkZ r.ad r.len else if r.hop < 1 ∨ 999 < r.hop then 2 else if seen.any (fun q => decide (q.ad = r.ad ∧ q.len = r.len)) then 8 else tfGo (seen ++ [r]) rs
def tfault (l : List Rt) : Int := if 60 < l.length then 1 else tfGo [] l
theorem tfGo_at (l : List Rt) (k : Nat) (r : Rt) (hk : l[k]? = some r) : tfGo (l.take k) (l.drop k) = if checkZ r.ad r.len ≠ 0 then checkZ r.ad r.len else if r.hop < 1 ∨ 999 < r.hop then 2 else if (l.take k).any (fun q => decide (q.ad = r.ad ∧ q.len = r.len)) then 8 else tfGo (l.take (k + 1)) (l.drop (k + 1)) := by
  have hlt := (List.getElem?_eq_some_iff.1 hk).1
  have hr := (List.getElem?_eq_some_iff.1 hk).2
  rw [List.drop_eq_getElem_cons hlt, tfGo, hr, List.take_add_one, hk]
  rfl
def samePf (q r : Rt) : Bool := decide (q.ad = r.ad ∧ q.len = r.len)
theorem pfE_rt (a b : Ad) (n m : Int) : pfE a.six a.hi a.lo n b.six b.hi b.lo m = decide (a = b ∧ n = m) := by
  unfold pfE
  rw [decide_eq_decide]
  obtain ⟨s, h, l⟩ := a
  obtain ⟨s', h', l'⟩ := b
  simp only [Ad.mk.injEq, Int.natCast_inj]
  constructor
  · rintro ⟨h1, h2, h3, h4⟩; exact ⟨⟨h1, h2, h3⟩, h4⟩
  · rintro ⟨⟨h1, h2, h3⟩, h4⟩; exact ⟨h1, h2, h3, h4⟩
theorem tfGo_A (l : List Rt) (k : Nat) (r : Rt) (hk : l[k]? = some r) (h : checkZ r.ad r.len ≠ 0) : tfGo (l.take k) (l.drop k) = checkZ r.ad r.len := by
  rw [tfGo_at l k r hk, if_pos h]
theorem tfGo_B (l : List Rt) (k : Nat) (r : Rt) (hk : l[k]? = some r) (h : checkZ r.ad r.len = 0) (h2 : r.hop < 1 ∨ 999 < r.hop) : tfGo (l.take k) (l.drop k) = 2 := by
  rw [tfGo_at l k r hk, if_neg (by simpa using h), if_pos h2]
theorem tfGo_C (l : List Rt) (k : Nat) (r : Rt) (hk : l[k]? = some r) (h : checkZ r.ad r.len = 0) (h2 : ¬ (r.hop < 1 ∨ 999 < r.hop)) (j : Nat) (q : Rt) (hj : j < k) (hq : l[j]? = some q) (hs : samePf q r = true) : tfGo (l.take k) (l.drop k) = 8 := by
  rw [tfGo_at l k r hk, if_neg (by simpa using h), if_neg h2, if_pos]
  rw [List.any_eq_true]
  exact ⟨q, List.mem_of_getElem? (by rw [List.getElem?_take_of_lt hj]; exact hq), hs⟩
theorem tfGo_D (l : List Rt) (k : Nat) (r : Rt) (hk : l[k]? = some r) (h : checkZ r.ad r.len = 0) (h2 : ¬ (r.hop < 1 ∨ 999 < r.hop)) (hs : ∀ j q, j < k → l[j]? = some q → samePf q r = false) : tfGo (l.take k) (l.drop k) = tfGo (l.take (k + 1)) (l.drop (k + 1)) := by
  rw [tfGo_at l k r hk, if_neg (by simpa using h), if_neg h2, if_neg]
  rw [List.any_eq_true]
  rintro ⟨q, hq, hd⟩
  obtain ⟨j, hj⟩ := List.mem_iff_getElem?.1 hq
  have hlt : j < k := by
    rcases Nat.lt_or_ge j k with h | h
    · exact h
    · rw [List.getElem?_take_eq_none h] at hj; cases hj
  rw [List.getElem?_take_of_lt hlt] at hj
  have := hs j q hlt hj
  rw [samePf] at this
  rw [this] at hd
  cases hd
theorem refFault_any (A : Option Addr) (n c : Nat) (l : List Rt) (w : World) (hl : Rd w 5 A n encR l) (hw : wfR l) (hn : n ≤ c) (hc : c ≤ 9223372036854775807) :
    Calls Try.prog 66 #[.slice A n c] w (Ret (.int .i64 (tfault l)) w) := by
  have hlen := hl.1
  by_cases h60 : 60 < n
  · have H := hide (p := tfault l = 1) (by unfold tfault; rw [if_pos (by omega)])
    go_enter Try.func66, Try.ntmps66
    go_wp2_with fail
    go_ret
    exact ret_i (by rw [H.out]) (by (repeat (first | exact Below.refl _ _ | assumption | apply below_alloc | apply below_grow | apply below_setCell | apply below_drew)); all_goals first | omega | (simp [go_sem]; done) | (simp [go_sem]; omega))
  · have H0 := hide (p := tfault l = tfGo (l.take 0) (l.drop 0)) (by unfold tfault; rw [if_neg (by omega)]; rfl)
    have HL := hide hlen
    clear hlen
    go_enter Try.func66, Try.ntmps66
    go_wp2_with fail
    go_loopw [13] (fun i wr => ∃ k : Nat, k ≤ n ∧ i = .int .i64 k ∧ tfault l = tfGo (l.take k) (l.drop k) ∧ ∃ g : Gr w, wr = grow _ g) (fun i _ => n - (intOf i).toNat)
    case atStart => exact ⟨0, by omega, rfl, H0.out, ⟨_, Below.refl _ _⟩, rfl⟩
    case round =>
      obtain ⟨k, hk, rfl, hz, g, rfl⟩ := hrel
      have HZ := hide hz
      clear hz H0
      by_cases hlt : k < n
      · obtain ⟨b, off, rfl, hb, hcell⟩ := hl.at_ (by omega)
        obtain ⟨r, hr⟩ : ∃ r, l[k]? = some r := ⟨_, List.getElem?_eq_getElem (by rw [HL.out]; exact hlt)⟩
        obtain ⟨c0, c1, c2, c3, c4⟩ := rdR hcell hr
        have HR := hide hr
        have HC := hide hcell
        have HW := hw r (List.mem_of_getElem? hr)
        have w1 := HW.1
        have w2 := HW.2
        clear hr hcell HW
        by_cases hz : checkZ ⟨r.ad.six, r.ad.hi, r.ad.lo⟩ r.len = 0
        · have hb1 : (checkZ ⟨r.ad.six, r.ad.hi, r.ad.lo⟩ r.len != 0) = false := by simpa using hz
          by_cases h2 : r.hop < 1 ∨ 999 < r.hop
          · have H := hide ((HZ.out).trans (tfGo_B l k r HR.out hz h2))
            clear hz
            rcases h2 with h2 | h2
            all_goals
              go_wp2_with (go_at_call 126; refine (fault_any _ _ _ _ _ w1 w2).mono ?_; rintro e w' ⟨rfl, g, rfl⟩)
              go_ret
              exact ret_i (by rw [H.out]) (by (repeat (first | exact Below.refl _ _ | assumption | apply below_alloc | apply below_grow | apply below_setCell | apply below_drew)); all_goals first | omega | (simp [go_sem]; done) | (simp [go_sem]; omega))
          · have HCC := hide (fun j q h3 h4 h5 => (HZ.out).trans (tfGo_C l k r HR.out hz h2 j q h3 h4 h5))
            have HD := hide (fun h3 => (HZ.out).trans (tfGo_D l k r HR.out hz h2 h3))
            have h3 : 1 ≤ r.hop := by omega
            have h4 : r.hop ≤ 999 := by omega
            clear hz h2
            have tokX : True := trivial
            go_wp2_with (go_at_call 126; clear tokX; refine (fault_any _ _ _ _ _ w1 w2).mono ?_; rintro e w' ⟨rfl, gX, rfl⟩)
            go_loopw [36] (fun i wr => ∃ m : Nat, m ≤ k ∧ i = .int .i64 m ∧ (∀ j q, j < m → l[j]? = some q → samePf q r = false) ∧ ∃ g : Gr (grow _ gX), wr = grow _ g) (fun i _ => k - (intOf i).toNat)
            case atStart => exact ⟨0, by omega, rfl, fun j q h => by omega, ⟨_, Below.refl _ _⟩, rfl⟩
            case round =>
              obtain ⟨m, hm, rfl, hz, g2, rfl⟩ := hrel
              have HY := hide hz
              clear hz
              by_cases hlt2 : m < k
              · obtain ⟨q, hq⟩ : ∃ q, l[m]? = some q := ⟨_, List.getElem?_eq_getElem (by rw [HL.out]; omega)⟩
                clear c0 c1 c2 c3 c4
                obtain ⟨c0, c1, c2, c3, c4⟩ := rdR HC.out hq
                have HQ := hide hq
                clear hq
                have hE := pfE_rt q.ad r.ad q.len r.len
                rcases hs : samePf q r with _ | _
                · have hs' : decide (q.ad = r.ad ∧ q.len = r.len) = false := hs
                  rw [hs'] at hE
                  have HS := hide hs
                  clear hs hs'
                  go_wp2_with fail
                  go_roundw
                  case rel => exact ⟨m + 1, by omega, by go_num, fun j q' h1 h2 => by
                    by_cases e : j = m
                    · subst e
                      have := HQ.out.symm.trans h2
                      simp only [Option.some.injEq] at this
                      subst this
                      exact HS.out
                    · exact HY.out j q' (by omega) h2, gr_of (by (repeat (first | exact Below.refl _ _ | assumption | apply below_alloc | apply below_grow | apply below_setCell | apply below_drew)); all_goals first | omega | (simp [go_sem]; done) | (simp [go_sem]; omega))⟩
                  case measure => simp [intOf]; omega
                · have hs' : decide (q.ad = r.ad ∧ q.len = r.len) = true := hs
                  rw [hs'] at hE
                  have H := hide (HCC.out m q hlt2 HQ.out hs)
                  clear hs hs'
                  go_wp2_with fail
                  go_ret
                  exact ret_i (by rw [H.out]) (by (repeat (first | exact Below.refl _ _ | assumption | apply below_alloc | apply below_grow | apply below_setCell | apply below_drew)); all_goals first | omega | (simp [go_sem]; done) | (simp [go_sem]; omega))
              · have H := hide (HD.out fun j q h1 h2 => HY.out j q (by omega) h2)
                go_wp2_with fail
                go_roundw
                case rel => exact ⟨k + 1, by omega, by go_num, H.out, gr_of (by (repeat (first | exact Below.refl _ _ | assumption | apply below_alloc | apply below_grow | apply below_setCell | apply below_drew)); all_goals first | omega | (simp [go_sem]; done) | (simp [go_sem]; omega))⟩
                case measure => simp [intOf]; omega
        · have hb1 : (checkZ ⟨r.ad.six, r.ad.hi, r.ad.lo⟩ r.len != 0) = true := by simpa using hz
          have H := hide ((HZ.out).trans (tfGo_A l k r HR.out hz))
          clear hz
          go_wp2_with (go_at_call 126; refine (fault_any _ _ _ _ _ w1 w2).mono ?_; rintro e w' ⟨rfl, g, rfl⟩)
          go_ret
          exact ret_i (by rw [H.out]) (by (repeat (first | exact Below.refl _ _ | assumption | apply below_alloc | apply below_grow | apply below_setCell | apply below_drew)); all_goals first | omega | (simp [go_sem]; done) | (simp [go_sem]; omega))
      · have H := hide (p := tfault l = 0) (by rw [HZ.out, List.drop_of_length_le (by rw [HL.out]; omega)]; rfl)
        go_wp2_with fail
        go_ret
        exact ret_i (by rw [H.out]) (by (repeat (first | exact Below.refl _ _ | assumption | apply below_alloc | apply below_grow | apply below_setCell | apply below_drew)); all_goals first | omega | (simp [go_sem]; done) | (simp [go_sem]; omega))
end Go.Proofs.Ytihaplieedefcaa
