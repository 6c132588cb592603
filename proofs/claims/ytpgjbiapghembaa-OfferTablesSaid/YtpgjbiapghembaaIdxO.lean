/-
  slices.IndexFunc and ContainsFunc at offers, whatever the function: where the first element is of which it says yes; whether there is one. Conditions: the function only lets the world grow.
-/
import Derived.Test.YtpgjbiapghembaaOffer
namespace Go.Proofs.Ytpgjbiapghembaa
open Go.RowKit
set_option maxHeartbeats 400000
set_option maxRecDepth 100000

/-- Where the first one is; -1: nowhere. -/
def ixF {α : Type} (p : α → Bool) (l : List α) : Int := if l.any p then (l.findIdx p : Nat) else -1
theorem ixF_any {α : Type} (p : α → Bool) (l : List α) : decide (0 ≤ ixF p l) = l.any p := by
  unfold ixF
  cases l.any p <;> simp
theorem ixF_yes {α : Type} {p : α → Bool} {l : List α} {k : Nat} {x : α} (hk : l[k]? = some x) (hp : p x = true) (h : ∀ j y, j < k → l[j]? = some y → p y = false) : ixF p l = k := by
  have hlt := (List.getElem?_eq_some_iff.1 hk).1
  have hx := (List.getElem?_eq_some_iff.1 hk).2
  have ha : l.any p = true := List.any_eq_true.2 ⟨x, List.mem_of_getElem? hk, hp⟩
  unfold ixF
  rw [if_pos ha]
  congr 1
  rw [List.findIdx_eq hlt]
  refine ⟨by rw [hx]; exact hp, fun j hj => ?_⟩
  exact Bool.eq_false_iff.1 (h j l[j] hj (List.getElem?_eq_getElem (by omega))) |> fun h => by simpa using h
theorem ixF_no {α : Type} {p : α → Bool} {l : List α} (h : ∀ j y, j < l.length → l[j]? = some y → p y = false) : ixF p l = -1 := by
  unfold ixF
  rw [if_neg]
  rw [Bool.not_eq_true, List.any_eq_false]
  intro x hx
  obtain ⟨j, hj⟩ := List.mem_iff_getElem?.1 hx
  rw [h j x (List.getElem?_eq_some_iff.1 hj).1 hj]
  decide
theorem indexO_any (F : Nat) (cb : Array Value) (p : Ofr → Bool) (A : Option Addr) (n c : Nat) (l : List Ofr) (w : World) (hl : Rd w 8 A n encO l) (_hn : n ≤ c) (_hc : c ≤ 9223372036854775807)
    (eg : ∀ args w, (callFunc F args).run Try.prog w = .ok (.enter F args) w)
    (hf : ∀ (g : Gr w) x, x ∈ l → Calls Try.prog F (#[.agg #[.bool x.ad.six, .int .u64 (x.ad.hi : Nat), .int .u64 (x.ad.lo : Nat), .int .i64 x.len, .int .i64 x.src, .int .i64 x.peer, .int .i64 x.met, .int .i64 x.hop]] ++ cb) (grow w g) (Ret (.bool (p x)) (grow w g))) :
    Calls Try.prog 40 #[.slice A n c, .func (.func F) #[] cb] w (Ret (.int .i64 (ixF p l)) w) := by
  have HL := hide hl.1
  have HF := hide hf
  clear hf
  go_enter Try.func40, Try.ntmps40
  go_wp2_with fail
  go_loopw [8] (fun i wr => ∃ k : Nat, k ≤ n ∧ i = .int .i64 k ∧ (∀ j y, j < k → l[j]? = some y → p y = false) ∧ ∃ g : Gr w, wr = grow w g) (fun i _ => n - (intOf i).toNat)
  case atStart => exact ⟨0, by omega, rfl, fun _ _ h => by omega, ⟨_, Below.refl _ _⟩, rfl⟩
  case round =>
    obtain ⟨k, hk, rfl, hz, g, rfl⟩ := hrel
    have HZ := hide hz
    clear hz
    by_cases hlt : k < n
    · obtain ⟨b, off, rfl, hb, hcell⟩ := hl.at_ (by omega)
      obtain ⟨r, hr⟩ : ∃ r, l[k]? = some r := ⟨_, List.getElem?_eq_getElem (by rw [HL.out]; exact hlt)⟩
      obtain ⟨c0, c1, c2, c3, c4, c5, c6, c7⟩ := rdO hcell hr
      have HR := hide hr
      clear hr hcell
      rcases hp : p r with _ | _
      · have H := HF.out g r (List.mem_of_getElem? HR.out)
        rw [hp] at H
        have HN := hide (p := ∀ j y, j < k + 1 → l[j]? = some y → p y = false) (fun j y hj hy => by
          by_cases e : j = k
          · subst e
            have := HR.out.symm.trans hy
            simp only [Option.some.injEq] at this
            exact this ▸ hp
          · exact HZ.out j y (by omega) hy)
        clear hp
        go_wp2_with fail
        refine H.mono ?_
        rintro e w' ⟨rfl, g2, rfl⟩
        go_wp2_with fail
        go_roundw
        case rel => exact ⟨k + 1, by omega, by go_num, HN.out, gr_of (by (repeat (first | exact Below.refl _ _ | assumption | apply below_alloc | apply below_grow | apply below_setCell | apply below_drew)); all_goals first | omega | (simp [go_sem]; done) | (simp [go_sem]; omega))⟩
        case measure => simp [intOf]; omega
      · have H := HF.out g r (List.mem_of_getElem? HR.out)
        rw [hp] at H
        have HN := hide (ixF_yes HR.out hp HZ.out)
        clear hp
        go_wp2_with fail
        refine H.mono ?_
        rintro e w' ⟨rfl, g2, rfl⟩
        go_wp2_with fail
        go_ret
        exact ret_i (by rw [HN.out]) (by (repeat (first | exact Below.refl _ _ | assumption | apply below_alloc | apply below_grow | apply below_setCell | apply below_drew)); all_goals first | omega | (simp [go_sem]; done) | (simp [go_sem]; omega))
    · have HN := hide (ixF_no (p := p) (l := l) fun j y hj hy => HZ.out j y (by rw [HL.out] at hj; omega) hy)
      go_wp2_with fail
      go_ret
      exact ret_i (by rw [HN.out]) (by (repeat (first | exact Below.refl _ _ | assumption | apply below_alloc | apply below_grow | apply below_setCell | apply below_drew)); all_goals first | omega | (simp [go_sem]; done) | (simp [go_sem]; omega))
theorem containsO_any (F : Nat) (cb : Array Value) (p : Ofr → Bool) (A : Option Addr) (n c : Nat) (l : List Ofr) (w : World) (hl : Rd w 8 A n encO l) (hn : n ≤ c) (hc : c ≤ 9223372036854775807)
    (eg : ∀ args w, (callFunc F args).run Try.prog w = .ok (.enter F args) w)
    (hf : ∀ (g : Gr w) x, x ∈ l → Calls Try.prog F (#[.agg #[.bool x.ad.six, .int .u64 (x.ad.hi : Nat), .int .u64 (x.ad.lo : Nat), .int .i64 x.len, .int .i64 x.src, .int .i64 x.peer, .int .i64 x.met, .int .i64 x.hop]] ++ cb) (grow w g) (Ret (.bool (p x)) (grow w g))) :
    Calls Try.prog 20 #[.slice A n c, .func (.func F) #[] cb] w (Ret (.bool (l.any p)) w) := by
  have H := indexO_any F cb p A n c l w hl hn hc eg hf
  have HE := hide (ixF_any p l)
  clear hf eg
  go_enter Try.func20, Try.ntmps20
  go_wp2_with (go_at_call 40; refine (H).mono ?_; rintro e w' ⟨rfl, g, rfl⟩)
  go_ret
  exact ret_b HE.out (by (repeat (first | exact Below.refl _ _ | assumption | apply below_alloc | apply below_grow | apply below_setCell | apply below_drew)); all_goals first | omega | (simp [go_sem]; done) | (simp [go_sem]; omega))
end Go.Proofs.Ytpgjbiapghembaa
