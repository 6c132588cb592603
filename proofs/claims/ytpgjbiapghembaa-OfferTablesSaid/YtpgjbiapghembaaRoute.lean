/-
  Routes, as data and in memory; the plain law of a table's faults. Conditions: the words of the addresses are 64-bit numbers.
-/
import Derived.Test.YtpgjbiapghembaaRefPre
namespace Go.Proofs.Ytpgjbiapghembaa
open Go.RowKit
set_option maxHeartbeats 400000
set_option maxRecDepth 100000

structure Rt where
  ad : Ad
  len : Int
  hop : Int
deriving DecidableEq
def encR (r : Rt) : List Value := [.bool r.ad.six, .int .u64 (r.ad.hi : Nat), .int .u64 (r.ad.lo : Nat), .int .i64 r.len, .int .i64 r.hop]
/-- A slice's n elements, read out of memory that is there. -/
def Rd {α : Type} (w : World) (size : Nat) (A : Option Addr) (n : Nat) (enc : α → List Value) (l : List α) : Prop :=
  l.length = n ∧ (0 < n → ∃ b off, A = some ⟨b, off, none⟩ ∧ b < w.heap.size ∧ ∀ k x, l[k]? = some x → ∀ i v, (enc x)[i]? = some v → w.cell? ⟨b, off + k * size + i, none⟩ = some v)
theorem Rd.at_ {α : Type} {w : World} {size : Nat} {A : Option Addr} {n : Nat} {enc : α → List Value} {l : List α} (h : Rd w size A n enc l) (hn : 0 < n) :
    ∃ b off, A = some ⟨b, off, none⟩ ∧ b < w.heap.size ∧ ∀ k x, l[k]? = some x → ∀ i v, (enc x)[i]? = some v → w.cell? ⟨b, off + k * size + i, none⟩ = some v := h.2 hn
theorem Rd.below {α : Type} {w w' : World} {size : Nat} {A : Option Addr} {n : Nat} {enc : α → List Value} {l : List α} (h : Rd w size A n enc l) (hb : Below w.heap.size w w') : Rd w' size A n enc l :=
  ⟨h.1, fun hn => by
    obtain ⟨b, off, e, hlt, hc⟩ := h.2 hn
    exact ⟨b, off, e, Nat.lt_of_lt_of_le hlt hb.size, fun k x hx i v hv => (hb.cell (p := ⟨b, off + k * size + i, none⟩) hlt).trans (hc k x hx i v hv)⟩⟩
theorem rdR {w : World} {b off k : Nat} {l : List Rt} {r : Rt} (hc : ∀ k x, l[k]? = some x → ∀ i v, (encR x)[i]? = some v → w.cell? ⟨b, off + k * 5 + i, none⟩ = some v) (hr : l[k]? = some r) :
    w.cell? ⟨b, off + k * 5, none⟩ = some (.bool r.ad.six) ∧ w.cell? ⟨b, off + k * 5 + 1, none⟩ = some (.int .u64 (r.ad.hi : Nat)) ∧ w.cell? ⟨b, off + k * 5 + 2, none⟩ = some (.int .u64 (r.ad.lo : Nat)) ∧ w.cell? ⟨b, off + k * 5 + 3, none⟩ = some (.int .i64 r.len) ∧ w.cell? ⟨b, off + k * 5 + 4, none⟩ = some (.int .i64 r.hop) :=
  ⟨hc k r hr 0 _ rfl, hc k r hr 1 _ rfl, hc k r hr 2 _ rfl, hc k r hr 3 _ rfl, hc k r hr 4 _ rfl⟩
def encI (x : Int) : List Value := [.int .i64 x]
theorem rdI {w : World} {b off k : Nat} {l : List Int} {r : Int} (hc : ∀ k x, l[k]? = some x → ∀ i v, (encI x)[i]? = some v → w.cell? ⟨b, off + k * 1 + i, none⟩ = some v) (hr : l[k]? = some r) : w.cell? ⟨b, off + k, none⟩ = some (.int .i64 r) := by
  have := hc k r hr 0 _ rfl
  simpa using this
/-- Where it stands; -1: nowhere. -/
def ixI (l : List Int) (v : Int) : Int := if v ∈ l then (l.idxOf v : Nat) else -1
theorem encI_len (x : Int) : (encI x).length = 1 := rfl
def wfR (l : List Rt) : Prop := ∀ r ∈ l, r.ad.wf
def tfGo (seen : List Rt) : List Rt → Int
  | [] => 0
  | r :: rs => if checkZ r.ad r.len ≠ 0 then checkZ r.ad r.len else if r.hop < 1 ∨ 999 < r.hop then 2 else if seen.any (fun q => decide (q.ad = r.ad ∧ q.len = r.len)) then 8 else tfGo (seen ++ [r]) rs
def tfault (l : List Rt) : Int := if 60 < l.length then 1 else tfGo [] l
theorem tfGo_at (l : List Rt) (k : Nat) (r : Rt) (hk : l[k]? = some r) : tfGo (l.take k) (l.drop k) = if checkZ r.ad r.len ≠ 0 then checkZ r.ad r.len else if r.hop < 1 ∨ 999 < r.hop then 2 else if (l.take k).any (fun q => decide (q.ad = r.ad ∧ q.len = r.len)) then 8 else tfGo (l.take (k + 1)) (l.drop (k + 1)) := by
  have hlt := (List.getElem?_eq_some_iff.1 hk).1
  have hr := (List.getElem?_eq_some_iff.1 hk).2
  rw [List.drop_eq_getElem_cons hlt, tfGo, hr, List.take_add_one, hk]
  rfl
def samePf (q r : Rt) : Bool := decide (q.ad = r.ad ∧ q.len = r.len)
theorem pfE_rt (a b : Ad) (n m : Int) : pfE a.six a.hi a.lo n b.six b.hi b.lo m = decide (a = b ∧ n = m) := by
  unfold pfE
  rw [decide_eq_decide]
  obtain ⟨s, h, l⟩ := a
  obtain ⟨s', h', l'⟩ := b
  simp only [Ad.mk.injEq, Int.natCast_inj]
  constructor
  · rintro ⟨h1, h2, h3, h4⟩; exact ⟨⟨h1, h2, h3⟩, h4⟩
  · rintro ⟨⟨h1, h2, h3⟩, h4⟩; exact ⟨h1, h2, h3, h4⟩
theorem tfGo_A (l : List Rt) (k : Nat) (r : Rt) (hk : l[k]? = some r) (h : checkZ r.ad r.len ≠ 0) : tfGo (l.take k) (l.drop k) = checkZ r.ad r.len := by
  rw [tfGo_at l k r hk, if_pos h]
theorem tfGo_B (l : List Rt) (k : Nat) (r : Rt) (hk : l[k]? = some r) (h : checkZ r.ad r.len = 0) (h2 : r.hop < 1 ∨ 999 < r.hop) : tfGo (l.take k) (l.drop k) = 2 := by
  rw [tfGo_at l k r hk, if_neg (by simpa using h), if_pos h2]
theorem tfGo_C (l : List Rt) (k : Nat) (r : Rt) (hk : l[k]? = some r) (h : checkZ r.ad r.len = 0) (h2 : ¬ (r.hop < 1 ∨ 999 < r.hop)) (j : Nat) (q : Rt) (hj : j < k) (hq : l[j]? = some q) (hs : samePf q r = true) : tfGo (l.take k) (l.drop k) = 8 := by
  rw [tfGo_at l k r hk, if_neg (by simpa using h), if_neg h2, if_pos]
  rw [List.any_eq_true]
  exact ⟨q, List.mem_of_getElem? (by rw [List.getElem?_take_of_lt hj]; exact hq), hs⟩
theorem tfGo_D (l : List Rt) (k : Nat) (r : Rt) (hk : l[k]? = some r) (h : checkZ r.ad r.len = 0) (h2 : ¬ (r.hop < 1 ∨ 999 < r.hop)) (hs : ∀ j q, j < k → l[j]? = some q → samePf q r = false) : tfGo (l.take k) (l.drop k) = tfGo (l.take (k + 1)) (l.drop (k + 1)) := by
  rw [tfGo_at l k r hk, if_neg (by simpa using h), if_neg h2, if_neg]
  rw [List.any_eq_true]
  rintro ⟨q, hq, hd⟩
  obtain ⟨j, hj⟩ := List.mem_iff_getElem?.1 hq
  have hlt : j < k := by
    rcases Nat.lt_or_ge j k with h | h
    · exact h
    · rw [List.getElem?_take_eq_none h] at hj; cases hj
  rw [List.getElem?_take_of_lt hlt] at hj
  have := hs j q hlt hj
  rw [samePf] at this
  rw [this] at hd
  cases hd
end Go.Proofs.Ytpgjbiapghembaa
