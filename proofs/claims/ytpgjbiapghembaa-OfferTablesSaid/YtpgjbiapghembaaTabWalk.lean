/-
  Walk of offers.Table: the routes of the best offers that are not hidden. Conditions: the words of the addresses are 64-bit numbers.
-/
import Derived.Test.YtpgjbiapghembaaIdxO
import Derived.Test.YtpgjbiapghembaaTabPlain
import Derived.Test.YtpgjbiapghembaaRtRow
import Derived.Test.YtpgjbiapghembaaOfrRow
import Derived.Test.YtpgjbiapghembaaBest
namespace Go.Proofs.Ytpgjbiapghembaa
open Go.RowKit
set_option maxHeartbeats 800000
set_option maxRecDepth 100000

theorem hides_any (b o : Ofr) (B : Nat) (w : World) (hr : Rd w 8 (some ⟨B, 0, none⟩) 1 encO [o]) (ho : o.ad.wf) (h1 : 0 ≤ b.len) (h2 : b.len ≤ 128) :
    Calls Try.prog 21 #[.agg #[.bool b.ad.six, .int .u64 (b.ad.hi : Nat), .int .u64 (b.ad.lo : Nat), .int .i64 b.len, .int .i64 b.src, .int .i64 b.peer, .int .i64 b.met, .int .i64 b.hop], .pointer (some ⟨B, 0, none⟩)] w (Ret (.bool (hides o b)) w) := by
  obtain ⟨d0, d1, d2, d3, d4, d5, d6, d7⟩ := rdO1 hr
  obtain ⟨_, _, e, hB, _⟩ := hr.at_ (by decide)
  cases e
  have ⟨w1, w2⟩ := ho
  by_cases h : b.src = 4
  · have hb : (b.src != 4) = false := by simpa using h
    have H := hide (p := hides o b = false) (by simp [hides, h])
    clear h
    go_enter Try.func21, Try.ntmps21
    go_wp2_with fail
    go_ret
    exact ret_b H.out.symm (by (repeat (first | exact Below.refl _ _ | assumption | apply below_alloc | apply below_grow | apply below_setCell | apply below_drew)); all_goals first | omega | (simp [go_sem]; done) | (simp [go_sem]; omega))
  · have hb : (b.src != 4) = true := by simpa using h
    have H := hide (p := hides o b = overB b.ad b.len o.ad o.len) (by simp [hides, h])
    clear h
    go_enter Try.func21, Try.ntmps21
    go_wp2_with (go_at_call 22; refine (over_any _ _ _ _ _ _ _ _ _ w1 w2 (by omega) (by omega)).mono ?_; rintro e w' ⟨rfl, g, rfl⟩)
    go_ret
    exact ret_b H.out.symm (by (repeat (first | exact Below.refl _ _ | assumption | apply below_alloc | apply below_grow | apply below_setCell | apply below_drew)); all_goals first | omega | (simp [go_sem]; done) | (simp [go_sem]; omega))
/-- What offers.Table hands back of offers that are not refused. -/
def TabPost (l : List Ofr) (w : World) (e : Ending) (w' : World) : Prop :=
  ∃ (L : List Ofr) (g : Gr w), BestOf (alive l) L ∧ w' = grow w g ∧ ((60 < (tabO L L).length ∧ e = .returned (.tuple #[.slice none 0 0, .int .i64 9])) ∨
    ((tabO L L).length ≤ 60 ∧ ∃ v, e = .returned (.tuple #[v, .int .i64 0]) ∧ (grow w g).ownsRow w.heap.size 48 5 v (tabO L L).length ((tabO L L).flatMap encR)))
theorem bestOf_in {l L : List Ofr} (h : BestOf (alive l) L) {o : Ofr} (ho : o ∈ L) : o ∈ l := alive_sub _ _ ((h.2 o).1 ho).1
theorem bestOf_len {l L : List Ofr} (h : BestOf (alive l) L) : L.length ≤ l.length := by
  have hnd : L.Nodup := h.1.imp (S := fun a b => a ≠ b) fun {a b} hab e => pfLess_irr _ (e ▸ hab : pfLess a.pf a.pf)
  exact List.Nodup.length_le_of_subset hnd fun x hx => bestOf_in h hx
theorem table_good (A : Option Addr) (n c : Nat) (l : List Ofr) (w : World) (hl : Rd w 8 A n encO l) (hwf : wfO l) (hn : n ≤ c) (hc : c ≤ 9223372036854775807) (h0 : osfault l = 0) :
    Calls Try.prog 7 #[.slice A n c] w (TabPost l w) := by
  have H := best_good A n c l w hl hwf hn hc h0
  have HV := hide (osfault_all h0)
  have h100 : l.length ≤ 100 := by
    unfold osfault at h0
    split at h0 <;> omega
  go_enter Try.func7, Try.ntmps7
  go_wp2_with (go_at_call 14; refine H.mono ?_; rintro e w' ⟨L, v1, g1, hb1, rfl, rfl, hown1⟩; obtain ⟨A1, k1, rfl, hrd1, hk1, hk1'⟩ := own_rd encO_len hown1 (by decide))
  have HB := hide hb1
  have hlen := bestOf_len hb1
  have HW := hide (p := ∀ o ∈ L, o.ad.wf ∧ 0 ≤ o.len ∧ o.len ≤ 128) (fun o ho => by
    have h1 := bestOf_in hb1 ho
    exact ⟨hwf o h1, len_ok (hwf o h1) (HV.out o h1)⟩)
  have hB1 : Below w.heap.size w (grow w g1) := (by (repeat (first | exact Below.refl _ _ | assumption | apply below_alloc | apply below_grow | apply below_setCell | apply below_drew)); all_goals first | omega | (simp [go_sem]; done) | (simp [go_sem]; omega))
  have HB1 := hide hB1
  have hB1s := hB1.size
  clear H hb1 hown1 h0
  generalize grow w g1 = W1 at *
  clear hB1
  have HRA := hide hrd1
  clear hrd1
  go_loopw [6, 20] (fun v i wr => ∃ k : Nat, k ≤ L.length ∧ i = .int .i64 k ∧ (∃ g : Gr W1, wr = grow W1 g) ∧ wr.ownsRow W1.heap.size 48 5 v (tabO L (L.take k)).length ((tabO L (L.take k)).flatMap encR)) (fun _ i _ => L.length - (intOf i).toNat)
  case atStart => exact ⟨0, by omega, rfl, ⟨⟨_, Below.refl _ _⟩, rfl⟩, own_nil _ _ _ _⟩
  case round =>
    obtain ⟨k, hk, rfl, ⟨g4, rfl⟩, hown⟩ := hrel
    by_cases hlt : k < L.length
    · obtain ⟨b, off, rfl, hb, hcell⟩ := HRA.out.at_ (by omega)
      obtain ⟨o, ho⟩ : ∃ o, L[k]? = some o := ⟨_, List.getElem?_eq_getElem hlt⟩
      obtain ⟨c0, c1, c2, c3, c4, c5, c6, c7⟩ := rdO hcell ho
      have HO := hide ho
      have hlenT := tabO_le L (L.take k)
      have hlenT2 : (L.take k).length ≤ k := List.length_take_le _ _
      clear ho hcell
      by_cases h4 : o.src = 4
      · have hb4 : (o.src == 4) = true := by simpa using h4
        have H4 := hide h4
        clear h4
        go_wp2_with fail
        have hrd8 : Rd ((grow W1 g4).alloc (.cells #[.bool o.ad.six, .int .u64 (o.ad.hi : Nat), .int .u64 (o.ad.lo : Nat), .int .i64 o.len, .int .i64 o.src, .int .i64 o.peer, .int .i64 o.met, .int .i64 o.hop] 44)) 8 (some ⟨(grow W1 g4).heap.size, 0, none⟩) 1 encO [o] := rd_new (grow W1 g4) encO o 44 _ rfl
        have hB2 : Below W1.heap.size W1 ((grow W1 g4).alloc (.cells #[.bool o.ad.six, .int .u64 (o.ad.hi : Nat), .int .u64 (o.ad.lo : Nat), .int .i64 o.len, .int .i64 o.src, .int .i64 o.peer, .int .i64 o.met, .int .i64 o.hop] 44)) := (by (repeat (first | exact Below.refl _ _ | assumption | apply below_alloc | apply below_grow | apply below_setCell | apply below_drew)); all_goals first | omega | (simp [go_sem]; done) | (simp [go_sem]; omega))
        have hown2 : ((grow W1 g4).alloc (.cells #[.bool o.ad.six, .int .u64 (o.ad.hi : Nat), .int .u64 (o.ad.lo : Nat), .int .i64 o.len, .int .i64 o.src, .int .i64 o.peer, .int .i64 o.met, .int .i64 o.hop] 44)).ownsRow W1.heap.size 48 5 u6 (tabO L (L.take k)).length ((tabO L (L.take k)).flatMap encR) := hown.alloc _
        have hlt8 : (grow W1 g4).heap.size < ((grow W1 g4).alloc (.cells #[.bool o.ad.six, .int .u64 (o.ad.hi : Nat), .int .u64 (o.ad.lo : Nat), .int .i64 o.len, .int .i64 o.src, .int .i64 o.peer, .int .i64 o.met, .int .i64 o.hop] 44)).heap.size := by simp
        have hle8 : W1.heap.size ≤ (grow W1 g4).heap.size := g4.2.size
        rw [show W1.heap.size + more g4 = (grow W1 g4).heap.size from (grow_size g4).symm]
        generalize hW2 : (grow W1 g4).alloc (.cells #[.bool o.ad.six, .int .u64 (o.ad.hi : Nat), .int .u64 (o.ad.lo : Nat), .int .i64 o.len, .int .i64 o.src, .int .i64 o.peer, .int .i64 o.met, .int .i64 o.hop] 44) = W2 at *
        generalize (grow W1 g4).heap.size = b8 at *
        have hBs2 := hB2.size
        clear hW2 hown c0 c1 c2 c3 c4 c5 c6 c7
        have HR8 := hide hrd8
        obtain ⟨d0, d1, d2, d3, d4, d5, d6, d7⟩ := rdO1 hrd8
        clear hrd8
        have hC := containsO_any 21 #[.pointer (some ⟨b8, 0, none⟩)] (hides o) _ _ _ L W2 (HRA.out.below hB2) hk1 hk1' (enters_of Try.func21 (by kernel_rfl) rfl) (fun g x hx => hides_any x o b8 _ (HR8.out.below (grow_below _ g)) (HW.out o (List.mem_of_getElem? HO.out)).1 (HW.out x hx).2.1 (HW.out x hx).2.2)
        rcases hq : L.any (hides o) with _ | _
        · rw [hq] at hC
          have HN := hide (p := hiddenO L o = false) (by simp [hiddenO, hq])
          clear hq
          refine hC.mono ?_
          rintro e w' ⟨rfl, g5, rfl⟩
          clear hC
          go_wp2_with (at_builtin; refine app_rt W1 _ (by (repeat (first | exact Below.refl _ _ | assumption | apply below_alloc | apply below_grow | apply below_setCell | apply below_drew)); all_goals first | omega | (simp [go_sem]; done) | (simp [go_sem]; omega)) (by rfl) _ _ (by rfl) _ _ (by rfl) (own_grow hown2 g5) _ _ (toRt o) _ (by rfl) (by simp [go_sem]) (by omega) ?_; intro g6 blk cap _ _ hown6)
          go_roundw
          case rel => exact ⟨k + 1, by omega, by go_num, ⟨g6, rfl⟩, by rw [tabO_no L HO.out HN.out, List.length_append]; exact hown6⟩
          case measure => simp [intOf]; omega
        · rw [hq] at hC
          have HN := hide (p := hiddenO L o = true) (by simp [hiddenO, hq, H4.out])
          clear hq
          refine hC.mono ?_
          rintro e w' ⟨rfl, g5, rfl⟩
          clear hC
          go_wp2_with fail
          go_roundw
          case rel => exact ⟨k + 1, by omega, by go_num, gr_of (by (repeat (first | exact Below.refl _ _ | assumption | apply below_alloc | apply below_grow | apply below_setCell | apply below_drew)); all_goals first | omega | (simp [go_sem]; done) | (simp [go_sem]; omega)), by rw [tabO_yes L HO.out HN.out]; exact own_grow hown2 g5⟩
          case measure => simp [intOf]; omega
      · have hb4 : (o.src == 4) = false := by simpa using h4
        have HN := hide (p := hiddenO L o = false) (by simp [hiddenO, h4])
        clear h4
        have hown2 : ((grow W1 g4).alloc (.cells #[.bool o.ad.six, .int .u64 (o.ad.hi : Nat), .int .u64 (o.ad.lo : Nat), .int .i64 o.len, .int .i64 o.src, .int .i64 o.peer, .int .i64 o.met, .int .i64 o.hop] 44)).ownsRow W1.heap.size 48 5 u6 (tabO L (L.take k)).length ((tabO L (L.take k)).flatMap encR) := hown.alloc _
        go_wp2_with (at_builtin; refine app_rt W1 _ (by (repeat (first | exact Below.refl _ _ | assumption | apply below_alloc | apply below_grow | apply below_setCell | apply below_drew)); all_goals first | omega | (simp [go_sem]; done) | (simp [go_sem]; omega)) (by rfl) _ _ (by rfl) _ _ (by rfl) hown2 _ _ (toRt o) _ (by rfl) (by simp [go_sem]) (by omega) ?_; intro g6 blk cap _ _ hown6)
        go_roundw
        case rel => exact ⟨k + 1, by omega, by go_num, ⟨g6, rfl⟩, by rw [tabO_no L HO.out HN.out, List.length_append]; exact hown6⟩
        case measure => simp [intOf]; omega
    · obtain rfl : k = L.length := by omega
      rw [List.take_length] at hown
      obtain ⟨AT, kT, rfl, _, hkT, hkT'⟩ := own_rd encR_len hown (by decide)
      obtain ⟨G, hG⟩ := gr_of (HB1.out.trans ((grow_below W1 g4).mono hB1s))
      have HG := hide hG
      clear hG
      by_cases h60 : 60 < (tabO L L).length
      · go_wp2_with fail
        go_ret2
        exact ⟨L, G, HB.out, HG.out, .inl ⟨h60, rfl⟩⟩
      · go_wp2_with fail
        go_ret2
        refine ⟨L, G, HB.out, HG.out, .inr ⟨by omega, _, rfl, ?_⟩⟩
        rw [← HG.out]
        exact own_mono hown hB1s
theorem table_bad (A : Option Addr) (n c : Nat) (l : List Ofr) (w : World) (hl : Rd w 8 A n encO l) (hwf : wfO l) (hn : n ≤ c) (hc : c ≤ 9223372036854775807) (h0 : osfault l ≠ 0) :
    Calls Try.prog 7 #[.slice A n c] w (Ret (.tuple #[.slice none 0 0, .int .i64 (osfault l)]) w) := by
  have hb1 : (osfault l != 0) = true := by simpa using h0
  have H := best_bad A n c l w hl hwf hn hc h0
  go_enter Try.func7, Try.ntmps7
  go_wp2_with (go_at_call 14; refine (H).mono ?_; rintro e w' ⟨rfl, g, rfl⟩)
  go_ret2
  exact ret_eq rfl (by (repeat (first | exact Below.refl _ _ | assumption | apply below_alloc | apply below_grow | apply below_setCell | apply below_drew)); all_goals first | omega | (simp [go_sem]; done) | (simp [go_sem]; omega))
end Go.Proofs.Ytpgjbiapghembaa
