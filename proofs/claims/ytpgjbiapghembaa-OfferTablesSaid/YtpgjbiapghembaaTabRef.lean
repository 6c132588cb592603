/-
  Walk of the reference's OffersTable. Conditions: the words of the addresses are 64-bit numbers.
-/
import Derived.Test.YtpgjbiapghembaaTabWalk
import Derived.Test.YtpgjbiapghembaaBestRef2
namespace Go.Proofs.Ytpgjbiapghembaa
open Go.RowKit
set_option maxHeartbeats 1600000
set_option maxRecDepth 100000

def hid1 (o b : Ofr) : Bool := (o.src == 4) && (decide (b.src < 4) && overB b.ad b.len o.ad o.len)
theorem hid1_any {L : List Ofr} (hv : ∀ b ∈ L, b.src ≤ 4) (o : Ofr) : L.any (hid1 o) = hiddenO L o := by
  rw [Bool.eq_iff_iff, List.any_eq_true]
  simp only [hiddenO, hides, hid1, Bool.and_eq_true, beq_iff_eq, List.any_eq_true, bne_iff_ne, decide_eq_true_eq]
  constructor
  · rintro ⟨b, hb, h1, h2, h3⟩
    exact ⟨h1, b, hb, by omega, h3⟩
  · rintro ⟨h1, b, hb, h2, h3⟩
    have := hv b hb
    exact ⟨b, hb, h1, by omega, h3⟩
theorem any_take_succ {α : Type} (f : α → Bool) (l : List α) (m : Nat) (x : α) (h : l[m]? = some x) : (l.take (m + 1)).any f = ((l.take m).any f || f x) := by
  rw [List.take_add_one, h]; simp
theorem refOverO (b o : Ofr) (W : World) (hb : checkZ b.ad b.len = 0) (wb : b.ad.wf) (wo : o.ad.wf) (mo : o.ad.may = true) :
    Calls Try.prog 39 #[.agg #[.bool b.ad.six, .int .u64 (b.ad.hi : Nat), .int .u64 (b.ad.lo : Nat), .int .i64 b.len], .agg #[.bool o.ad.six, .int .u64 (o.ad.hi : Nat), .int .u64 (o.ad.lo : Nat), .int .i64 o.len]] W (Ret (.bool (overB b.ad b.len o.ad o.len)) W) := by
  obtain ⟨h1, h2, h3, h4⟩ := (checkZ_ok b.ad b.len wb).1 hb
  have e : ((b.len.toNat : Nat) : Int) = b.len := by omega
  have := refOver_any b.ad.six b.ad.hi b.ad.lo b.len.toNat o.ad.six o.ad.hi o.ad.lo o.len W ⟨wb, h1, by show b.len.toNat ≤ wd b.ad.six; omega, h4⟩ wo mo
  rw [e] at this
  exact this
theorem refTable_good (A : Option Addr) (n c : Nat) (l : List Ofr) (w : World) (hl : Rd w 8 A n encO l) (hwf : wfO l) (hn : n ≤ c) (hc : c ≤ 9223372036854775807) (h0 : osfault l = 0) :
    Calls Try.prog 16 #[.slice A n c] w (TabPost l w) := by
  have H := refBest_good A n c l w hl hwf hn hc h0
  have HV := hide (osfault_all h0)
  have h100 : l.length ≤ 100 := by
    unfold osfault at h0
    split at h0 <;> omega
  go_enter Try.func16, Try.ntmps16
  go_wp2_with (go_at_call 15; refine H.mono ?_; rintro e w' ⟨L, v1, g1, hb1, rfl, rfl, hown1⟩; obtain ⟨A1, k1, rfl, hrd1, hk1, hk1'⟩ := own_rd encO_len hown1 (by decide))
  have HB := hide hb1
  have hlen := bestOf_len hb1
  have HW := hide (p := ∀ o ∈ L, o.ad.wf ∧ o.ad.may = true ∧ ofault o = 0) (fun o ho => by
    have h1 := bestOf_in hb1 ho
    exact ⟨hwf o h1, ((checkZ_ok o.ad o.len (hwf o h1)).1 (ofault_ok (HV.out o h1)).1).1, HV.out o h1⟩)
  have HH := hide (p := ∀ o, L.any (hid1 o) = hiddenO L o) (hid1_any fun b hb => (ofault_ok (HW.out b hb).2.2).2.2.1)
  have hB1 : Below w.heap.size w (grow w g1) := (by (repeat (first | exact Below.refl _ _ | assumption | apply below_alloc | apply below_grow | apply below_setCell | apply below_drew)); all_goals first | omega | (simp [go_sem]; done) | (simp [go_sem]; omega))
  have HB1 := hide hB1
  have hB1s := hB1.size
  clear H hb1 hown1 h0
  generalize grow w g1 = W1 at *
  clear hB1
  have HRA := hide hrd1
  clear hrd1
  go_loopw [6, 22] (fun v i wr => ∃ k : Nat, k ≤ L.length ∧ i = .int .i64 k ∧ (∃ g : Gr W1, wr = grow W1 g) ∧ wr.ownsRow W1.heap.size 48 5 v (tabO L (L.take k)).length ((tabO L (L.take k)).flatMap encR)) (fun _ i _ => L.length - (intOf i).toNat)
  case atStart => exact ⟨0, by omega, rfl, ⟨⟨_, Below.refl _ _⟩, rfl⟩, own_nil _ _ _ _⟩
  case round =>
    obtain ⟨k, hk, rfl, ⟨g4, rfl⟩, hown⟩ := hrel
    by_cases hlt : k < L.length
    · obtain ⟨b, off, rfl, hb, hcell⟩ := HRA.out.at_ (by omega)
      obtain ⟨o, ho⟩ : ∃ o, L[k]? = some o := ⟨_, List.getElem?_eq_getElem hlt⟩
      obtain ⟨c0, c1, c2, c3, c4, c5, c6, c7⟩ := rdO hcell ho
      have HO := hide ho
      have hlenT := tabO_le L (L.take k)
      have hlenT2 : (L.take k).length ≤ k := List.length_take_le _ _
      obtain ⟨wo, mo, fo⟩ := HW.out o (List.mem_of_getElem? ho)
      have FO := hide fo
      clear ho hcell fo
      go_wp2_with fail
      have hrd8 : Rd ((grow W1 g4).alloc (.cells #[.bool o.ad.six, .int .u64 (o.ad.hi : Nat), .int .u64 (o.ad.lo : Nat), .int .i64 o.len, .int .i64 o.src, .int .i64 o.peer, .int .i64 o.met, .int .i64 o.hop] 44)) 8 (some ⟨(grow W1 g4).heap.size, 0, none⟩) 1 encO [o] := rd_new (grow W1 g4) encO o 44 _ rfl
      have hB2 : Below W1.heap.size W1 ((grow W1 g4).alloc (.cells #[.bool o.ad.six, .int .u64 (o.ad.hi : Nat), .int .u64 (o.ad.lo : Nat), .int .i64 o.len, .int .i64 o.src, .int .i64 o.peer, .int .i64 o.met, .int .i64 o.hop] 44)) := (by (repeat (first | exact Below.refl _ _ | assumption | apply below_alloc | apply below_grow | apply below_setCell | apply below_drew)); all_goals first | omega | (simp [go_sem]; done) | (simp [go_sem]; omega))
      have hown2 : ((grow W1 g4).alloc (.cells #[.bool o.ad.six, .int .u64 (o.ad.hi : Nat), .int .u64 (o.ad.lo : Nat), .int .i64 o.len, .int .i64 o.src, .int .i64 o.peer, .int .i64 o.met, .int .i64 o.hop] 44)).ownsRow W1.heap.size 48 5 u6 (tabO L (L.take k)).length ((tabO L (L.take k)).flatMap encR) := hown.alloc _
      have hlt8 : (grow W1 g4).heap.size < ((grow W1 g4).alloc (.cells #[.bool o.ad.six, .int .u64 (o.ad.hi : Nat), .int .u64 (o.ad.lo : Nat), .int .i64 o.len, .int .i64 o.src, .int .i64 o.peer, .int .i64 o.met, .int .i64 o.hop] 44)).heap.size := by simp
      have hle8 : W1.heap.size ≤ (grow W1 g4).heap.size := g4.2.size
      rw [show W1.heap.size + more g4 = (grow W1 g4).heap.size from (grow_size g4).symm]
      generalize hW2 : (grow W1 g4).alloc (.cells #[.bool o.ad.six, .int .u64 (o.ad.hi : Nat), .int .u64 (o.ad.lo : Nat), .int .i64 o.len, .int .i64 o.src, .int .i64 o.peer, .int .i64 o.met, .int .i64 o.hop] 44) = W2 at *
      generalize (grow W1 g4).heap.size = b8 at *
      have hBs2 := hB2.size
      clear hW2 hown c0 c1 c2 c3 c4 c5 c6 c7
      have HR8 := hide hrd8
      obtain ⟨d0, d1, d2, d3, d4, d5, d6, d7⟩ := rdO1 hrd8
      clear hrd8
      have HRA2 := hide (HRA.out.below hB2)
      go_loopw [9, 28] (fun q i wr => ∃ m : Nat, m ≤ L.length ∧ i = .int .i64 m ∧ q = .bool (!((L.take m).any (hid1 o))) ∧ ∃ g : Gr W2, wr = grow W2 g) (fun _ i _ => L.length - (intOf i).toNat)
      case atStart => exact ⟨0, by omega, rfl, by simp, ⟨_, Below.refl _ _⟩, rfl⟩
      case round =>
        obtain ⟨m, hm, rfl, rfl, g5, rfl⟩ := hrel
        by_cases hlt5 : m < L.length
        · obtain ⟨p, hp⟩ : ∃ p, L[m]? = some p := ⟨_, List.getElem?_eq_getElem hlt5⟩
          obtain ⟨_, _, eq, hbW, hcW⟩ := HRA2.out.at_ (by omega)
          cases eq
          obtain ⟨c0, c1, c2, c3, c4, c5, c6, c7⟩ := rdO hcW hp
          have HS := hide (any_take_succ (hid1 o) L m p hp)
          obtain ⟨wp, mp, fp⟩ := HW.out p (List.mem_of_getElem? hp)
          have hOv := fun W => refOverO p o W (ofault_ok fp).1 wp wo mo
          have FP := hide fp
          clear hcW hp fp
          generalize hQ : (L.take m).any (hid1 o) = B
          have HQ := hide hQ
          clear hQ
          by_cases h4 : o.src = 4
          · have hb4 : (o.src == 4) = true := by simpa using h4
            by_cases h5 : p.src < 4
            · have hb5 : decide (p.src < 4) = true := decide_eq_true h5
              rcases h6 : overB p.ad p.len o.ad o.len with _ | _
              · have HE := hide (p := hid1 o p = false) (by simp [hid1, h6])
                simp only [h6] at hOv
                clear h4 h6
                go_wp2_with (go_at_call 39; refine (hOv _).mono ?_; rintro e w' ⟨rfl, g, rfl⟩)
                go_roundw
                case rel => exact ⟨m + 1, by omega, by go_num, by rw [HS.out, HQ.out, HE.out]; simp, gr_of (by (repeat (first | exact Below.refl _ _ | assumption | apply below_alloc | apply below_grow | apply below_setCell | apply below_drew)); all_goals first | omega | (simp [go_sem]; done) | (simp [go_sem]; omega))⟩
                case measure => simp [intOf]; omega
              · have HE := hide (p := hid1 o p = true) (by simp [hid1, h4, h5, h6])
                simp only [h6] at hOv
                clear h4 h6
                go_wp2_with (go_at_call 39; refine (hOv _).mono ?_; rintro e w' ⟨rfl, g, rfl⟩)
                go_roundw
                case rel => exact ⟨m + 1, by omega, by go_num, by rw [HS.out, HE.out]; simp, gr_of (by (repeat (first | exact Below.refl _ _ | assumption | apply below_alloc | apply below_grow | apply below_setCell | apply below_drew)); all_goals first | omega | (simp [go_sem]; done) | (simp [go_sem]; omega))⟩
                case measure => simp [intOf]; omega
            · have hb5 : decide (p.src < 4) = false := decide_eq_false h5
              have HE := hide (p := hid1 o p = false) (by simp [hid1, h5])
              clear h4
              go_wp2_with fail
              go_roundw
              case rel => exact ⟨m + 1, by omega, by go_num, by rw [HS.out, HQ.out, HE.out]; simp, gr_of (by (repeat (first | exact Below.refl _ _ | assumption | apply below_alloc | apply below_grow | apply below_setCell | apply below_drew)); all_goals first | omega | (simp [go_sem]; done) | (simp [go_sem]; omega))⟩
              case measure => simp [intOf]; omega
          · have hb4 : (o.src == 4) = false := by simpa using h4
            have HE := hide (p := hid1 o p = false) (by simp [hid1, h4])
            clear h4
            go_wp2_with fail
            go_roundw
            case rel => exact ⟨m + 1, by omega, by go_num, by rw [HS.out, HQ.out, HE.out]; simp, gr_of (by (repeat (first | exact Below.refl _ _ | assumption | apply below_alloc | apply below_grow | apply below_setCell | apply below_drew)); all_goals first | omega | (simp [go_sem]; done) | (simp [go_sem]; omega))⟩
            case measure => simp [intOf]; omega
        · have hmm : L.take m = L := List.take_of_length_le (by omega)
          rw [hmm, HH.out]
          clear hmm
          rcases hq : hiddenO L o with _ | _
          · have HN := hide hq
            clear hq
            go_wp2_with (at_builtin; refine app_rt W1 _ (by (repeat (first | exact Below.refl _ _ | assumption | apply below_alloc | apply below_grow | apply below_setCell | apply below_drew)); all_goals first | omega | (simp [go_sem]; done) | (simp [go_sem]; omega)) (by rfl) _ _ (by rfl) _ _ (by rfl) (own_grow hown2 g5) _ _ (toRt o) _ (by rfl) (by simp [go_sem]) (by omega) ?_; intro g6 blk cap _ _ hown6)
            go_roundw
            case rel => exact ⟨k + 1, by omega, by go_num, ⟨g6, rfl⟩, by rw [tabO_no L HO.out HN.out, List.length_append]; exact hown6⟩
            case measure => simp [intOf]; omega
          · have HN := hide hq
            clear hq
            go_wp2_with fail
            go_roundw
            case rel => exact ⟨k + 1, by omega, by go_num, gr_of (by (repeat (first | exact Below.refl _ _ | assumption | apply below_alloc | apply below_grow | apply below_setCell | apply below_drew)); all_goals first | omega | (simp [go_sem]; done) | (simp [go_sem]; omega)), by rw [tabO_yes L HO.out HN.out]; exact own_grow hown2 g5⟩
            case measure => simp [intOf]; omega
    · obtain rfl : k = L.length := by omega
      rw [List.take_length] at hown
      obtain ⟨AT, kT, rfl, _, hkT, hkT'⟩ := own_rd encR_len hown (by decide)
      obtain ⟨G, hG⟩ := gr_of (HB1.out.trans ((grow_below W1 g4).mono hB1s))
      have HG := hide hG
      clear hG
      by_cases h60 : 60 < (tabO L L).length
      · go_wp2_with fail
        go_ret2
        exact ⟨L, G, HB.out, HG.out, .inl ⟨h60, rfl⟩⟩
      · go_wp2_with fail
        go_ret2
        refine ⟨L, G, HB.out, HG.out, .inr ⟨by omega, _, rfl, ?_⟩⟩
        rw [← HG.out]
        exact own_mono hown hB1s
theorem refTable_bad (A : Option Addr) (n c : Nat) (l : List Ofr) (w : World) (hl : Rd w 8 A n encO l) (hwf : wfO l) (hn : n ≤ c) (hc : c ≤ 9223372036854775807) (h0 : osfault l ≠ 0) :
    Calls Try.prog 16 #[.slice A n c] w (Ret (.tuple #[.slice none 0 0, .int .i64 (osfault l)]) w) := by
  have hb1 : (osfault l != 0) = true := by simpa using h0
  have H := refBest_bad A n c l w hl hwf hn hc h0
  go_enter Try.func16, Try.ntmps16
  go_wp2_with (go_at_call 15; refine (H).mono ?_; rintro e w' ⟨rfl, g, rfl⟩)
  go_ret2
  exact ret_eq rfl (by (repeat (first | exact Below.refl _ _ | assumption | apply below_alloc | apply below_grow | apply below_setCell | apply below_drew)); all_goals first | omega | (simp [go_sem]; done) | (simp [go_sem]; omega))
end Go.Proofs.Ytpgjbiapghembaa
