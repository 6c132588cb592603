/-
  Walk of the reference's OffersBest: it hands back the best offers in order. Conditions: the words of the addresses are 64-bit numbers.
-/
import Derived.Test.YtpgjbiapghembaaBestRef
import Derived.Test.YtpgjbiapghembaaBestRefPl
import Derived.IntWalk
namespace Go.Proofs.Ytpgjbiapghembaa
open Go.RowKit
set_option maxHeartbeats 800000
set_option maxRecDepth 100000

def eqK (p r : Ofr) : Bool := decide (p.ky = r.ky)
theorem all_take_succ {α : Type} (f : α → Bool) (l : List α) (m : Nat) (x : α) (h : l[m]? = some x) : (l.take (m + 1)).all f = ((l.take m).all f && f x) := by
  rw [List.take_add_one, h]; simp
theorem adE_rt (a b : Ad) : adE a.six a.hi a.lo b.six b.hi b.lo = decide (a = b) := by
  unfold adE
  rw [decide_eq_decide]
  obtain ⟨s, h, l⟩ := a
  obtain ⟨s', h', l'⟩ := b
  simp only [Ad.mk.injEq, Int.natCast_inj]
/-- p is no better than o. -/
def bT (o p : Ofr) : Bool := decide (p.pf = o.pf → ¬ worth p < worth o)
theorem isBest_bT (A : List Ofr) (o : Ofr) : isBest A o = A.all (bT o) := rfl
theorem alive_yes {l : List Ofr} {k m : Nat} {r : Ofr} {q0 : Bool} (hI : alive (l.drop k) = if r.met < 999 ∧ ∀ p ∈ l.drop (k + 1), p.ky ≠ r.ky then r :: alive (l.drop (k + 1)) else alive (l.drop (k + 1))) (hm : l.length - (k + 1) ≤ m) (hq : decide (r.met < 999) = q0) (hB : (q0 && ((l.drop (k + 1)).take m).all fun p => !(eqK p r)) = true) : alive (l.drop k) = r :: alive (l.drop (k + 1)) := by
  rw [List.take_of_length_le (by simp; omega), ← hq, Bool.and_eq_true, decide_eq_true_eq, List.all_eq_true] at hB
  rw [hI, if_pos ⟨hB.1, fun p hp => by simpa [eqK] using hB.2 p hp⟩]
theorem alive_no {l : List Ofr} {k m : Nat} {r : Ofr} {q0 : Bool} (hI : alive (l.drop k) = if r.met < 999 ∧ ∀ p ∈ l.drop (k + 1), p.ky ≠ r.ky then r :: alive (l.drop (k + 1)) else alive (l.drop (k + 1))) (hm : l.length - (k + 1) ≤ m) (hq : decide (r.met < 999) = q0) (hB : (q0 && ((l.drop (k + 1)).take m).all fun p => !(eqK p r)) = false) : alive (l.drop k) = alive (l.drop (k + 1)) := by
  rw [List.take_of_length_le (by simp; omega), ← hq] at hB
  rw [hI, if_neg]
  rintro ⟨h1, h2⟩
  rw [Bool.eq_false_iff] at hB
  refine hB ?_
  rw [Bool.and_eq_true, decide_eq_true_eq, List.all_eq_true]
  exact ⟨h1, fun p hp => by simpa [eqK] using h2 p hp⟩
theorem eqK_no {p r : Ofr} (h : ¬ (p.ad = r.ad ∧ p.len = r.len) ∨ p.src ≠ r.src ∨ p.peer ≠ r.peer) : eqK p r = false := by
  unfold eqK
  rw [decide_eq_false_iff_not]
  intro e
  simp only [Ofr.ky, Ky.mk.injEq] at e
  obtain ⟨e1, e2, e3, e4⟩ := e
  rcases h with h | h | h
  · exact h ⟨e1, e2⟩
  · exact h e3
  · exact h e4
theorem eqK_yes {p r : Ofr} (h : p.ad = r.ad ∧ p.len = r.len) (h3 : p.src = r.src) (h4 : p.peer = r.peer) : eqK p r = true := by
  unfold eqK
  rw [decide_eq_true_iff]
  simp only [Ofr.ky, Ky.mk.injEq]
  exact ⟨h.1, h.2, h3, h4⟩
set_option maxHeartbeats 1600000 in
theorem refBest_good (A : Option Addr) (n c : Nat) (l : List Ofr) (w : World) (hl : Rd w 8 A n encO l) (hwf : wfO l) (_hn : n ≤ c) (_hc : c ≤ 9223372036854775807) (h0 : osfault l = 0) :
    Calls Try.prog 15 #[.slice A n c] w fun e w' => ∃ (L : List Ofr) (v : Value) (g : Gr w), BestOf (alive l) L ∧ e = .returned (.tuple #[v, .int .i64 0]) ∧ w' = grow w g ∧ (grow w g).ownsRow w.heap.size 44 8 v L.length (L.flatMap encO) := by
  have HL := hide hl.1
  have h100 : n ≤ 100 := by
    have := hl.1
    unfold osfault at h0
    split at h0 <;> omega
  have HV := hide (osfault_all h0)
  have hd100 : decide ((100 : Int) < (n : Int)) = false := by simp; omega
  clear h0
  go_enter Try.func15, Try.ntmps15
  go_wp2_with fail
  go_loopw [26] (fun i wr => ∃ k : Nat, k ≤ n ∧ i = .int .i64 k ∧ ∃ g : Gr w, wr = grow _ g) (fun i _ => n - (intOf i).toNat)
  case atStart => exact ⟨0, by omega, rfl, ⟨_, Below.refl _ _⟩, rfl⟩
  case round =>
    obtain ⟨k, hk, rfl, g0, rfl⟩ := hrel
    by_cases hlt : k < n
    · obtain ⟨b, off, rfl, hb, hcell⟩ := hl.at_ (by omega)
      obtain ⟨r, hr⟩ : ∃ r, l[k]? = some r := ⟨_, List.getElem?_eq_getElem (by rw [HL.out]; exact hlt)⟩
      obtain ⟨c0, c1, c2, c3, c4, c5, c6, c7⟩ := rdO hcell hr
      have hw := hwf r (List.mem_of_getElem? hr)
      have hf1 : (ofault r != 0) = false := by simpa using HV.out r (List.mem_of_getElem? hr)
      clear hr hcell
      go_wp2_with (go_at_call 36; refine (ofault_any r _ hw).mono ?_; rintro e w' ⟨rfl, g, rfl⟩)
      go_roundw
      case rel => exact ⟨k + 1, by omega, by go_num, gr_of (by (repeat (first | exact Below.refl _ _ | assumption | apply below_alloc | apply below_grow | apply below_setCell | apply below_drew)); all_goals first | omega | (simp [go_sem]; done) | (simp [go_sem]; omega))⟩
      case measure => simp [intOf]; omega
    · obtain rfl : k = n := by omega
      go_wp2_with fail
      go_loopw [7, 38] (fun v i wr => ∃ (k2 : Nat) (Al : List Ofr), k2 ≤ k ∧ i = .int .i64 k2 ∧ (∃ g : Gr w, wr = grow w g) ∧ alive l = Al ++ alive (l.drop k2) ∧ Al.length ≤ k2 ∧ wr.ownsRow w.heap.size 44 8 v Al.length (Al.flatMap encO)) (fun _ i _ => k - (intOf i).toNat)
      case atStart => exact ⟨0, [], by omega, rfl, ⟨_, rfl⟩, rfl, by simp, own_nil _ _ _ _⟩
      case round =>
        obtain ⟨k2, Al, hk2, rfl, ⟨g1, rfl⟩, hal, hAl, hown⟩ := hrel
        have HA := hide hal
        clear hal
        by_cases hlt2 : k2 < k
        · obtain ⟨b, off, rfl, hb, hcell⟩ := hl.at_ (by omega)
          obtain ⟨r, hr⟩ : ∃ r, l[k2]? = some r := ⟨_, List.getElem?_eq_getElem (by rw [HL.out]; exact hlt2)⟩
          obtain ⟨c0, c1, c2, c3, c4, c5, c6, c7⟩ := rdO hcell hr
          have HR := hide hr
          have HC := hide hcell
          clear hr hcell
          have hb9 : w.heap.size ≤ (grow w g1).heap.size := g1.2.size
          have HI := hide (alive_at HR.out)
          obtain ⟨q0, hq0⟩ : ∃ q0 : Bool, decide (r.met < 999) = q0 := ⟨_, rfl⟩
          have hlenA : Al.length ≤ 1000000 := by omega
          by_cases hcc : c = k2 + 1
          all_goals
            try subst hcc
            go_wp2_with fail
            have hrd9 : Rd ((grow w g1).alloc (.cells #[.bool r.ad.six, .int .u64 (r.ad.hi : Nat), .int .u64 (r.ad.lo : Nat), .int .i64 r.len, .int .i64 r.src, .int .i64 r.peer, .int .i64 r.met, .int .i64 r.hop] 44)) 8 (some ⟨(grow w g1).heap.size, 0, none⟩) 1 encO [r] := rd_new (grow w g1) encO r 44 _ rfl
            have hB1 : Below w.heap.size w ((grow w g1).alloc (.cells #[.bool r.ad.six, .int .u64 (r.ad.hi : Nat), .int .u64 (r.ad.lo : Nat), .int .i64 r.len, .int .i64 r.src, .int .i64 r.peer, .int .i64 r.met, .int .i64 r.hop] 44)) := (by (repeat (first | exact Below.refl _ _ | assumption | apply below_alloc | apply below_grow | apply below_setCell | apply below_drew)); all_goals first | omega | (simp [go_sem]; done) | (simp [go_sem]; omega))
            have hrd := ((hl.below hB1).drop (k2 + 1))
            have hown1 : ((grow w g1).alloc (.cells #[.bool r.ad.six, .int .u64 (r.ad.hi : Nat), .int .u64 (r.ad.lo : Nat), .int .i64 r.len, .int .i64 r.src, .int .i64 r.peer, .int .i64 r.met, .int .i64 r.hop] 44)).ownsRow w.heap.size 44 8 u7 Al.length (Al.flatMap encO) := hown.alloc _
            have hne9 : u7.ownBlock ≠ some (grow w g1).heap.size := fun e => by have := (hown.lt _ e).2; omega
            have hlt9 : (grow w g1).heap.size < ((grow w g1).alloc (.cells #[.bool r.ad.six, .int .u64 (r.ad.hi : Nat), .int .u64 (r.ad.lo : Nat), .int .i64 r.len, .int .i64 r.src, .int .i64 r.peer, .int .i64 r.met, .int .i64 r.hop] 44)).heap.size := by simp
            rw [show w.heap.size + more g1 = (grow w g1).heap.size from (grow_size g1).symm]
            generalize hW1 : (grow w g1).alloc (.cells #[.bool r.ad.six, .int .u64 (r.ad.hi : Nat), .int .u64 (r.ad.lo : Nat), .int .i64 r.len, .int .i64 r.src, .int .i64 r.peer, .int .i64 r.met, .int .i64 r.hop] 44) = W1 at *
            generalize (grow w g1).heap.size = b9 at *
            clear hW1 hown c0 c1 c2 c3 c4 c5 c6 c7
            generalize off + (k2 + 1) * 8 = off' at hrd ⊢
            have HHR := hide hrd
            clear hrd
            go_loopw [10, 51] (fun q i wr => ∃ m : Nat, m ≤ k - (k2 + 1) ∧ i = .int .i64 m ∧ q = .bool (q0 && ((l.drop (k2 + 1)).take m).all fun p => !(eqK p r)) ∧ ∃ g : Gr W1, wr = grow W1 g) (fun _ i _ => k - (k2 + 1) - (intOf i).toNat)
            case atStart => exact ⟨0, by omega, rfl, by simp, ⟨_, Below.refl _ _⟩, rfl⟩
            case round =>
              obtain ⟨m, hm, rfl, rfl, g2, rfl⟩ := hrel
              by_cases hlt3 : m < k - (k2 + 1)
              · first
                | (exfalso; omega)
                | (obtain ⟨p, hp⟩ : ∃ p, (l.drop (k2 + 1))[m]? = some p := ⟨_, List.getElem?_eq_getElem (by rw [HHR.out.1]; exact hlt3)⟩
                   obtain ⟨_, _, eq, hbW, hcW⟩ := HHR.out.at_ (by omega)
                   cases eq
                   obtain ⟨c0, c1, c2, c3, c4, c5, c6, c7⟩ := rdO hcW hp
                   obtain ⟨d0, d1, d2, d3, d4, d5, d6, d7⟩ := rdO1 hrd9
                   have HS := hide (all_take_succ (fun p => !(eqK p r)) (l.drop (k2 + 1)) m p hp)
                   clear hcW hp
                   generalize hQ : (q0 && ((l.drop (k2 + 1)).take m).all fun p => !(eqK p r)) = B
                   have HQ := hide hQ
                   clear hQ
                   have hE := pfE_rt p.ad r.ad p.len r.len
                   by_cases h1 : p.ad = r.ad ∧ p.len = r.len
                   · rw [decide_eq_true h1] at hE
                     by_cases h2 : p.src = r.src
                     · have b2 : (p.src == r.src) = true := by simpa using h2
                       by_cases h3 : p.peer = r.peer
                       · have b3 : (p.peer == r.peer) = true := by simpa using h3
                         have HE := hide (eqK_yes h1 h2 h3)
                         clear h1 h2 h3
                         go_wp2_with fail
                         go_roundw
                         case rel => exact ⟨m + 1, by omega, by go_num, by rw [HS.out, HE.out]; simp, gr_of (by (repeat (first | exact Below.refl _ _ | assumption | apply below_alloc | apply below_grow | apply below_setCell | apply below_drew)); all_goals first | omega | (simp [go_sem]; done) | (simp [go_sem]; omega))⟩
                         case measure => simp [intOf]; omega
                       · have b3 : (p.peer == r.peer) = false := by simpa using h3
                         have HE := hide (p := ¬ (p.ad = r.ad ∧ p.len = r.len) ∨ p.src ≠ r.src ∨ p.peer ≠ r.peer) (.inr (.inr h3))
                         clear h1 h2 h3
                         go_wp2_with fail
                         go_roundw
                         case rel => exact ⟨m + 1, by omega, by go_num, by rw [HS.out, ← HQ.out, eqK_no HE.out]; simp, gr_of (by (repeat (first | exact Below.refl _ _ | assumption | apply below_alloc | apply below_grow | apply below_setCell | apply below_drew)); all_goals first | omega | (simp [go_sem]; done) | (simp [go_sem]; omega))⟩
                         case measure => simp [intOf]; omega
                     · have b2 : (p.src == r.src) = false := by simpa using h2
                       have HE := hide (p := ¬ (p.ad = r.ad ∧ p.len = r.len) ∨ p.src ≠ r.src ∨ p.peer ≠ r.peer) (.inr (.inl h2))
                       clear h1 h2
                       go_wp2_with fail
                       go_roundw
                       case rel => exact ⟨m + 1, by omega, by go_num, by rw [HS.out, ← HQ.out, eqK_no HE.out]; simp, gr_of (by (repeat (first | exact Below.refl _ _ | assumption | apply below_alloc | apply below_grow | apply below_setCell | apply below_drew)); all_goals first | omega | (simp [go_sem]; done) | (simp [go_sem]; omega))⟩
                       case measure => simp [intOf]; omega
                   · rw [decide_eq_false h1] at hE
                     have HE := hide (p := ¬ (p.ad = r.ad ∧ p.len = r.len) ∨ p.src ≠ r.src ∨ p.peer ≠ r.peer) (.inl h1)
                     clear h1
                     go_wp2_with fail
                     go_roundw
                     case rel => exact ⟨m + 1, by omega, by go_num, by rw [HS.out, ← HQ.out, eqK_no HE.out]; simp, gr_of (by (repeat (first | exact Below.refl _ _ | assumption | apply below_alloc | apply below_grow | apply below_setCell | apply below_drew)); all_goals first | omega | (simp [go_sem]; done) | (simp [go_sem]; omega))⟩
                     case measure => simp [intOf]; omega)
              · have HM : l.length - (k2 + 1) ≤ m := by rw [HL.out]; omega
                rcases hBB : (q0 && ((l.drop (k2 + 1)).take m).all fun p => !(eqK p r)) with _ | _
                · have HN := hide (HA.out.trans (by rw [alive_no HI.out HM hq0 hBB]))
                  clear hBB
                  go_wp2_with fail
                  go_roundw
                  case rel => exact ⟨k2 + 1, Al, by omega, by go_num, gr_of (by (repeat (first | exact Below.refl _ _ | assumption | apply below_alloc | apply below_grow | apply below_setCell | apply below_drew)); all_goals first | omega | (simp [go_sem]; done) | (simp [go_sem]; omega)), HN.out, by omega, (by repeat (first | with_reducible exact hown1 | apply own_grow | apply World.ownsRow.alloc | apply World.ownsRow.drew | (refine own_far ?_ _ _ _ (by simp [go_sem, Value.ownBlock]; try omega))))⟩
                  case measure => simp [intOf]; omega
                · have HN := hide (HA.out.trans (by rw [alive_yes HI.out HM hq0 hBB]))
                  obtain ⟨d0, d1, d2, d3, d4, d5, d6, d7⟩ := rdO1 hrd9
                  clear hBB
                  go_wp2_with (at_builtin; refine app_ofrl w _ (by (repeat (first | exact Below.refl _ _ | assumption | apply below_alloc | apply below_grow | apply below_setCell | apply below_drew)); all_goals first | omega | (simp [go_sem]; done) | (simp [go_sem]; omega)) (by rfl) _ _ (by rfl) u7 Al (by rfl) (by repeat (first | with_reducible exact hown1 | apply own_grow | apply World.ownsRow.alloc | apply World.ownsRow.drew | (refine own_far ?_ _ _ _ (by simp [go_sem, Value.ownBlock]; try omega)))) _ _ r _ (by rfl) (by simp [go_sem]) hlenA ?_; intro g6 blk cap _ _ hown6)
                  go_roundw
                  case rel => exact ⟨k2 + 1, Al ++ [r], by omega, by go_num, ⟨g6, rfl⟩, by rw [List.append_assoc]; exact HN.out, by simp; omega, by rw [List.length_append]; exact hown6⟩
                  case measure => simp [intOf]; omega
        · obtain rfl : k2 = k := by omega
          have hAl2 : alive l = Al := by rw [HA.out, List.drop_of_length_le (by rw [HL.out]; exact Nat.le_refl _)]; simp [alive]
          have hmem : ∀ o ∈ Al, o ∈ l := fun o ho => alive_sub l o (by rw [hAl2]; exact ho)
          have HND := hide (p := Al.Pairwise fun x y => x.ky ≠ y.ky) (by rw [← hAl2]; exact alive_nodup l)
          have HBD := hide (p := bndO Al) (fun o ho => by have := ofault_ok (HV.out o (hmem o ho)); omega)
          have HOK := hide (p := ∀ o ∈ Al, o.ad.wf ∧ o.ad.may = true) (fun o ho => ⟨hwf o (hmem o ho), ((checkZ_ok o.ad o.len (hwf o (hmem o ho))).1 (ofault_ok (HV.out o (hmem o ho))).1).1⟩)
          have HEND := hide hAl2
          obtain ⟨AA, cA, rfl, hrdA, hcA, hcA2⟩ := own_rd encO_len hown (by decide)
          have hB1 : Below w.heap.size w (grow w g1) := (by (repeat (first | exact Below.refl _ _ | assumption | apply below_alloc | apply below_grow | apply below_setCell | apply below_drew)); all_goals first | omega | (simp [go_sem]; done) | (simp [go_sem]; omega))
          have HB1 := hide hB1
          have hB1s := hB1.size
          generalize grow w g1 = W1 at *
          clear hB1 hown hAl2 hmem
          have HRA := hide hrdA
          clear hrdA
          go_wp2_with fail
          go_loopw [14, 83] (fun v i wr => ∃ (k4 : Nat) (L : List Ofr), k4 ≤ Al.length ∧ i = .int .i64 k4 ∧ (∃ g : Gr W1, wr = grow W1 g) ∧ RefInv Al k4 L ∧ wr.ownsRow W1.heap.size 44 8 v L.length (L.flatMap encO)) (fun _ i _ => Al.length - (intOf i).toNat)
          case atStart => exact ⟨0, [], by omega, rfl, ⟨⟨_, Below.refl _ _⟩, rfl⟩, refInv_nil _, own_nil _ _ _ _⟩
          case round =>
            obtain ⟨k4, L, hk4, rfl, ⟨g4, rfl⟩, hinv, hown⟩ := hrel
            have HINV := hide hinv
            have hLl := refInv_len hinv
            clear hinv
            by_cases hlt4 : k4 < Al.length
            · obtain ⟨b, off, rfl, hb, hcell⟩ := HRA.out.at_ (by omega)
              obtain ⟨o, ho⟩ : ∃ o, Al[k4]? = some o := ⟨_, List.getElem?_eq_getElem hlt4⟩
              obtain ⟨c0, c1, c2, c3, c4, c5, c6, c7⟩ := rdO hcell ho
              have HO := hide ho
              have HC := hide hcell
              obtain ⟨s1, s2, s3, s4, s5, s6⟩ := HBD.out o (List.mem_of_getElem? ho)
              have hwo := fun W => worth_any o W ⟨s1, s2⟩ ⟨s3, s4⟩ ⟨s5, s6⟩
              clear ho hcell
              go_wp2_with fail
              have hrd16 : Rd ((grow W1 g4).alloc (.cells #[.bool o.ad.six, .int .u64 (o.ad.hi : Nat), .int .u64 (o.ad.lo : Nat), .int .i64 o.len, .int .i64 o.src, .int .i64 o.peer, .int .i64 o.met, .int .i64 o.hop] 44)) 8 (some ⟨(grow W1 g4).heap.size, 0, none⟩) 1 encO [o] := rd_new (grow W1 g4) encO o 44 _ rfl
              have hB2 : Below W1.heap.size W1 ((grow W1 g4).alloc (.cells #[.bool o.ad.six, .int .u64 (o.ad.hi : Nat), .int .u64 (o.ad.lo : Nat), .int .i64 o.len, .int .i64 o.src, .int .i64 o.peer, .int .i64 o.met, .int .i64 o.hop] 44)) := (by (repeat (first | exact Below.refl _ _ | assumption | apply below_alloc | apply below_grow | apply below_setCell | apply below_drew)); all_goals first | omega | (simp [go_sem]; done) | (simp [go_sem]; omega))
              have hown2 : ((grow W1 g4).alloc (.cells #[.bool o.ad.six, .int .u64 (o.ad.hi : Nat), .int .u64 (o.ad.lo : Nat), .int .i64 o.len, .int .i64 o.src, .int .i64 o.peer, .int .i64 o.met, .int .i64 o.hop] 44)).ownsRow W1.heap.size 44 8 u14 L.length (L.flatMap encO) := hown.alloc _
              have hne16 : u14.ownBlock ≠ some (grow W1 g4).heap.size := fun e => by have := (hown.lt _ e).2; omega
              have hlt16 : (grow W1 g4).heap.size < ((grow W1 g4).alloc (.cells #[.bool o.ad.six, .int .u64 (o.ad.hi : Nat), .int .u64 (o.ad.lo : Nat), .int .i64 o.len, .int .i64 o.src, .int .i64 o.peer, .int .i64 o.met, .int .i64 o.hop] 44)).heap.size := by simp
              have hle16 : W1.heap.size ≤ (grow W1 g4).heap.size := g4.2.size
              have hRA := HRA.out.below hB2
              rw [show W1.heap.size + more g4 = (grow W1 g4).heap.size from (grow_size g4).symm]
              generalize hW2 : (grow W1 g4).alloc (.cells #[.bool o.ad.six, .int .u64 (o.ad.hi : Nat), .int .u64 (o.ad.lo : Nat), .int .i64 o.len, .int .i64 o.src, .int .i64 o.peer, .int .i64 o.met, .int .i64 o.hop] 44) = W2 at *
              generalize (grow W1 g4).heap.size = b16 at *
              have hBs2 := hB2.size
              clear hW2 hown c0 c1 c2 c3 c4 c5 c6 c7
              have HR16 := hide hrd16
              have HRA2 := hide hRA
              clear hrd16 hRA
              go_loopw [17, 89] (fun q i wr => ∃ m : Nat, m ≤ Al.length ∧ i = .int .i64 m ∧ q = .bool ((Al.take m).all (bT o)) ∧ ∃ g : Gr W2, wr = grow W2 g) (fun _ i _ => Al.length - (intOf i).toNat)
              case atStart => exact ⟨0, by omega, rfl, by simp, ⟨_, Below.refl _ _⟩, rfl⟩
              case round =>
                obtain ⟨m, hm, rfl, rfl, g5, rfl⟩ := hrel
                by_cases hlt5 : m < Al.length
                · obtain ⟨p, hp⟩ : ∃ p, Al[m]? = some p := ⟨_, List.getElem?_eq_getElem hlt5⟩
                  obtain ⟨_, _, eq, hbW, hcW⟩ := HRA2.out.at_ (by omega)
                  cases eq
                  obtain ⟨c0, c1, c2, c3, c4, c5, c6, c7⟩ := rdO hcW hp
                  obtain ⟨d0, d1, d2, d3, d4, d5, d6, d7⟩ := rdO1 HR16.out
                  have HS := hide (all_take_succ (bT o) Al m p hp)
                  obtain ⟨t1, t2, t3, t4, t5, t6⟩ := HBD.out p (List.mem_of_getElem? hp)
                  have hwp := fun W => worth_any p W ⟨t1, t2⟩ ⟨t3, t4⟩ ⟨t5, t6⟩
                  clear hcW hp
                  generalize hQ : (Al.take m).all (bT o) = B
                  have HQ := hide hQ
                  clear hQ
                  have hE := pfE_rt p.ad o.ad p.len o.len
                  by_cases h1 : p.ad = o.ad ∧ p.len = o.len
                  · rw [decide_eq_true h1] at hE
                    have hpf : p.pf = o.pf := Prod.ext h1.1 h1.2
                    by_cases h2 : worth p < worth o
                    · have b2 : decide (worth p < worth o) = true := decide_eq_true h2
                      have HE := hide (p := bT o p = false) (decide_eq_false fun h => h hpf h2)
                      clear h1 h2 hpf
                      go_wp2_with fail
                      (refine wp_region_grow (by kernel_rfl) (by kernel_rfl) ?_; (repeat (go_big_quiet_step (((go_at_call 37; first | with_reducible exact gr_ret (hwp _) | with_reducible exact gr_ret (hwo _)))))); refine wpQuiet_nil ?_; rintro _ ⟨gq, rfl⟩)
                      go_wp2_with fail
                      go_roundw
                      case rel => exact ⟨m + 1, by omega, by go_num, by rw [HS.out, HE.out]; simp, gr_of (by (repeat (first | exact Below.refl _ _ | assumption | apply below_alloc | apply below_grow | apply below_setCell | apply below_drew)); all_goals first | omega | (simp [go_sem]; done) | (simp [go_sem]; omega))⟩
                      case measure => simp [intOf]; omega
                    · have b2 : decide (worth p < worth o) = false := decide_eq_false h2
                      have HE := hide (p := bT o p = true) (decide_eq_true fun _ => h2)
                      clear h1 h2 hpf
                      go_wp2_with fail
                      (refine wp_region_grow (by kernel_rfl) (by kernel_rfl) ?_; (repeat (go_big_quiet_step (((go_at_call 37; first | with_reducible exact gr_ret (hwp _) | with_reducible exact gr_ret (hwo _)))))); refine wpQuiet_nil ?_; rintro _ ⟨gq, rfl⟩)
                      go_wp2_with fail
                      go_roundw
                      case rel => exact ⟨m + 1, by omega, by go_num, by rw [HS.out, HE.out, HQ.out]; simp, gr_of (by (repeat (first | exact Below.refl _ _ | assumption | apply below_alloc | apply below_grow | apply below_setCell | apply below_drew)); all_goals first | omega | (simp [go_sem]; done) | (simp [go_sem]; omega))⟩
                      case measure => simp [intOf]; omega
                  · rw [decide_eq_false h1] at hE
                    have HE := hide (p := bT o p = true) (decide_eq_true fun e => absurd ⟨congrArg Prod.fst e, congrArg Prod.snd e⟩ h1)
                    clear h1
                    go_wp2_with fail
                    (refine wp_region_grow (by kernel_rfl) (by kernel_rfl) ?_; (repeat (go_big_quiet_step (fail))); refine wpQuiet_nil ?_; rintro _ ⟨gq, rfl⟩)
                    go_wp2_with fail
                    go_roundw
                    case rel => exact ⟨m + 1, by omega, by go_num, by rw [HS.out, HE.out, HQ.out]; simp, gr_of (by (repeat (first | exact Below.refl _ _ | assumption | apply below_alloc | apply below_grow | apply below_setCell | apply below_drew)); all_goals first | omega | (simp [go_sem]; done) | (simp [go_sem]; omega))⟩
                    case measure => simp [intOf]; omega
                · have hmm : Al.take m = Al := List.take_of_length_le (by omega)
                  rw [hmm, ← isBest_bT]
                  clear hmm
                  rcases hBB : isBest Al o with _ | _
                  · have HI := hide (refInv_skip HINV.out HO.out hBB)
                    clear hBB
                    go_wp2_with fail
                    go_roundw
                    case rel => exact ⟨k4 + 1, L, by omega, by go_num, gr_of (by (repeat (first | exact Below.refl _ _ | assumption | apply below_alloc | apply below_grow | apply below_setCell | apply below_drew)); all_goals first | omega | (simp [go_sem]; done) | (simp [go_sem]; omega)), HI.out, (by repeat (first | with_reducible exact hown2 | apply own_grow | apply World.ownsRow.alloc | apply World.ownsRow.drew | (refine own_far ?_ _ _ _ (by simp [go_sem, Value.ownBlock]; try omega))))⟩
                    case measure => simp [intOf]; omega
                  · have HI := hide (refInv_put HND.out HBD.out HINV.out HO.out hBB)
                    clear hBB
                    obtain ⟨AL, cL, rfl, hrdL, hcL, hcL2⟩ := own_rd encO_len hown2 (by decide)
                    have HRL := hide hrdL
                    have HLm := hide (p := ∀ x ∈ L, x.ad.wf ∧ x.ad.may = true) (fun x hx => HOK.out x (List.mem_of_mem_take ((HINV.out.2 x).1 hx).1))
                    have hoo := HOK.out o (List.mem_of_getElem? HO.out)
                    clear hrdL
                    have hL100 : L.length ≤ 1000 := by omega
                    go_wp2_with fail
                    go_loopw [20] (fun i wr => ∃ j : Nat, j ≤ L.length ∧ i = .int .i64 j ∧ (∀ i x, i < j → L[i]? = some x → pfLess x.pf o.pf) ∧ ∃ g : Gr W2, wr = grow W2 g) (fun i _ => L.length - (intOf i).toNat)
                    case atStart => exact ⟨0, by omega, rfl, fun _ _ h => by omega, gr_of (by (repeat (first | exact Below.refl _ _ | assumption | apply below_alloc | apply below_grow | apply below_setCell | apply below_drew)); all_goals first | omega | (simp [go_sem]; done) | (simp [go_sem]; omega))⟩
                    case round =>
                      obtain ⟨j, hj, rfl, hz, g6, rfl⟩ := hrel
                      have HZ := hide hz
                      clear hz
                      by_cases hgo : ∃ x, L[j]? = some x ∧ pfLess x.pf o.pf
                      · obtain ⟨x, hx, hless⟩ := hgo
                        have hlt6 : j < L.length := (List.getElem?_eq_some_iff.1 hx).1
                        obtain ⟨bL, offL, rfl, hbL, hcL'⟩ := HRL.out.at_ (by omega)
                        obtain ⟨c0, c1, c2, c3, c4, c5, c6, c7⟩ := rdO hcL' hx
                        obtain ⟨d0, d1, d2, d3, d4, d5, d6, d7⟩ := rdO1 HR16.out
                        have hlx := HLm.out x (List.mem_of_getElem? hx)
                        have HN := hide (p := ∀ i y, i < j + 1 → L[i]? = some y → pfLess y.pf o.pf) (fun i y hi hy => by
                          by_cases e : i = j
                          · subst e
                            have := hx.symm.trans hy
                            simp only [Option.some.injEq] at this
                            exact this ▸ hless
                          · exact HZ.out i y (by omega) hy)
                        clear hcL' hx
                        rcases hless with h1 | ⟨h1, h2⟩
                        · simp only [Ofr.pf] at h1
                          have hLess := fun W => ret_mono (refLess_any x.ad o.ad W hlx.1 hoo.1 hlx.2 hoo.2) (congrArg Value.bool h1)
                          go_wp2_with fail
                          (refine wp_region_grow (by kernel_rfl) (by kernel_rfl) ?_; (repeat (go_big_quiet_step (((go_at_call 38; exact gr_ret (hLess _)))))); refine wpQuiet_nil ?_; rintro _ ⟨gq, rfl⟩)
                          go_wp2_with fail
                          go_roundw
                          case rel => exact ⟨j + 1, by omega, by go_num, HN.out, gr_of (by (repeat (first | exact Below.refl _ _ | assumption | apply below_alloc | apply below_grow | apply below_setCell | apply below_drew)); all_goals first | omega | (simp [go_sem]; done) | (simp [go_sem]; omega))⟩
                          case measure => simp [intOf]; omega
                        · simp only [Ofr.pf] at h1 h2
                          have hE := adE_rt x.ad o.ad
                          rw [decide_eq_true h1] at hE
                          have h3 : adLess x.ad o.ad = false := by rw [h1]; exact adLess_irr _
                          have hLess := fun W => ret_mono (refLess_any x.ad o.ad W hlx.1 hoo.1 hlx.2 hoo.2) (congrArg Value.bool h3)
                          have h4 : decide (x.len < o.len) = true := decide_eq_true h2
                          clear h1 h2
                          go_wp2_with fail
                          (refine wp_region_grow (by kernel_rfl) (by kernel_rfl) ?_; (repeat (go_big_quiet_step (((go_at_call 38; exact gr_ret (hLess _)))))); refine wpQuiet_nil ?_; rintro _ ⟨gq, rfl⟩)
                          go_wp2_with fail
                          go_roundw
                          case rel => exact ⟨j + 1, by omega, by go_num, HN.out, gr_of (by (repeat (first | exact Below.refl _ _ | assumption | apply below_alloc | apply below_grow | apply below_setCell | apply below_drew)); all_goals first | omega | (simp [go_sem]; done) | (simp [go_sem]; omega))⟩
                          case measure => simp [intOf]; omega
                      · have HJ := hide (ahead_eq hj HZ.out (fun x hx h => hgo ⟨x, hx, h⟩))
                        have hstop : (¬ j < L.length) ∨ (∃ x, L[j]? = some x ∧ adLess x.ad o.ad = false ∧ ¬ x.ad = o.ad) ∨ (∃ x, L[j]? = some x ∧ adLess x.ad o.ad = false ∧ x.ad = o.ad ∧ ¬ x.len < o.len) := by
                          by_cases h0 : j < L.length
                          · have hx : L[j]? = some L[j] := List.getElem?_eq_getElem h0
                            have h1 : ¬ pfLess L[j].pf o.pf := fun h => hgo ⟨_, hx, h⟩
                            simp only [pfLess, Ofr.pf, not_or, not_and] at h1
                            by_cases h2 : L[j].ad = o.ad
                            · exact .inr (.inr ⟨_, hx, by simpa using h1.1, h2, h1.2 h2⟩)
                            · exact .inr (.inl ⟨_, hx, by simpa using h1.1, h2⟩)
                          · exact .inl h0
                        clear hgo
                        rcases hstop with h0 | ⟨x, hx, h1, h2⟩ | ⟨x, hx, h1, h2, h3⟩
                        all_goals obtain ⟨d0, d1, d2, d3, d4, d5, d6, d7⟩ := rdO1 HR16.out
                        · have e0 : decide (j < L.length) = false := decide_eq_false h0
                          go_wp2_with fail
                          (refine wp_region_grow (by kernel_rfl) (by kernel_rfl) ?_; (repeat (go_big_quiet_step (fail))); refine wpQuiet_nil ?_; rintro _ ⟨gq, rfl⟩)
                          go_wp2_with (at_builtin; refine app_ofrl W1 _ (by (repeat (first | exact Below.refl _ _ | assumption | apply below_alloc | apply below_grow | apply below_setCell | apply below_drew)); all_goals first | omega | (simp [go_sem]; done) | (simp [go_sem]; omega)) (by rfl) _ _ (by rfl) _ L (by rfl) (own_grow (own_grow hown2 g6) gq) _ _ o _ (by rfl) (by simp [go_sem]) (by omega) ?_; intro g7 blk cap hat7 hgr7 hown7)
                          have hcap7 := own_cap hown7
                          have hle7 := own_le hown7
                          have hlt7 := own_lt hown7
                          have hne7 : ¬ blk = b16 := by
                            rintro rfl
                            rcases hat7 with h | h
                            · exact hne16 h
                            · have e1 := (grow_below W2 g6).size
                              have e2 := (grow_below _ gq).size
                              omega
                          have hr16 : Rd (grow W1 g7) 8 (some ⟨b16, 0, none⟩) 1 encO [o] := ((HR16.out.below (grow_below W2 g6)).below (grow_below _ gq)).kept hgr7 hne16
                          have hj1 : IntKind.i64.wrap ((j : Int) + 1) = (j : Int) + 1 := IntWalk.i64_in _ (by omega)
                          have hj2 : (0 : Int) ≤ (j : Int) + 1 := by omega
                          have hj3 : ((j : Int) + 1).toNat = j + 1 := by omega
                          have hj4 : ¬ cap = j := by omega
                          have hj5 : (j : Int) ≤ (L.length : Int) + 1 := by omega
                          have hj6 : (j : Int) + 1 ≤ (L.length : Int) + 1 := by omega
                          clear hgr7 hat7
                          have hcc : cap = j + 1 ∨ ¬ cap = j + 1 := by omega
                          rcases hcc with hce | hce
                          · subst hce
                            go_region_law ((refine step_copy_own W1 (grow W1 g7).drew (by (repeat (first | exact Below.refl _ _ | assumption | apply below_alloc | apply below_grow | apply below_setCell | apply below_drew)); all_goals first | omega | (simp [go_sem]; done) | (simp [go_sem]; omega)) (by rfl) (.tmp 159) (.tmp 162) 24 (by rfl) 44 8 Try.underlying24 size_ofr (some ⟨blk, 0, none⟩) (some ⟨blk, j * 8, none⟩) (L.length - j) 0 (L.length + 1 - j) (j + 1 - j) (by simp [Act.eval, Act.put]; omega) (by simp [Act.eval, Act.put]; done) W1.heap.size blk (L.length + 1) (j + 1) _ hown7.drew (Nat.le_refl _) (one_flatO _) (L.length - j) (by show min (L.length + 1 - j) (L.length - j) = L.length - j; omega) ((j + 1) * 8) (j * 8) (fun h => by omega) (by omega) (by omega) ?_; intro G hgrC hownC))
                            rw [ins_splice L o j hj] at hownC
                            have hr16C : Rd (grow W1 G) 8 (some ⟨b16, 0, none⟩) 1 encO [o] := Rd.kept (w := (grow W1 g7).drew) hr16 hgrC (fun e => hne7 (Option.some.inj e))
                            obtain ⟨d0, d1, d2, d3, d4, d5, d6, d7⟩ := rdO1r hr16C
                            have hM : j < ((L ++ [o]).take (j + 1) ++ L.drop j).length := by simp; omega
                            have hown8 := own_set8 hownC o j hM
                            obtain ⟨z0, hz0⟩ := own_has hownC j 0 (by omega) (by omega)
                            obtain ⟨z1, hz1⟩ := own_has hownC j 1 (by omega) (by omega)
                            obtain ⟨z2, hz2⟩ := own_has hownC j 2 (by omega) (by omega)
                            obtain ⟨z3, hz3⟩ := own_has hownC j 3 (by omega) (by omega)
                            obtain ⟨z4, hz4⟩ := own_has hownC j 4 (by omega) (by omega)
                            obtain ⟨z5, hz5⟩ := own_has hownC j 5 (by omega) (by omega)
                            obtain ⟨z6, hz6⟩ := own_has hownC j 6 (by omega) (by omega)
                            obtain ⟨z7, hz7⟩ := own_has hownC j 7 (by omega) (by omega)
                            simp only [Nat.add_zero] at hz0
                            have hfr := own_freeR hownC
                            have f1 : ¬ blk < W1.heap.size := by omega
                            have f2 : ¬ b16 < W1.heap.size := by omega
                            have HOW := hide hown8
                            clear hown8 hgrC hr16C
                            go_wp2_with fail
                            go_roundw
                            case rel => exact ⟨k4 + 1, L.take j ++ o :: L.drop j, by omega, by go_num, gr_of (by with_reducible exact below_set8 (grow_below W1 G) hle7), (by have h := HI.out; rw [HJ.out] at h; exact h), (by have h := HOW.out; rw [ins_set L o j hj] at h; rw [ins_len L o j hj]; with_reducible exact h)⟩
                            case measure => simp [intOf]; omega
                          · go_region_law ((refine step_copy_own W1 (grow W1 g7).drew (by (repeat (first | exact Below.refl _ _ | assumption | apply below_alloc | apply below_grow | apply below_setCell | apply below_drew)); all_goals first | omega | (simp [go_sem]; done) | (simp [go_sem]; omega)) (by rfl) (.tmp 159) (.tmp 162) 24 (by rfl) 44 8 Try.underlying24 size_ofr (some ⟨blk, (j + 1) * 8, none⟩) (some ⟨blk, j * 8, none⟩) (L.length - j) (cap - (j + 1)) (L.length + 1 - j) (cap - j) (by simp [Act.eval, Act.put]; done) (by simp [Act.eval, Act.put]; done) W1.heap.size blk (L.length + 1) cap _ hown7.drew (Nat.le_refl _) (one_flatO _) (L.length - j) (by show min (L.length + 1 - j) (L.length - j) = L.length - j; omega) ((j + 1) * 8) (j * 8) (fun _ => ⟨rfl, rfl⟩) (by omega) (by omega) ?_; intro G hgrC hownC))
                            rw [ins_splice L o j hj] at hownC
                            have hr16C : Rd (grow W1 G) 8 (some ⟨b16, 0, none⟩) 1 encO [o] := Rd.kept (w := (grow W1 g7).drew) hr16 hgrC (fun e => hne7 (Option.some.inj e))
                            obtain ⟨d0, d1, d2, d3, d4, d5, d6, d7⟩ := rdO1r hr16C
                            have hM : j < ((L ++ [o]).take (j + 1) ++ L.drop j).length := by simp; omega
                            have hown8 := own_set8 hownC o j hM
                            obtain ⟨z0, hz0⟩ := own_has hownC j 0 (by omega) (by omega)
                            obtain ⟨z1, hz1⟩ := own_has hownC j 1 (by omega) (by omega)
                            obtain ⟨z2, hz2⟩ := own_has hownC j 2 (by omega) (by omega)
                            obtain ⟨z3, hz3⟩ := own_has hownC j 3 (by omega) (by omega)
                            obtain ⟨z4, hz4⟩ := own_has hownC j 4 (by omega) (by omega)
                            obtain ⟨z5, hz5⟩ := own_has hownC j 5 (by omega) (by omega)
                            obtain ⟨z6, hz6⟩ := own_has hownC j 6 (by omega) (by omega)
                            obtain ⟨z7, hz7⟩ := own_has hownC j 7 (by omega) (by omega)
                            simp only [Nat.add_zero] at hz0
                            have hfr := own_freeR hownC
                            have f1 : ¬ blk < W1.heap.size := by omega
                            have f2 : ¬ b16 < W1.heap.size := by omega
                            have HOW := hide hown8
                            clear hown8 hgrC hr16C
                            go_wp2_with fail
                            go_roundw
                            case rel => exact ⟨k4 + 1, L.take j ++ o :: L.drop j, by omega, by go_num, gr_of (by with_reducible exact below_set8 (grow_below W1 G) hle7), (by have h := HI.out; rw [HJ.out] at h; exact h), (by have h := HOW.out; rw [ins_set L o j hj] at h; rw [ins_len L o j hj]; with_reducible exact h)⟩
                            case measure => simp [intOf]; omega
                        · skip
                          have hlt6 : j < L.length := (List.getElem?_eq_some_iff.1 hx).1
                          obtain ⟨bL, offL, rfl, hbL, hcL'⟩ := HRL.out.at_ (by omega)
                          obtain ⟨c0, c1, c2, c3, c4, c5, c6, c7⟩ := rdO hcL' hx
                          have hlx := HLm.out x (List.mem_of_getElem? hx)
                          have hLess := fun W => ret_mono (refLess_any x.ad o.ad W hlx.1 hoo.1 hlx.2 hoo.2) (congrArg Value.bool h1)
                          have hE := adE_rt x.ad o.ad
                          rw [decide_eq_false h2] at hE
                          clear h1 h2 hx hcL'
                          go_wp2_with fail
                          (refine wp_region_grow (by kernel_rfl) (by kernel_rfl) ?_; (repeat (go_big_quiet_step (((go_at_call 38; exact gr_ret (hLess _)))))); refine wpQuiet_nil ?_; rintro _ ⟨gq, rfl⟩)
                          clear c0 c1 c2 c3 c4 c5 c6 c7 hLess
                          go_wp2_with (at_builtin; refine app_ofrl W1 _ (by (repeat (first | exact Below.refl _ _ | assumption | apply below_alloc | apply below_grow | apply below_setCell | apply below_drew)); all_goals first | omega | (simp [go_sem]; done) | (simp [go_sem]; omega)) (by rfl) _ _ (by rfl) _ L (by rfl) (own_grow (own_grow hown2 g6) gq) _ _ o _ (by rfl) (by simp [go_sem]) (by omega) ?_; intro g7 blk cap hat7 hgr7 hown7)
                          have hcap7 := own_cap hown7
                          have hle7 := own_le hown7
                          have hlt7 := own_lt hown7
                          have hne7 : ¬ blk = b16 := by
                            rintro rfl
                            rcases hat7 with h | h
                            · exact hne16 h
                            · have e1 := (grow_below W2 g6).size
                              have e2 := (grow_below _ gq).size
                              omega
                          have hr16 : Rd (grow W1 g7) 8 (some ⟨b16, 0, none⟩) 1 encO [o] := ((HR16.out.below (grow_below W2 g6)).below (grow_below _ gq)).kept hgr7 hne16
                          have hj1 : IntKind.i64.wrap ((j : Int) + 1) = (j : Int) + 1 := IntWalk.i64_in _ (by omega)
                          have hj2 : (0 : Int) ≤ (j : Int) + 1 := by omega
                          have hj3 : ((j : Int) + 1).toNat = j + 1 := by omega
                          have hj4 : ¬ cap = j := by omega
                          have hj5 : (j : Int) ≤ (L.length : Int) + 1 := by omega
                          have hj6 : (j : Int) + 1 ≤ (L.length : Int) + 1 := by omega
                          clear hgr7 hat7
                          have hcc : cap = j + 1 ∨ ¬ cap = j + 1 := by omega
                          rcases hcc with hce | hce
                          · exact absurd hce (by omega)
                          · go_region_law ((refine step_copy_own W1 (grow W1 g7).drew (by (repeat (first | exact Below.refl _ _ | assumption | apply below_alloc | apply below_grow | apply below_setCell | apply below_drew)); all_goals first | omega | (simp [go_sem]; done) | (simp [go_sem]; omega)) (by rfl) (.tmp 159) (.tmp 162) 24 (by rfl) 44 8 Try.underlying24 size_ofr (some ⟨blk, (j + 1) * 8, none⟩) (some ⟨blk, j * 8, none⟩) (L.length - j) (cap - (j + 1)) (L.length + 1 - j) (cap - j) (by simp [Act.eval, Act.put]; done) (by simp [Act.eval, Act.put]; done) W1.heap.size blk (L.length + 1) cap _ hown7.drew (Nat.le_refl _) (one_flatO _) (L.length - j) (by show min (L.length + 1 - j) (L.length - j) = L.length - j; omega) ((j + 1) * 8) (j * 8) (fun _ => ⟨rfl, rfl⟩) (by omega) (by omega) ?_; intro G hgrC hownC))
                            rw [ins_splice L o j hj] at hownC
                            have hr16C : Rd (grow W1 G) 8 (some ⟨b16, 0, none⟩) 1 encO [o] := Rd.kept (w := (grow W1 g7).drew) hr16 hgrC (fun e => hne7 (Option.some.inj e))
                            obtain ⟨d0, d1, d2, d3, d4, d5, d6, d7⟩ := rdO1r hr16C
                            have hM : j < ((L ++ [o]).take (j + 1) ++ L.drop j).length := by simp; omega
                            have hown8 := own_set8 hownC o j hM
                            obtain ⟨z0, hz0⟩ := own_has hownC j 0 (by omega) (by omega)
                            obtain ⟨z1, hz1⟩ := own_has hownC j 1 (by omega) (by omega)
                            obtain ⟨z2, hz2⟩ := own_has hownC j 2 (by omega) (by omega)
                            obtain ⟨z3, hz3⟩ := own_has hownC j 3 (by omega) (by omega)
                            obtain ⟨z4, hz4⟩ := own_has hownC j 4 (by omega) (by omega)
                            obtain ⟨z5, hz5⟩ := own_has hownC j 5 (by omega) (by omega)
                            obtain ⟨z6, hz6⟩ := own_has hownC j 6 (by omega) (by omega)
                            obtain ⟨z7, hz7⟩ := own_has hownC j 7 (by omega) (by omega)
                            simp only [Nat.add_zero] at hz0
                            have hfr := own_freeR hownC
                            have f1 : ¬ blk < W1.heap.size := by omega
                            have f2 : ¬ b16 < W1.heap.size := by omega
                            have HOW := hide hown8
                            clear hown8 hgrC hr16C
                            go_wp2_with fail
                            go_roundw
                            case rel => exact ⟨k4 + 1, L.take j ++ o :: L.drop j, by omega, by go_num, gr_of (by with_reducible exact below_set8 (grow_below W1 G) hle7), (by have h := HI.out; rw [HJ.out] at h; exact h), (by have h := HOW.out; rw [ins_set L o j hj] at h; rw [ins_len L o j hj]; with_reducible exact h)⟩
                            case measure => simp [intOf]; omega
                        · skip
                          have hlt6 : j < L.length := (List.getElem?_eq_some_iff.1 hx).1
                          obtain ⟨bL, offL, rfl, hbL, hcL'⟩ := HRL.out.at_ (by omega)
                          obtain ⟨c0, c1, c2, c3, c4, c5, c6, c7⟩ := rdO hcL' hx
                          have hlx := HLm.out x (List.mem_of_getElem? hx)
                          have hLess := fun W => ret_mono (refLess_any x.ad o.ad W hlx.1 hoo.1 hlx.2 hoo.2) (congrArg Value.bool h1)
                          have hE := adE_rt x.ad o.ad
                          rw [decide_eq_true h2] at hE
                          have h4 : decide (x.len < o.len) = false := decide_eq_false h3
                          clear h3
                          clear h1 h2 hx hcL'
                          go_wp2_with fail
                          (refine wp_region_grow (by kernel_rfl) (by kernel_rfl) ?_; (repeat (go_big_quiet_step (((go_at_call 38; exact gr_ret (hLess _)))))); refine wpQuiet_nil ?_; rintro _ ⟨gq, rfl⟩)
                          clear c0 c1 c2 c3 c4 c5 c6 c7 hLess
                          go_wp2_with (at_builtin; refine app_ofrl W1 _ (by (repeat (first | exact Below.refl _ _ | assumption | apply below_alloc | apply below_grow | apply below_setCell | apply below_drew)); all_goals first | omega | (simp [go_sem]; done) | (simp [go_sem]; omega)) (by rfl) _ _ (by rfl) _ L (by rfl) (own_grow (own_grow hown2 g6) gq) _ _ o _ (by rfl) (by simp [go_sem]) (by omega) ?_; intro g7 blk cap hat7 hgr7 hown7)
                          have hcap7 := own_cap hown7
                          have hle7 := own_le hown7
                          have hlt7 := own_lt hown7
                          have hne7 : ¬ blk = b16 := by
                            rintro rfl
                            rcases hat7 with h | h
                            · exact hne16 h
                            · have e1 := (grow_below W2 g6).size
                              have e2 := (grow_below _ gq).size
                              omega
                          have hr16 : Rd (grow W1 g7) 8 (some ⟨b16, 0, none⟩) 1 encO [o] := ((HR16.out.below (grow_below W2 g6)).below (grow_below _ gq)).kept hgr7 hne16
                          have hj1 : IntKind.i64.wrap ((j : Int) + 1) = (j : Int) + 1 := IntWalk.i64_in _ (by omega)
                          have hj2 : (0 : Int) ≤ (j : Int) + 1 := by omega
                          have hj3 : ((j : Int) + 1).toNat = j + 1 := by omega
                          have hj4 : ¬ cap = j := by omega
                          have hj5 : (j : Int) ≤ (L.length : Int) + 1 := by omega
                          have hj6 : (j : Int) + 1 ≤ (L.length : Int) + 1 := by omega
                          clear hgr7 hat7
                          have hcc : cap = j + 1 ∨ ¬ cap = j + 1 := by omega
                          rcases hcc with hce | hce
                          · exact absurd hce (by omega)
                          · go_region_law ((refine step_copy_own W1 (grow W1 g7).drew (by (repeat (first | exact Below.refl _ _ | assumption | apply below_alloc | apply below_grow | apply below_setCell | apply below_drew)); all_goals first | omega | (simp [go_sem]; done) | (simp [go_sem]; omega)) (by rfl) (.tmp 159) (.tmp 162) 24 (by rfl) 44 8 Try.underlying24 size_ofr (some ⟨blk, (j + 1) * 8, none⟩) (some ⟨blk, j * 8, none⟩) (L.length - j) (cap - (j + 1)) (L.length + 1 - j) (cap - j) (by simp [Act.eval, Act.put]; done) (by simp [Act.eval, Act.put]; done) W1.heap.size blk (L.length + 1) cap _ hown7.drew (Nat.le_refl _) (one_flatO _) (L.length - j) (by show min (L.length + 1 - j) (L.length - j) = L.length - j; omega) ((j + 1) * 8) (j * 8) (fun _ => ⟨rfl, rfl⟩) (by omega) (by omega) ?_; intro G hgrC hownC))
                            rw [ins_splice L o j hj] at hownC
                            have hr16C : Rd (grow W1 G) 8 (some ⟨b16, 0, none⟩) 1 encO [o] := Rd.kept (w := (grow W1 g7).drew) hr16 hgrC (fun e => hne7 (Option.some.inj e))
                            obtain ⟨d0, d1, d2, d3, d4, d5, d6, d7⟩ := rdO1r hr16C
                            have hM : j < ((L ++ [o]).take (j + 1) ++ L.drop j).length := by simp; omega
                            have hown8 := own_set8 hownC o j hM
                            obtain ⟨z0, hz0⟩ := own_has hownC j 0 (by omega) (by omega)
                            obtain ⟨z1, hz1⟩ := own_has hownC j 1 (by omega) (by omega)
                            obtain ⟨z2, hz2⟩ := own_has hownC j 2 (by omega) (by omega)
                            obtain ⟨z3, hz3⟩ := own_has hownC j 3 (by omega) (by omega)
                            obtain ⟨z4, hz4⟩ := own_has hownC j 4 (by omega) (by omega)
                            obtain ⟨z5, hz5⟩ := own_has hownC j 5 (by omega) (by omega)
                            obtain ⟨z6, hz6⟩ := own_has hownC j 6 (by omega) (by omega)
                            obtain ⟨z7, hz7⟩ := own_has hownC j 7 (by omega) (by omega)
                            simp only [Nat.add_zero] at hz0
                            have hfr := own_freeR hownC
                            have f1 : ¬ blk < W1.heap.size := by omega
                            have f2 : ¬ b16 < W1.heap.size := by omega
                            have HOW := hide hown8
                            clear hown8 hgrC hr16C
                            go_wp2_with fail
                            go_roundw
                            case rel => exact ⟨k4 + 1, L.take j ++ o :: L.drop j, by omega, by go_num, gr_of (by with_reducible exact below_set8 (grow_below W1 G) hle7), (by have h := HI.out; rw [HJ.out] at h; exact h), (by have h := HOW.out; rw [ins_set L o j hj] at h; rw [ins_len L o j hj]; with_reducible exact h)⟩
                            case measure => simp [intOf]; omega
            · obtain rfl : k4 = Al.length := by omega
              go_wp2_with fail
              go_ret2
              obtain ⟨G, hG⟩ := gr_of (HB1.out.trans ((grow_below W1 g4).mono hB1s))
              refine ⟨L, _, G, ?_, rfl, hG, ?_⟩
              · rw [HEND.out]; exact refInv_end HINV.out
              · rw [← hG]; exact own_mono hown hB1s
end Go.Proofs.Ytpgjbiapghembaa
