/-
  Walk of via.All: its result is the plain list of ports, hop by hop. Conditions: none.
-/
import Derived.Test.YtihaplieedefcaaAll
namespace Go.Proofs.Ytihaplieedefcaa
open Go.RowKit
set_option maxHeartbeats 400000
set_option maxRecDepth 100000

theorem info_via : (Try.prog.info? 78).map (fun i => (i.zero, i.size, i.bytes)) = some (some (.agg #[.int .i64 0, .int .i64 0, .int .i64 0]), 3, 24) := by kernel_rfl
theorem app_viak {ops : Array Oper} {rest : List Oper} {o : Oper} {a : Act} {Q : Exit → Act → World → Prop} (W0 W : World) (hB : Below W0.heap.size W0 W) (hgd : o.guard = none) (s x : Operand)
    (ho : o.op = .call { callee := .builtin .append, args := #[s, x], argTypes := #[74, 74] })
    (v : Value) (n : Nat) (xs : List Value) (hs : a.eval s = v) (hown : W.ownsRow W0.heap.size 78 3 v n xs)
    (b c : Nat) (y1 y2 y3 : Int) (et : TypeId) (hx : a.eval x = .slice (some ⟨b, 0, none⟩) 1 c) (hb : b = W.heap.size) (hn : n ≤ 1000000)
    (h : ∀ (g : Gr W0) (blk cap : Nat), W0.heap.size ≤ blk → (∀ b' o, b' < W.heap.size → v.ownBlock ≠ some b' → cellRaw (grow W0 g) b' o = W.cell? ⟨b', o, none⟩) → W.grownBy (grow W0 g) v.ownBlock → (grow W0 g).ownsRow W0.heap.size 78 3 (.slice (some ⟨blk, 0, none⟩) (n + 1) cap) (n + 1) (xs ++ encV ⟨y1, y2, y3⟩) → wpList Try.prog ops Q rest (a.put o.dst (.slice (some ⟨blk, 0, none⟩) (n + 1) cap)) (grow W0 g)) :
    wpList Try.prog ops Q (o :: rest) a (W.alloc (.cells #[.int .i64 y1, .int .i64 y2, .int .i64 y3] et)) := by
  obtain ⟨i0, hi, hz0, hz1, hz2⟩ := info_parts info_via
  exact wpList_append_grk W0 W hB hgd s x 74 ho 78 i0 _ 3 24 Try.underlying74 hi hz0 hz1 hz2 rfl (by decide) v n xs hs hown b 1 c (encV ⟨y1, y2, y3⟩) et hx hb rfl (by intro u hu; simp [encV] at hu; rcases hu with rfl | rfl | rfl <;> rfl) (by decide) (by simp only [maxLen]; omega) (by omega) h
theorem vfGo_ok : ∀ (l seen : List Vi), vfGo seen l = 0 → ∀ v ∈ l, 1 ≤ v.hop ∧ v.hop ≤ 999 ∧ 0 ≤ v.port ∧ v.port ≤ 999 ∧ 0 ≤ v.next ∧ v.next ≤ 999
  | [], _, _, v, hv => by simp at hv
  | u :: l, seen, h, v, hv => by
    unfold vfGo at h
    split at h
    · omega
    · split at h
      · omega
      · split at h
        · omega
        · split at h
          · omega
          · rcases List.mem_cons.1 hv with e | e
            · subst e
              omega
            · exact vfGo_ok l _ h v e
theorem vfault_ok {l : List Vi} (h : vfault l = 0) {x : Int} {v : Vi} (hv : vmap l x = some v) : v.hop = x ∧ 1 ≤ v.hop ∧ v.hop ≤ 999 ∧ 0 ≤ v.port ∧ v.port ≤ 999 ∧ 0 ≤ v.next ∧ v.next ≤ 999 := by
  unfold vfault at h
  split at h
  · omega
  · unfold vmap at hv
    have h1 := List.mem_of_find?_eq_some hv
    have h2 := List.find?_some hv
    exact ⟨by simpa using h2, vfGo_ok l _ h v h1⟩
theorem known_0 (A : Option Addr) (n c : Nat) (l : List Vi) (w : World) (hl : Rd w 3 A n encV l) (hn : n ≤ c) (hc : c ≤ 9223372036854775807) (h0 : vfault l = 0) :
    Calls Try.prog 76 #[.slice A n c] w fun e w' => ∃ (b : Nat) (g : Gr w), e = .returned (.tuple #[.map (some b), .int .i64 0]) ∧ w' = grow w g ∧ w.heap.size ≤ b ∧ viaTy.At (grow w g) b l.length (vmap l) :=
  (known_any A n c l w hl hn hc).mono fun e w' ⟨g, hw, h⟩ => by
    rcases h with ⟨h, _⟩ | ⟨_, b, he, hb, ha⟩
    · exact absurd h0 h
    · exact ⟨b, g, he, hw, hb, ha⟩
theorem known_1 (A : Option Addr) (n c : Nat) (l : List Vi) (w : World) (hl : Rd w 3 A n encV l) (hn : n ≤ c) (hc : c ≤ 9223372036854775807) (h0 : vfault l ≠ 0) :
    Calls Try.prog 76 #[.slice A n c] w (Ret (.tuple #[.map none, .int .i64 (vfault l)]) w) :=
  (known_any A n c l w hl hn hc).mono fun e w' ⟨g, hw, h⟩ => by
    rcases h with ⟨_, h⟩ | ⟨h, _⟩
    · exact ⟨h, g, hw⟩
    · exact absurd h h0
theorem all_bad (A : Option Addr) (n c : Nat) (l : List Vi) (w : World) (hl : Rd w 3 A n encV l) (hn : n ≤ c) (hc : c ≤ 9223372036854775807) (h0 : vfault l ≠ 0) :
    Calls Try.prog 32 #[.slice A n c] w (Ret (.tuple #[.slice none 0 0, .int .i64 (vfault l)]) w) := by
  have hb1 : (vfault l != 0) = true := by simpa using h0
  have H := known_1 A n c l w hl hn hc h0
  go_enter Try.func32, Try.ntmps32
  go_wp2_with (go_at_call 76; refine (H).mono ?_; rintro e w' ⟨rfl, g, rfl⟩)
  go_ret2
  exact ret_eq rfl (by (repeat (first | exact Below.refl _ _ | assumption | apply below_alloc | apply below_grow | apply below_setCell | apply below_drew)); all_goals first | omega | (simp [go_sem]; done) | (simp [go_sem]; omega))
theorem fm_snoc (f : Int → Option Vi) (seen : List Int) (x p d z : Int) (h : portF f x = (p, d, z)) : (seen ++ [x]).filterMap (vres f) = seen.filterMap (vres f) ++ (if z = 0 then [⟨x, p, 0⟩] else []) := by
  have hv : vres f x = if z = 0 then some ⟨x, p, 0⟩ else none := by unfold vres; rw [h]
  rw [List.filterMap_append]
  by_cases hz : z = 0
  · rw [if_pos hz] at hv; simp [hv, hz]
  · rw [if_neg hz] at hv; simp [hv, hz]
theorem all_good (A : Option Addr) (n c : Nat) (l : List Vi) (w : World) (hl : Rd w 3 A n encV l) (hn : n ≤ c) (hc : c ≤ 9223372036854775807) (h0 : vfault l = 0) :
    Calls Try.prog 32 #[.slice A n c] w fun e w' => ∃ (v : Value) (g : Gr w), e = .returned (.tuple #[v, .int .i64 0]) ∧ w' = grow w g ∧ (grow w g).ownsRow w.heap.size 78 3 v (vall (vmap l)).length ((vall (vmap l)).flatMap encV) := by
  have H := known_0 A n c l w hl hn hc h0
  have HL := hide (hl.1)
  have H60 : l.length ≤ 60 := by
    unfold vfault at h0
    split at h0 <;> omega
  go_enter Try.func32, Try.ntmps32
  go_wp2_with (first | (go_at_call 76; refine H.mono ?_; rintro e w' ⟨b, g0, rfl, rfl, hle, hat⟩) | (at_range; refine map_range viaTy w _ (by (repeat (first | exact Below.refl _ _ | assumption | apply below_alloc | apply below_grow | apply below_setCell | apply below_drew)); all_goals first | omega | (simp [go_sem]; done) | (simp [go_sem]; omega)) (by rfl) _ (by rfl) b l.length (vmap l) (by rfl) hat ?_; intro g1 cnt hcnt hrg))
  go_frame
  have hr0 : w.heap.size ≤ (grow w g0).heap.size := g0.2.size
  generalize (grow w g0).heap.size = r at hrg hr0
  clear hat H
  go_loopw [6] (fun v wr => ∃ (g : Gr w) (seen : List Int) (cnt : Nat), wr = grow w g ∧ seen.length + cnt ≤ l.length ∧ viaTy.Ranges (grow w g) b r l.length (vmap l) seen cnt ∧ (grow w g).ownsRow w.heap.size 78 3 v (seen.filterMap (vres (vmap l))).length ((seen.filterMap (vres (vmap l))).flatMap encV)) (fun _ wr => wr.rangeLeft b r)
  case atStart => exact ⟨g1, [], cnt, rfl, by simpa using hcnt, hrg, own_nil _ _ _ _⟩
  case round =>
    clear hrg hcnt
    obtain ⟨g, seen, cnt, rfl, hcnt, hrg, hown⟩ := hrel
    go_wp2_with (at_next; refine map_next viaTy w _ (by (repeat (first | exact Below.refl _ _ | assumption | apply below_alloc | apply below_grow | apply below_setCell | apply below_drew)); all_goals first | omega | (simp [go_sem]; done) | (simp [go_sem]; omega)) (by rfl) _ (by rfl) b r l.length (vmap l) seen cnt (by rfl) hrg hr0 ?_ ?_)
    · intro hdone
      have HD := hide hdone
      have HR := hide hrg
      clear hdone hrg
      go_wp2_with (go_at_call 78; refine (viaSort w _ (by (repeat (first | exact Below.refl _ _ | assumption | apply below_alloc | apply below_grow | apply below_setCell | apply below_drew)); all_goals first | omega | (simp [go_sem]; done) | (simp [go_sem]; omega)) w.heap.size (Nat.le_refl _) _ _ _ hown (by have := List.length_filterMap_le (vres (vmap l)) seen; omega)).mono ?_; rintro e w' ⟨rfl, l', g2, rfl, hp, hs, hown2⟩)
      go_ret2
      refine ⟨_, g2, rfl, rfl, ?_⟩
      obtain ⟨_, _, _, _, hnd, hmem, _⟩ := HR.out
      have hf : ∀ h v, vmap l h = some v → 1 ≤ h ∧ h ≤ 999 := fun h v hv => by have := vfault_ok h0 hv; omega
      have e := vall_of_sorted (vmap l) hf seen hnd (fun h => ?_) l' hp hs
      · rw [← e, hp.length_eq]
        exact hown2
      · constructor
        · intro h1
          obtain ⟨v, hv⟩ := Option.isSome_iff_exists.1 h1
          have := hf h v hv
          exact (HD.out h (wf_i64 (by omega) (by omega))).1 h1
        · intro h1
          exact (hmem h h1).2
    · intro g2 x u cnt2 hok hfx hns hrg2 hlt hle2 hen hgr
      have hv := vfault_ok h0 hfx
      have hx1 : 1 ≤ x := by omega
      have hx2 : x ≤ 999 := by omega
      have hown2 := hown.kept hgr (.inr (Ne.symm (hrg.ne_row hown)))
      have HLT := hide hlt
      have HLE := hide hle2
      have HC := hide hcnt
      rcases hpf : portF (vmap l) x with ⟨p, d, z⟩
      have HP : ∀ g3 : Gr (grow w g2), Calls Try.prog 77 #[.map (some b), .int .i64 x] (grow w g2) (Ret (.tuple #[.int .i64 p, .int .i64 d, .int .i64 z]) (grow w g2)) := fun _ => by
        have := port_any b l.length (vmap l) x (grow w g2) hrg2.at_ hok fun h v hv => by
          have := vfault_ok h0 hv
          exact wf_i64 (by omega) (by omega)
        rw [hpf] at this
        exact this
      have hfm := fm_snoc (vmap l) seen x p d z hpf
      have HF := hide hfm
      clear hfm hown hrg hlt hle2 hcnt hgr hfx
      by_cases hz : z = 0
      · subst hz
        have HO := hide hown2
        have hlen : (seen.filterMap (vres (vmap l))).length ≤ 1000000 := by have := List.length_filterMap_le (vres (vmap l)) seen; have := HC.out; omega
        go_wp2_with (first | (go_at_call 77; refine ((HP ⟨_, Below.refl _ _⟩)).mono ?_; rintro e w' ⟨rfl, g, rfl⟩) | (at_builtin; refine app_viak w _ (by (repeat (first | exact Below.refl _ _ | assumption | apply below_alloc | apply below_grow | apply below_setCell | apply below_drew)); all_goals first | omega | (simp [go_sem]; done) | (simp [go_sem]; omega)) (by rfl) _ _ (by rfl) u6 _ _ (by rfl) (by repeat (first | with_reducible exact HO.out | apply own_grow | apply World.ownsRow.alloc | (refine own_far ?_ _ _ _ (by simp [go_sem, Value.ownBlock]; try omega)))) _ _ _ _ _ _ (by rfl) (by simp [go_sem]) hlen ?_; intro g5 blk cap hle5 _ hgrow5 hown5; have HOG := own_grow HO.out g; have HRG := hrg2.grow g; have HRK := HRG.kept hgrow5 (HRG.at_.ne_row HOG) (HRG.ne_row HOG)))
        go_roundw
        case rel => exact ⟨g5, seen ++ [x], cnt2, rfl, by have := HC.out; have := HLT.out; simp; omega, HRK, by rw [HF.out, if_pos trivial, flat_snoc, List.length_append]; exact hown5⟩
        case measure =>
          rw [HLE.out, MapTy.Ranges.left HRK]
          exact HLT.out
      · have hz1 : (z == 0) = false := by simpa using hz
        have HZ := hide hz
        clear hz
        go_wp2_with (go_at_call 77; refine ((HP ⟨_, Below.refl _ _⟩)).mono ?_; rintro e w' ⟨rfl, g, rfl⟩)
        go_roundw
        case rel => exact ⟨⟨grow (grow w g2) g, (by (repeat (first | exact Below.refl _ _ | assumption | apply below_alloc | apply below_grow | apply below_setCell | apply below_drew)); all_goals first | omega | (simp [go_sem]; done) | (simp [go_sem]; omega))⟩, seen ++ [x], cnt2, rfl, by have := HC.out; have := HLT.out; simp; omega, hrg2.grow g, by rw [HF.out, if_neg HZ.out, List.append_nil]; exact own_grow hown2 g⟩
        case measure =>
          rw [HLE.out, MapTy.Ranges.left (hrg2.grow _)]
          exact HLT.out
end Go.Proofs.Ytihaplieedefcaa
