/-
  The best offers: what the loop over the live ones keeps; append and sort at offers. Conditions: none.
-/
import Derived.Test.YtpgjbiapghembaaBestPlain
import Derived.Test.YtpgjbiapghembaaSortShelf
namespace Go.Proofs.Ytpgjbiapghembaa
open Go.RowKit
set_option maxHeartbeats 400000
set_option maxRecDepth 100000

def Ky.pf (k : Ky) : Ad × Int := (k.ad, k.len)
theorem ky_pf (o : Ofr) : o.ky.pf = o.pf := rfl
/-- g: the best of those whose keys are in seen, prefix by prefix. -/
def BestInv (f : Ky → Option Ofr) (seen : List Ky) (g : Ad × Int → Option Ofr) : Prop :=
  (∀ p, g p = none → ∀ k ∈ seen, k.pf ≠ p) ∧ (∀ p o, g p = some o → o.pf = p ∧ o.ky ∈ seen ∧ f o.ky = some o) ∧
    ∀ k ∈ seen, ∀ o b, f k = some o → g k.pf = some b → ¬ worth o < worth b
theorem bestInv_nil (f : Ky → Option Ofr) : BestInv f [] fun _ => none := ⟨by simp, by simp, by simp⟩
theorem bestInv_put {f : Ky → Option Ofr} {seen : List Ky} {g : Ad × Int → Option Ofr} (h : BestInv f seen g) {x : Ky} {u : Ofr} (hx : f x = some u) (hu : u.ky = x) (hb : ∀ b, g u.pf = some b → worth u < worth b) : BestInv f (seen ++ [x]) (upd g u.pf (some u)) := by
  obtain ⟨h1, h2, h3⟩ := h
  have hxp : x.pf = u.pf := by rw [← hu]; rfl
  refine ⟨fun p hp k hk => ?_, fun p o hp => ?_, fun k hk o b ho hb2 => ?_⟩
  · by_cases e : p = u.pf
    · subst e; rw [upd_same] at hp; cases hp
    · rw [upd_other _ e] at hp
      rcases List.mem_append.1 hk with hk | hk
      · exact h1 p hp k hk
      · simp only [List.mem_singleton] at hk
        subst hk
        rw [hxp]
        exact fun h => e h.symm
  · by_cases e : p = u.pf
    · subst e
      rw [upd_same] at hp
      cases hp
      exact ⟨rfl, List.mem_append.2 (.inr (by simp [hu])), by rw [hu]; exact hx⟩
    · rw [upd_other _ e] at hp
      obtain ⟨a, b, c⟩ := h2 p o hp
      exact ⟨a, List.mem_append.2 (.inl b), c⟩
  · by_cases e : k.pf = u.pf
    · rw [e, upd_same] at hb2
      cases hb2
      rcases List.mem_append.1 hk with hk | hk
      · cases hg : g u.pf with
        | none => exact absurd e (h1 _ hg k hk)
        | some b =>
          have g1 := hb b hg
          have g2 := h3 k hk o b ho (e ▸ hg)
          omega
      · simp only [List.mem_singleton] at hk
        subst hk
        rw [hx] at ho
        cases ho
        omega
    · rw [upd_other _ e] at hb2
      rcases List.mem_append.1 hk with hk | hk
      · exact h3 k hk o b ho hb2
      · simp only [List.mem_singleton] at hk
        subst hk
        exact absurd hxp e
theorem bestInv_skip {f : Ky → Option Ofr} {seen : List Ky} {g : Ad × Int → Option Ofr} (h : BestInv f seen g) {x : Ky} {u b : Ofr} (hx : f x = some u) (hu : u.ky = x) (hg : g u.pf = some b) (hb : ¬ worth u < worth b) : BestInv f (seen ++ [x]) g := by
  obtain ⟨h1, h2, h3⟩ := h
  have hxp : x.pf = u.pf := by rw [← hu]; rfl
  refine ⟨fun p hp k hk => ?_, fun p o hp => ?_, fun k hk o b' ho hb2 => ?_⟩
  · rcases List.mem_append.1 hk with hk | hk
    · exact h1 p hp k hk
    · simp only [List.mem_singleton] at hk
      subst hk
      intro e
      rw [← e, hxp, hg] at hp
      cases hp
  · obtain ⟨a, b, c⟩ := h2 p o hp
    exact ⟨a, List.mem_append.2 (.inl b), c⟩
  · rcases List.mem_append.1 hk with hk | hk
    · exact h3 k hk o b' ho hb2
    · simp only [List.mem_singleton] at hk
      subst hk
      rw [hx] at ho
      cases ho
      rw [hxp, hg] at hb2
      cases hb2
      exact hb
/-- When all live keys were seen, the map's values are the best. -/
theorem bestInv_mem {l : List Ofr} (hv : ∀ o ∈ l, 0 ≤ o.met ∧ o.met ≤ 999 ∧ 0 ≤ o.peer ∧ o.peer ≤ 999) {seen : List Ky} {g : Ad × Int → Option Ofr} (h : BestInv (liveF l) seen g) (hs : ∀ k, (liveF l k).isSome = true ↔ k ∈ seen) (o : Ofr) : g o.pf = some o ↔ o ∈ alive l ∧ isBest (alive l) o = true := by
  have hm : ∀ o ∈ l, o.met ≤ 999 := fun o ho => (hv o ho).2.1
  obtain ⟨h1, h2, h3⟩ := h
  have live : ∀ p ∈ alive l, liveF l p.ky = some p := fun p hp => (liveF_iff l hm _ _).2 ⟨hp, rfl⟩
  have isin : ∀ p ∈ alive l, p.ky ∈ seen := fun p hp => (hs _).1 (by rw [live p hp]; rfl)
  constructor
  · intro hg
    obtain ⟨_, b, c⟩ := h2 _ _ hg
    have ho := ((liveF_iff l hm _ _).1 c).1
    refine ⟨ho, ?_⟩
    unfold isBest
    rw [List.all_eq_true]
    intro p hp
    rw [decide_eq_true_iff]
    intro e
    exact h3 p.ky (isin p hp) p o (live p hp) (by rw [ky_pf, e]; exact hg)
  · rintro ⟨ho, hb⟩
    cases hg : g o.pf with
    | none => exact absurd rfl (h1 _ hg o.ky (isin o ho))
    | some b =>
      obtain ⟨b1, b2, b3⟩ := h2 _ _ hg
      have hbl := ((liveF_iff l hm _ _).1 b3).1
      have g1 := h3 o.ky (isin o ho) o b (live o ho) hg
      unfold isBest at hb
      rw [List.all_eq_true] at hb
      have g2 := hb b hbl
      rw [decide_eq_true_iff] at g2
      have g3 := g2 b1
      have v1 := hv o (alive_sub _ _ ho)
      have v2 := hv b (alive_sub _ _ hbl)
      unfold worth at g1 g3
      have e1 : o.src = b.src := by omega
      have e2 : o.met = b.met := by omega
      have e3 : o.peer = b.peer := by omega
      have ek : b.ky = o.ky := by
        have q := congrArg Prod.fst b1
        have q2 := congrArg Prod.snd b1
        simp only [Ofr.pf] at q q2
        simp only [Ofr.ky, q, q2, e1, e3]
      rw [ek, live o ho] at b3
      exact b3.symm
theorem encS_len (x : Ofs) : (encS x).length = 8 := rfl
theorem bestSort (W0 W : World) (hB : Below W0.heap.size W0 W) (base : Nat) (hb : W0.heap.size ≤ base) (v : Value) (n : Nat) (l : List Ofr) (hl : ∀ o ∈ l, o.ad.wf ∧ 0 ≤ o.len ∧ o.len ≤ 128) (hown : W.ownsRow base 44 8 v n (l.flatMap encO)) (hn : n < 4611686018427387904) :
    Calls Try.prog 33 #[v, .func (.func 34) #[] #[]] W fun e w' => e = .returned (.tuple #[]) ∧ ∃ (l' : List Ofr) (G : Gr W0), w' = grow W0 G ∧ l'.Perm l ∧ l'.Pairwise (fun x y => ¬ pfLess y.pf x.pf) ∧ (grow W0 G).ownsRow base 44 8 v n (l'.flatMap encO) := by
  obtain ⟨L, rfl⟩ : ∃ L : List Ofs, L.map (·.1) = l := ⟨l.attach.map fun x => ⟨x.1, hl x.1 x.2⟩, by simp⟩
  have e : ∀ M : List Ofs, (M.map (·.1)).flatMap encO = M.flatMap encS := fun M => by rw [List.flatMap_map]; rfl
  rw [e] at hown
  refine (sort_any Try.sortOffer 8 Try.isAgg44 Try.sizeOf44 encS encS_len (fun x v hv => by simp [encS, encO] at hv; rcases hv with rfl | rfl | rfl | rfl | rfl | rfl | rfl | rfl <;> rfl) cfS swoS 34 #[] (enters_of Try.func34 (by kernel_rfl) rfl) cmpS W0 W hB base hb 44 v n L hown (by decide) hn).mono ?_
  rintro _ w' ⟨rfl, l', G, rfl, hp, hs, ho⟩
  refine ⟨rfl, l'.map (·.1), G, rfl, hp.map _, ?_, by rw [e]; exact ho⟩
  rw [List.pairwise_map]
  refine hs.imp ?_
  intro x y h
  rw [Bool.eq_false_iff, ne_eq, ltS] at h
  exact h
theorem info_ofr : (Try.prog.info? 44).map (fun i => (i.zero, i.size, i.bytes)) = some (some (.agg #[.bool false, .int .u64 0, .int .u64 0, .int .i64 0, .int .i64 0, .int .i64 0, .int .i64 0, .int .i64 0]), 8, 64) := by kernel_rfl
theorem app_ofrk {ops : Array Oper} {rest : List Oper} {o : Oper} {a : Act} {Q : Exit → Act → World → Prop} (W0 W : World) (hB : Below W0.heap.size W0 W) (hgd : o.guard = none) (s x : Operand)
    (ho : o.op = .call { callee := .builtin .append, args := #[s, x], argTypes := #[24, 24] })
    (v : Value) (n : Nat) (xs : List Value) (hs : a.eval s = v) (hown : W.ownsRow W0.heap.size 44 8 v n xs)
    (b c : Nat) (y : Ofr) (et : TypeId) (hx : a.eval x = .slice (some ⟨b, 0, none⟩) 1 c) (hb : b = W.heap.size) (hn : n ≤ 1000000)
    (h : ∀ (g : Gr W0) (blk cap : Nat), W0.heap.size ≤ blk → (∀ b' o, b' < W.heap.size → v.ownBlock ≠ some b' → cellRaw (grow W0 g) b' o = W.cell? ⟨b', o, none⟩) → W.grownBy (grow W0 g) v.ownBlock → (grow W0 g).ownsRow W0.heap.size 44 8 (.slice (some ⟨blk, 0, none⟩) (n + 1) cap) (n + 1) (xs ++ encO y) → wpList Try.prog ops Q rest (a.put o.dst (.slice (some ⟨blk, 0, none⟩) (n + 1) cap)) (grow W0 g)) :
    wpList Try.prog ops Q (o :: rest) a (W.alloc (.cells #[.bool y.ad.six, .int .u64 (y.ad.hi : Nat), .int .u64 (y.ad.lo : Nat), .int .i64 y.len, .int .i64 y.src, .int .i64 y.peer, .int .i64 y.met, .int .i64 y.hop] et)) := by
  obtain ⟨i0, hi, hz0, hz1, hz2⟩ := info_parts info_ofr
  exact wpList_append_grk W0 W hB hgd s x 24 ho 44 i0 _ 8 64 Try.underlying24 hi hz0 hz1 hz2 rfl (by decide) v n xs hs hown b 1 c (encO y) et hx hb rfl (by intro u hu; simp [encO] at hu; rcases hu with rfl | rfl | rfl | rfl | rfl | rfl | rfl | rfl <;> rfl) (by decide) (by simp only [maxLen]; omega) (by omega) h
end Go.Proofs.Ytpgjbiapghembaa
