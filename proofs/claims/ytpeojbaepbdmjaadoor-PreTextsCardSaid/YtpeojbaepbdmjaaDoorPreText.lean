/-
  Walks of pre.Of, pre.Text, the references' PreText and the law PreTexts. Conditions: the words of an address are 64-bit numbers; the length is an int; the tables of the library hold what their text says.
-/
import Derived.Test.YtpeojbaepbdmjaaDoorTextLaw
import Derived.Test.YtpeojbaepbdmjaaDoorRefPre
namespace Go.Proofs.YtpeojbaepbdmjaaDoor
open Go.RowKit Go.Lib
set_option maxHeartbeats 1600000
set_option maxRecDepth 100000

theorem sixT_len (l : List Nat) (hl : l.length = 8) (h : ∀ x ∈ l, x < 65536) : (sixT l).length ≤ 1000 := by
  have h1 := hexT_len l h
  have h2 := hexT_len (l.take (runR l).1) (fun x hx => h x (List.mem_of_mem_take hx))
  have h3 := hexT_len (l.drop ((runR l).1 + (runR l).2)) (fun x hx => h x (List.mem_of_mem_drop hx))
  rw [List.length_take] at h2
  rw [List.length_drop] at h3
  unfold sixT
  split
  · omega
  · simp only [List.length_append, List.length_cons, List.length_nil]
    omega
theorem ofT_len (six : Bool) (hi lo : Nat) : (ofT six hi lo).length ≤ 1000 := by
  unfold ofT
  split
  · exact sixT_len _ (by simp [grpL]) (grpL_lt hi lo)
  · exact dotT_len lo
def preT (six : Bool) (hi lo n : Nat) : List UInt8 := ofT six hi lo ++ [47] ++ Lib.decDigits n
theorem itoa_any (n : Nat) (hn : n < 1000) (w : World) (hT : Tabs w) : Calls Tryd.prog 25 #[.int .i64 n] w (Ret (.string ⟨(Lib.decDigits n).toArray⟩) w) := by
  refine (Tryd.strconv_Itoa n (by omega) (by omega) w (hT.2 w (Below.refl _ _)).2).mono ?_
  rintro e w' ⟨rfl, k, os, rfl⟩
  rw [Lib.itoa_nonneg]
  exact ret_of (Lib.below_grow _ _ (Nat.le_refl _) _ _)
theorem preOf_any (six : Bool) (hi lo n : Nat) (w : World) (h1 : hi < 18446744073709551616) (h2 : lo < 18446744073709551616) (hn : n ≤ 128) (hT : Tabs w) :
    Calls Tryd.prog 15 #[.agg #[.bool six, .int .u64 hi, .int .u64 lo, .int .i64 n]] w (Ret (.string ⟨(preT six hi lo n).toArray⟩) w) := by
  have hA : ∀ G : Gr (w.alloc (.cells #[.bool six, .int .u64 hi, .int .u64 lo, .int .i64 n] 30)), Calls Tryd.prog 10 #[.agg #[.bool six, .int .u64 hi, .int .u64 lo]] (grow (w.alloc (.cells #[.bool six, .int .u64 hi, .int .u64 lo, .int .i64 n] 30)) G) (Ret (.string ⟨(ofT six hi lo).toArray⟩) (grow (w.alloc (.cells #[.bool six, .int .u64 hi, .int .u64 lo, .int .i64 n] 30)) G)) := fun G => of_any six hi lo _ h1 h2 (hT.on (by (repeat (first | exact Below.refl _ _ | assumption | apply below_alloc | apply below_grow | apply below_setCell | apply below_drew)); all_goals first | omega | (simp [go_sem]; done) | (simp [go_sem]; omega)))
  have hI : ∀ G : Gr (w.alloc (.cells #[.bool six, .int .u64 hi, .int .u64 lo, .int .i64 n] 30)), Calls Tryd.prog 25 #[.int .i64 n] (grow (w.alloc (.cells #[.bool six, .int .u64 hi, .int .u64 lo, .int .i64 n] 30)) G) (Ret (.string ⟨(Lib.decDigits n).toArray⟩) (grow (w.alloc (.cells #[.bool six, .int .u64 hi, .int .u64 lo, .int .i64 n] 30)) G)) := fun G => itoa_any n (by omega) _ (hT.on (by (repeat (first | exact Below.refl _ _ | assumption | apply below_alloc | apply below_grow | apply below_setCell | apply below_drew)); all_goals first | omega | (simp [go_sem]; done) | (simp [go_sem]; omega)))
  have hx := ofT_len six hi lo
  have hd := decDigits_len n (by omega)
  have HP := hide (p := preT six hi lo n = ofT six hi lo ++ [47] ++ Lib.decDigits n) rfl
  clear hT
  generalize ofT six hi lo = X at *
  generalize Lib.decDigits n = D at *
  have a1 : ∀ W, (Op.stringOp .add ⟨X.toArray⟩ ⟨#[47]⟩).run Tryd.prog W = .ok (.string ⟨(X ++ [47]).toArray⟩) W := fun W => run_string_add_lists W X [47] (by omega) (by simp)
  have a2 : ∀ W, (Op.stringOp .add ⟨(X ++ [47]).toArray⟩ ⟨D.toArray⟩).run Tryd.prog W = .ok (.string ⟨(X ++ [47] ++ D).toArray⟩) W := fun W => run_string_add_lists W (X ++ [47]) D (by simp; omega) (by omega)
  go_enter Tryd.func15, Tryd.ntmps15
  go_wp2_with fail
  (refine wp_region_grow (by kernel_rfl) (by kernel_rfl) ?_; (repeat (go_big_quiet_step ((first | (go_at_call 10; exact gr_ret (hA _)) | (go_at_call 25; exact gr_ret (hI _)))))); refine wpQuiet_nil ?_; rintro _ ⟨gq, rfl⟩)
  go_wp2_with fail
  go_ret
  exact ret_eq (by rw [HP.out, List.append_assoc]; rfl) (by (repeat (first | exact Below.refl _ _ | assumption | apply below_alloc | apply below_grow | apply below_setCell | apply below_drew)); all_goals first | omega | (simp [go_sem]; done) | (simp [go_sem]; omega))
theorem preText_any (six : Bool) (hi lo : Nat) (n : Int) (w : World) (h1 : hi < 18446744073709551616) (h2 : lo < 18446744073709551616) (hT : Tabs w) :
    Calls Tryd.prog 7 #[.agg #[.bool six, .int .u64 hi, .int .u64 lo, .int .i64 n]] w (Ret (if checkZ ⟨six, hi, lo⟩ n = 0 then .tuple #[.string ⟨(preT six hi lo n.toNat).toArray⟩, .int .i64 0] else .tuple #[.string ⟨#[]⟩, .int .i64 (checkZ ⟨six, hi, lo⟩ n)]) w) := by
  have HT := hide hT
  clear hT
  by_cases hz : checkZ ⟨six, hi, lo⟩ n = 0
  · obtain ⟨_, hn0, hn1, _⟩ := (checkZ_ok ⟨six, hi, lo⟩ n ⟨h1, h2⟩).1 hz
    have hwd : wd six ≤ 128 := by cases six <;> decide
    simp only at hn1
    obtain ⟨m, rfl⟩ := Int.eq_ofNat_of_zero_le hn0
    have hb : (checkZ ⟨six, hi, lo⟩ (m : Nat) != 0) = false := by simpa using hz
    rw [if_pos hz]
    have hO := fun w hT => preOf_any six hi lo m w h1 h2 (by omega) hT
    clear hz
    go_enter Tryd.func7, Tryd.ntmps7
    go_wp2_with (first | (go_at_call 14; refine (check_any _ _ _ _ _ h1 h2).mono ?_; rintro e w' ⟨rfl, g, rfl⟩) | (go_at_call 15; refine (hO _ (HT.out.on (by (repeat (first | exact Below.refl _ _ | assumption | apply below_alloc | apply below_grow | apply below_setCell | apply below_drew)); all_goals first | omega | (simp [go_sem]; done) | (simp [go_sem]; omega)))).mono ?_; rintro e w' ⟨rfl, g2, rfl⟩))
    go_ret2
    exact ret_eq rfl (by (repeat (first | exact Below.refl _ _ | assumption | apply below_alloc | apply below_grow | apply below_setCell | apply below_drew)); all_goals first | omega | (simp [go_sem]; done) | (simp [go_sem]; omega))
  · have hb : (checkZ ⟨six, hi, lo⟩ n != 0) = true := by simpa using hz
    rw [if_neg hz]
    clear hz
    go_enter Tryd.func7, Tryd.ntmps7
    go_wp2_with (go_at_call 14; refine (check_any _ _ _ _ _ h1 h2).mono ?_; rintro e w' ⟨rfl, g, rfl⟩)
    go_ret2
    exact ret_eq rfl (by (repeat (first | exact Below.refl _ _ | assumption | apply below_alloc | apply below_grow | apply below_setCell | apply below_drew)); all_goals first | omega | (simp [go_sem]; done) | (simp [go_sem]; omega))
theorem refPreText_any (six : Bool) (hi lo : Nat) (n : Int) (w : World) (h1 : hi < 18446744073709551616) (h2 : lo < 18446744073709551616) :
    Calls Tryd.prog 8 #[.agg #[.bool six, .int .u64 hi, .int .u64 lo, .int .i64 n]] w (Ret (if checkZ ⟨six, hi, lo⟩ n = 0 then .tuple #[.string ⟨(preT six hi lo n.toNat).toArray⟩, .int .i64 0] else .tuple #[.string ⟨#[]⟩, .int .i64 (checkZ ⟨six, hi, lo⟩ n)]) w) := by
  by_cases hz : checkZ ⟨six, hi, lo⟩ n = 0
  · obtain ⟨hm, hn0, hn1, _⟩ := (checkZ_ok ⟨six, hi, lo⟩ n ⟨h1, h2⟩).1 hz
    have hwd : wd six ≤ 128 := by cases six <;> decide
    simp only at hn1
    obtain ⟨m, rfl⟩ := Int.eq_ofNat_of_zero_le hn0
    have hb : (checkZ ⟨six, hi, lo⟩ (m : Nat) != 0) = false := by simpa using hz
    rw [if_pos hz]
    have hR := fun w => refText_any six hi lo w h1 h2
    rw [if_pos hm] at hR
    have hR' : ∀ w, Calls Tryd.prog 6 #[.agg #[.bool six, .int .u64 hi, .int .u64 lo]] w (Ret (.tuple #[.string ⟨(ofT six hi lo).toArray⟩, .int .i64 0]) w) := hR
    have hI := numText_any 10 (.inl rfl) m (by omega)
    rw [digs10] at hI
    have hx := ofT_len six hi lo
    have hd := decDigits_len m (by omega)
    have HP := hide (p := preT six hi lo m = ofT six hi lo ++ [47] ++ Lib.decDigits m) rfl
    clear hz hR hm
    generalize ofT six hi lo = X at *
    generalize Lib.decDigits m = D at *
    have a1 : ∀ W, (Op.stringOp .add ⟨X.toArray⟩ ⟨#[47]⟩).run Tryd.prog W = .ok (.string ⟨(X ++ [47]).toArray⟩) W := fun W => run_string_add_lists W X [47] (by omega) (by simp)
    have a2 : ∀ W, (Op.stringOp .add ⟨(X ++ [47]).toArray⟩ ⟨D.toArray⟩).run Tryd.prog W = .ok (.string ⟨(X ++ [47] ++ D).toArray⟩) W := fun W => run_string_add_lists W (X ++ [47]) D (by simp; omega) (by omega)
    go_enter Tryd.func8, Tryd.ntmps8
    go_wp2_with (first | (go_at_call 16; refine (fault_any _ _ _ _ _ h1 h2).mono ?_; rintro e w' ⟨rfl, g, rfl⟩) | (go_at_call 6; refine (hR' _).mono ?_; rintro e w' ⟨rfl, g2, rfl⟩) | (go_at_call 13; refine (hI _).mono ?_; rintro e w' ⟨rfl, g3, rfl⟩))
    go_ret2
    exact ret_eq (by rw [show ((m : Nat) : Int).toNat = m from rfl, HP.out, List.append_assoc]; rfl) (by (repeat (first | exact Below.refl _ _ | assumption | apply below_alloc | apply below_grow | apply below_setCell | apply below_drew)); all_goals first | omega | (simp [go_sem]; done) | (simp [go_sem]; omega))
  · have hb : (checkZ ⟨six, hi, lo⟩ n != 0) = true := by simpa using hz
    rw [if_neg hz]
    clear hz
    go_enter Tryd.func8, Tryd.ntmps8
    go_wp2_with (go_at_call 16; refine (fault_any _ _ _ _ _ h1 h2).mono ?_; rintro e w' ⟨rfl, g, rfl⟩)
    go_ret2
    exact ret_eq rfl (by (repeat (first | exact Below.refl _ _ | assumption | apply below_alloc | apply below_grow | apply below_setCell | apply below_drew)); all_goals first | omega | (simp [go_sem]; done) | (simp [go_sem]; omega))
end Go.Proofs.YtpeojbaepbdmjaaDoor
