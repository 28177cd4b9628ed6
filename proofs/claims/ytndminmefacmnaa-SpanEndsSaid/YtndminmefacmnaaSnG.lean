/-
  Len, Less, Meet, apart; what the document tells of spans.
-/
import Derived.Test.YtndminmefacmnaaSnE
namespace Go.Proofs.Ytndminmefacmnaa
open Go.RowKit Go.Lib

theorem ret_int {a b : Int} (h : a = b) : Ending.returned (.int .i64 a) = .returned (.int .i64 b) := by rw [h]
theorem srB_eq (a b : Int) : srB a b = rightS ⟨a, b⟩ := rfl
theorem siB_eq (a b c d : Int) : siB a b c d = inS ⟨a, b⟩ ⟨c, d⟩ := by
  unfold siB inS rightS
  rw [Bool.eq_iff_iff]
  simp only [Bool.and_eq_true, decide_eq_true_eq]
  omega
theorem shB_eq (a b p : Int) : shB a b p = hasS ⟨a, b⟩ p := by
  unfold shB hasS rightS
  rw [Bool.eq_iff_iff]
  simp only [Bool.and_eq_true, decide_eq_true_eq]
  omega
def I63 (a : Int) : Prop := -9223372036854775808 ≤ a ∧ a ≤ 9223372036854775807
theorem sLen_any (a b : Int) (w : World) (hb : b ≤ 9223372036854775807) : Calls Try.prog 9 #[.agg #[.int .i64 a, .int .i64 b]] w fun e w' => e = .returned (.int .i64 (lenS ⟨a, b⟩)) ∧ Below w.heap.size w w' := by
  have HA := Lib.hid (fun u => (sRight_any a b u))
  cases h1 : srB a b
  all_goals
    rw [h1] at HA
    go_enter Try.func9, Try.ntmps9
    go_upto_region 1 with (fail)
    refine gen_world (S := fun u => Below w.heap.size w u ∧ u.heap[w.heap.size]? = some (.cells #[.int .i64 a, .int .i64 b] 23 (0, 0))) (one_new w _) (fun u hu => ?_)
    obtain ⟨hb0, hx⟩ := hu
    obtain ⟨x0, x1⟩ := two_box hx
    have HX := Lib.hid hx
    have HB := Lib.hid hb0
    obtain ⟨X, hX⟩ : ∃ X, X = w.heap.size := ⟨_, rfl⟩
    rw [← hX] at x0 x1 HX ⊢
    clear hb0 hx hX
    go_wp2_with fail
    refine (HA.out _).mono ?_
    rintro e uu ⟨rfl, hb⟩
    have hx := (hb.block _ (lt_of_block HX.out)).trans HX.out
    have hb0 := HB.out.trans (hb.mono HB.out.size)
    clear x0 x1 HX HB hb
    obtain ⟨x0, x1⟩ := two_box hx
    have HX := Lib.hid hx
    have HB := Lib.hid hb0
    clear hx hb0
    clear HX
  · have E := Lib.hid (show lenS ⟨a, b⟩ = 0 from if_neg (by rw [← srB_eq, h1]; simp))
    clear h1
    go_wp2
    go_ret
    exact ⟨ret_int E.out.symm, HB.out⟩
  · have E := Lib.hid (show lenS ⟨a, b⟩ = b - a from if_pos (by rw [← srB_eq, h1]))
    have h2 : 0 ≤ a ∧ a ≤ b := by simpa [srB] using h1
    obtain ⟨h3, h4⟩ := h2
    clear h1
    go_wp2
    go_ret
    exact ⟨ret_int E.out.symm, HB.out⟩
theorem rRight_any (a b : Int) (w : World) : Calls Try.prog 16 #[.agg #[.int .i64 a, .int .i64 b]] w fun e w' => e = .returned (.bool (srB a b)) ∧ Below w.heap.size w w' := by
  by_cases h1 : 0 ≤ a
  · by_cases h2 : a ≤ b
    all_goals
      go_enter Try.func16, Try.ntmps16
      go_wp2
      go_ret
      exact ⟨ret_bool (by simp [srB, h1, h2]), (Below.refl _ _).alloc (Nat.le_refl _) _⟩
  · go_enter Try.func16, Try.ntmps16
    go_wp2
    go_ret
    exact ⟨ret_bool (by simp [srB]; omega), (Below.refl _ _).alloc (Nat.le_refl _) _⟩
theorem rLen_any (a b : Int) (w : World) (hb : b ≤ 9223372036854775807) : Calls Try.prog 17 #[.agg #[.int .i64 a, .int .i64 b]] w fun e w' => e = .returned (.int .i64 (lenS ⟨a, b⟩)) ∧ Below w.heap.size w w' := by
  have HA := Lib.hid (fun u => (rRight_any a b u))
  cases h1 : srB a b
  all_goals
    rw [h1] at HA
    go_enter Try.func17, Try.ntmps17
    go_upto_region 1 with (fail)
    refine gen_world (S := fun u => Below w.heap.size w u ∧ u.heap[w.heap.size]? = some (.cells #[.int .i64 a, .int .i64 b] 23 (0, 0))) (one_new w _) (fun u hu => ?_)
    obtain ⟨hb0, hx⟩ := hu
    obtain ⟨x0, x1⟩ := two_box hx
    have HX := Lib.hid hx
    have HB := Lib.hid hb0
    obtain ⟨X, hX⟩ : ∃ X, X = w.heap.size := ⟨_, rfl⟩
    rw [← hX] at x0 x1 HX ⊢
    clear hb0 hx hX
    go_wp2_with fail
    refine (HA.out _).mono ?_
    rintro e uu ⟨rfl, hb⟩
    have hx := (hb.block _ (lt_of_block HX.out)).trans HX.out
    have hb0 := HB.out.trans (hb.mono HB.out.size)
    clear x0 x1 HX HB hb
    obtain ⟨x0, x1⟩ := two_box hx
    have HX := Lib.hid hx
    have HB := Lib.hid hb0
    clear hx hb0
    clear HX
  · have E := Lib.hid (show lenS ⟨a, b⟩ = 0 from if_neg (by rw [← srB_eq, h1]; simp))
    clear h1
    go_wp2
    go_ret
    exact ⟨ret_int E.out.symm, HB.out⟩
  · have E := Lib.hid (show lenS ⟨a, b⟩ = b - a from if_pos (by rw [← srB_eq, h1]))
    have h2 : 0 ≤ a ∧ a ≤ b := by simpa [srB] using h1
    obtain ⟨h3, h4⟩ := h2
    clear h1
    go_wp2
    go_ret
    exact ⟨ret_int E.out.symm, HB.out⟩
theorem rHas_any (a b p : Int) (w : World) : Calls Try.prog 18 #[.agg #[.int .i64 a, .int .i64 b], .int .i64 p] w fun e w' => e = .returned (.bool (shB a b p)) ∧ Below w.heap.size w w' := by
  have HA := Lib.hid (fun u => (rRight_any a b u))
  obtain ⟨q, hq⟩ : ∃ q, shB a b p = q := ⟨_, rfl⟩
  cases h1 : srB a b
  · have hq0 : q = false := by rw [← hq]; simp [srB, shB] at h1 ⊢; omega
    subst hq0
    rw [h1] at HA
    rw [hq]
    clear h1 hq
    go_enter Try.func18, Try.ntmps18
    go_wp2_with (go_at_call 16; refine (HA.out _).mono ?_; rintro e w' ⟨rfl, hb⟩)
    go_ret
    exact ⟨rfl, ((Below.refl _ _).alloc (Nat.le_refl _) _).trans (hb.mono (by simp))⟩
  · have h2 : 0 ≤ a ∧ a ≤ b := by simp [srB] at h1; omega
    obtain ⟨h3, h4⟩ := h2
    rw [h1] at HA
    rw [hq]
    clear h1
    have hq2 : q = (decide (a ≤ p) && decide (p < b)) := by rw [← hq]; simp [shB, h3, h4]
    have HQ2 := Lib.hid hq2
    clear hq hq2
    have fin : Hid (decide (a ≤ p) = true → q = decide (p < b)) := Lib.hid (fun h => by rw [HQ2.out, h, Bool.true_and])
    cases h7 : decide (a ≤ p)
    all_goals
      go_enter Try.func18, Try.ntmps18
      go_upto_region 1 with (fail)
      refine gen_world (S := fun u => Below w.heap.size w u ∧ u.heap[w.heap.size]? = some (.cells #[.int .i64 a, .int .i64 b] 23 (0, 0))) (one_new w _) (fun u hu => ?_)
      obtain ⟨hb0, hx⟩ := hu
      obtain ⟨x0, x1⟩ := two_box hx
      have HX := Lib.hid hx
      have HB0 := Lib.hid hb0
      obtain ⟨X, hX⟩ : ∃ X, X = w.heap.size := ⟨_, rfl⟩
      rw [← hX] at x0 x1 HX ⊢
      have HXe := Lib.hid hX
      clear hb0 hx hX
      go_wp2_with fail
      refine (HA.out _).mono ?_
      rintro e w2 ⟨rfl, hb⟩
      have HB := Lib.hid hb
      clear x0 x1
      obtain ⟨x0, x1⟩ := two_box ((hb.block _ (lt_of_block HX.out)).trans HX.out)
      clear hb
      go_wp2
      go_ret
      refine ⟨ret_bool ?_, HB0.out.trans (HB.out.mono HB0.out.size)⟩
      rw [HQ2.out, h7]
      simp
theorem rIn_any (a b c d : Int) (w : World) : Calls Try.prog 19 #[.agg #[.int .i64 a, .int .i64 b], .agg #[.int .i64 c, .int .i64 d]] w fun e w' => e = .returned (.bool (inS ⟨a, b⟩ ⟨c, d⟩)) ∧ Below w.heap.size w w' := by
  rw [← siB_eq]
  have HA := Lib.hid (fun u => (rRight_any a b u))
  have HC := Lib.hid (fun u => (rRight_any c d u))
  obtain ⟨q, hq⟩ : ∃ q, siB a b c d = q := ⟨_, rfl⟩
  rw [hq]
  cases h1 : srB a b
  · have HQ := Lib.hid (show q = false from by rw [← hq]; simp [srB, siB] at h1 ⊢; omega)
    rw [h1] at HA
    clear h1 hq
    go_enter Try.func19, Try.ntmps19
    go_upto_region 1 with (fail)
    refine gen_world (S := fun u => Below w.heap.size w u ∧ u.heap[w.heap.size]? = some (.cells #[.int .i64 a, .int .i64 b] 23 (0, 0)) ∧ u.heap[w.heap.size + 1]? = some (.cells #[.int .i64 c, .int .i64 d] 23 (0, 0))) (two_new w _ _) (fun u hu => ?_)
    obtain ⟨hb0, hx, hy⟩ := hu
    obtain ⟨x0, x1⟩ := two_box hx
    obtain ⟨y0, y1⟩ := two_box hy
    have HX := Lib.hid hx
    have HY := Lib.hid hy
    have HB := Lib.hid hb0
    obtain ⟨X, hX⟩ : ∃ X, X = w.heap.size := ⟨_, rfl⟩
    rw [← hX] at x0 x1 y0 y1 HX HY ⊢
    clear hb0 hx hy hX
    go_wp2_with fail
    refine (HA.out _).mono ?_
    rintro e uu ⟨rfl, hb⟩
    have hx := (hb.block _ (lt_of_block HX.out)).trans HX.out
    have hy := (hb.block _ (lt_of_block HY.out)).trans HY.out
    have hb0 := HB.out.trans (hb.mono HB.out.size)
    clear x0 x1 y0 y1 HX HB hb HY
    obtain ⟨x0, x1⟩ := two_box hx
    have HX := Lib.hid hx
    have HB := Lib.hid hb0
    clear hx hb0
    obtain ⟨y0, y1⟩ := two_box hy
    have HY := Lib.hid hy
    clear hy
    go_wp2
    go_ret
    exact ⟨ret_bool HQ.out.symm, HB.out⟩
  · rw [h1] at HA
    cases h2 : srB c d
    · have HQ := Lib.hid (show q = false from by rw [← hq]; simp [srB, siB] at h2 ⊢; omega)
      rw [h2] at HC
      clear h1 h2 hq
      go_enter Try.func19, Try.ntmps19
      go_upto_region 1 with (fail)
      refine gen_world (S := fun u => Below w.heap.size w u ∧ u.heap[w.heap.size]? = some (.cells #[.int .i64 a, .int .i64 b] 23 (0, 0)) ∧ u.heap[w.heap.size + 1]? = some (.cells #[.int .i64 c, .int .i64 d] 23 (0, 0))) (two_new w _ _) (fun u hu => ?_)
      obtain ⟨hb0, hx, hy⟩ := hu
      obtain ⟨x0, x1⟩ := two_box hx
      obtain ⟨y0, y1⟩ := two_box hy
      have HX := Lib.hid hx
      have HY := Lib.hid hy
      have HB := Lib.hid hb0
      obtain ⟨X, hX⟩ : ∃ X, X = w.heap.size := ⟨_, rfl⟩
      rw [← hX] at x0 x1 y0 y1 HX HY ⊢
      clear hb0 hx hy hX
      go_wp2_with fail
      refine (HA.out _).mono ?_
      rintro e uu ⟨rfl, hb⟩
      have hx := (hb.block _ (lt_of_block HX.out)).trans HX.out
      have hy := (hb.block _ (lt_of_block HY.out)).trans HY.out
      have hb0 := HB.out.trans (hb.mono HB.out.size)
      clear x0 x1 y0 y1 HX HB hb HY
      obtain ⟨x0, x1⟩ := two_box hx
      have HX := Lib.hid hx
      have HB := Lib.hid hb0
      clear hx hb0
      obtain ⟨y0, y1⟩ := two_box hy
      have HY := Lib.hid hy
      clear hy
      go_wp2_with fail
      refine (HC.out _).mono ?_
      rintro e uu ⟨rfl, hb⟩
      have hx := (hb.block _ (lt_of_block HX.out)).trans HX.out
      have hy := (hb.block _ (lt_of_block HY.out)).trans HY.out
      have hb0 := HB.out.trans (hb.mono HB.out.size)
      clear x0 x1 y0 y1 HX HB hb HY
      obtain ⟨x0, x1⟩ := two_box hx
      have HX := Lib.hid hx
      have HB := Lib.hid hb0
      clear hx hb0
      obtain ⟨y0, y1⟩ := two_box hy
      have HY := Lib.hid hy
      clear hy
      go_wp2
      go_ret
      exact ⟨ret_bool HQ.out.symm, HB.out⟩
    · have HQ := Lib.hid (show q = (decide (c ≤ a) && decide (b ≤ d)) from by
        rw [← hq]
        have h3 : 0 ≤ a ∧ a ≤ b := by simpa [srB] using h1
        have h4 : 0 ≤ c ∧ c ≤ d := by simpa [srB] using h2
        simp [siB, h3, h4])
      rw [h2] at HC
      clear h1 h2 hq
      by_cases h7 : c ≤ a
      all_goals by_cases h8 : b ≤ d
      all_goals
        go_enter Try.func19, Try.ntmps19
        go_upto_region 1 with (fail)
        refine gen_world (S := fun u => Below w.heap.size w u ∧ u.heap[w.heap.size]? = some (.cells #[.int .i64 a, .int .i64 b] 23 (0, 0)) ∧ u.heap[w.heap.size + 1]? = some (.cells #[.int .i64 c, .int .i64 d] 23 (0, 0))) (two_new w _ _) (fun u hu => ?_)
        obtain ⟨hb0, hx, hy⟩ := hu
        obtain ⟨x0, x1⟩ := two_box hx
        obtain ⟨y0, y1⟩ := two_box hy
        have HX := Lib.hid hx
        have HY := Lib.hid hy
        have HB := Lib.hid hb0
        obtain ⟨X, hX⟩ : ∃ X, X = w.heap.size := ⟨_, rfl⟩
        rw [← hX] at x0 x1 y0 y1 HX HY ⊢
        clear hb0 hx hy hX
        go_wp2_with fail
        refine (HA.out _).mono ?_
        rintro e uu ⟨rfl, hb⟩
        have hx := (hb.block _ (lt_of_block HX.out)).trans HX.out
        have hy := (hb.block _ (lt_of_block HY.out)).trans HY.out
        have hb0 := HB.out.trans (hb.mono HB.out.size)
        clear x0 x1 y0 y1 HX HB hb HY
        obtain ⟨x0, x1⟩ := two_box hx
        have HX := Lib.hid hx
        have HB := Lib.hid hb0
        clear hx hb0
        obtain ⟨y0, y1⟩ := two_box hy
        have HY := Lib.hid hy
        clear hy
        go_wp2_with fail
        refine (HC.out _).mono ?_
        rintro e uu ⟨rfl, hb⟩
        have hx := (hb.block _ (lt_of_block HX.out)).trans HX.out
        have hy := (hb.block _ (lt_of_block HY.out)).trans HY.out
        have hb0 := HB.out.trans (hb.mono HB.out.size)
        clear x0 x1 y0 y1 HX HB hb HY
        obtain ⟨x0, x1⟩ := two_box hx
        have HX := Lib.hid hx
        have HB := Lib.hid hb0
        clear hx hb0
        obtain ⟨y0, y1⟩ := two_box hy
        have HY := Lib.hid hy
        clear hy
        go_wp2
        go_ret
        exact ⟨ret_bool (by rw [HQ.out]; simp [h7, h8]), HB.out⟩
theorem lessS_of {a b c d : Int} (h1 : srB a b = true) (h2 : srB c d = true) : lessS ⟨a, b⟩ ⟨c, d⟩ = decide (ltS ⟨a, b⟩ ⟨c, d⟩) := by
  unfold lessS
  rw [← srB_eq, ← srB_eq, h1, h2]
  simp only [Bool.true_and]
  exact decide_eq_decide.2 Iff.rfl
theorem lessS_no1 {a b : Int} {c : Sg} (h1 : srB a b = false) : lessS ⟨a, b⟩ c = false := by
  unfold lessS
  rw [← srB_eq, h1]
  rfl
theorem lessS_no2 {c d : Int} {a : Sg} (h1 : srB c d = false) : lessS a ⟨c, d⟩ = false := by
  show (rightS a && srB c d && _) = false
  rw [h1]
  simp
theorem rLess_any (a b c d : Int) (w : World) : Calls Try.prog 21 #[.agg #[.int .i64 a, .int .i64 b], .agg #[.int .i64 c, .int .i64 d]] w fun e w' => e = .returned (.bool (lessS ⟨a, b⟩ ⟨c, d⟩)) ∧ Below w.heap.size w w' := by
  have HA := Lib.hid (fun u => (rRight_any a b u))
  have HC := Lib.hid (fun u => (rRight_any c d u))
  cases h1 : srB a b
  · rw [h1] at HA
    rw [lessS_no1 h1]
    clear h1
    go_enter Try.func21, Try.ntmps21
    go_upto_region 1 with (fail)
    refine gen_world (S := fun u => Below w.heap.size w u ∧ u.heap[w.heap.size]? = some (.cells #[.int .i64 a, .int .i64 b] 23 (0, 0)) ∧ u.heap[w.heap.size + 1]? = some (.cells #[.int .i64 c, .int .i64 d] 23 (0, 0))) (two_new w _ _) (fun u hu => ?_)
    obtain ⟨hb0, hx, hy⟩ := hu
    obtain ⟨x0, x1⟩ := two_box hx
    obtain ⟨y0, y1⟩ := two_box hy
    have HX := Lib.hid hx
    have HY := Lib.hid hy
    have HB := Lib.hid hb0
    obtain ⟨X, hX⟩ : ∃ X, X = w.heap.size := ⟨_, rfl⟩
    rw [← hX] at x0 x1 y0 y1 HX HY ⊢
    clear hb0 hx hy hX
    go_wp2_with fail
    refine (HA.out _).mono ?_
    rintro e uu ⟨rfl, hb⟩
    have hx := (hb.block _ (lt_of_block HX.out)).trans HX.out
    have hy := (hb.block _ (lt_of_block HY.out)).trans HY.out
    have hb0 := HB.out.trans (hb.mono HB.out.size)
    clear x0 x1 y0 y1 HX HB hb HY
    obtain ⟨x0, x1⟩ := two_box hx
    have HX := Lib.hid hx
    have HB := Lib.hid hb0
    clear hx hb0
    obtain ⟨y0, y1⟩ := two_box hy
    have HY := Lib.hid hy
    clear hy
    go_wp2
    go_ret
    exact ⟨rfl, HB.out⟩
  · rw [h1] at HA
    cases h2 : srB c d
    · rw [h2] at HC
      rw [lessS_no2 h2]
      clear h1 h2
      go_enter Try.func21, Try.ntmps21
      go_upto_region 1 with (fail)
      refine gen_world (S := fun u => Below w.heap.size w u ∧ u.heap[w.heap.size]? = some (.cells #[.int .i64 a, .int .i64 b] 23 (0, 0)) ∧ u.heap[w.heap.size + 1]? = some (.cells #[.int .i64 c, .int .i64 d] 23 (0, 0))) (two_new w _ _) (fun u hu => ?_)
      obtain ⟨hb0, hx, hy⟩ := hu
      obtain ⟨x0, x1⟩ := two_box hx
      obtain ⟨y0, y1⟩ := two_box hy
      have HX := Lib.hid hx
      have HY := Lib.hid hy
      have HB := Lib.hid hb0
      obtain ⟨X, hX⟩ : ∃ X, X = w.heap.size := ⟨_, rfl⟩
      rw [← hX] at x0 x1 y0 y1 HX HY ⊢
      clear hb0 hx hy hX
      go_wp2_with fail
      refine (HA.out _).mono ?_
      rintro e uu ⟨rfl, hb⟩
      have hx := (hb.block _ (lt_of_block HX.out)).trans HX.out
      have hy := (hb.block _ (lt_of_block HY.out)).trans HY.out
      have hb0 := HB.out.trans (hb.mono HB.out.size)
      clear x0 x1 y0 y1 HX HB hb HY
      obtain ⟨x0, x1⟩ := two_box hx
      have HX := Lib.hid hx
      have HB := Lib.hid hb0
      clear hx hb0
      obtain ⟨y0, y1⟩ := two_box hy
      have HY := Lib.hid hy
      clear hy
      go_wp2_with fail
      refine (HC.out _).mono ?_
      rintro e uu ⟨rfl, hb⟩
      have hx := (hb.block _ (lt_of_block HX.out)).trans HX.out
      have hy := (hb.block _ (lt_of_block HY.out)).trans HY.out
      have hb0 := HB.out.trans (hb.mono HB.out.size)
      clear x0 x1 y0 y1 HX HB hb HY
      obtain ⟨x0, x1⟩ := two_box hx
      have HX := Lib.hid hx
      have HB := Lib.hid hb0
      clear hx hb0
      obtain ⟨y0, y1⟩ := two_box hy
      have HY := Lib.hid hy
      clear hy
      go_wp2
      go_ret
      exact ⟨rfl, HB.out⟩
    · rw [h2] at HC
      rw [lessS_of h1 h2]
      clear h1 h2
      unfold ltS
      by_cases h7 : a < c
      · have HQ := Lib.hid (show decide (a < c ∨ a = c ∧ d < b) = true from by simp [h7])
        rw [HQ.out]
        have q7 : decide (a < c) = true := by simpa using h7
        clear h7
        go_enter Try.func21, Try.ntmps21
        go_upto_region 1 with (fail)
        refine gen_world (S := fun u => Below w.heap.size w u ∧ u.heap[w.heap.size]? = some (.cells #[.int .i64 a, .int .i64 b] 23 (0, 0)) ∧ u.heap[w.heap.size + 1]? = some (.cells #[.int .i64 c, .int .i64 d] 23 (0, 0))) (two_new w _ _) (fun u hu => ?_)
        obtain ⟨hb0, hx, hy⟩ := hu
        obtain ⟨x0, x1⟩ := two_box hx
        obtain ⟨y0, y1⟩ := two_box hy
        have HX := Lib.hid hx
        have HY := Lib.hid hy
        have HB := Lib.hid hb0
        obtain ⟨X, hX⟩ : ∃ X, X = w.heap.size := ⟨_, rfl⟩
        rw [← hX] at x0 x1 y0 y1 HX HY ⊢
        clear hb0 hx hy hX
        go_wp2_with fail
        refine (HA.out _).mono ?_
        rintro e uu ⟨rfl, hb⟩
        have hx := (hb.block _ (lt_of_block HX.out)).trans HX.out
        have hy := (hb.block _ (lt_of_block HY.out)).trans HY.out
        have hb0 := HB.out.trans (hb.mono HB.out.size)
        clear x0 x1 y0 y1 HX HB hb HY
        obtain ⟨x0, x1⟩ := two_box hx
        have HX := Lib.hid hx
        have HB := Lib.hid hb0
        clear hx hb0
        obtain ⟨y0, y1⟩ := two_box hy
        have HY := Lib.hid hy
        clear hy
        go_wp2_with fail
        refine (HC.out _).mono ?_
        rintro e uu ⟨rfl, hb⟩
        have hx := (hb.block _ (lt_of_block HX.out)).trans HX.out
        have hy := (hb.block _ (lt_of_block HY.out)).trans HY.out
        have hb0 := HB.out.trans (hb.mono HB.out.size)
        clear x0 x1 y0 y1 HX HB hb HY
        obtain ⟨x0, x1⟩ := two_box hx
        have HX := Lib.hid hx
        have HB := Lib.hid hb0
        clear hx hb0
        obtain ⟨y0, y1⟩ := two_box hy
        have HY := Lib.hid hy
        clear hy
        go_wp2
        go_ret
        exact ⟨rfl, HB.out⟩
      · have q7 : decide (a < c) = false := by simpa using h7
        by_cases h8 : a = c
        · have q8 : (a == c) = true := by simpa using h8
          have q8' : decide (a = c) = true := by simpa using h8
          by_cases h9 : d < b
          · have HQ := Lib.hid (show decide (a < c ∨ a = c ∧ d < b) = true from by simp [h8, h9])
            rw [HQ.out]
            have q9 : decide (d < b) = true := by simpa using h9
            clear h7 h8 h9
            go_enter Try.func21, Try.ntmps21
            go_upto_region 1 with (fail)
            refine gen_world (S := fun u => Below w.heap.size w u ∧ u.heap[w.heap.size]? = some (.cells #[.int .i64 a, .int .i64 b] 23 (0, 0)) ∧ u.heap[w.heap.size + 1]? = some (.cells #[.int .i64 c, .int .i64 d] 23 (0, 0))) (two_new w _ _) (fun u hu => ?_)
            obtain ⟨hb0, hx, hy⟩ := hu
            obtain ⟨x0, x1⟩ := two_box hx
            obtain ⟨y0, y1⟩ := two_box hy
            have HX := Lib.hid hx
            have HY := Lib.hid hy
            have HB := Lib.hid hb0
            obtain ⟨X, hX⟩ : ∃ X, X = w.heap.size := ⟨_, rfl⟩
            rw [← hX] at x0 x1 y0 y1 HX HY ⊢
            clear hb0 hx hy hX
            go_wp2_with fail
            refine (HA.out _).mono ?_
            rintro e uu ⟨rfl, hb⟩
            have hx := (hb.block _ (lt_of_block HX.out)).trans HX.out
            have hy := (hb.block _ (lt_of_block HY.out)).trans HY.out
            have hb0 := HB.out.trans (hb.mono HB.out.size)
            clear x0 x1 y0 y1 HX HB hb HY
            obtain ⟨x0, x1⟩ := two_box hx
            have HX := Lib.hid hx
            have HB := Lib.hid hb0
            clear hx hb0
            obtain ⟨y0, y1⟩ := two_box hy
            have HY := Lib.hid hy
            clear hy
            go_wp2_with fail
            refine (HC.out _).mono ?_
            rintro e uu ⟨rfl, hb⟩
            have hx := (hb.block _ (lt_of_block HX.out)).trans HX.out
            have hy := (hb.block _ (lt_of_block HY.out)).trans HY.out
            have hb0 := HB.out.trans (hb.mono HB.out.size)
            clear x0 x1 y0 y1 HX HB hb HY
            obtain ⟨x0, x1⟩ := two_box hx
            have HX := Lib.hid hx
            have HB := Lib.hid hb0
            clear hx hb0
            obtain ⟨y0, y1⟩ := two_box hy
            have HY := Lib.hid hy
            clear hy
            go_wp2
            go_ret
            exact ⟨rfl, HB.out⟩
          · have HQ := Lib.hid (show decide (a < c ∨ a = c ∧ d < b) = false from by simp [h9]; omega)
            rw [HQ.out]
            have q9 : decide (d < b) = false := by simpa using h9
            clear h7 h8 h9
            go_enter Try.func21, Try.ntmps21
            go_upto_region 1 with (fail)
            refine gen_world (S := fun u => Below w.heap.size w u ∧ u.heap[w.heap.size]? = some (.cells #[.int .i64 a, .int .i64 b] 23 (0, 0)) ∧ u.heap[w.heap.size + 1]? = some (.cells #[.int .i64 c, .int .i64 d] 23 (0, 0))) (two_new w _ _) (fun u hu => ?_)
            obtain ⟨hb0, hx, hy⟩ := hu
            obtain ⟨x0, x1⟩ := two_box hx
            obtain ⟨y0, y1⟩ := two_box hy
            have HX := Lib.hid hx
            have HY := Lib.hid hy
            have HB := Lib.hid hb0
            obtain ⟨X, hX⟩ : ∃ X, X = w.heap.size := ⟨_, rfl⟩
            rw [← hX] at x0 x1 y0 y1 HX HY ⊢
            clear hb0 hx hy hX
            go_wp2_with fail
            refine (HA.out _).mono ?_
            rintro e uu ⟨rfl, hb⟩
            have hx := (hb.block _ (lt_of_block HX.out)).trans HX.out
            have hy := (hb.block _ (lt_of_block HY.out)).trans HY.out
            have hb0 := HB.out.trans (hb.mono HB.out.size)
            clear x0 x1 y0 y1 HX HB hb HY
            obtain ⟨x0, x1⟩ := two_box hx
            have HX := Lib.hid hx
            have HB := Lib.hid hb0
            clear hx hb0
            obtain ⟨y0, y1⟩ := two_box hy
            have HY := Lib.hid hy
            clear hy
            go_wp2_with fail
            refine (HC.out _).mono ?_
            rintro e uu ⟨rfl, hb⟩
            have hx := (hb.block _ (lt_of_block HX.out)).trans HX.out
            have hy := (hb.block _ (lt_of_block HY.out)).trans HY.out
            have hb0 := HB.out.trans (hb.mono HB.out.size)
            clear x0 x1 y0 y1 HX HB hb HY
            obtain ⟨x0, x1⟩ := two_box hx
            have HX := Lib.hid hx
            have HB := Lib.hid hb0
            clear hx hb0
            obtain ⟨y0, y1⟩ := two_box hy
            have HY := Lib.hid hy
            clear hy
            go_wp2
            go_ret
            exact ⟨rfl, HB.out⟩
        · have HQ := Lib.hid (show decide (a < c ∨ a = c ∧ d < b) = false from by simp [h8]; omega)
          rw [HQ.out]
          have q8 : (a == c) = false := by simpa using h8
          have q8' : decide (a = c) = false := by simpa using h8
          clear h7 h8
          go_enter Try.func21, Try.ntmps21
          go_upto_region 1 with (fail)
          refine gen_world (S := fun u => Below w.heap.size w u ∧ u.heap[w.heap.size]? = some (.cells #[.int .i64 a, .int .i64 b] 23 (0, 0)) ∧ u.heap[w.heap.size + 1]? = some (.cells #[.int .i64 c, .int .i64 d] 23 (0, 0))) (two_new w _ _) (fun u hu => ?_)
          obtain ⟨hb0, hx, hy⟩ := hu
          obtain ⟨x0, x1⟩ := two_box hx
          obtain ⟨y0, y1⟩ := two_box hy
          have HX := Lib.hid hx
          have HY := Lib.hid hy
          have HB := Lib.hid hb0
          obtain ⟨X, hX⟩ : ∃ X, X = w.heap.size := ⟨_, rfl⟩
          rw [← hX] at x0 x1 y0 y1 HX HY ⊢
          clear hb0 hx hy hX
          go_wp2_with fail
          refine (HA.out _).mono ?_
          rintro e uu ⟨rfl, hb⟩
          have hx := (hb.block _ (lt_of_block HX.out)).trans HX.out
          have hy := (hb.block _ (lt_of_block HY.out)).trans HY.out
          have hb0 := HB.out.trans (hb.mono HB.out.size)
          clear x0 x1 y0 y1 HX HB hb HY
          obtain ⟨x0, x1⟩ := two_box hx
          have HX := Lib.hid hx
          have HB := Lib.hid hb0
          clear hx hb0
          obtain ⟨y0, y1⟩ := two_box hy
          have HY := Lib.hid hy
          clear hy
          go_wp2_with fail
          refine (HC.out _).mono ?_
          rintro e uu ⟨rfl, hb⟩
          have hx := (hb.block _ (lt_of_block HX.out)).trans HX.out
          have hy := (hb.block _ (lt_of_block HY.out)).trans HY.out
          have hb0 := HB.out.trans (hb.mono HB.out.size)
          clear x0 x1 y0 y1 HX HB hb HY
          obtain ⟨x0, x1⟩ := two_box hx
          have HX := Lib.hid hx
          have HB := Lib.hid hb0
          clear hx hb0
          obtain ⟨y0, y1⟩ := two_box hy
          have HY := Lib.hid hy
          clear hy
          go_wp2
          go_ret
          exact ⟨rfl, HB.out⟩
theorem grow_below (w : World) (q : Nat) (os : Array Obj) : Below w.heap.size w (Go.Sort.grow (w.drewN q) os) := by
  unfold Go.Sort.grow World.drewN
  refine ⟨rfl, rfl, rfl, by simp, fun k hk => ?_⟩
  simp only
  rw [Array.getElem?_append, if_pos hk]
theorem cmp_below (a b : Sg) (w : World) : Calls Try.prog 38 #[sgv a, sgv b] w fun e w' => e = .returned (.int .i64 (cmpS a b)) ∧ Below w.heap.size w w' := (compare_grow a b w).mono fun e w' hh => by
  obtain ⟨he, q, os, rfl⟩ := hh
  exact ⟨he, grow_below w q os⟩
theorem sLess_any (a b c d : Int) (w : World) : Calls Try.prog 20 #[.agg #[.int .i64 a, .int .i64 b], .agg #[.int .i64 c, .int .i64 d]] w fun e w' => e = .returned (.bool (lessS ⟨a, b⟩ ⟨c, d⟩)) ∧ Below w.heap.size w w' := by
  have HA := Lib.hid (fun u => (both_any a b c d u))
  have HC := Lib.hid (fun u => (cmp_below ⟨a, b⟩ ⟨c, d⟩ u))
  cases h1 : (srB a b && srB c d)
  · rw [h1] at HA
    have HQ := Lib.hid (show lessS ⟨a, b⟩ ⟨c, d⟩ = false from by unfold lessS; rw [← srB_eq, ← srB_eq, h1]; rfl)
    rw [HQ.out]
    clear h1
    go_enter Try.func20, Try.ntmps20
    go_upto_region 1 with (fail)
    refine gen_world (S := fun u => Below w.heap.size w u ∧ u.heap[w.heap.size]? = some (.cells #[.int .i64 a, .int .i64 b] 23 (0, 0)) ∧ u.heap[w.heap.size + 1]? = some (.cells #[.int .i64 c, .int .i64 d] 23 (0, 0))) (two_new w _ _) (fun u hu => ?_)
    obtain ⟨hb0, hx, hy⟩ := hu
    obtain ⟨x0, x1⟩ := two_box hx
    obtain ⟨y0, y1⟩ := two_box hy
    have HX := Lib.hid hx
    have HY := Lib.hid hy
    have HB := Lib.hid hb0
    obtain ⟨X, hX⟩ : ∃ X, X = w.heap.size := ⟨_, rfl⟩
    rw [← hX] at x0 x1 y0 y1 HX HY ⊢
    clear hb0 hx hy hX
    go_wp2_with fail
    refine (HA.out _).mono ?_
    rintro e uu ⟨rfl, hb⟩
    have hx := (hb.block _ (lt_of_block HX.out)).trans HX.out
    have hy := (hb.block _ (lt_of_block HY.out)).trans HY.out
    have hb0 := HB.out.trans (hb.mono HB.out.size)
    clear x0 x1 y0 y1 HX HB hb HY
    obtain ⟨x0, x1⟩ := two_box hx
    have HX := Lib.hid hx
    have HB := Lib.hid hb0
    clear hx hb0
    obtain ⟨y0, y1⟩ := two_box hy
    have HY := Lib.hid hy
    clear hy
    go_wp2
    go_ret
    exact ⟨rfl, HB.out⟩
  · rw [h1] at HA
    have HQ := Lib.hid (show lessS ⟨a, b⟩ ⟨c, d⟩ = decide (cmpS ⟨a, b⟩ ⟨c, d⟩ < 0) from by
      rw [Bool.and_eq_true] at h1
      rw [lessS_of h1.1 h1.2]
      exact decide_eq_decide.2 (cmpS_lt _ _).symm)
    clear h1
    generalize cmpS ⟨a, b⟩ ⟨c, d⟩ = z at HC HQ
    simp only [sgv] at HC
    go_enter Try.func20, Try.ntmps20
    go_upto_region 1 with (fail)
    refine gen_world (S := fun u => Below w.heap.size w u ∧ u.heap[w.heap.size]? = some (.cells #[.int .i64 a, .int .i64 b] 23 (0, 0)) ∧ u.heap[w.heap.size + 1]? = some (.cells #[.int .i64 c, .int .i64 d] 23 (0, 0))) (two_new w _ _) (fun u hu => ?_)
    obtain ⟨hb0, hx, hy⟩ := hu
    obtain ⟨x0, x1⟩ := two_box hx
    obtain ⟨y0, y1⟩ := two_box hy
    have HX := Lib.hid hx
    have HY := Lib.hid hy
    have HB := Lib.hid hb0
    obtain ⟨X, hX⟩ : ∃ X, X = w.heap.size := ⟨_, rfl⟩
    rw [← hX] at x0 x1 y0 y1 HX HY ⊢
    clear hb0 hx hy hX
    go_wp2_with fail
    refine (HA.out _).mono ?_
    rintro e uu ⟨rfl, hb⟩
    have hx := (hb.block _ (lt_of_block HX.out)).trans HX.out
    have hy := (hb.block _ (lt_of_block HY.out)).trans HY.out
    have hb0 := HB.out.trans (hb.mono HB.out.size)
    clear x0 x1 y0 y1 HX HB hb HY
    obtain ⟨x0, x1⟩ := two_box hx
    have HX := Lib.hid hx
    have HB := Lib.hid hb0
    clear hx hb0
    obtain ⟨y0, y1⟩ := two_box hy
    have HY := Lib.hid hy
    clear hy
    go_wp2_with fail
    refine (HC.out _).mono ?_
    rintro e uu ⟨rfl, hb⟩
    have hx := (hb.block _ (lt_of_block HX.out)).trans HX.out
    have hy := (hb.block _ (lt_of_block HY.out)).trans HY.out
    have hb0 := HB.out.trans (hb.mono HB.out.size)
    clear x0 x1 y0 y1 HX HB hb HY
    obtain ⟨x0, x1⟩ := two_box hx
    have HX := Lib.hid hx
    have HB := Lib.hid hb0
    clear hx hb0
    obtain ⟨y0, y1⟩ := two_box hy
    have HY := Lib.hid hy
    clear hy
    go_wp2
    go_ret
    exact ⟨ret_bool HQ.out.symm, HB.out⟩
end Go.Proofs.Ytndminmefacmnaa
