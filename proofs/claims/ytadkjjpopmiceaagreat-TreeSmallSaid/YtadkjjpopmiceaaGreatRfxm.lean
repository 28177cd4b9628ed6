import Derived.Test.YtadkjjpopmiceaaGreatRfwm
namespace Go.Proofs.YtadkjjpopmiceaaGreat
open Go.RowKit Go.Lib

theorem ref_right {l : List Tw} (h : ∀ t ∈ l, twOk t) : refRight l = rightB l := by
  cases hr : rightB l with
  | true => exact ref_of_right ((rightB_iff l).1 hr)
  | false =>
    cases hf : refRight l with
    | false => rfl
    | true =>
      have := (rightB_iff l).2 (right_of_ref (fun n hn => by rw [atT_get l hn]; exact (h _ (List.getElem_mem hn)).1) hf)
      rw [hr] at this
      cases this
theorem rSpan_any (a b : Int) (w : World) : Calls Tryz.prog 47 #[.agg #[.int .i64 a, .int .i64 b]] w fun e w' => e = .returned (.bool (srB a b)) ∧ Below w.heap.size w w' := by
  by_cases h1 : 0 ≤ a
  · by_cases h2 : a ≤ b
    all_goals
      go_enter Tryz.func47, Tryz.ntmps47
      go_wp2
      go_ret
      exact ⟨ret_bool (by simp [srB, h1, h2]), (Below.refl _ _).alloc (Nat.le_refl _) _⟩
  · go_enter Tryz.func47, Tryz.ntmps47
    go_wp2
    go_ret
    exact ⟨ret_bool (by simp [srB]; omega), (Below.refl _ _).alloc (Nat.le_refl _) _⟩
theorem rIn_any (a b c d : Int) (w : World) : Calls Tryz.prog 49 #[.agg #[.int .i64 a, .int .i64 b], .agg #[.int .i64 c, .int .i64 d]] w fun e w' => e = .returned (.bool (siB a b c d)) ∧ Below w.heap.size w w' := by
  have HA := Lib.hid (fun u => rSpan_any a b u)
  have HC := Lib.hid (fun u => rSpan_any c d u)
  cases h1 : srB a b
  · rw [h1] at HA
    have HF := Lib.hid (show siB a b c d = false from by simp [srB] at h1; simp [siB]; omega)
    clear h1
    go_enter Tryz.func49, Tryz.ntmps49
    go_upto_region 1 with (fail)
    refine gen_world (S := fun u => Below w.heap.size w u ∧ u.heap[w.heap.size]? = some (.cells #[.int .i64 a, .int .i64 b] 43 (0, 0)) ∧ u.heap[w.heap.size + 1]? = some (.cells #[.int .i64 c, .int .i64 d] 43 (0, 0))) (two_new w _ _) (fun u hu => ?_)
    obtain ⟨hb0, hx, hy⟩ := hu
    have HB := Lib.hid hb0
    obtain ⟨x0, x1⟩ := two_box hx
    obtain ⟨y0, y1⟩ := two_box hy
    clear hb0 hx hy
    go_wp2_with fail
    refine (HA.out _).mono ?_
    rintro e w2 ⟨rfl, hb⟩
    go_wp2
    go_ret
    exact ⟨ret_bool HF.out.symm, HB.out.trans (hb.mono HB.out.size)⟩
  · rw [h1] at HA
    cases h2 : srB c d
    · rw [h2] at HC
      have HF := Lib.hid (show siB a b c d = false from by simp [srB] at h2; simp [siB]; omega)
      clear h1 h2
      go_enter Tryz.func49, Tryz.ntmps49
      go_upto_region 1 with (fail)
      refine gen_world (S := fun u => Below w.heap.size w u ∧ u.heap[w.heap.size]? = some (.cells #[.int .i64 a, .int .i64 b] 43 (0, 0)) ∧ u.heap[w.heap.size + 1]? = some (.cells #[.int .i64 c, .int .i64 d] 43 (0, 0))) (two_new w _ _) (fun u hu => ?_)
      obtain ⟨hb0, hx, hy⟩ := hu
      have HB := Lib.hid hb0
      have HX := Lib.hid hx
      have HY := Lib.hid hy
      obtain ⟨x0, x1⟩ := two_box hx
      obtain ⟨y0, y1⟩ := two_box hy
      clear hb0 hx hy
      go_wp2_with fail
      refine (HA.out _).mono ?_
      rintro e w2 ⟨rfl, hb⟩
      have HB2 := Lib.hid (HB.out.trans (hb.mono HB.out.size))
      have HY2 := (hb.block _ (lt_of_block HY.out)).trans HY.out
      clear x0 x1 y0 y1
      obtain ⟨y0, y1⟩ := two_box HY2
      clear HY2 hb
      go_wp2_with fail
      refine (HC.out _).mono ?_
      rintro e w3 ⟨rfl, hb⟩
      go_wp2
      go_ret
      exact ⟨ret_bool HF.out.symm, HB2.out.trans (hb.mono HB2.out.size)⟩
    · rw [h2] at HC
      have HF := Lib.hid (show siB a b c d = (decide (c ≤ a) && decide (b ≤ d)) from by
        simp [srB] at h1 h2
        unfold siB
        rw [← Bool.decide_and, decide_eq_decide]
        omega)
      clear h1 h2
      go_enter Tryz.func49, Tryz.ntmps49
      go_upto_region 1 with (fail)
      refine gen_world (S := fun u => Below w.heap.size w u ∧ u.heap[w.heap.size]? = some (.cells #[.int .i64 a, .int .i64 b] 43 (0, 0)) ∧ u.heap[w.heap.size + 1]? = some (.cells #[.int .i64 c, .int .i64 d] 43 (0, 0))) (two_new w _ _) (fun u hu => ?_)
      obtain ⟨hb0, hx, hy⟩ := hu
      have HB := Lib.hid hb0
      have HX := Lib.hid hx
      have HY := Lib.hid hy
      obtain ⟨x0, x1⟩ := two_box hx
      obtain ⟨y0, y1⟩ := two_box hy
      clear hb0 hx hy
      go_wp2_with fail
      refine (HA.out _).mono ?_
      rintro e w2 ⟨rfl, hb⟩
      have HB2 := Lib.hid (HB.out.trans (hb.mono HB.out.size))
      have HX2 := Lib.hid ((hb.block _ (lt_of_block HX.out)).trans HX.out)
      have HY2 := Lib.hid ((hb.block _ (lt_of_block HY.out)).trans HY.out)
      clear x0 x1 y0 y1 hb
      obtain ⟨y0, y1⟩ := two_box HY2.out
      go_wp2_with fail
      refine (HC.out _).mono ?_
      rintro e w3 ⟨rfl, hb⟩
      have HB3 := Lib.hid (HB2.out.trans (hb.mono HB2.out.size))
      have hx3 := (hb.block _ (lt_of_block HX2.out)).trans HX2.out
      have hy3 := (hb.block _ (lt_of_block HY2.out)).trans HY2.out
      clear y0 y1 hb
      obtain ⟨x0, x1⟩ := two_box hx3
      obtain ⟨y0, y1⟩ := two_box hy3
      clear hx3 hy3
      by_cases g1 : c ≤ a
      · by_cases g2 : b ≤ d
        all_goals
          go_wp2
          go_ret
          exact ⟨ret_bool (by rw [HF.out]; simp [g1, g2]), HB3.out⟩
      · go_wp2
        go_ret
        exact ⟨ret_bool (by rw [HF.out]; simp; omega), HB3.out⟩
end Go.Proofs.YtadkjjpopmiceaaGreat
