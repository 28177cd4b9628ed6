/-
  apart: two lie in each other, or have nothing in common.
-/
import Derived.Test.YtndminmefacmnaaSnH
namespace Go.Proofs.Ytndminmefacmnaa
open Go.RowKit Go.Lib

def apartS (a b : Sg) : Bool := inS a b || inS b a || !meetIs a b || (lenS (meetS a b) == 0)
theorem meet_to (a b : Sg) {m : Int} (h1 : a.to ≤ m) (h2 : 0 ≤ m) : (meetS a b).to ≤ m := by
  unfold meetS meetM
  split
  · simp only []; omega
  · exact h2
theorem three_new (w : World) (o1 o2 : Obj) : Below w.heap.size w (w.alloc o1) := (Below.refl _ _).alloc (Nat.le_refl _) _
set_option maxHeartbeats 1000000 in
theorem apart_any (a b c d : Int) (w : World) (hb : b ≤ 9223372036854775807) : Calls Try.prog 46 #[.agg #[.int .i64 a, .int .i64 b], .agg #[.int .i64 c, .int .i64 d]] w fun e w' => e = .returned (.bool (apartS ⟨a, b⟩ ⟨c, d⟩)) ∧ Below w.heap.size w w' := by
  have HM := Lib.hid (fun u => sMeet_any a b c d u)
  have HA := Lib.hid (fun u => sIn_any a b c d u)
  have HC := Lib.hid (fun u => sIn_any c d a b u)
  have HL := Lib.hid (fun u => sLen_any (meetS ⟨a, b⟩ ⟨c, d⟩).fr (meetS ⟨a, b⟩ ⟨c, d⟩).to u (meet_to _ _ hb (by omega)))
  rw [siB_eq] at HA HC
  have HQ := Lib.hid (show apartS ⟨a, b⟩ ⟨c, d⟩ = (inS ⟨a, b⟩ ⟨c, d⟩ || inS ⟨c, d⟩ ⟨a, b⟩ || !meetIs ⟨a, b⟩ ⟨c, d⟩ || (lenS (meetS ⟨a, b⟩ ⟨c, d⟩) == 0)) from rfl)
  generalize meetS ⟨a, b⟩ ⟨c, d⟩ = m at HM HL HQ
  generalize meetIs ⟨a, b⟩ ⟨c, d⟩ = is at HM HQ
  generalize inS ⟨a, b⟩ ⟨c, d⟩ = q1 at HA HQ
  generalize inS ⟨c, d⟩ ⟨a, b⟩ = q2 at HC HQ
  generalize apartS ⟨a, b⟩ ⟨c, d⟩ = q at HQ ⊢
  obtain ⟨mf, mt⟩ := m
  simp only [sgv] at HM HL
  generalize lenS ⟨mf, mt⟩ = z at HL HQ
  clear hb
  cases q1
  rotate_left
  · clear HC HL
    go_enter Try.func46, Try.ntmps46
    go_upto_region 1 with (fail)
    refine gen_world (S := fun u => Below w.heap.size w u ∧ u.heap[w.heap.size]? = some (.cells #[.int .i64 a, .int .i64 b] 23 (0, 0)) ∧ u.heap[w.heap.size + 1]? = some (.cells #[.int .i64 c, .int .i64 d] 23 (0, 0))) (two_new w _ _) (fun u hu => ?_)
    obtain ⟨hb0, hx, hy⟩ := hu
    obtain ⟨x0, x1⟩ := two_box hx
    obtain ⟨y0, y1⟩ := two_box hy
    have HX := Lib.hid hx
    have HY := Lib.hid hy
    have HB := Lib.hid hb0
    obtain ⟨X, hX⟩ : ∃ X, X = w.heap.size := ⟨_, rfl⟩
    rw [← hX] at x0 x1 y0 y1 HX HY ⊢
    clear hb0 hx hy hX
    go_wp2_with fail
    refine (HM.out _).mono ?_
    rintro e uu ⟨rfl, hb⟩
    have hx := (hb.block _ (lt_of_block HX.out)).trans HX.out
    have hy := (hb.block _ (lt_of_block HY.out)).trans HY.out
    have hb0 := HB.out.trans (hb.mono HB.out.size)
    clear x0 x1 y0 y1 HX HB hb HY
    obtain ⟨x0, x1⟩ := two_box hx
    have HX := Lib.hid hx
    have HB := Lib.hid hb0
    clear hx hb0
    obtain ⟨y0, y1⟩ := two_box hy
    have HY := Lib.hid hy
    clear hy
    go_upto_region 2 with (fail)
    obtain ⟨hb4, hg4⟩ := one_new uu (.cells #[.int .i64 mf, .int .i64 mt] 23 (0, 0))
    refine gen_world (S := fun v => Below w.heap.size w v ∧ v.heap[X]? = some (.cells #[.int .i64 a, .int .i64 b] 23 (0, 0)) ∧ v.heap[X + 1]? = some (.cells #[.int .i64 c, .int .i64 d] 23 (0, 0)) ∧ v.heap[uu.heap.size]? = some (.cells #[.int .i64 mf, .int .i64 mt] 23 (0, 0))) ⟨HB.out.trans (hb4.mono HB.out.size), (hb4.block _ (lt_of_block HX.out)).trans HX.out, (hb4.block _ (lt_of_block HY.out)).trans HY.out, hg4⟩ (fun v hv => ?_)
    obtain ⟨hb0, hx, hy, hm⟩ := hv
    clear x0 x1 y0 y1 HX HY HB hb4 hg4
    generalize uu.heap.size = M at hm ⊢
    obtain ⟨x0, x1⟩ := two_box hx
    obtain ⟨y0, y1⟩ := two_box hy
    obtain ⟨m0, m1⟩ := two_box hm
    have HX := Lib.hid hx
    have HY := Lib.hid hy
    have HMm := Lib.hid hm
    have HB := Lib.hid hb0
    clear hb0 hx hy hm
    go_wp2_with fail
    refine (HA.out _).mono ?_
    rintro e uu ⟨rfl, hb⟩
    have hx := (hb.block _ (lt_of_block HX.out)).trans HX.out
    have hy := (hb.block _ (lt_of_block HY.out)).trans HY.out
    have hm := (hb.block _ (lt_of_block HMm.out)).trans HMm.out
    have hb0 := HB.out.trans (hb.mono HB.out.size)
    clear x0 x1 y0 y1 m0 m1 HX HB hb HY HMm
    obtain ⟨x0, x1⟩ := two_box hx
    have HX := Lib.hid hx
    have HB := Lib.hid hb0
    clear hx hb0
    obtain ⟨m0, m1⟩ := two_box hm
    have HMm := Lib.hid hm
    clear hm
    obtain ⟨y0, y1⟩ := two_box hy
    have HY := Lib.hid hy
    clear hy
    go_wp2
    go_ret
    exact ⟨ret_bool (by rw [HQ.out]; rfl), HB.out⟩
  · cases q2
    rotate_left
    · clear HL
      go_enter Try.func46, Try.ntmps46
      go_upto_region 1 with (fail)
      refine gen_world (S := fun u => Below w.heap.size w u ∧ u.heap[w.heap.size]? = some (.cells #[.int .i64 a, .int .i64 b] 23 (0, 0)) ∧ u.heap[w.heap.size + 1]? = some (.cells #[.int .i64 c, .int .i64 d] 23 (0, 0))) (two_new w _ _) (fun u hu => ?_)
      obtain ⟨hb0, hx, hy⟩ := hu
      obtain ⟨x0, x1⟩ := two_box hx
      obtain ⟨y0, y1⟩ := two_box hy
      have HX := Lib.hid hx
      have HY := Lib.hid hy
      have HB := Lib.hid hb0
      obtain ⟨X, hX⟩ : ∃ X, X = w.heap.size := ⟨_, rfl⟩
      rw [← hX] at x0 x1 y0 y1 HX HY ⊢
      clear hb0 hx hy hX
      go_wp2_with fail
      refine (HM.out _).mono ?_
      rintro e uu ⟨rfl, hb⟩
      have hx := (hb.block _ (lt_of_block HX.out)).trans HX.out
      have hy := (hb.block _ (lt_of_block HY.out)).trans HY.out
      have hb0 := HB.out.trans (hb.mono HB.out.size)
      clear x0 x1 y0 y1 HX HB hb HY
      obtain ⟨x0, x1⟩ := two_box hx
      have HX := Lib.hid hx
      have HB := Lib.hid hb0
      clear hx hb0
      obtain ⟨y0, y1⟩ := two_box hy
      have HY := Lib.hid hy
      clear hy
      go_upto_region 2 with (fail)
      obtain ⟨hb4, hg4⟩ := one_new uu (.cells #[.int .i64 mf, .int .i64 mt] 23 (0, 0))
      refine gen_world (S := fun v => Below w.heap.size w v ∧ v.heap[X]? = some (.cells #[.int .i64 a, .int .i64 b] 23 (0, 0)) ∧ v.heap[X + 1]? = some (.cells #[.int .i64 c, .int .i64 d] 23 (0, 0)) ∧ v.heap[uu.heap.size]? = some (.cells #[.int .i64 mf, .int .i64 mt] 23 (0, 0))) ⟨HB.out.trans (hb4.mono HB.out.size), (hb4.block _ (lt_of_block HX.out)).trans HX.out, (hb4.block _ (lt_of_block HY.out)).trans HY.out, hg4⟩ (fun v hv => ?_)
      obtain ⟨hb0, hx, hy, hm⟩ := hv
      clear x0 x1 y0 y1 HX HY HB hb4 hg4
      generalize uu.heap.size = M at hm ⊢
      obtain ⟨x0, x1⟩ := two_box hx
      obtain ⟨y0, y1⟩ := two_box hy
      obtain ⟨m0, m1⟩ := two_box hm
      have HX := Lib.hid hx
      have HY := Lib.hid hy
      have HMm := Lib.hid hm
      have HB := Lib.hid hb0
      clear hb0 hx hy hm
      go_wp2_with fail
      refine (HA.out _).mono ?_
      rintro e uu ⟨rfl, hb⟩
      have hx := (hb.block _ (lt_of_block HX.out)).trans HX.out
      have hy := (hb.block _ (lt_of_block HY.out)).trans HY.out
      have hm := (hb.block _ (lt_of_block HMm.out)).trans HMm.out
      have hb0 := HB.out.trans (hb.mono HB.out.size)
      clear x0 x1 y0 y1 m0 m1 HX HB hb HY HMm
      obtain ⟨x0, x1⟩ := two_box hx
      have HX := Lib.hid hx
      have HB := Lib.hid hb0
      clear hx hb0
      obtain ⟨m0, m1⟩ := two_box hm
      have HMm := Lib.hid hm
      clear hm
      obtain ⟨y0, y1⟩ := two_box hy
      have HY := Lib.hid hy
      clear hy
      go_wp2_with fail
      refine (HC.out _).mono ?_
      rintro e uu ⟨rfl, hb⟩
      have hx := (hb.block _ (lt_of_block HX.out)).trans HX.out
      have hy := (hb.block _ (lt_of_block HY.out)).trans HY.out
      have hm := (hb.block _ (lt_of_block HMm.out)).trans HMm.out
      have hb0 := HB.out.trans (hb.mono HB.out.size)
      clear x0 x1 y0 y1 m0 m1 HX HB hb HY HMm
      obtain ⟨x0, x1⟩ := two_box hx
      have HX := Lib.hid hx
      have HB := Lib.hid hb0
      clear hx hb0
      obtain ⟨m0, m1⟩ := two_box hm
      have HMm := Lib.hid hm
      clear hm
      obtain ⟨y0, y1⟩ := two_box hy
      have HY := Lib.hid hy
      clear hy
      go_wp2
      go_ret
      exact ⟨ret_bool (by rw [HQ.out]; rfl), HB.out⟩
    · cases is
      · clear HL
        go_enter Try.func46, Try.ntmps46
        go_upto_region 1 with (fail)
        refine gen_world (S := fun u => Below w.heap.size w u ∧ u.heap[w.heap.size]? = some (.cells #[.int .i64 a, .int .i64 b] 23 (0, 0)) ∧ u.heap[w.heap.size + 1]? = some (.cells #[.int .i64 c, .int .i64 d] 23 (0, 0))) (two_new w _ _) (fun u hu => ?_)
        obtain ⟨hb0, hx, hy⟩ := hu
        obtain ⟨x0, x1⟩ := two_box hx
        obtain ⟨y0, y1⟩ := two_box hy
        have HX := Lib.hid hx
        have HY := Lib.hid hy
        have HB := Lib.hid hb0
        obtain ⟨X, hX⟩ : ∃ X, X = w.heap.size := ⟨_, rfl⟩
        rw [← hX] at x0 x1 y0 y1 HX HY ⊢
        clear hb0 hx hy hX
        go_wp2_with fail
        refine (HM.out _).mono ?_
        rintro e uu ⟨rfl, hb⟩
        have hx := (hb.block _ (lt_of_block HX.out)).trans HX.out
        have hy := (hb.block _ (lt_of_block HY.out)).trans HY.out
        have hb0 := HB.out.trans (hb.mono HB.out.size)
        clear x0 x1 y0 y1 HX HB hb HY
        obtain ⟨x0, x1⟩ := two_box hx
        have HX := Lib.hid hx
        have HB := Lib.hid hb0
        clear hx hb0
        obtain ⟨y0, y1⟩ := two_box hy
        have HY := Lib.hid hy
        clear hy
        go_upto_region 2 with (fail)
        obtain ⟨hb4, hg4⟩ := one_new uu (.cells #[.int .i64 mf, .int .i64 mt] 23 (0, 0))
        refine gen_world (S := fun v => Below w.heap.size w v ∧ v.heap[X]? = some (.cells #[.int .i64 a, .int .i64 b] 23 (0, 0)) ∧ v.heap[X + 1]? = some (.cells #[.int .i64 c, .int .i64 d] 23 (0, 0)) ∧ v.heap[uu.heap.size]? = some (.cells #[.int .i64 mf, .int .i64 mt] 23 (0, 0))) ⟨HB.out.trans (hb4.mono HB.out.size), (hb4.block _ (lt_of_block HX.out)).trans HX.out, (hb4.block _ (lt_of_block HY.out)).trans HY.out, hg4⟩ (fun v hv => ?_)
        obtain ⟨hb0, hx, hy, hm⟩ := hv
        clear x0 x1 y0 y1 HX HY HB hb4 hg4
        generalize uu.heap.size = M at hm ⊢
        obtain ⟨x0, x1⟩ := two_box hx
        obtain ⟨y0, y1⟩ := two_box hy
        obtain ⟨m0, m1⟩ := two_box hm
        have HX := Lib.hid hx
        have HY := Lib.hid hy
        have HMm := Lib.hid hm
        have HB := Lib.hid hb0
        clear hb0 hx hy hm
        go_wp2_with fail
        refine (HA.out _).mono ?_
        rintro e uu ⟨rfl, hb⟩
        have hx := (hb.block _ (lt_of_block HX.out)).trans HX.out
        have hy := (hb.block _ (lt_of_block HY.out)).trans HY.out
        have hm := (hb.block _ (lt_of_block HMm.out)).trans HMm.out
        have hb0 := HB.out.trans (hb.mono HB.out.size)
        clear x0 x1 y0 y1 m0 m1 HX HB hb HY HMm
        obtain ⟨x0, x1⟩ := two_box hx
        have HX := Lib.hid hx
        have HB := Lib.hid hb0
        clear hx hb0
        obtain ⟨m0, m1⟩ := two_box hm
        have HMm := Lib.hid hm
        clear hm
        obtain ⟨y0, y1⟩ := two_box hy
        have HY := Lib.hid hy
        clear hy
        go_wp2_with fail
        refine (HC.out _).mono ?_
        rintro e uu ⟨rfl, hb⟩
        have hx := (hb.block _ (lt_of_block HX.out)).trans HX.out
        have hy := (hb.block _ (lt_of_block HY.out)).trans HY.out
        have hm := (hb.block _ (lt_of_block HMm.out)).trans HMm.out
        have hb0 := HB.out.trans (hb.mono HB.out.size)
        clear x0 x1 y0 y1 m0 m1 HX HB hb HY HMm
        obtain ⟨x0, x1⟩ := two_box hx
        have HX := Lib.hid hx
        have HB := Lib.hid hb0
        clear hx hb0
        obtain ⟨m0, m1⟩ := two_box hm
        have HMm := Lib.hid hm
        clear hm
        obtain ⟨y0, y1⟩ := two_box hy
        have HY := Lib.hid hy
        clear hy
        go_wp2
        go_ret
        exact ⟨ret_bool (by rw [HQ.out]; rfl), HB.out⟩
      · go_enter Try.func46, Try.ntmps46
        go_upto_region 1 with (fail)
        refine gen_world (S := fun u => Below w.heap.size w u ∧ u.heap[w.heap.size]? = some (.cells #[.int .i64 a, .int .i64 b] 23 (0, 0)) ∧ u.heap[w.heap.size + 1]? = some (.cells #[.int .i64 c, .int .i64 d] 23 (0, 0))) (two_new w _ _) (fun u hu => ?_)
        obtain ⟨hb0, hx, hy⟩ := hu
        obtain ⟨x0, x1⟩ := two_box hx
        obtain ⟨y0, y1⟩ := two_box hy
        have HX := Lib.hid hx
        have HY := Lib.hid hy
        have HB := Lib.hid hb0
        obtain ⟨X, hX⟩ : ∃ X, X = w.heap.size := ⟨_, rfl⟩
        rw [← hX] at x0 x1 y0 y1 HX HY ⊢
        clear hb0 hx hy hX
        go_wp2_with fail
        refine (HM.out _).mono ?_
        rintro e uu ⟨rfl, hb⟩
        have hx := (hb.block _ (lt_of_block HX.out)).trans HX.out
        have hy := (hb.block _ (lt_of_block HY.out)).trans HY.out
        have hb0 := HB.out.trans (hb.mono HB.out.size)
        clear x0 x1 y0 y1 HX HB hb HY
        obtain ⟨x0, x1⟩ := two_box hx
        have HX := Lib.hid hx
        have HB := Lib.hid hb0
        clear hx hb0
        obtain ⟨y0, y1⟩ := two_box hy
        have HY := Lib.hid hy
        clear hy
        go_upto_region 2 with (fail)
        obtain ⟨hb4, hg4⟩ := one_new uu (.cells #[.int .i64 mf, .int .i64 mt] 23 (0, 0))
        refine gen_world (S := fun v => Below w.heap.size w v ∧ v.heap[X]? = some (.cells #[.int .i64 a, .int .i64 b] 23 (0, 0)) ∧ v.heap[X + 1]? = some (.cells #[.int .i64 c, .int .i64 d] 23 (0, 0)) ∧ v.heap[uu.heap.size]? = some (.cells #[.int .i64 mf, .int .i64 mt] 23 (0, 0))) ⟨HB.out.trans (hb4.mono HB.out.size), (hb4.block _ (lt_of_block HX.out)).trans HX.out, (hb4.block _ (lt_of_block HY.out)).trans HY.out, hg4⟩ (fun v hv => ?_)
        obtain ⟨hb0, hx, hy, hm⟩ := hv
        clear x0 x1 y0 y1 HX HY HB hb4 hg4
        generalize uu.heap.size = M at hm ⊢
        obtain ⟨x0, x1⟩ := two_box hx
        obtain ⟨y0, y1⟩ := two_box hy
        obtain ⟨m0, m1⟩ := two_box hm
        have HX := Lib.hid hx
        have HY := Lib.hid hy
        have HMm := Lib.hid hm
        have HB := Lib.hid hb0
        clear hb0 hx hy hm
        go_wp2_with fail
        refine (HA.out _).mono ?_
        rintro e uu ⟨rfl, hb⟩
        have hx := (hb.block _ (lt_of_block HX.out)).trans HX.out
        have hy := (hb.block _ (lt_of_block HY.out)).trans HY.out
        have hm := (hb.block _ (lt_of_block HMm.out)).trans HMm.out
        have hb0 := HB.out.trans (hb.mono HB.out.size)
        clear x0 x1 y0 y1 m0 m1 HX HB hb HY HMm
        obtain ⟨x0, x1⟩ := two_box hx
        have HX := Lib.hid hx
        have HB := Lib.hid hb0
        clear hx hb0
        obtain ⟨m0, m1⟩ := two_box hm
        have HMm := Lib.hid hm
        clear hm
        obtain ⟨y0, y1⟩ := two_box hy
        have HY := Lib.hid hy
        clear hy
        go_wp2_with fail
        refine (HC.out _).mono ?_
        rintro e uu ⟨rfl, hb⟩
        have hx := (hb.block _ (lt_of_block HX.out)).trans HX.out
        have hy := (hb.block _ (lt_of_block HY.out)).trans HY.out
        have hm := (hb.block _ (lt_of_block HMm.out)).trans HMm.out
        have hb0 := HB.out.trans (hb.mono HB.out.size)
        clear x0 x1 y0 y1 m0 m1 HX HB hb HY HMm
        obtain ⟨x0, x1⟩ := two_box hx
        have HX := Lib.hid hx
        have HB := Lib.hid hb0
        clear hx hb0
        obtain ⟨m0, m1⟩ := two_box hm
        have HMm := Lib.hid hm
        clear hm
        obtain ⟨y0, y1⟩ := two_box hy
        have HY := Lib.hid hy
        clear hy
        go_wp2_with fail
        refine (HL.out _).mono ?_
        rintro e uu ⟨rfl, hb⟩
        have hx := (hb.block _ (lt_of_block HX.out)).trans HX.out
        have hy := (hb.block _ (lt_of_block HY.out)).trans HY.out
        have hm := (hb.block _ (lt_of_block HMm.out)).trans HMm.out
        have hb0 := HB.out.trans (hb.mono HB.out.size)
        clear x0 x1 y0 y1 m0 m1 HX HB hb HY HMm
        obtain ⟨x0, x1⟩ := two_box hx
        have HX := Lib.hid hx
        have HB := Lib.hid hb0
        clear hx hb0
        obtain ⟨m0, m1⟩ := two_box hm
        have HMm := Lib.hid hm
        clear hm
        obtain ⟨y0, y1⟩ := two_box hy
        have HY := Lib.hid hy
        clear hy
        go_wp2
        go_ret
        exact ⟨ret_bool (by rw [HQ.out]; rfl), HB.out⟩
end Go.Proofs.Ytndminmefacmnaa
