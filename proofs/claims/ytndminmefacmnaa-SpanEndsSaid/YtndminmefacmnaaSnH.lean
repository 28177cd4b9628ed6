/-
  Meet, apart.
-/
import Derived.Test.YtndminmefacmnaaSnG
namespace Go.Proofs.Ytndminmefacmnaa
open Go.RowKit Go.Lib

theorem four_new (w : World) (o1 o2 o3 o4 : Obj) : Below w.heap.size w ((((w.alloc o1).alloc o2).alloc o3).alloc o4) ∧ ((((w.alloc o1).alloc o2).alloc o3).alloc o4).heap[w.heap.size]? = some o1 ∧ ((((w.alloc o1).alloc o2).alloc o3).alloc o4).heap[w.heap.size + 1]? = some o2 ∧
    ((((w.alloc o1).alloc o2).alloc o3).alloc o4).heap[w.heap.size + 1 + 1]? = some o3 ∧ ((((w.alloc o1).alloc o2).alloc o3).alloc o4).heap[w.heap.size + 1 + 1 + 1]? = some o4 := by
  obtain ⟨h1, h2, h3⟩ := two_new w o1 o2
  obtain ⟨k1, k2, k3⟩ := two_new ((w.alloc o1).alloc o2) o3 o4
  have e : ((w.alloc o1).alloc o2).heap.size = w.heap.size + 1 + 1 := by simp
  rw [e] at k2 k3
  exact ⟨h1.trans (k1.mono (by simp; omega)), (k1.block _ (lt_of_block h2)).trans h2, (k1.block _ (lt_of_block h3)).trans h3, k2, k3⟩
theorem set2 {w : World} {x : Nat} {a0 a1 : Value} {t : TypeId} (h : w.heap[x]? = some (.cells #[a0, a1] t (0, 0))) (v0 v1 : Value) :
    ((w.setCell ⟨x, 0, none⟩ v0).setCell ⟨x, 1, none⟩ v1).heap[x]? = some (.cells #[v0, v1] t (0, 0)) ∧ Keeps (fun k => k = x) w ((w.setCell ⟨x, 0, none⟩ v0).setCell ⟨x, 1, none⟩ v1) :=
  ⟨block_setCell' (k := 1) (block_setCell' (k := 0) h), ((Keeps.refl (fun k => k = x) w).setCell (p := ⟨x, 0, none⟩) rfl _).setCell (p := ⟨x, 1, none⟩) rfl _⟩
theorem two_froz {w : World} {b : Nat} {x0 x1 : Value} {t : TypeId} (h : w.heap[b]? = some (.cells #[x0, x1] t (0, 0))) : w.frozen? ⟨b, 0, none⟩ = false ∧ w.frozen? ⟨b, 1, none⟩ = false := ⟨(block_cell' h 0).2, (block_cell' h 1).2⟩
theorem max_if (a c : Int) : max a c = if a < c then c else a := by split <;> omega
theorem min_if (b d : Int) : min b d = if d < b then d else b := by split <;> omega
theorem meetS_no {a b : Sg} (h : meetIs a b = false) : meetS a b = ⟨0, 0⟩ := by
  unfold meetS
  rw [h]
  rfl
theorem meetS_is {a b : Sg} (h : meetIs a b = true) : meetS a b = meetM a b := by
  unfold meetS
  rw [h]
  rfl
set_option maxHeartbeats 1000000 in
theorem sMeet_any (a b c d : Int) (w : World) : Calls Try.prog 13 #[.agg #[.int .i64 a, .int .i64 b], .agg #[.int .i64 c, .int .i64 d]] w fun e w' => e = .returned (.tuple #[sgv (meetS ⟨a, b⟩ ⟨c, d⟩), .bool (meetIs ⟨a, b⟩ ⟨c, d⟩)]) ∧ Below w.heap.size w w' := by
  have HA := Lib.hid (fun u => both_any a b c d u)
  have HM3 := Lib.hid (fun u => sRight_any (max a c) (min b d) u)
  have hdef : meetIs ⟨a, b⟩ ⟨c, d⟩ = (srB a b && srB c d && srB (max a c) (min b d)) := rfl
  cases h1 : (srB a b && srB c d)
  · rw [h1] at HA
    have hno : meetIs ⟨a, b⟩ ⟨c, d⟩ = false := by rw [hdef, h1]; rfl
    have HR := Lib.hid (show Ending.returned (.tuple #[.agg #[.int .i64 0, .int .i64 0], .bool false]) = .returned (.tuple #[sgv (meetS ⟨a, b⟩ ⟨c, d⟩), .bool (meetIs ⟨a, b⟩ ⟨c, d⟩)]) from by rw [meetS_no hno, hno])
    have HMs := Lib.hid (show max a c = max a c ∧ min b d = min b d from ⟨rfl, rfl⟩)
    clear hno hdef h1 HM3
    go_enter Try.func13, Try.ntmps13
    go_upto_region 2 with (fail)
    refine gen_world (S := fun u => Below w.heap.size w u ∧ u.heap[w.heap.size]? = some (.cells #[.int .i64 a, .int .i64 b] 23 (0, 0)) ∧ u.heap[w.heap.size + 1]? = some (.cells #[.int .i64 c, .int .i64 d] 23 (0, 0)) ∧ u.heap[w.heap.size + 1 + 1]? = some (.cells #[.int .i64 0, .int .i64 0] 23 (0, 0)) ∧ u.heap[w.heap.size + 1 + 1 + 1]? = some (.cells #[.int .i64 (if a < c then c else a), .int .i64 (if d < b then d else b)] 23 (0, 0))) (four_new w _ _ _ _) (fun u hu => ?_)
    obtain ⟨hb0, hx, hy, hz, hm⟩ := hu
    rw [← max_if, ← min_if] at hm ⊢
    generalize max a c = mf at hm HMs ⊢
    generalize min b d = mt at hm HMs ⊢
    obtain ⟨x0, x1⟩ := two_box hx
    obtain ⟨y0, y1⟩ := two_box hy
    obtain ⟨z0, z1⟩ := two_box hz
    obtain ⟨m0, m1⟩ := two_box hm
    have HX := Lib.hid hx
    have HY := Lib.hid hy
    have HZ := Lib.hid hz
    have HM := Lib.hid hm
    have HB := Lib.hid hb0
    obtain ⟨X, hX⟩ : ∃ X, X = w.heap.size := ⟨_, rfl⟩
    have HXl := Lib.hid hX
    rw [← hX] at x0 x1 y0 y1 z0 z1 m0 m1 HX HY HZ HM ⊢
    clear hb0 hx hy hz hm hX
    go_wp2_with fail
    refine (HA.out _).mono ?_
    rintro e uu ⟨rfl, hb⟩
    have hx := (hb.block _ (lt_of_block HX.out)).trans HX.out
    have hy := (hb.block _ (lt_of_block HY.out)).trans HY.out
    have hz := (hb.block _ (lt_of_block HZ.out)).trans HZ.out
    have hm := (hb.block _ (lt_of_block HM.out)).trans HM.out
    have hb0 := HB.out.trans (hb.mono HB.out.size)
    clear x0 x1 y0 y1 z0 z1 m0 m1 HX HB hb HY HZ HM
    obtain ⟨x0, x1⟩ := two_box hx
    have HX := Lib.hid hx
    have HB := Lib.hid hb0
    clear hx hb0
    obtain ⟨y0, y1⟩ := two_box hy
    have HY := Lib.hid hy
    clear hy
    obtain ⟨z0, z1⟩ := two_box hz
    have HZ := Lib.hid hz
    obtain ⟨m0, m1⟩ := two_box hm
    have HM := Lib.hid hm
    clear hz hm
    obtain ⟨f0, f1⟩ := two_froz HZ.out
    obtain ⟨q, hq⟩ := set2 HZ.out (.int .i64 0) (.int .i64 0)
    have HQk := Lib.hid (HB.out.trans (hq.below HB.out.size (fun k e => by have := HXl.out; omega)))
    obtain ⟨g0, g1⟩ := two_box q
    obtain ⟨q2, hq2⟩ := set2 q (.int .i64 0) (.int .i64 0)
    clear hq hq2 q q2
    go_wp2
    exact bodyPost_ret (v := .tuple #[.agg #[.int .i64 0, .int .i64 0], .bool false]) (by simp [results, Try.f13, go_sem, g0, g1]) rfl ⟨HR.out, HQk.out⟩
  · rw [h1] at HA
    cases h2 : srB (max a c) (min b d)
    · rw [h2] at HM3
      have hno : meetIs ⟨a, b⟩ ⟨c, d⟩ = false := by rw [hdef, h1, h2]; rfl
      have HR := Lib.hid (show Ending.returned (.tuple #[.agg #[.int .i64 0, .int .i64 0], .bool false]) = .returned (.tuple #[sgv (meetS ⟨a, b⟩ ⟨c, d⟩), .bool (meetIs ⟨a, b⟩ ⟨c, d⟩)]) from by rw [meetS_no hno, hno])
      have HMs := Lib.hid (show max a c = max a c ∧ min b d = min b d from ⟨rfl, rfl⟩)
      clear hno hdef h1 h2
      go_enter Try.func13, Try.ntmps13
      go_upto_region 2 with (fail)
      refine gen_world (S := fun u => Below w.heap.size w u ∧ u.heap[w.heap.size]? = some (.cells #[.int .i64 a, .int .i64 b] 23 (0, 0)) ∧ u.heap[w.heap.size + 1]? = some (.cells #[.int .i64 c, .int .i64 d] 23 (0, 0)) ∧ u.heap[w.heap.size + 1 + 1]? = some (.cells #[.int .i64 0, .int .i64 0] 23 (0, 0)) ∧ u.heap[w.heap.size + 1 + 1 + 1]? = some (.cells #[.int .i64 (if a < c then c else a), .int .i64 (if d < b then d else b)] 23 (0, 0))) (four_new w _ _ _ _) (fun u hu => ?_)
      obtain ⟨hb0, hx, hy, hz, hm⟩ := hu
      rw [← max_if, ← min_if] at hm ⊢
      generalize max a c = mf at hm HMs HM3 ⊢
      generalize min b d = mt at hm HMs HM3 ⊢
      obtain ⟨x0, x1⟩ := two_box hx
      obtain ⟨y0, y1⟩ := two_box hy
      obtain ⟨z0, z1⟩ := two_box hz
      obtain ⟨m0, m1⟩ := two_box hm
      have HX := Lib.hid hx
      have HY := Lib.hid hy
      have HZ := Lib.hid hz
      have HM := Lib.hid hm
      have HB := Lib.hid hb0
      obtain ⟨X, hX⟩ : ∃ X, X = w.heap.size := ⟨_, rfl⟩
      have HXl := Lib.hid hX
      rw [← hX] at x0 x1 y0 y1 z0 z1 m0 m1 HX HY HZ HM ⊢
      clear hb0 hx hy hz hm hX
      go_wp2_with fail
      refine (HA.out _).mono ?_
      rintro e uu ⟨rfl, hb⟩
      have hx := (hb.block _ (lt_of_block HX.out)).trans HX.out
      have hy := (hb.block _ (lt_of_block HY.out)).trans HY.out
      have hz := (hb.block _ (lt_of_block HZ.out)).trans HZ.out
      have hm := (hb.block _ (lt_of_block HM.out)).trans HM.out
      have hb0 := HB.out.trans (hb.mono HB.out.size)
      clear x0 x1 y0 y1 z0 z1 m0 m1 HX HB hb HY HZ HM
      obtain ⟨x0, x1⟩ := two_box hx
      have HX := Lib.hid hx
      have HB := Lib.hid hb0
      clear hx hb0
      obtain ⟨y0, y1⟩ := two_box hy
      have HY := Lib.hid hy
      clear hy
      obtain ⟨z0, z1⟩ := two_box hz
      have HZ := Lib.hid hz
      obtain ⟨m0, m1⟩ := two_box hm
      have HM := Lib.hid hm
      clear hz hm
      go_wp2_with fail
      refine (HM3.out _).mono ?_
      rintro e uu ⟨rfl, hb⟩
      have hx := (hb.block _ (lt_of_block HX.out)).trans HX.out
      have hy := (hb.block _ (lt_of_block HY.out)).trans HY.out
      have hz := (hb.block _ (lt_of_block HZ.out)).trans HZ.out
      have hm := (hb.block _ (lt_of_block HM.out)).trans HM.out
      have hb0 := HB.out.trans (hb.mono HB.out.size)
      clear x0 x1 y0 y1 z0 z1 m0 m1 HX HB hb HY HZ HM
      obtain ⟨x0, x1⟩ := two_box hx
      have HX := Lib.hid hx
      have HB := Lib.hid hb0
      clear hx hb0
      obtain ⟨y0, y1⟩ := two_box hy
      have HY := Lib.hid hy
      clear hy
      obtain ⟨z0, z1⟩ := two_box hz
      have HZ := Lib.hid hz
      obtain ⟨m0, m1⟩ := two_box hm
      have HM := Lib.hid hm
      clear hz hm
      obtain ⟨f0, f1⟩ := two_froz HZ.out
      obtain ⟨q, hq⟩ := set2 HZ.out (.int .i64 0) (.int .i64 0)
      have HQk := Lib.hid (HB.out.trans (hq.below HB.out.size (fun k e => by have := HXl.out; omega)))
      obtain ⟨g0, g1⟩ := two_box q
      obtain ⟨q2, hq2⟩ := set2 q (.int .i64 0) (.int .i64 0)
      clear hq hq2 q q2
      go_wp2
      exact bodyPost_ret (v := .tuple #[.agg #[.int .i64 0, .int .i64 0], .bool false]) (by simp [results, Try.f13, go_sem, g0, g1]) rfl ⟨HR.out, HQk.out⟩
    · rw [h2] at HM3
      have hyes : meetIs ⟨a, b⟩ ⟨c, d⟩ = true := by rw [hdef, h1, h2]; rfl
      have HR := Lib.hid (show Ending.returned (.tuple #[.agg #[.int .i64 (max a c), .int .i64 (min b d)], .bool true]) = .returned (.tuple #[sgv (meetS ⟨a, b⟩ ⟨c, d⟩), .bool (meetIs ⟨a, b⟩ ⟨c, d⟩)]) from by rw [meetS_is hyes, hyes]; rfl)
      clear hyes hdef h1 h2
      go_enter Try.func13, Try.ntmps13
      go_upto_region 2 with (fail)
      refine gen_world (S := fun u => Below w.heap.size w u ∧ u.heap[w.heap.size]? = some (.cells #[.int .i64 a, .int .i64 b] 23 (0, 0)) ∧ u.heap[w.heap.size + 1]? = some (.cells #[.int .i64 c, .int .i64 d] 23 (0, 0)) ∧ u.heap[w.heap.size + 1 + 1]? = some (.cells #[.int .i64 0, .int .i64 0] 23 (0, 0)) ∧ u.heap[w.heap.size + 1 + 1 + 1]? = some (.cells #[.int .i64 (if a < c then c else a), .int .i64 (if d < b then d else b)] 23 (0, 0))) (four_new w _ _ _ _) (fun u hu => ?_)
      obtain ⟨hb0, hx, hy, hz, hm⟩ := hu
      rw [← max_if, ← min_if] at hm ⊢
      generalize max a c = mf at hm HR HM3 ⊢
      generalize min b d = mt at hm HR HM3 ⊢
      obtain ⟨x0, x1⟩ := two_box hx
      obtain ⟨y0, y1⟩ := two_box hy
      obtain ⟨z0, z1⟩ := two_box hz
      obtain ⟨m0, m1⟩ := two_box hm
      have HX := Lib.hid hx
      have HY := Lib.hid hy
      have HZ := Lib.hid hz
      have HM := Lib.hid hm
      have HB := Lib.hid hb0
      obtain ⟨X, hX⟩ : ∃ X, X = w.heap.size := ⟨_, rfl⟩
      have HXl := Lib.hid hX
      rw [← hX] at x0 x1 y0 y1 z0 z1 m0 m1 HX HY HZ HM ⊢
      clear hb0 hx hy hz hm hX
      go_wp2_with fail
      refine (HA.out _).mono ?_
      rintro e uu ⟨rfl, hb⟩
      have hx := (hb.block _ (lt_of_block HX.out)).trans HX.out
      have hy := (hb.block _ (lt_of_block HY.out)).trans HY.out
      have hz := (hb.block _ (lt_of_block HZ.out)).trans HZ.out
      have hm := (hb.block _ (lt_of_block HM.out)).trans HM.out
      have hb0 := HB.out.trans (hb.mono HB.out.size)
      clear x0 x1 y0 y1 z0 z1 m0 m1 HX HB hb HY HZ HM
      obtain ⟨x0, x1⟩ := two_box hx
      have HX := Lib.hid hx
      have HB := Lib.hid hb0
      clear hx hb0
      obtain ⟨y0, y1⟩ := two_box hy
      have HY := Lib.hid hy
      clear hy
      obtain ⟨z0, z1⟩ := two_box hz
      have HZ := Lib.hid hz
      obtain ⟨m0, m1⟩ := two_box hm
      have HM := Lib.hid hm
      clear hz hm
      go_wp2_with fail
      refine (HM3.out _).mono ?_
      rintro e uu ⟨rfl, hb⟩
      have hx := (hb.block _ (lt_of_block HX.out)).trans HX.out
      have hy := (hb.block _ (lt_of_block HY.out)).trans HY.out
      have hz := (hb.block _ (lt_of_block HZ.out)).trans HZ.out
      have hm := (hb.block _ (lt_of_block HM.out)).trans HM.out
      have hb0 := HB.out.trans (hb.mono HB.out.size)
      clear x0 x1 y0 y1 z0 z1 m0 m1 HX HB hb HY HZ HM
      obtain ⟨x0, x1⟩ := two_box hx
      have HX := Lib.hid hx
      have HB := Lib.hid hb0
      clear hx hb0
      obtain ⟨y0, y1⟩ := two_box hy
      have HY := Lib.hid hy
      clear hy
      obtain ⟨z0, z1⟩ := two_box hz
      have HZ := Lib.hid hz
      obtain ⟨m0, m1⟩ := two_box hm
      have HM := Lib.hid hm
      clear hz hm
      obtain ⟨f0, f1⟩ := two_froz HZ.out
      obtain ⟨q, hq⟩ := set2 HZ.out (.int .i64 mf) (.int .i64 mt)
      have HQk := Lib.hid (HB.out.trans (hq.below HB.out.size (fun k e => by have := HXl.out; omega)))
      obtain ⟨g0, g1⟩ := two_box q
      obtain ⟨q2, hq2⟩ := set2 q (.int .i64 mf) (.int .i64 mt)
      clear hq hq2 q q2
      go_wp2
      exact bodyPost_ret (v := .tuple #[.agg #[.int .i64 mf, .int .i64 mt], .bool true]) (by simp [results, Try.f13, go_sem, g0, g1]) rfl ⟨HR.out, HQk.out⟩
set_option maxHeartbeats 1000000 in
theorem rMeet_any (a b c d : Int) (w : World) : Calls Try.prog 14 #[.agg #[.int .i64 a, .int .i64 b], .agg #[.int .i64 c, .int .i64 d]] w fun e w' => e = .returned (.tuple #[sgv (meetS ⟨a, b⟩ ⟨c, d⟩), .bool (meetIs ⟨a, b⟩ ⟨c, d⟩)]) ∧ Below w.heap.size w w' := by
  have HA := Lib.hid (fun u => rRight_any a b u)
  have HC := Lib.hid (fun u => rRight_any c d u)
  have HM3 := Lib.hid (fun u => rRight_any (max a c) (min b d) u)
  have hdef : meetIs ⟨a, b⟩ ⟨c, d⟩ = (srB a b && srB c d && srB (max a c) (min b d)) := rfl
  cases h1 : srB a b
  · rw [h1] at HA
    have hno : meetIs ⟨a, b⟩ ⟨c, d⟩ = false := by rw [hdef, h1]; rfl
    have HR := Lib.hid (show Ending.returned (.tuple #[.agg #[.int .i64 0, .int .i64 0], .bool false]) = .returned (.tuple #[sgv (meetS ⟨a, b⟩ ⟨c, d⟩), .bool (meetIs ⟨a, b⟩ ⟨c, d⟩)]) from by rw [meetS_no hno, hno])
    have HMs := Lib.hid (show max a c = max a c ∧ min b d = min b d from ⟨rfl, rfl⟩)
    clear hno hdef h1 HM3 HC
    go_enter Try.func14, Try.ntmps14
    go_upto_region 2 with (fail)
    refine gen_world (S := fun u => Below w.heap.size w u ∧ u.heap[w.heap.size]? = some (.cells #[.int .i64 a, .int .i64 b] 23 (0, 0)) ∧ u.heap[w.heap.size + 1]? = some (.cells #[.int .i64 c, .int .i64 d] 23 (0, 0)) ∧ u.heap[w.heap.size + 1 + 1]? = some (.cells #[.int .i64 0, .int .i64 0] 23 (0, 0)) ∧ u.heap[w.heap.size + 1 + 1 + 1]? = some (.cells #[.int .i64 (if a < c then c else a), .int .i64 (if d < b then d else b)] 23 (0, 0))) (four_new w _ _ _ _) (fun u hu => ?_)
    obtain ⟨hb0, hx, hy, hz, hm⟩ := hu
    rw [← max_if, ← min_if] at hm ⊢
    generalize max a c = mf at hm HMs ⊢
    generalize min b d = mt at hm HMs ⊢
    obtain ⟨x0, x1⟩ := two_box hx
    obtain ⟨y0, y1⟩ := two_box hy
    obtain ⟨z0, z1⟩ := two_box hz
    obtain ⟨m0, m1⟩ := two_box hm
    have HX := Lib.hid hx
    have HY := Lib.hid hy
    have HZ := Lib.hid hz
    have HM := Lib.hid hm
    have HB := Lib.hid hb0
    obtain ⟨X, hX⟩ : ∃ X, X = w.heap.size := ⟨_, rfl⟩
    have HXl := Lib.hid hX
    rw [← hX] at x0 x1 y0 y1 z0 z1 m0 m1 HX HY HZ HM ⊢
    clear hb0 hx hy hz hm hX
    go_wp2_with fail
    refine (HA.out _).mono ?_
    rintro e uu ⟨rfl, hb⟩
    have hx := (hb.block _ (lt_of_block HX.out)).trans HX.out
    have hy := (hb.block _ (lt_of_block HY.out)).trans HY.out
    have hz := (hb.block _ (lt_of_block HZ.out)).trans HZ.out
    have hm := (hb.block _ (lt_of_block HM.out)).trans HM.out
    have hb0 := HB.out.trans (hb.mono HB.out.size)
    clear x0 x1 y0 y1 z0 z1 m0 m1 HX HB hb HY HZ HM
    obtain ⟨x0, x1⟩ := two_box hx
    have HX := Lib.hid hx
    have HB := Lib.hid hb0
    clear hx hb0
    obtain ⟨y0, y1⟩ := two_box hy
    have HY := Lib.hid hy
    clear hy
    obtain ⟨z0, z1⟩ := two_box hz
    have HZ := Lib.hid hz
    obtain ⟨m0, m1⟩ := two_box hm
    have HM := Lib.hid hm
    clear hz hm
    obtain ⟨f0, f1⟩ := two_froz HZ.out
    obtain ⟨q, hq⟩ := set2 HZ.out (.int .i64 0) (.int .i64 0)
    have HQk := Lib.hid (HB.out.trans (hq.below HB.out.size (fun k e => by have := HXl.out; omega)))
    obtain ⟨g0, g1⟩ := two_box q
    obtain ⟨q2, hq2⟩ := set2 q (.int .i64 0) (.int .i64 0)
    clear hq hq2 q q2
    go_wp2
    exact bodyPost_ret (v := .tuple #[.agg #[.int .i64 0, .int .i64 0], .bool false]) (by simp [results, Try.f14, go_sem, g0, g1]) rfl ⟨HR.out, HQk.out⟩
  · rw [h1] at HA
    cases h3 : srB c d
    · rw [h3] at HC
      have hno : meetIs ⟨a, b⟩ ⟨c, d⟩ = false := by rw [hdef, h1, h3]; rfl
      have HR := Lib.hid (show Ending.returned (.tuple #[.agg #[.int .i64 0, .int .i64 0], .bool false]) = .returned (.tuple #[sgv (meetS ⟨a, b⟩ ⟨c, d⟩), .bool (meetIs ⟨a, b⟩ ⟨c, d⟩)]) from by rw [meetS_no hno, hno])
      have HMs := Lib.hid (show max a c = max a c ∧ min b d = min b d from ⟨rfl, rfl⟩)
      clear hno hdef h1 h3 HM3
      go_enter Try.func14, Try.ntmps14
      go_upto_region 2 with (fail)
      refine gen_world (S := fun u => Below w.heap.size w u ∧ u.heap[w.heap.size]? = some (.cells #[.int .i64 a, .int .i64 b] 23 (0, 0)) ∧ u.heap[w.heap.size + 1]? = some (.cells #[.int .i64 c, .int .i64 d] 23 (0, 0)) ∧ u.heap[w.heap.size + 1 + 1]? = some (.cells #[.int .i64 0, .int .i64 0] 23 (0, 0)) ∧ u.heap[w.heap.size + 1 + 1 + 1]? = some (.cells #[.int .i64 (if a < c then c else a), .int .i64 (if d < b then d else b)] 23 (0, 0))) (four_new w _ _ _ _) (fun u hu => ?_)
      obtain ⟨hb0, hx, hy, hz, hm⟩ := hu
      rw [← max_if, ← min_if] at hm ⊢
      generalize max a c = mf at hm HMs ⊢
      generalize min b d = mt at hm HMs ⊢
      obtain ⟨x0, x1⟩ := two_box hx
      obtain ⟨y0, y1⟩ := two_box hy
      obtain ⟨z0, z1⟩ := two_box hz
      obtain ⟨m0, m1⟩ := two_box hm
      have HX := Lib.hid hx
      have HY := Lib.hid hy
      have HZ := Lib.hid hz
      have HM := Lib.hid hm
      have HB := Lib.hid hb0
      obtain ⟨X, hX⟩ : ∃ X, X = w.heap.size := ⟨_, rfl⟩
      have HXl := Lib.hid hX
      rw [← hX] at x0 x1 y0 y1 z0 z1 m0 m1 HX HY HZ HM ⊢
      clear hb0 hx hy hz hm hX
      go_wp2_with fail
      refine (HA.out _).mono ?_
      rintro e uu ⟨rfl, hb⟩
      have hx := (hb.block _ (lt_of_block HX.out)).trans HX.out
      have hy := (hb.block _ (lt_of_block HY.out)).trans HY.out
      have hz := (hb.block _ (lt_of_block HZ.out)).trans HZ.out
      have hm := (hb.block _ (lt_of_block HM.out)).trans HM.out
      have hb0 := HB.out.trans (hb.mono HB.out.size)
      clear x0 x1 y0 y1 z0 z1 m0 m1 HX HB hb HY HZ HM
      obtain ⟨x0, x1⟩ := two_box hx
      have HX := Lib.hid hx
      have HB := Lib.hid hb0
      clear hx hb0
      obtain ⟨y0, y1⟩ := two_box hy
      have HY := Lib.hid hy
      clear hy
      obtain ⟨z0, z1⟩ := two_box hz
      have HZ := Lib.hid hz
      obtain ⟨m0, m1⟩ := two_box hm
      have HM := Lib.hid hm
      clear hz hm
      go_wp2_with fail
      refine (HC.out _).mono ?_
      rintro e uu ⟨rfl, hb⟩
      have hx := (hb.block _ (lt_of_block HX.out)).trans HX.out
      have hy := (hb.block _ (lt_of_block HY.out)).trans HY.out
      have hz := (hb.block _ (lt_of_block HZ.out)).trans HZ.out
      have hm := (hb.block _ (lt_of_block HM.out)).trans HM.out
      have hb0 := HB.out.trans (hb.mono HB.out.size)
      clear x0 x1 y0 y1 z0 z1 m0 m1 HX HB hb HY HZ HM
      obtain ⟨x0, x1⟩ := two_box hx
      have HX := Lib.hid hx
      have HB := Lib.hid hb0
      clear hx hb0
      obtain ⟨y0, y1⟩ := two_box hy
      have HY := Lib.hid hy
      clear hy
      obtain ⟨z0, z1⟩ := two_box hz
      have HZ := Lib.hid hz
      obtain ⟨m0, m1⟩ := two_box hm
      have HM := Lib.hid hm
      clear hz hm
      obtain ⟨f0, f1⟩ := two_froz HZ.out
      obtain ⟨q, hq⟩ := set2 HZ.out (.int .i64 0) (.int .i64 0)
      have HQk := Lib.hid (HB.out.trans (hq.below HB.out.size (fun k e => by have := HXl.out; omega)))
      obtain ⟨g0, g1⟩ := two_box q
      obtain ⟨q2, hq2⟩ := set2 q (.int .i64 0) (.int .i64 0)
      clear hq hq2 q q2
      go_wp2
      exact bodyPost_ret (v := .tuple #[.agg #[.int .i64 0, .int .i64 0], .bool false]) (by simp [results, Try.f14, go_sem, g0, g1]) rfl ⟨HR.out, HQk.out⟩
    · rw [h3] at HC
      cases h2 : srB (max a c) (min b d)
      · rw [h2] at HM3
        have hno : meetIs ⟨a, b⟩ ⟨c, d⟩ = false := by rw [hdef, h1, h3, h2]; rfl
        have HR := Lib.hid (show Ending.returned (.tuple #[.agg #[.int .i64 0, .int .i64 0], .bool false]) = .returned (.tuple #[sgv (meetS ⟨a, b⟩ ⟨c, d⟩), .bool (meetIs ⟨a, b⟩ ⟨c, d⟩)]) from by rw [meetS_no hno, hno])
        have HMs := Lib.hid (show max a c = max a c ∧ min b d = min b d from ⟨rfl, rfl⟩)
        clear hno hdef h1 h2 h3
        go_enter Try.func14, Try.ntmps14
        go_upto_region 2 with (fail)
        refine gen_world (S := fun u => Below w.heap.size w u ∧ u.heap[w.heap.size]? = some (.cells #[.int .i64 a, .int .i64 b] 23 (0, 0)) ∧ u.heap[w.heap.size + 1]? = some (.cells #[.int .i64 c, .int .i64 d] 23 (0, 0)) ∧ u.heap[w.heap.size + 1 + 1]? = some (.cells #[.int .i64 0, .int .i64 0] 23 (0, 0)) ∧ u.heap[w.heap.size + 1 + 1 + 1]? = some (.cells #[.int .i64 (if a < c then c else a), .int .i64 (if d < b then d else b)] 23 (0, 0))) (four_new w _ _ _ _) (fun u hu => ?_)
        obtain ⟨hb0, hx, hy, hz, hm⟩ := hu
        rw [← max_if, ← min_if] at hm ⊢
        generalize max a c = mf at hm HMs HM3 ⊢
        generalize min b d = mt at hm HMs HM3 ⊢
        obtain ⟨x0, x1⟩ := two_box hx
        obtain ⟨y0, y1⟩ := two_box hy
        obtain ⟨z0, z1⟩ := two_box hz
        obtain ⟨m0, m1⟩ := two_box hm
        have HX := Lib.hid hx
        have HY := Lib.hid hy
        have HZ := Lib.hid hz
        have HM := Lib.hid hm
        have HB := Lib.hid hb0
        obtain ⟨X, hX⟩ : ∃ X, X = w.heap.size := ⟨_, rfl⟩
        have HXl := Lib.hid hX
        rw [← hX] at x0 x1 y0 y1 z0 z1 m0 m1 HX HY HZ HM ⊢
        clear hb0 hx hy hz hm hX
        go_wp2_with fail
        refine (HA.out _).mono ?_
        rintro e uu ⟨rfl, hb⟩
        have hx := (hb.block _ (lt_of_block HX.out)).trans HX.out
        have hy := (hb.block _ (lt_of_block HY.out)).trans HY.out
        have hz := (hb.block _ (lt_of_block HZ.out)).trans HZ.out
        have hm := (hb.block _ (lt_of_block HM.out)).trans HM.out
        have hb0 := HB.out.trans (hb.mono HB.out.size)
        clear x0 x1 y0 y1 z0 z1 m0 m1 HX HB hb HY HZ HM
        obtain ⟨x0, x1⟩ := two_box hx
        have HX := Lib.hid hx
        have HB := Lib.hid hb0
        clear hx hb0
        obtain ⟨y0, y1⟩ := two_box hy
        have HY := Lib.hid hy
        clear hy
        obtain ⟨z0, z1⟩ := two_box hz
        have HZ := Lib.hid hz
        obtain ⟨m0, m1⟩ := two_box hm
        have HM := Lib.hid hm
        clear hz hm
        go_wp2_with fail
        refine (HC.out _).mono ?_
        rintro e uu ⟨rfl, hb⟩
        have hx := (hb.block _ (lt_of_block HX.out)).trans HX.out
        have hy := (hb.block _ (lt_of_block HY.out)).trans HY.out
        have hz := (hb.block _ (lt_of_block HZ.out)).trans HZ.out
        have hm := (hb.block _ (lt_of_block HM.out)).trans HM.out
        have hb0 := HB.out.trans (hb.mono HB.out.size)
        clear x0 x1 y0 y1 z0 z1 m0 m1 HX HB hb HY HZ HM
        obtain ⟨x0, x1⟩ := two_box hx
        have HX := Lib.hid hx
        have HB := Lib.hid hb0
        clear hx hb0
        obtain ⟨y0, y1⟩ := two_box hy
        have HY := Lib.hid hy
        clear hy
        obtain ⟨z0, z1⟩ := two_box hz
        have HZ := Lib.hid hz
        obtain ⟨m0, m1⟩ := two_box hm
        have HM := Lib.hid hm
        clear hz hm
        go_wp2_with fail
        refine (HM3.out _).mono ?_
        rintro e uu ⟨rfl, hb⟩
        have hx := (hb.block _ (lt_of_block HX.out)).trans HX.out
        have hy := (hb.block _ (lt_of_block HY.out)).trans HY.out
        have hz := (hb.block _ (lt_of_block HZ.out)).trans HZ.out
        have hm := (hb.block _ (lt_of_block HM.out)).trans HM.out
        have hb0 := HB.out.trans (hb.mono HB.out.size)
        clear x0 x1 y0 y1 z0 z1 m0 m1 HX HB hb HY HZ HM
        obtain ⟨x0, x1⟩ := two_box hx
        have HX := Lib.hid hx
        have HB := Lib.hid hb0
        clear hx hb0
        obtain ⟨y0, y1⟩ := two_box hy
        have HY := Lib.hid hy
        clear hy
        obtain ⟨z0, z1⟩ := two_box hz
        have HZ := Lib.hid hz
        obtain ⟨m0, m1⟩ := two_box hm
        have HM := Lib.hid hm
        clear hz hm
        obtain ⟨f0, f1⟩ := two_froz HZ.out
        obtain ⟨q, hq⟩ := set2 HZ.out (.int .i64 0) (.int .i64 0)
        have HQk := Lib.hid (HB.out.trans (hq.below HB.out.size (fun k e => by have := HXl.out; omega)))
        obtain ⟨g0, g1⟩ := two_box q
        obtain ⟨q2, hq2⟩ := set2 q (.int .i64 0) (.int .i64 0)
        clear hq hq2 q q2
        go_wp2
        exact bodyPost_ret (v := .tuple #[.agg #[.int .i64 0, .int .i64 0], .bool false]) (by simp [results, Try.f14, go_sem, g0, g1]) rfl ⟨HR.out, HQk.out⟩
      · rw [h2] at HM3
        have hyes : meetIs ⟨a, b⟩ ⟨c, d⟩ = true := by rw [hdef, h1, h3, h2]; rfl
        have HR := Lib.hid (show Ending.returned (.tuple #[.agg #[.int .i64 (max a c), .int .i64 (min b d)], .bool true]) = .returned (.tuple #[sgv (meetS ⟨a, b⟩ ⟨c, d⟩), .bool (meetIs ⟨a, b⟩ ⟨c, d⟩)]) from by rw [meetS_is hyes, hyes]; rfl)
        clear hyes hdef h1 h2 h3
        go_enter Try.func14, Try.ntmps14
        go_upto_region 2 with (fail)
        refine gen_world (S := fun u => Below w.heap.size w u ∧ u.heap[w.heap.size]? = some (.cells #[.int .i64 a, .int .i64 b] 23 (0, 0)) ∧ u.heap[w.heap.size + 1]? = some (.cells #[.int .i64 c, .int .i64 d] 23 (0, 0)) ∧ u.heap[w.heap.size + 1 + 1]? = some (.cells #[.int .i64 0, .int .i64 0] 23 (0, 0)) ∧ u.heap[w.heap.size + 1 + 1 + 1]? = some (.cells #[.int .i64 (if a < c then c else a), .int .i64 (if d < b then d else b)] 23 (0, 0))) (four_new w _ _ _ _) (fun u hu => ?_)
        obtain ⟨hb0, hx, hy, hz, hm⟩ := hu
        rw [← max_if, ← min_if] at hm ⊢
        generalize max a c = mf at hm HR HM3 ⊢
        generalize min b d = mt at hm HR HM3 ⊢
        obtain ⟨x0, x1⟩ := two_box hx
        obtain ⟨y0, y1⟩ := two_box hy
        obtain ⟨z0, z1⟩ := two_box hz
        obtain ⟨m0, m1⟩ := two_box hm
        have HX := Lib.hid hx
        have HY := Lib.hid hy
        have HZ := Lib.hid hz
        have HM := Lib.hid hm
        have HB := Lib.hid hb0
        obtain ⟨X, hX⟩ : ∃ X, X = w.heap.size := ⟨_, rfl⟩
        have HXl := Lib.hid hX
        rw [← hX] at x0 x1 y0 y1 z0 z1 m0 m1 HX HY HZ HM ⊢
        clear hb0 hx hy hz hm hX
        go_wp2_with fail
        refine (HA.out _).mono ?_
        rintro e uu ⟨rfl, hb⟩
        have hx := (hb.block _ (lt_of_block HX.out)).trans HX.out
        have hy := (hb.block _ (lt_of_block HY.out)).trans HY.out
        have hz := (hb.block _ (lt_of_block HZ.out)).trans HZ.out
        have hm := (hb.block _ (lt_of_block HM.out)).trans HM.out
        have hb0 := HB.out.trans (hb.mono HB.out.size)
        clear x0 x1 y0 y1 z0 z1 m0 m1 HX HB hb HY HZ HM
        obtain ⟨x0, x1⟩ := two_box hx
        have HX := Lib.hid hx
        have HB := Lib.hid hb0
        clear hx hb0
        obtain ⟨y0, y1⟩ := two_box hy
        have HY := Lib.hid hy
        clear hy
        obtain ⟨z0, z1⟩ := two_box hz
        have HZ := Lib.hid hz
        obtain ⟨m0, m1⟩ := two_box hm
        have HM := Lib.hid hm
        clear hz hm
        go_wp2_with fail
        refine (HC.out _).mono ?_
        rintro e uu ⟨rfl, hb⟩
        have hx := (hb.block _ (lt_of_block HX.out)).trans HX.out
        have hy := (hb.block _ (lt_of_block HY.out)).trans HY.out
        have hz := (hb.block _ (lt_of_block HZ.out)).trans HZ.out
        have hm := (hb.block _ (lt_of_block HM.out)).trans HM.out
        have hb0 := HB.out.trans (hb.mono HB.out.size)
        clear x0 x1 y0 y1 z0 z1 m0 m1 HX HB hb HY HZ HM
        obtain ⟨x0, x1⟩ := two_box hx
        have HX := Lib.hid hx
        have HB := Lib.hid hb0
        clear hx hb0
        obtain ⟨y0, y1⟩ := two_box hy
        have HY := Lib.hid hy
        clear hy
        obtain ⟨z0, z1⟩ := two_box hz
        have HZ := Lib.hid hz
        obtain ⟨m0, m1⟩ := two_box hm
        have HM := Lib.hid hm
        clear hz hm
        go_wp2_with fail
        refine (HM3.out _).mono ?_
        rintro e uu ⟨rfl, hb⟩
        have hx := (hb.block _ (lt_of_block HX.out)).trans HX.out
        have hy := (hb.block _ (lt_of_block HY.out)).trans HY.out
        have hz := (hb.block _ (lt_of_block HZ.out)).trans HZ.out
        have hm := (hb.block _ (lt_of_block HM.out)).trans HM.out
        have hb0 := HB.out.trans (hb.mono HB.out.size)
        clear x0 x1 y0 y1 z0 z1 m0 m1 HX HB hb HY HZ HM
        obtain ⟨x0, x1⟩ := two_box hx
        have HX := Lib.hid hx
        have HB := Lib.hid hb0
        clear hx hb0
        obtain ⟨y0, y1⟩ := two_box hy
        have HY := Lib.hid hy
        clear hy
        obtain ⟨z0, z1⟩ := two_box hz
        have HZ := Lib.hid hz
        obtain ⟨m0, m1⟩ := two_box hm
        have HM := Lib.hid hm
        clear hz hm
        obtain ⟨f0, f1⟩ := two_froz HZ.out
        obtain ⟨q, hq⟩ := set2 HZ.out (.int .i64 mf) (.int .i64 mt)
        have HQk := Lib.hid (HB.out.trans (hq.below HB.out.size (fun k e => by have := HXl.out; omega)))
        obtain ⟨g0, g1⟩ := two_box q
        obtain ⟨q2, hq2⟩ := set2 q (.int .i64 mf) (.int .i64 mt)
        clear hq hq2 q q2
        go_wp2
        exact bodyPost_ret (v := .tuple #[.agg #[.int .i64 mf, .int .i64 mt], .bool true]) (by simp [results, Try.f14, go_sem, g0, g1]) rfl ⟨HR.out, HQk.out⟩
end Go.Proofs.Ytndminmefacmnaa
