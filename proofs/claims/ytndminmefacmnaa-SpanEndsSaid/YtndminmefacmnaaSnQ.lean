/-
  SpanTells: the walk.
-/
import Derived.Test.YtndminmefacmnaaSnP
namespace Go.Proofs.Ytndminmefacmnaa
open Go.RowKit Go.Lib

theorem lift_below {P : Program} {f : FuncId} {args : Array Value} {w : World} {R : Ending} (h : ∀ u, Calls P f args u fun e w' => e = R ∧ Below u.heap.size u w') : ∀ u, Below w.heap.size w u → Calls P f args u fun e w' => e = R ∧ Below w.heap.size w w' :=
  fun u hu => (h u).mono fun e w' hh => ⟨hh.1, hu.trans (hh.2.mono hu.size)⟩
set_option maxRecDepth 100000 in
set_option maxHeartbeats 4000000 in
theorem spanTells_main (a b c d pl : Int) (w : World) (hb' : b ≤ 9223372036854775807) : Calls Try.prog 4 #[.agg #[.int .i64 a, .int .i64 b], .agg #[.int .i64 c, .int .i64 d], .int .i64 pl] w fun e w' => e = .returned (.bool true) ∧ Below w.heap.size w w' := by
  have HAw := Lib.hid (fun u => awake_any u)
  have H1 := Lib.hid (fun u => sMeet_any a b c d u)
  have H2 := Lib.hid (fun u => rMeet_any a b c d u)
  have H3 := Lib.hid (fun u => sRight_any a b u)
  have H4 := Lib.hid (fun u => rRight_any a b u)
  have H5 := Lib.hid (fun u => sLen_any a b u hb')
  have H6 := Lib.hid (fun u => rLen_any a b u hb')
  have H7 := Lib.hid (fun u => sHas_any a b pl u)
  have H8 := Lib.hid (fun u => rHas_any a b pl u)
  have H9 := Lib.hid (fun u => sIn_any a b c d u)
  have H10 := Lib.hid (fun u => rIn_any a b c d u)
  have H11 := Lib.hid (fun u => sLess_any a b c d u)
  have H12 := Lib.hid (fun u => rLess_any a b c d u)
  rw [siB_eq] at H9
  generalize meetS ⟨a, b⟩ ⟨c, d⟩ = m at H1 H2
  generalize meetIs ⟨a, b⟩ ⟨c, d⟩ = is at H1 H2
  generalize srB a b = q1 at H3 H4
  generalize lenS ⟨a, b⟩ = z at H5 H6
  generalize shB a b pl = q2 at H7 H8
  generalize inS ⟨a, b⟩ ⟨c, d⟩ = q3 at H9 H10
  generalize lessS ⟨a, b⟩ ⟨c, d⟩ = q4 at H11 H12
  obtain ⟨mf, mt⟩ := m
  simp only [sgv] at H1 H2
  have hneq := sg_neq
  go_enter Try.func4, Try.ntmps4
  go_upto_region 1 with (fail)
  refine gen_world (S := fun u => Below w.heap.size w u ∧ u.heap[w.heap.size]? = some (.cells #[.int .i64 a, .int .i64 b] 23 (0, 0)) ∧ u.heap[w.heap.size + 1]? = some (.cells #[.int .i64 c, .int .i64 d] 23 (0, 0))) (two_new w _ _) (fun u hu => ?_)
  obtain ⟨hb0, hx, hy⟩ := hu
  obtain ⟨x0, x1⟩ := two_box hx
  obtain ⟨y0, y1⟩ := two_box hy
  have HX := Lib.hid hx
  have HY := Lib.hid hy
  have HB := Lib.hid hb0
  obtain ⟨X, hX⟩ : ∃ X, X = w.heap.size := ⟨_, rfl⟩
  rw [← hX] at x0 x1 y0 y1 HX HY ⊢
  clear hb0 hx hy hX
  go_wp2_with fail
  refine (H1.out _).mono ?_
  rintro e uu ⟨rfl, hb⟩
  have hx := (hb.block _ (lt_of_block HX.out)).trans HX.out
  have hy := (hb.block _ (lt_of_block HY.out)).trans HY.out
  have hb0 := HB.out.trans (hb.mono HB.out.size)
  clear x0 x1 y0 y1 HX HB hb HY
  obtain ⟨x0, x1⟩ := two_box hx
  have HX := Lib.hid hx
  have HB := Lib.hid hb0
  clear hx hb0
  obtain ⟨y0, y1⟩ := two_box hy
  have HY := Lib.hid hy
  clear hy
  go_upto_region 2 with (fail)
  obtain ⟨hb4, hg4⟩ := one_new uu (.cells #[.int .i64 mf, .int .i64 mt] 23 (0, 0))
  refine gen_world (S := fun v => Below w.heap.size w v ∧ v.heap[X]? = some (.cells #[.int .i64 a, .int .i64 b] 23 (0, 0)) ∧ v.heap[X + 1]? = some (.cells #[.int .i64 c, .int .i64 d] 23 (0, 0)) ∧ v.heap[uu.heap.size]? = some (.cells #[.int .i64 mf, .int .i64 mt] 23 (0, 0))) ⟨HB.out.trans (hb4.mono HB.out.size), (hb4.block _ (lt_of_block HX.out)).trans HX.out, (hb4.block _ (lt_of_block HY.out)).trans HY.out, hg4⟩ (fun v hv => ?_)
  obtain ⟨hb0, hx, hy, hm⟩ := hv
  clear x0 x1 y0 y1 HX HY HB hb4 hg4
  generalize uu.heap.size = M at hm ⊢
  obtain ⟨x0, x1⟩ := two_box hx
  obtain ⟨y0, y1⟩ := two_box hy
  have HX := Lib.hid hx
  have HY := Lib.hid hy
  have HM := Lib.hid hm
  have HB := Lib.hid hb0
  clear hb0 hx hy hm
  go_wp2_with fail
  refine (H2.out _).mono ?_
  rintro e u9 ⟨rfl, hb⟩
  have hx := (hb.block _ (lt_of_block HX.out)).trans HX.out
  have hy := (hb.block _ (lt_of_block HY.out)).trans HY.out
  have hm := (hb.block _ (lt_of_block HM.out)).trans HM.out
  have hb0 := HB.out.trans (hb.mono HB.out.size)
  clear x0 x1 y0 y1 HX HY HM HB hb
  go_upto_region 3 with (fail)
  obtain ⟨hb4, hg4⟩ := one_new u9 (.cells #[.int .i64 mf, .int .i64 mt] 23 (0, 0))
  refine gen_world (S := fun v => Below w.heap.size w v ∧ v.heap[X]? = some (.cells #[.int .i64 a, .int .i64 b] 23 (0, 0)) ∧ v.heap[X + 1]? = some (.cells #[.int .i64 c, .int .i64 d] 23 (0, 0)) ∧ v.heap[M]? = some (.cells #[.int .i64 mf, .int .i64 mt] 23 (0, 0)) ∧ v.heap[u9.heap.size]? = some (.cells #[.int .i64 mf, .int .i64 mt] 23 (0, 0))) ⟨hb0.trans (hb4.mono hb0.size), (hb4.block _ (lt_of_block hx)).trans hx, (hb4.block _ (lt_of_block hy)).trans hy, (hb4.block _ (lt_of_block hm)).trans hm, hg4⟩ (fun wr hv => ?_)
  clear hx hy hm hb0 hb4 hg4
  obtain ⟨hb0, hx, hy, hm, hn⟩ := hv
  generalize u9.heap.size = N at hn ⊢
  have HX := Lib.hid hx
  have HY := Lib.hid hy
  have HB := Lib.hid hb0
  obtain ⟨x0, x1⟩ := two_box hx
  obtain ⟨m0, m1⟩ := two_box hm
  obtain ⟨n0, n1⟩ := two_box hn
  have L3 := Lib.hid (lift_below (w := wr) H3.out)
  have L4 := Lib.hid (lift_below (w := wr) H4.out)
  have L5 := Lib.hid (lift_below (w := wr) H5.out)
  have L6 := Lib.hid (lift_below (w := wr) H6.out)
  have L7 := Lib.hid (lift_below (w := wr) H7.out)
  have L8 := Lib.hid (lift_below (w := wr) H8.out)
  clear hb0 hx hy hm hn H1 H2 H3 H4 H5 H6 H7 H8
  refine wp_region_held_drew (S := fun u => Below wr.heap.size wr u) (by kernel_rfl) ((Below.refl wr.heap.size wr).drew) (fun hS => ?_)
  refine wpAnyH_take (i := 0) (oi := ⟨_, _, _, _, _, _⟩) (v := ?v1) rfl (by kernel_rfl) (by kernel_rfl) (by kernel_rfl) (fun _ _ _ h => h) ?y1 hS ?_
  case y1 => first | (refine Or.inr ⟨by rfl, ?_⟩; with_reducible rfl) | (refine Or.inl ⟨by rfl, ?_⟩; intro wS hSw; have z0 := cell_later hSw x0; have z1 := cell_later hSw x1; have z2 := cell_later hSw m0; have z3 := cell_later hSw m1; have z4 := cell_later hSw n0; have z5 := cell_later hSw n1; go_simp; try with_reducible rfl)
  simp only [Act.put, List.setIfInBounds_toArray, List.set_cons_zero, List.set_cons_succ]
  refine wpAnyH_take (i := 1) (oi := ⟨_, _, _, _, _, _⟩) (v := ?v2) rfl (by kernel_rfl) (by kernel_rfl) (by kernel_rfl) (fun _ _ _ h => h) ?y2 hS ?_
  case y2 => first | (refine Or.inr ⟨by rfl, ?_⟩; with_reducible rfl) | (refine Or.inl ⟨by rfl, ?_⟩; intro wS hSw; have z0 := cell_later hSw x0; have z1 := cell_later hSw x1; have z2 := cell_later hSw m0; have z3 := cell_later hSw m1; have z4 := cell_later hSw n0; have z5 := cell_later hSw n1; go_simp; try with_reducible rfl)
  simp only [Act.put, List.setIfInBounds_toArray, List.set_cons_zero, List.set_cons_succ]
  refine wpAnyH_take (i := 2) (oi := ⟨_, _, _, _, _, _⟩) (v := ?v3) rfl (by kernel_rfl) (by kernel_rfl) (by kernel_rfl) (fun _ _ _ h => h) ?y3 hS ?_
  case y3 => first | (refine Or.inr ⟨by rfl, ?_⟩; with_reducible rfl) | (refine Or.inl ⟨by rfl, ?_⟩; intro wS hSw; have z0 := cell_later hSw x0; have z1 := cell_later hSw x1; have z2 := cell_later hSw m0; have z3 := cell_later hSw m1; have z4 := cell_later hSw n0; have z5 := cell_later hSw n1; go_simp; try with_reducible rfl)
  simp only [Act.put, List.setIfInBounds_toArray, List.set_cons_zero, List.set_cons_succ]
  refine wpAnyH_take (i := 3) (oi := ⟨_, _, _, _, _, _⟩) (v := ?v4) rfl (by kernel_rfl) (by kernel_rfl) (by kernel_rfl) (fun _ _ _ h => h) ?y4 hS ?_
  case y4 => first | (refine Or.inr ⟨by rfl, ?_⟩; with_reducible rfl) | (refine Or.inl ⟨by rfl, ?_⟩; intro wS hSw; have z0 := cell_later hSw x0; have z1 := cell_later hSw x1; have z2 := cell_later hSw m0; have z3 := cell_later hSw m1; have z4 := cell_later hSw n0; have z5 := cell_later hSw n1; go_simp; try with_reducible rfl)
  simp only [Act.put, List.setIfInBounds_toArray, List.set_cons_zero, List.set_cons_succ]
  refine wpAnyH_take (i := 4) (oi := ⟨_, _, _, _, _, _⟩) (v := ?v5) rfl (by kernel_rfl) (by kernel_rfl) (by kernel_rfl) (fun _ _ _ h => h) ?y5 hS ?_
  case y5 => first | (refine Or.inr ⟨by rfl, ?_⟩; with_reducible rfl) | (refine Or.inl ⟨by rfl, ?_⟩; intro wS hSw; have z0 := cell_later hSw x0; have z1 := cell_later hSw x1; have z2 := cell_later hSw m0; have z3 := cell_later hSw m1; have z4 := cell_later hSw n0; have z5 := cell_later hSw n1; go_simp; try with_reducible rfl)
  simp only [Act.put, List.setIfInBounds_toArray, List.set_cons_zero, List.set_cons_succ]
  refine wpAnyH_take (i := 5) (oi := ⟨_, _, _, _, _, _⟩) (v := ?v6) rfl (by kernel_rfl) (by kernel_rfl) (by kernel_rfl) (fun _ _ _ h => h) ?y6 hS ?_
  case y6 => first | (refine Or.inr ⟨by rfl, ?_⟩; with_reducible rfl) | (refine Or.inl ⟨by rfl, ?_⟩; intro wS hSw; have z0 := cell_later hSw x0; have z1 := cell_later hSw x1; have z2 := cell_later hSw m0; have z3 := cell_later hSw m1; have z4 := cell_later hSw n0; have z5 := cell_later hSw n1; go_simp; try with_reducible rfl)
  simp only [Act.put, List.setIfInBounds_toArray, List.set_cons_zero, List.set_cons_succ]
  refine wpAnyH_take (i := 6) (oi := ⟨_, _, _, _, _, _⟩) (v := ?v7) rfl (by kernel_rfl) (by kernel_rfl) (by kernel_rfl) (fun _ _ _ h => h) ?y7 hS ?_
  case y7 => first | (refine Or.inr ⟨by rfl, ?_⟩; with_reducible rfl) | (refine Or.inl ⟨by rfl, ?_⟩; intro wS hSw; have z0 := cell_later hSw x0; have z1 := cell_later hSw x1; have z2 := cell_later hSw m0; have z3 := cell_later hSw m1; have z4 := cell_later hSw n0; have z5 := cell_later hSw n1; go_simp; try with_reducible rfl)
  simp only [Act.put, List.setIfInBounds_toArray, List.set_cons_zero, List.set_cons_succ]
  refine wpAnyH_take (i := 7) (oi := ⟨_, _, _, _, _, _⟩) (v := ?v8) rfl (by kernel_rfl) (by kernel_rfl) (by kernel_rfl) (fun _ _ _ h => h) ?y8 hS ?_
  case y8 => first | (refine Or.inr ⟨by rfl, ?_⟩; with_reducible rfl) | (refine Or.inl ⟨by rfl, ?_⟩; intro wS hSw; have z0 := cell_later hSw x0; have z1 := cell_later hSw x1; have z2 := cell_later hSw m0; have z3 := cell_later hSw m1; have z4 := cell_later hSw n0; have z5 := cell_later hSw n1; go_simp; try with_reducible rfl)
  simp only [Act.put, List.setIfInBounds_toArray, List.set_cons_zero, List.set_cons_succ]
  refine wpAnyH_take (i := 8) (oi := ⟨_, _, _, _, _, _⟩) (v := ?v9) rfl (by kernel_rfl) (by kernel_rfl) (by kernel_rfl) (fun _ _ _ h => h) ?y9 hS ?_
  case y9 => first | (refine Or.inr ⟨by rfl, ?_⟩; with_reducible rfl) | (refine Or.inl ⟨by rfl, ?_⟩; intro wS hSw; have z0 := cell_later hSw x0; have z1 := cell_later hSw x1; have z2 := cell_later hSw m0; have z3 := cell_later hSw m1; have z4 := cell_later hSw n0; have z5 := cell_later hSw n1; go_simp; try with_reducible rfl)
  simp only [Act.put, List.setIfInBounds_toArray, List.set_cons_zero, List.set_cons_succ]
  refine wpAnyH_take (i := 9) (oi := ⟨_, _, _, _, _, _⟩) (v := ?v10) rfl (by kernel_rfl) (by kernel_rfl) (by kernel_rfl) (fun _ _ _ h => h) ?y10 hS ?_
  case y10 => first | (refine Or.inr ⟨by rfl, ?_⟩; with_reducible rfl) | (refine Or.inl ⟨by rfl, ?_⟩; intro wS hSw; have z0 := cell_later hSw x0; have z1 := cell_later hSw x1; have z2 := cell_later hSw m0; have z3 := cell_later hSw m1; have z4 := cell_later hSw n0; have z5 := cell_later hSw n1; go_simp; try with_reducible rfl)
  simp only [Act.put, List.setIfInBounds_toArray, List.set_cons_zero, List.set_cons_succ]
  refine wpAnyH_take (i := 11) (oi := ⟨_, _, _, _, _, _⟩) (v := ?v11) rfl (by kernel_rfl) (by kernel_rfl) (by kernel_rfl) (fun _ _ _ h => h) ?y11 hS ?_
  case y11 => first | (refine Or.inr ⟨by rfl, ?_⟩; with_reducible rfl) | (refine Or.inl ⟨by rfl, ?_⟩; intro wS hSw; have z0 := cell_later hSw x0; have z1 := cell_later hSw x1; have z2 := cell_later hSw m0; have z3 := cell_later hSw m1; have z4 := cell_later hSw n0; have z5 := cell_later hSw n1; go_simp; try with_reducible rfl)
  simp only [Act.put, List.setIfInBounds_toArray, List.set_cons_zero, List.set_cons_succ]
  refine wpAnyH_ready (rs := [10]) (by kernel_rfl) (by simp) ?_
  refine AllReadyH.cons (o := ⟨_, _, _, _, _, _⟩) rfl (fun K hK => ?_) AllReadyH.nil
  go_simp
  refine (L3.out _ hS).mono ?_
  rintro e wx ⟨rfl, hS⟩
  go_wp2_with fail
  refine hK.out _ _ hS (fun _ => ?_)
  clear hK K
  try simp only [Act.put, List.setIfInBounds_toArray, List.set_cons_zero, List.set_cons_succ]
  refine wpAnyH_ready (rs := [12]) (by kernel_rfl) (by simp) ?_
  refine AllReadyH.cons (o := ⟨_, _, _, _, _, _⟩) rfl (fun K hK => ?_) AllReadyH.nil
  go_simp
  refine (L4.out _ hS).mono ?_
  rintro e wx ⟨rfl, hS⟩
  go_wp2_with fail
  refine hK.out _ _ hS (fun _ => ?_)
  clear hK K
  try simp only [Act.put, List.setIfInBounds_toArray, List.set_cons_zero, List.set_cons_succ]
  refine wpAnyH_take (i := 13) (oi := ⟨_, _, _, _, _, _⟩) (v := ?v12) rfl (by kernel_rfl) (by kernel_rfl) (by kernel_rfl) (fun _ _ _ h => h) ?y12 hS ?_
  case y12 => first | (refine Or.inr ⟨by rfl, ?_⟩; with_reducible rfl) | (refine Or.inl ⟨by rfl, ?_⟩; intro wS hSw; have z0 := cell_later hSw x0; have z1 := cell_later hSw x1; have z2 := cell_later hSw m0; have z3 := cell_later hSw m1; have z4 := cell_later hSw n0; have z5 := cell_later hSw n1; go_simp; try with_reducible rfl)
  simp only [Act.put, List.setIfInBounds_toArray, List.set_cons_zero, List.set_cons_succ]
  refine wpAnyH_take (i := 14) (oi := ⟨_, _, _, _, _, _⟩) (v := ?v13) rfl (by kernel_rfl) (by kernel_rfl) (by kernel_rfl) (fun _ _ _ h => h) ?y13 hS ?_
  case y13 => first | (refine Or.inr ⟨by rfl, ?_⟩; with_reducible rfl) | (refine Or.inl ⟨by rfl, ?_⟩; intro wS hSw; have z0 := cell_later hSw x0; have z1 := cell_later hSw x1; have z2 := cell_later hSw m0; have z3 := cell_later hSw m1; have z4 := cell_later hSw n0; have z5 := cell_later hSw n1; go_simp; try with_reducible rfl)
  simp only [Act.put, List.setIfInBounds_toArray, List.set_cons_zero, List.set_cons_succ]
  refine wpAnyH_take (i := 15) (oi := ⟨_, _, _, _, _, _⟩) (v := ?v14) rfl (by kernel_rfl) (by kernel_rfl) (by kernel_rfl) (fun _ _ _ h => h) ?y14 hS ?_
  case y14 => first | (refine Or.inr ⟨by rfl, ?_⟩; with_reducible rfl) | (refine Or.inl ⟨by rfl, ?_⟩; intro wS hSw; have z0 := cell_later hSw x0; have z1 := cell_later hSw x1; have z2 := cell_later hSw m0; have z3 := cell_later hSw m1; have z4 := cell_later hSw n0; have z5 := cell_later hSw n1; go_simp; try with_reducible rfl)
  simp only [Act.put, List.setIfInBounds_toArray, List.set_cons_zero, List.set_cons_succ]
  refine wpAnyH_take (i := 16) (oi := ⟨_, _, _, _, _, _⟩) (v := ?v15) rfl (by kernel_rfl) (by kernel_rfl) (by kernel_rfl) (fun _ _ _ h => h) ?y15 hS ?_
  case y15 => first | (refine Or.inr ⟨by rfl, ?_⟩; with_reducible rfl) | (refine Or.inl ⟨by rfl, ?_⟩; intro wS hSw; have z0 := cell_later hSw x0; have z1 := cell_later hSw x1; have z2 := cell_later hSw m0; have z3 := cell_later hSw m1; have z4 := cell_later hSw n0; have z5 := cell_later hSw n1; go_simp; try with_reducible rfl)
  simp only [Act.put, List.setIfInBounds_toArray, List.set_cons_zero, List.set_cons_succ]
  refine wpAnyH_take (i := 18) (oi := ⟨_, _, _, _, _, _⟩) (v := ?v16) rfl (by kernel_rfl) (by kernel_rfl) (by kernel_rfl) (fun _ _ _ h => h) ?y16 hS ?_
  case y16 => first | (refine Or.inr ⟨by rfl, ?_⟩; with_reducible rfl) | (refine Or.inl ⟨by rfl, ?_⟩; intro wS hSw; have z0 := cell_later hSw x0; have z1 := cell_later hSw x1; have z2 := cell_later hSw m0; have z3 := cell_later hSw m1; have z4 := cell_later hSw n0; have z5 := cell_later hSw n1; go_simp; try with_reducible rfl)
  simp only [Act.put, List.setIfInBounds_toArray, List.set_cons_zero, List.set_cons_succ]
  refine wpAnyH_ready (rs := [17]) (by kernel_rfl) (by simp) ?_
  refine AllReadyH.cons (o := ⟨_, _, _, _, _, _⟩) rfl (fun K hK => ?_) AllReadyH.nil
  go_simp
  refine (L5.out _ hS).mono ?_
  rintro e wx ⟨rfl, hS⟩
  go_wp2_with fail
  refine hK.out _ _ hS (fun _ => ?_)
  clear hK K
  try simp only [Act.put, List.setIfInBounds_toArray, List.set_cons_zero, List.set_cons_succ]
  refine wpAnyH_ready (rs := [19]) (by kernel_rfl) (by simp) ?_
  refine AllReadyH.cons (o := ⟨_, _, _, _, _, _⟩) rfl (fun K hK => ?_) AllReadyH.nil
  go_simp
  refine (L6.out _ hS).mono ?_
  rintro e wx ⟨rfl, hS⟩
  go_wp2_with fail
  refine hK.out _ _ hS (fun _ => ?_)
  clear hK K
  try simp only [Act.put, List.setIfInBounds_toArray, List.set_cons_zero, List.set_cons_succ]
  refine wpAnyH_take (i := 20) (oi := ⟨_, _, _, _, _, _⟩) (v := ?v17) rfl (by kernel_rfl) (by kernel_rfl) (by kernel_rfl) (fun _ _ _ h => h) ?y17 hS ?_
  case y17 => first | (refine Or.inr ⟨by rfl, ?_⟩; with_reducible rfl) | (refine Or.inl ⟨by rfl, ?_⟩; intro wS hSw; have z0 := cell_later hSw x0; have z1 := cell_later hSw x1; have z2 := cell_later hSw m0; have z3 := cell_later hSw m1; have z4 := cell_later hSw n0; have z5 := cell_later hSw n1; go_simp; try with_reducible rfl)
  simp only [Act.put, List.setIfInBounds_toArray, List.set_cons_zero, List.set_cons_succ]
  refine wpAnyH_take (i := 21) (oi := ⟨_, _, _, _, _, _⟩) (v := ?v18) rfl (by kernel_rfl) (by kernel_rfl) (by kernel_rfl) (fun _ _ _ h => h) ?y18 hS ?_
  case y18 => first | (refine Or.inr ⟨by rfl, ?_⟩; with_reducible rfl) | (refine Or.inl ⟨by rfl, ?_⟩; intro wS hSw; have z0 := cell_later hSw x0; have z1 := cell_later hSw x1; have z2 := cell_later hSw m0; have z3 := cell_later hSw m1; have z4 := cell_later hSw n0; have z5 := cell_later hSw n1; go_simp; try with_reducible rfl)
  simp only [Act.put, List.setIfInBounds_toArray, List.set_cons_zero, List.set_cons_succ]
  refine wpAnyH_take (i := 22) (oi := ⟨_, _, _, _, _, _⟩) (v := ?v19) rfl (by kernel_rfl) (by kernel_rfl) (by kernel_rfl) (fun _ _ _ h => h) ?y19 hS ?_
  case y19 => first | (refine Or.inr ⟨by rfl, ?_⟩; with_reducible rfl) | (refine Or.inl ⟨by rfl, ?_⟩; intro wS hSw; have z0 := cell_later hSw x0; have z1 := cell_later hSw x1; have z2 := cell_later hSw m0; have z3 := cell_later hSw m1; have z4 := cell_later hSw n0; have z5 := cell_later hSw n1; go_simp; try with_reducible rfl)
  simp only [Act.put, List.setIfInBounds_toArray, List.set_cons_zero, List.set_cons_succ]
  refine wpAnyH_take (i := 23) (oi := ⟨_, _, _, _, _, _⟩) (v := ?v20) rfl (by kernel_rfl) (by kernel_rfl) (by kernel_rfl) (fun _ _ _ h => h) ?y20 hS ?_
  case y20 => first | (refine Or.inr ⟨by rfl, ?_⟩; with_reducible rfl) | (refine Or.inl ⟨by rfl, ?_⟩; intro wS hSw; have z0 := cell_later hSw x0; have z1 := cell_later hSw x1; have z2 := cell_later hSw m0; have z3 := cell_later hSw m1; have z4 := cell_later hSw n0; have z5 := cell_later hSw n1; go_simp; try with_reducible rfl)
  simp only [Act.put, List.setIfInBounds_toArray, List.set_cons_zero, List.set_cons_succ]
  refine wpAnyH_take (i := 24) (oi := ⟨_, _, _, _, _, _⟩) (v := ?v21) rfl (by kernel_rfl) (by kernel_rfl) (by kernel_rfl) (fun _ _ _ h => h) ?y21 hS ?_
  case y21 => first | (refine Or.inr ⟨by rfl, ?_⟩; with_reducible rfl) | (refine Or.inl ⟨by rfl, ?_⟩; intro wS hSw; have z0 := cell_later hSw x0; have z1 := cell_later hSw x1; have z2 := cell_later hSw m0; have z3 := cell_later hSw m1; have z4 := cell_later hSw n0; have z5 := cell_later hSw n1; go_simp; try with_reducible rfl)
  simp only [Act.put, List.setIfInBounds_toArray, List.set_cons_zero, List.set_cons_succ]
  refine wpAnyH_take (i := 26) (oi := ⟨_, _, _, _, _, _⟩) (v := ?v22) rfl (by kernel_rfl) (by kernel_rfl) (by kernel_rfl) (fun _ _ _ h => h) ?y22 hS ?_
  case y22 => first | (refine Or.inr ⟨by rfl, ?_⟩; with_reducible rfl) | (refine Or.inl ⟨by rfl, ?_⟩; intro wS hSw; have z0 := cell_later hSw x0; have z1 := cell_later hSw x1; have z2 := cell_later hSw m0; have z3 := cell_later hSw m1; have z4 := cell_later hSw n0; have z5 := cell_later hSw n1; go_simp; try with_reducible rfl)
  simp only [Act.put, List.setIfInBounds_toArray, List.set_cons_zero, List.set_cons_succ]
  refine wpAnyH_take (i := 27) (oi := ⟨_, _, _, _, _, _⟩) (v := ?v23) rfl (by kernel_rfl) (by kernel_rfl) (by kernel_rfl) (fun _ _ _ h => h) ?y23 hS ?_
  case y23 => first | (refine Or.inr ⟨by rfl, ?_⟩; with_reducible rfl) | (refine Or.inl ⟨by rfl, ?_⟩; intro wS hSw; have z0 := cell_later hSw x0; have z1 := cell_later hSw x1; have z2 := cell_later hSw m0; have z3 := cell_later hSw m1; have z4 := cell_later hSw n0; have z5 := cell_later hSw n1; go_simp; try with_reducible rfl)
  simp only [Act.put, List.setIfInBounds_toArray, List.set_cons_zero, List.set_cons_succ]
  refine wpAnyH_ready (rs := [25]) (by kernel_rfl) (by simp) ?_
  refine AllReadyH.cons (o := ⟨_, _, _, _, _, _⟩) rfl (fun K hK => ?_) AllReadyH.nil
  go_simp
  refine (L7.out _ hS).mono ?_
  rintro e wx ⟨rfl, hS⟩
  go_wp2_with fail
  refine hK.out _ _ hS (fun _ => ?_)
  clear hK K
  try simp only [Act.put, List.setIfInBounds_toArray, List.set_cons_zero, List.set_cons_succ]
  refine wpAnyH_ready (rs := [28]) (by kernel_rfl) (by simp) ?_
  refine AllReadyH.cons (o := ⟨_, _, _, _, _, _⟩) rfl (fun K hK => ?_) AllReadyH.nil
  go_simp
  refine (L8.out _ hS).mono ?_
  rintro e wx ⟨rfl, hS⟩
  go_wp2_with fail
  refine hK.out _ _ hS (fun _ => ?_)
  clear hK K
  try simp only [Act.put, List.setIfInBounds_toArray, List.set_cons_zero, List.set_cons_succ]
  refine wpAnyH_take (i := 29) (oi := ⟨_, _, _, _, _, _⟩) (v := ?v24) rfl (by kernel_rfl) (by kernel_rfl) (by kernel_rfl) (fun _ _ _ h => h) ?y24 hS ?_
  case y24 => first | (refine Or.inr ⟨by rfl, ?_⟩; with_reducible rfl) | (refine Or.inl ⟨by rfl, ?_⟩; intro wS hSw; have z0 := cell_later hSw x0; have z1 := cell_later hSw x1; have z2 := cell_later hSw m0; have z3 := cell_later hSw m1; have z4 := cell_later hSw n0; have z5 := cell_later hSw n1; go_simp; try with_reducible rfl)
  simp only [Act.put, List.setIfInBounds_toArray, List.set_cons_zero, List.set_cons_succ]
  refine wpAnyH_take (i := 30) (oi := ⟨_, _, _, _, _, _⟩) (v := ?v25) rfl (by kernel_rfl) (by kernel_rfl) (by kernel_rfl) (fun _ _ _ h => h) ?y25 hS ?_
  case y25 => first | (refine Or.inr ⟨by rfl, ?_⟩; with_reducible rfl) | (refine Or.inl ⟨by rfl, ?_⟩; intro wS hSw; have z0 := cell_later hSw x0; have z1 := cell_later hSw x1; have z2 := cell_later hSw m0; have z3 := cell_later hSw m1; have z4 := cell_later hSw n0; have z5 := cell_later hSw n1; go_simp; try with_reducible rfl)
  simp only [Act.put, List.setIfInBounds_toArray, List.set_cons_zero, List.set_cons_succ]
  refine wpAnyH_done (by kernel_rfl) ?_ _
  have HX2 := Lib.hid ((hS.block _ (lt_of_block HX.out)).trans HX.out)
  have HY2 := Lib.hid ((hS.block _ (lt_of_block HY.out)).trans HY.out)
  have HB2 := Lib.hid (HB.out.trans (hS.mono HB.out.size))
  clear hS x0 x1 m0 m1 n0 n1 L3 L4 L5 L6 L7 L8 HX HY HB
  go_upto_region 5 with (fail)
  refine gen_world (S := fun v => Below w.heap.size w v ∧ v.heap[X]? = some (.cells #[.int .i64 a, .int .i64 b] 23 (0, 0)) ∧ v.heap[X + 1]? = some (.cells #[.int .i64 c, .int .i64 d] 23 (0, 0))) ⟨HB2.out, HX2.out, HY2.out⟩ (fun wq hv => ?_)
  obtain ⟨hb0, hx, hy⟩ := hv
  have HB3 := Lib.hid hb0
  obtain ⟨x0, x1⟩ := two_box hx
  obtain ⟨y0, y1⟩ := two_box hy
  have L9 := Lib.hid (lift_below (w := wq) H9.out)
  have L10 := Lib.hid (lift_below (w := wq) H10.out)
  have L11 := Lib.hid (lift_below (w := wq) H11.out)
  have L12 := Lib.hid (lift_below (w := wq) H12.out)
  have L13 := Lib.hid (lift_below (w := wq) HAw.out)
  clear hb0 hx hy HB2 HX2 HY2 H9 H10 H11 H12 HAw
  
  refine wp_region_held_drew (S := fun u => Below wq.heap.size wq u) (by kernel_rfl) ((Below.refl wq.heap.size wq).drew) (fun hS => ?_)
  refine wpAnyH_take (i := 0) (oi := ⟨_, _, _, _, _, _⟩) (v := ?v26) rfl (by kernel_rfl) (by kernel_rfl) (by kernel_rfl) (fun _ _ _ h => h) ?y26 hS ?_
  case y26 => first | (refine Or.inr ⟨by rfl, ?_⟩; with_reducible rfl) | (refine Or.inl ⟨by rfl, ?_⟩; intro wS hSw; have z0 := cell_later hSw x0; have z1 := cell_later hSw x1; have z2 := cell_later hSw y0; have z3 := cell_later hSw y1; go_simp; try with_reducible rfl)
  simp only [Act.put, List.setIfInBounds_toArray, List.set_cons_zero, List.set_cons_succ]
  refine wpAnyH_take (i := 1) (oi := ⟨_, _, _, _, _, _⟩) (v := ?v27) rfl (by kernel_rfl) (by kernel_rfl) (by kernel_rfl) (fun _ _ _ h => h) ?y27 hS ?_
  case y27 => first | (refine Or.inr ⟨by rfl, ?_⟩; with_reducible rfl) | (refine Or.inl ⟨by rfl, ?_⟩; intro wS hSw; have z0 := cell_later hSw x0; have z1 := cell_later hSw x1; have z2 := cell_later hSw y0; have z3 := cell_later hSw y1; go_simp; try with_reducible rfl)
  simp only [Act.put, List.setIfInBounds_toArray, List.set_cons_zero, List.set_cons_succ]
  refine wpAnyH_take (i := 3) (oi := ⟨_, _, _, _, _, _⟩) (v := ?v28) rfl (by kernel_rfl) (by kernel_rfl) (by kernel_rfl) (fun _ _ _ h => h) ?y28 hS ?_
  case y28 => first | (refine Or.inr ⟨by rfl, ?_⟩; with_reducible rfl) | (refine Or.inl ⟨by rfl, ?_⟩; intro wS hSw; have z0 := cell_later hSw x0; have z1 := cell_later hSw x1; have z2 := cell_later hSw y0; have z3 := cell_later hSw y1; go_simp; try with_reducible rfl)
  simp only [Act.put, List.setIfInBounds_toArray, List.set_cons_zero, List.set_cons_succ]
  refine wpAnyH_take (i := 4) (oi := ⟨_, _, _, _, _, _⟩) (v := ?v29) rfl (by kernel_rfl) (by kernel_rfl) (by kernel_rfl) (fun _ _ _ h => h) ?y29 hS ?_
  case y29 => first | (refine Or.inr ⟨by rfl, ?_⟩; with_reducible rfl) | (refine Or.inl ⟨by rfl, ?_⟩; intro wS hSw; have z0 := cell_later hSw x0; have z1 := cell_later hSw x1; have z2 := cell_later hSw y0; have z3 := cell_later hSw y1; go_simp; try with_reducible rfl)
  simp only [Act.put, List.setIfInBounds_toArray, List.set_cons_zero, List.set_cons_succ]
  refine wpAnyH_ready (rs := [2]) (by kernel_rfl) (by simp) ?_
  refine AllReadyH.cons (o := ⟨_, _, _, _, _, _⟩) rfl (fun K hK => ?_) AllReadyH.nil
  go_simp
  refine (L9.out _ hS).mono ?_
  rintro e wx ⟨rfl, hS⟩
  go_wp2_with fail
  refine hK.out _ _ hS (fun _ => ?_)
  clear hK K
  try simp only [Act.put, List.setIfInBounds_toArray, List.set_cons_zero, List.set_cons_succ]
  refine wpAnyH_ready (rs := [5]) (by kernel_rfl) (by simp) ?_
  refine AllReadyH.cons (o := ⟨_, _, _, _, _, _⟩) rfl (fun K hK => ?_) AllReadyH.nil
  go_simp
  refine (L10.out _ hS).mono ?_
  rintro e wx ⟨rfl, hS⟩
  go_wp2_with fail
  refine hK.out _ _ hS (fun _ => ?_)
  clear hK K
  try simp only [Act.put, List.setIfInBounds_toArray, List.set_cons_zero, List.set_cons_succ]
  refine wpAnyH_take (i := 6) (oi := ⟨_, _, _, _, _, _⟩) (v := ?v30) rfl (by kernel_rfl) (by kernel_rfl) (by kernel_rfl) (fun _ _ _ h => h) ?y30 hS ?_
  case y30 => first | (refine Or.inr ⟨by rfl, ?_⟩; with_reducible rfl) | (refine Or.inl ⟨by rfl, ?_⟩; intro wS hSw; have z0 := cell_later hSw x0; have z1 := cell_later hSw x1; have z2 := cell_later hSw y0; have z3 := cell_later hSw y1; go_simp; try with_reducible rfl)
  simp only [Act.put, List.setIfInBounds_toArray, List.set_cons_zero, List.set_cons_succ]
  refine wpAnyH_take (i := 7) (oi := ⟨_, _, _, _, _, _⟩) (v := ?v31) rfl (by kernel_rfl) (by kernel_rfl) (by kernel_rfl) (fun _ _ _ h => h) ?y31 hS ?_
  case y31 => first | (refine Or.inr ⟨by rfl, ?_⟩; with_reducible rfl) | (refine Or.inl ⟨by rfl, ?_⟩; intro wS hSw; have z0 := cell_later hSw x0; have z1 := cell_later hSw x1; have z2 := cell_later hSw y0; have z3 := cell_later hSw y1; go_simp; try with_reducible rfl)
  simp only [Act.put, List.setIfInBounds_toArray, List.set_cons_zero, List.set_cons_succ]
  refine wpAnyH_take (i := 8) (oi := ⟨_, _, _, _, _, _⟩) (v := ?v32) rfl (by kernel_rfl) (by kernel_rfl) (by kernel_rfl) (fun _ _ _ h => h) ?y32 hS ?_
  case y32 => first | (refine Or.inr ⟨by rfl, ?_⟩; with_reducible rfl) | (refine Or.inl ⟨by rfl, ?_⟩; intro wS hSw; have z0 := cell_later hSw x0; have z1 := cell_later hSw x1; have z2 := cell_later hSw y0; have z3 := cell_later hSw y1; go_simp; try with_reducible rfl)
  simp only [Act.put, List.setIfInBounds_toArray, List.set_cons_zero, List.set_cons_succ]
  refine wpAnyH_take (i := 9) (oi := ⟨_, _, _, _, _, _⟩) (v := ?v33) rfl (by kernel_rfl) (by kernel_rfl) (by kernel_rfl) (fun _ _ _ h => h) ?y33 hS ?_
  case y33 => first | (refine Or.inr ⟨by rfl, ?_⟩; with_reducible rfl) | (refine Or.inl ⟨by rfl, ?_⟩; intro wS hSw; have z0 := cell_later hSw x0; have z1 := cell_later hSw x1; have z2 := cell_later hSw y0; have z3 := cell_later hSw y1; go_simp; try with_reducible rfl)
  simp only [Act.put, List.setIfInBounds_toArray, List.set_cons_zero, List.set_cons_succ]
  refine wpAnyH_take (i := 11) (oi := ⟨_, _, _, _, _, _⟩) (v := ?v34) rfl (by kernel_rfl) (by kernel_rfl) (by kernel_rfl) (fun _ _ _ h => h) ?y34 hS ?_
  case y34 => first | (refine Or.inr ⟨by rfl, ?_⟩; with_reducible rfl) | (refine Or.inl ⟨by rfl, ?_⟩; intro wS hSw; have z0 := cell_later hSw x0; have z1 := cell_later hSw x1; have z2 := cell_later hSw y0; have z3 := cell_later hSw y1; go_simp; try with_reducible rfl)
  simp only [Act.put, List.setIfInBounds_toArray, List.set_cons_zero, List.set_cons_succ]
  refine wpAnyH_take (i := 12) (oi := ⟨_, _, _, _, _, _⟩) (v := ?v35) rfl (by kernel_rfl) (by kernel_rfl) (by kernel_rfl) (fun _ _ _ h => h) ?y35 hS ?_
  case y35 => first | (refine Or.inr ⟨by rfl, ?_⟩; with_reducible rfl) | (refine Or.inl ⟨by rfl, ?_⟩; intro wS hSw; have z0 := cell_later hSw x0; have z1 := cell_later hSw x1; have z2 := cell_later hSw y0; have z3 := cell_later hSw y1; go_simp; try with_reducible rfl)
  simp only [Act.put, List.setIfInBounds_toArray, List.set_cons_zero, List.set_cons_succ]
  refine wpAnyH_ready (rs := [10]) (by kernel_rfl) (by simp) ?_
  refine AllReadyH.cons (o := ⟨_, _, _, _, _, _⟩) rfl (fun K hK => ?_) AllReadyH.nil
  go_simp
  refine (L11.out _ hS).mono ?_
  rintro e wx ⟨rfl, hS⟩
  go_wp2_with fail
  refine hK.out _ _ hS (fun _ => ?_)
  clear hK K
  try simp only [Act.put, List.setIfInBounds_toArray, List.set_cons_zero, List.set_cons_succ]
  refine wpAnyH_ready (rs := [13]) (by kernel_rfl) (by simp) ?_
  refine AllReadyH.cons (o := ⟨_, _, _, _, _, _⟩) rfl (fun K hK => ?_) AllReadyH.nil
  go_simp
  refine (L12.out _ hS).mono ?_
  rintro e wx ⟨rfl, hS⟩
  go_wp2_with fail
  refine hK.out _ _ hS (fun _ => ?_)
  clear hK K
  try simp only [Act.put, List.setIfInBounds_toArray, List.set_cons_zero, List.set_cons_succ]
  refine wpAnyH_take (i := 14) (oi := ⟨_, _, _, _, _, _⟩) (v := ?v36) rfl (by kernel_rfl) (by kernel_rfl) (by kernel_rfl) (fun _ _ _ h => h) ?y36 hS ?_
  case y36 => first | (refine Or.inr ⟨by rfl, ?_⟩; with_reducible rfl) | (refine Or.inl ⟨by rfl, ?_⟩; intro wS hSw; have z0 := cell_later hSw x0; have z1 := cell_later hSw x1; have z2 := cell_later hSw y0; have z3 := cell_later hSw y1; go_simp; try with_reducible rfl)
  simp only [Act.put, List.setIfInBounds_toArray, List.set_cons_zero, List.set_cons_succ]
  refine wpAnyH_take (i := 15) (oi := ⟨_, _, _, _, _, _⟩) (v := ?v37) rfl (by kernel_rfl) (by kernel_rfl) (by kernel_rfl) (fun _ _ _ h => h) ?y37 hS ?_
  case y37 => first | (refine Or.inr ⟨by rfl, ?_⟩; with_reducible rfl) | (refine Or.inl ⟨by rfl, ?_⟩; intro wS hSw; have z0 := cell_later hSw x0; have z1 := cell_later hSw x1; have z2 := cell_later hSw y0; have z3 := cell_later hSw y1; go_simp; try with_reducible rfl)
  simp only [Act.put, List.setIfInBounds_toArray, List.set_cons_zero, List.set_cons_succ]
  refine wpAnyH_take (i := 16) (oi := ⟨_, _, _, _, _, _⟩) (v := ?v38) rfl (by kernel_rfl) (by kernel_rfl) (by kernel_rfl) (fun _ _ _ h => h) ?y38 hS ?_
  case y38 => first | (refine Or.inr ⟨by rfl, ?_⟩; with_reducible rfl) | (refine Or.inl ⟨by rfl, ?_⟩; intro wS hSw; have z0 := cell_later hSw x0; have z1 := cell_later hSw x1; have z2 := cell_later hSw y0; have z3 := cell_later hSw y1; go_simp; try with_reducible rfl)
  simp only [Act.put, List.setIfInBounds_toArray, List.set_cons_zero, List.set_cons_succ]
  refine wpAnyH_ready (rs := [17]) (by kernel_rfl) (by simp) ?_
  refine AllReadyH.cons (o := ⟨_, _, _, _, _, _⟩) rfl (fun K hK => ?_) AllReadyH.nil
  go_simp
  refine (L13.out _ hS).mono ?_
  rintro e wx ⟨rfl, hS⟩
  go_wp2_with fail
  refine hK.out _ _ hS (fun _ => ?_)
  clear hK K
  try simp only [Act.put, List.setIfInBounds_toArray, List.set_cons_zero, List.set_cons_succ]
  refine wpAnyH_take (i := 18) (oi := ⟨_, _, _, _, _, _⟩) (v := ?v39) rfl (by kernel_rfl) (by kernel_rfl) (by kernel_rfl) (fun _ _ _ h => h) ?y39 hS ?_
  case y39 => first | (refine Or.inr ⟨by rfl, ?_⟩; with_reducible rfl) | (refine Or.inl ⟨by rfl, ?_⟩; intro wS hSw; have z0 := cell_later hSw x0; have z1 := cell_later hSw x1; have z2 := cell_later hSw y0; have z3 := cell_later hSw y1; go_simp; try with_reducible rfl)
  simp only [Act.put, List.setIfInBounds_toArray, List.set_cons_zero, List.set_cons_succ]
  refine wpAnyH_take (i := 19) (oi := ⟨_, _, _, _, _, _⟩) (v := ?v40) rfl (by kernel_rfl) (by kernel_rfl) (by kernel_rfl) (fun _ _ _ h => h) ?y40 hS ?_
  case y40 => first | (refine Or.inr ⟨by rfl, ?_⟩; with_reducible rfl) | (refine Or.inl ⟨by rfl, ?_⟩; intro wS hSw; have z0 := cell_later hSw x0; have z1 := cell_later hSw x1; have z2 := cell_later hSw y0; have z3 := cell_later hSw y1; go_simp; try with_reducible rfl)
  simp only [Act.put, List.setIfInBounds_toArray, List.set_cons_zero, List.set_cons_succ]
  refine wpAnyH_done (by kernel_rfl) ?_ _
  have HB4 := Lib.hid (HB3.out.trans (hS.mono HB3.out.size))
  clear hS x0 x1 y0 y1 L9 L10 L11 L12 L13 HB3
  go_wp2
  go_ret
  exact ⟨rfl, HB4.out⟩
end Go.Proofs.Ytndminmefacmnaa
