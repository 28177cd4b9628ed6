import Derived.Test.YtpchjpmkkiopiaaGreatMhHm
namespace Go.Proofs.YtpchjpmkkiopiaaGreat
open Go.RowKit Go.Lib

abbrev ZM : Array Value := #[.pointer none, .map none, .map none, .int .i64 0, .int .i64 0, .int .i64 0, .map none]
/-- no memory: nil, or one that was not made by New. -/
def NoM (w : World) (v : Value) : Prop := v = .pointer none ∨ ∃ b, v = .pointer (some ⟨b, 0, none⟩) ∧ w.heap[b]? = some (.cells ZM 74 (0, 0))
theorem NoM.later {w w' : World} {v : Value} (h : NoM w v) (hb : Below w.heap.size w w') : NoM w' v := by
  rcases h with rfl | ⟨b, rfl, h⟩
  · exact .inl rfl
  · exact .inr ⟨b, rfl, (hb.block _ (lt_of_block h)).trans h⟩
set_option maxRecDepth 100000 in
set_option maxHeartbeats 1000000 in
theorem no_made {v : Value} (w : World) (h : NoM w v) : Calls Tryz.prog 32 #[v] w fun e w' => e = .returned (.bool false) ∧ w = w' := by
  rcases h with rfl | ⟨b, rfl, h⟩
  · go_enter Tryz.func32, Tryz.ntmps32
    go_wp2
    go_ret
    exact ⟨rfl, rfl⟩
  · obtain ⟨⟨-, -, -, -, -, -, a6⟩, -⟩ := seven_box h
    have hmn : (binOp .neq 72 (.map none) (.map none)).run Tryz.prog w = .ok (.bool false) w := run_neq_map_nil w _ _ _ none Tryz.underlying72
    clear h
    go_enter Tryz.func32, Tryz.ntmps32
    go_wp2
    go_ret
    exact ⟨rfl, rfl⟩
set_option maxRecDepth 100000 in
set_option maxHeartbeats 1000000 in
theorem no_len {v : Value} (w : World) (h : NoM w v) : Calls Tryz.prog 26 #[v] w fun e w' => e = .returned (.int .i64 0) ∧ w = w' := by
  have H := Lib.hid h
  clear h
  go_enter Tryz.func26, Tryz.ntmps26
  go_wp2_with fail
  refine (no_made w H.out).mono ?_
  rintro e w1 ⟨rfl, rfl⟩
  go_wp2
  go_ret
  exact ⟨rfl, rfl⟩
set_option maxRecDepth 100000 in
set_option maxHeartbeats 1000000 in
theorem no_peak {v : Value} (w : World) (h : NoM w v) : Calls Tryz.prog 27 #[v] w fun e w' => e = .returned (.int .i64 0) ∧ w = w' := by
  have H := Lib.hid h
  clear h
  go_enter Tryz.func27, Tryz.ntmps27
  go_wp2_with fail
  refine (no_made w H.out).mono ?_
  rintro e w1 ⟨rfl, rfl⟩
  go_wp2
  go_ret
  exact ⟨rfl, rfl⟩
set_option maxRecDepth 100000 in
set_option maxHeartbeats 1000000 in
theorem no_keys {v : Value} (w : World) (h : NoM w v) : Calls Tryz.prog 28 #[v] w fun e w' => e = .returned (.slice none 0 0) ∧ w = w' := by
  have H := Lib.hid h
  clear h
  go_enter Tryz.func28, Tryz.ntmps28
  go_wp2_with fail
  refine (no_made w H.out).mono ?_
  rintro e w1 ⟨rfl, rfl⟩
  go_wp2
  go_ret
  exact ⟨rfl, rfl⟩
set_option maxRecDepth 100000 in
set_option maxHeartbeats 1000000 in
theorem no_copy {v : Value} (w : World) (h : NoM w v) : Calls Tryz.prog 21 #[v] w fun e w' => e = .returned (.pointer none) ∧ w = w' := by
  have H := Lib.hid h
  clear h
  go_enter Tryz.func21, Tryz.ntmps21
  go_wp2_with fail
  refine (no_made w H.out).mono ?_
  rintro e w1 ⟨rfl, rfl⟩
  go_wp2
  go_ret
  exact ⟨rfl, rfl⟩
set_option maxRecDepth 100000 in
set_option maxHeartbeats 1000000 in
theorem no_drop {v : Value} (k : Ky) (w : World) (h : NoM w v) : Calls Tryz.prog 17 #[v, kyv k] w fun e w' => e = .returned (.bool false) ∧ Below w.heap.size w w' := by
  have H := Lib.hid h
  clear h
  go_enter Tryz.func17, Tryz.ntmps17
  go_upto_region 1 with (fail)
  refine gen_world (S := fun u => Below w.heap.size w u) (one_new w _).1 (fun u hb => ?_)
  have HB := Lib.hid hb
  have HU := Lib.hid (H.out.later hb)
  clear hb
  go_wp2_with fail
  refine (no_made u HU.out).mono ?_
  rintro e w1 ⟨rfl, rfl⟩
  go_wp2
  go_ret
  exact ⟨rfl, HB.out⟩
set_option maxRecDepth 100000 in
set_option maxHeartbeats 1000000 in
theorem no_put {v : Value} (k : Ky) (x : Ent) (w : World) (h : NoM w v) : Calls Tryz.prog 13 #[v, kyv k, entv x] w fun e w' => e = .returned (.tuple #[.slice none 0 0, .int .i64 1]) ∧ Below w.heap.size w w' := by
  have H := Lib.hid h
  clear h
  go_enter Tryz.func13, Tryz.ntmps13
  go_upto_region 1 with (fail)
  refine gen_world (S := fun u => Below w.heap.size w u) (two_new w _ _).1 (fun u hb => ?_)
  have HB := Lib.hid hb
  have HU := Lib.hid (H.out.later hb)
  clear hb
  go_wp2_with fail
  refine (no_made u HU.out).mono ?_
  rintro e w1 ⟨rfl, rfl⟩
  go_wp2
  exact bodyPost_ret (v := .tuple #[.slice none 0 0, .int .i64 1]) (by simp [results, Tryz.f13, go_sem]) rfl ⟨rfl, HB.out⟩
set_option maxRecDepth 100000 in
set_option maxHeartbeats 1000000 in
theorem no_get {v : Value} (k : Ky) (w : World) (h : NoM w v) : Calls Tryz.prog 25 #[v, kyv k] w fun e w' => e = .returned (.tuple #[.agg #[.bool false, .int .i64 0, .int .i64 0, .slice none 0 0, .slice none 0 0], .bool false]) ∧ Below w.heap.size w w' := by
  have H := Lib.hid h
  clear h
  go_enter Tryz.func25, Tryz.ntmps25
  go_upto_region 1 with (fail)
  refine gen_world (S := fun u => Below w.heap.size w u ∧ u.heap[w.heap.size]? = some (.cells #[.int .i64 k.rule, .int .i64 k.level, .int .i64 k.place] 24 (0, 0)) ∧ u.heap[w.heap.size + 1]? = some (.cells #[.bool false, .int .i64 0, .int .i64 0, .slice none 0 0, .slice none 0 0] 30 (0, 0))) (two_new w _ _) (fun u hu => ?_)
  obtain ⟨hb, -, hy⟩ := hu
  have HB := Lib.hid hb
  have HY := Lib.hid hy
  have HU := Lib.hid (H.out.later hb)
  obtain ⟨⟨y0, y1, y2, y3, y4⟩, ⟨f0, f1, f2, f3, f4⟩⟩ := five_box hy
  clear hb hy
  go_wp2_with fail
  refine (no_made u HU.out).mono ?_
  rintro e w1 ⟨rfl, rfl⟩
  go_wp2
  obtain ⟨h5, hk5⟩ := set5 HY.out (.bool false) (.int .i64 0) (.int .i64 0) (.slice none 0 0) (.slice none 0 0)
  obtain ⟨⟨q0, q1, q2, q3, q4⟩, -⟩ := five_box h5
  exact bodyPost_ret (v := .tuple #[.agg #[.bool false, .int .i64 0, .int .i64 0, .slice none 0 0, .slice none 0 0], .bool false]) (by simp [results, Tryz.f25, go_sem, q0, q1, q2, q3, q4]) rfl ⟨rfl, HB.out.trans (hk5.below HB.out.size (fun k e => by omega))⟩
set_option maxRecDepth 100000 in
set_option maxHeartbeats 1000000 in
theorem no_clear {v : Value} (pl : Int) (w : World) (h : NoM w v) : Calls Tryz.prog 19 #[v, .int .i64 pl] w fun e w' => e = .returned (.int .i64 0) ∧ Below w.heap.size w w' := by
  have H := Lib.hid h
  clear h
  go_enter Tryz.func19, Tryz.ntmps19
  go_wp2_with fail
  refine (no_keys w H.out).mono ?_
  rintro e w1 ⟨rfl, rfl⟩
  go_wp2
  go_loopw [4, 10] (fun c i wr => c = .int .i64 0 ∧ i = .int .i64 0 ∧ w = wr) (fun _ _ _ => 0)
  case atStart => exact ⟨rfl, rfl, rfl⟩
  case round =>
    obtain ⟨rfl, rfl, rfl⟩ := hrel
    go_wp2
    go_ret
    exact ⟨rfl, Below.refl _ _⟩
end Go.Proofs.YtpchjpmkkiopiaaGreat
namespace Go.Proofs.YtpchjpmkkiopiaaGreat
open Go.RowKit Go.Lib

set_option maxRecDepth 100000 in
set_option maxHeartbeats 8000000 in
theorem none_any (w : World) : Calls Tryz.prog 6 #[] w fun e w' => e = .returned (.bool true) ∧ Below w.heap.size w w' := by
  go_enter Tryz.func6, Tryz.ntmps6
  go_upto_region 3 with (fail)
  refine gen_world (S := fun u => Below w.heap.size w u ∧ u.heap[w.heap.size]? = some (.cells ZM 74 (0, 0)) ∧ u.heap[w.heap.size + 1]? = some (.cells #[.pointer none, .pointer (some ⟨w.heap.size, 0, none⟩)] 41 (0, 0))) (two_new w _ _) (fun u hu => ?_)
  obtain ⟨hb, hz, hg⟩ := hu
  have HB := Lib.hid hb
  obtain ⟨b, hbe⟩ : ∃ b, b = w.heap.size := ⟨_, rfl⟩
  rw [← hbe] at hz hg ⊢
  have HZ := Lib.hid hz
  have HG := Lib.hid hg
  clear hb hz hg hbe
  go_loopw [2] (fun i wr => ∃ k : Nat, k ≤ 2 ∧ i = .int .i64 k ∧ Hid (Below u.heap.size u wr)) (fun i _ => 2 - (intOf i).toNat)
  case atStart => exact ⟨0, Nat.zero_le _, rfl, Lib.hid (Below.refl _ _)⟩
  case round =>
    obtain ⟨k, hk, rfl, Hb⟩ := hrel
    by_cases hlt : k < 2
    · have hlt2 : (k : Int) < 2 := by omega
      obtain ⟨v, HN, HV⟩ : ∃ v, Hid (∀ z, Below wr.heap.size wr z → NoM z v) ∧ Hid (∀ z, Below wr.heap.size wr z → z.cell? ⟨b + 1, k, none⟩ = some v ∧ ∃ ao, v = .pointer ao) := by
        have hg2 : ∀ z, Below wr.heap.size wr z → z.heap[b + 1]? = some (.cells #[.pointer none, .pointer (some ⟨b, 0, none⟩)] 41 (0, 0)) := fun z hz => ((Hb.out.trans (hz.mono Hb.out.size)).block _ (lt_of_block HG.out)).trans HG.out
        rcases (show k = 0 ∨ k = 1 by omega) with rfl | rfl
        · exact ⟨.pointer none, Lib.hid (fun z _ => .inl rfl), Lib.hid (fun z hz => ⟨(two_box (hg2 z hz)).1, _, rfl⟩)⟩
        · exact ⟨.pointer (some ⟨b, 0, none⟩), Lib.hid (fun z hz => .inr ⟨b, rfl, ((Hb.out.trans (hz.mono Hb.out.size)).block _ (lt_of_block HZ.out)).trans HZ.out⟩), Lib.hid (fun z hz => ⟨(two_box (hg2 z hz)).2, _, rfl⟩)⟩
      obtain ⟨g0, ao, rfl⟩ := HV.out wr (Below.refl _ _)
      go_wp2_with fail
      refine (no_put ⟨0, 0, 0⟩ zeroX wr (HN.out _ (Below.refl _ _))).mono ?_
      rintro e w1 ⟨rfl, hb1⟩
      have HB1 := Lib.hid hb1
      clear hb1 g0
      obtain ⟨g0, -⟩ := HV.out w1 HB1.out
      go_wp2_with fail
      refine (no_get ⟨0, 0, 0⟩ w1 (HN.out _ HB1.out)).mono ?_
      rintro e w2 ⟨rfl, hb2⟩
      have HB2 := Lib.hid (HB1.out.trans (hb2.mono HB1.out.size))
      clear hb2 g0
      go_upto_region 7 with (fail)
      refine gen_world (S := fun z => Below w2.heap.size w2 z ∧ z.heap[w2.heap.size]? = some (.cells #[.bool false, .int .i64 0, .int .i64 0, .slice none 0 0, .slice none 0 0] 30 (0, 0))) (one_new w2 _) (fun w3 hu => ?_)
      obtain ⟨hb3, hx⟩ := hu
      obtain ⟨X, hX⟩ : ∃ X, X = w2.heap.size := ⟨_, rfl⟩
      rw [← hX] at hx ⊢
      have HX := Lib.hid hx
      have HB3 := Lib.hid (HB2.out.trans (hb3.mono HB2.out.size))
      clear hX hb3 hx
      refine wp_region_held_drew (S := fun z => Below w3.heap.size w3 z) (by kernel_rfl) (Below.refl w3.heap.size w3).drew (fun hS => ?_)
      refine wpAnyH_take (i := 0) (oi := ⟨_, _, _, _, _, _⟩) (v := ?v1) rfl (by kernel_rfl) (by kernel_rfl) (by kernel_rfl) (fun _ _ _ h => h) ?y1 hS ?_
      case y1 => first | (refine Or.inr ⟨by rfl, ?_⟩; with_reducible rfl) | (refine Or.inl ⟨by rfl, ?_⟩; intro wS hSw; obtain ⟨g0, -⟩ := HV.out wS (HB3.out.trans (hSw.mono HB3.out.size)); obtain ⟨⟨x0, x1, x2, x3, x4⟩, -⟩ := five_box ((hSw.block _ (lt_of_block HX.out)).trans HX.out); go_simp; try with_reducible rfl)
      simp only [Act.put, List.setIfInBounds_toArray, List.set_cons_zero, List.set_cons_succ]
      refine wpAnyH_take (i := 1) (oi := ⟨_, _, _, _, _, _⟩) (v := ?v2) rfl (by kernel_rfl) (by kernel_rfl) (by kernel_rfl) (fun _ _ _ h => h) ?y2 hS ?_
      case y2 => first | (refine Or.inr ⟨by rfl, ?_⟩; with_reducible rfl) | (refine Or.inl ⟨by rfl, ?_⟩; intro wS hSw; obtain ⟨g0, -⟩ := HV.out wS (HB3.out.trans (hSw.mono HB3.out.size)); obtain ⟨⟨x0, x1, x2, x3, x4⟩, -⟩ := five_box ((hSw.block _ (lt_of_block HX.out)).trans HX.out); go_simp; try with_reducible rfl)
      simp only [Act.put, List.setIfInBounds_toArray, List.set_cons_zero, List.set_cons_succ]
      refine wpAnyH_take (i := 2) (oi := ⟨_, _, _, _, _, _⟩) (v := ?v3) rfl (by kernel_rfl) (by kernel_rfl) (by kernel_rfl) (fun _ _ _ h => h) ?y3 hS ?_
      case y3 => first | (refine Or.inr ⟨by rfl, ?_⟩; with_reducible rfl) | (refine Or.inl ⟨by rfl, ?_⟩; intro wS hSw; obtain ⟨g0, -⟩ := HV.out wS (HB3.out.trans (hSw.mono HB3.out.size)); obtain ⟨⟨x0, x1, x2, x3, x4⟩, -⟩ := five_box ((hSw.block _ (lt_of_block HX.out)).trans HX.out); go_simp; try with_reducible rfl)
      simp only [Act.put, List.setIfInBounds_toArray, List.set_cons_zero, List.set_cons_succ]
      refine wpAnyH_take (i := 3) (oi := ⟨_, _, _, _, _, _⟩) (v := ?v4) rfl (by kernel_rfl) (by kernel_rfl) (by kernel_rfl) (fun _ _ _ h => h) ?y4 hS ?_
      case y4 => first | (refine Or.inr ⟨by rfl, ?_⟩; with_reducible rfl) | (refine Or.inl ⟨by rfl, ?_⟩; intro wS hSw; obtain ⟨g0, -⟩ := HV.out wS (HB3.out.trans (hSw.mono HB3.out.size)); obtain ⟨⟨x0, x1, x2, x3, x4⟩, -⟩ := five_box ((hSw.block _ (lt_of_block HX.out)).trans HX.out); go_simp; try with_reducible rfl)
      simp only [Act.put, List.setIfInBounds_toArray, List.set_cons_zero, List.set_cons_succ]
      refine wpAnyH_take (i := 4) (oi := ⟨_, _, _, _, _, _⟩) (v := ?v5) rfl (by kernel_rfl) (by kernel_rfl) (by kernel_rfl) (fun _ _ _ h => h) ?y5 hS ?_
      case y5 => first | (refine Or.inr ⟨by rfl, ?_⟩; with_reducible rfl) | (refine Or.inl ⟨by rfl, ?_⟩; intro wS hSw; obtain ⟨g0, -⟩ := HV.out wS (HB3.out.trans (hSw.mono HB3.out.size)); obtain ⟨⟨x0, x1, x2, x3, x4⟩, -⟩ := five_box ((hSw.block _ (lt_of_block HX.out)).trans HX.out); go_simp; try with_reducible rfl)
      simp only [Act.put, List.setIfInBounds_toArray, List.set_cons_zero, List.set_cons_succ]
      refine wpAnyH_take (i := 5) (oi := ⟨_, _, _, _, _, _⟩) (v := ?v6) rfl (by kernel_rfl) (by kernel_rfl) (by kernel_rfl) (fun _ _ _ h => h) ?y6 hS ?_
      case y6 => first | (refine Or.inr ⟨by rfl, ?_⟩; with_reducible rfl) | (refine Or.inl ⟨by rfl, ?_⟩; intro wS hSw; obtain ⟨g0, -⟩ := HV.out wS (HB3.out.trans (hSw.mono HB3.out.size)); obtain ⟨⟨x0, x1, x2, x3, x4⟩, -⟩ := five_box ((hSw.block _ (lt_of_block HX.out)).trans HX.out); go_simp; try with_reducible rfl)
      simp only [Act.put, List.setIfInBounds_toArray, List.set_cons_zero, List.set_cons_succ]
      refine wpAnyH_take (i := 6) (oi := ⟨_, _, _, _, _, _⟩) (v := ?v7) rfl (by kernel_rfl) (by kernel_rfl) (by kernel_rfl) (fun _ _ _ h => h) ?y7 hS ?_
      case y7 => first | (refine Or.inr ⟨by rfl, ?_⟩; with_reducible rfl) | (refine Or.inl ⟨by rfl, ?_⟩; intro wS hSw; obtain ⟨g0, -⟩ := HV.out wS (HB3.out.trans (hSw.mono HB3.out.size)); obtain ⟨⟨x0, x1, x2, x3, x4⟩, -⟩ := five_box ((hSw.block _ (lt_of_block HX.out)).trans HX.out); go_simp; try with_reducible rfl)
      simp only [Act.put, List.setIfInBounds_toArray, List.set_cons_zero, List.set_cons_succ]
      refine wpAnyH_take (i := 7) (oi := ⟨_, _, _, _, _, _⟩) (v := ?v8) rfl (by kernel_rfl) (by kernel_rfl) (by kernel_rfl) (fun _ _ _ h => h) ?y8 hS ?_
      case y8 => first | (refine Or.inr ⟨by rfl, ?_⟩; with_reducible rfl) | (refine Or.inl ⟨by rfl, ?_⟩; intro wS hSw; obtain ⟨g0, -⟩ := HV.out wS (HB3.out.trans (hSw.mono HB3.out.size)); obtain ⟨⟨x0, x1, x2, x3, x4⟩, -⟩ := five_box ((hSw.block _ (lt_of_block HX.out)).trans HX.out); go_simp; try with_reducible rfl)
      simp only [Act.put, List.setIfInBounds_toArray, List.set_cons_zero, List.set_cons_succ]
      refine wpAnyH_take (i := 8) (oi := ⟨_, _, _, _, _, _⟩) (v := ?v9) rfl (by kernel_rfl) (by kernel_rfl) (by kernel_rfl) (fun _ _ _ h => h) ?y9 hS ?_
      case y9 => first | (refine Or.inr ⟨by rfl, ?_⟩; with_reducible rfl) | (refine Or.inl ⟨by rfl, ?_⟩; intro wS hSw; obtain ⟨g0, -⟩ := HV.out wS (HB3.out.trans (hSw.mono HB3.out.size)); obtain ⟨⟨x0, x1, x2, x3, x4⟩, -⟩ := five_box ((hSw.block _ (lt_of_block HX.out)).trans HX.out); go_simp; try with_reducible rfl)
      simp only [Act.put, List.setIfInBounds_toArray, List.set_cons_zero, List.set_cons_succ]
      refine wpAnyH_take (i := 9) (oi := ⟨_, _, _, _, _, _⟩) (v := ?v10) rfl (by kernel_rfl) (by kernel_rfl) (by kernel_rfl) (fun _ _ _ h => h) ?y10 hS ?_
      case y10 => first | (refine Or.inr ⟨by rfl, ?_⟩; with_reducible rfl) | (refine Or.inl ⟨by rfl, ?_⟩; intro wS hSw; obtain ⟨g0, -⟩ := HV.out wS (HB3.out.trans (hSw.mono HB3.out.size)); obtain ⟨⟨x0, x1, x2, x3, x4⟩, -⟩ := five_box ((hSw.block _ (lt_of_block HX.out)).trans HX.out); go_simp; try with_reducible rfl)
      simp only [Act.put, List.setIfInBounds_toArray, List.set_cons_zero, List.set_cons_succ]
      refine wpAnyH_take (i := 10) (oi := ⟨_, _, _, _, _, _⟩) (v := ?v11) rfl (by kernel_rfl) (by kernel_rfl) (by kernel_rfl) (fun _ _ _ h => h) ?y11 hS ?_
      case y11 => first | (refine Or.inr ⟨by rfl, ?_⟩; with_reducible rfl) | (refine Or.inl ⟨by rfl, ?_⟩; intro wS hSw; obtain ⟨g0, -⟩ := HV.out wS (HB3.out.trans (hSw.mono HB3.out.size)); obtain ⟨⟨x0, x1, x2, x3, x4⟩, -⟩ := five_box ((hSw.block _ (lt_of_block HX.out)).trans HX.out); go_simp; try with_reducible rfl)
      simp only [Act.put, List.setIfInBounds_toArray, List.set_cons_zero, List.set_cons_succ]
      refine wpAnyH_take (i := 11) (oi := ⟨_, _, _, _, _, _⟩) (v := ?v12) rfl (by kernel_rfl) (by kernel_rfl) (by kernel_rfl) (fun _ _ _ h => h) ?y12 hS ?_
      case y12 => first | (refine Or.inr ⟨by rfl, ?_⟩; with_reducible rfl) | (refine Or.inl ⟨by rfl, ?_⟩; intro wS hSw; obtain ⟨g0, -⟩ := HV.out wS (HB3.out.trans (hSw.mono HB3.out.size)); obtain ⟨⟨x0, x1, x2, x3, x4⟩, -⟩ := five_box ((hSw.block _ (lt_of_block HX.out)).trans HX.out); go_simp; try with_reducible rfl)
      simp only [Act.put, List.setIfInBounds_toArray, List.set_cons_zero, List.set_cons_succ]
      refine wpAnyH_take (i := 12) (oi := ⟨_, _, _, _, _, _⟩) (v := ?v13) rfl (by kernel_rfl) (by kernel_rfl) (by kernel_rfl) (fun _ _ _ h => h) ?y13 hS ?_
      case y13 => first | (refine Or.inr ⟨by rfl, ?_⟩; with_reducible rfl) | (refine Or.inl ⟨by rfl, ?_⟩; intro wS hSw; obtain ⟨g0, -⟩ := HV.out wS (HB3.out.trans (hSw.mono HB3.out.size)); obtain ⟨⟨x0, x1, x2, x3, x4⟩, -⟩ := five_box ((hSw.block _ (lt_of_block HX.out)).trans HX.out); go_simp; try with_reducible rfl)
      simp only [Act.put, List.setIfInBounds_toArray, List.set_cons_zero, List.set_cons_succ]
      refine wpAnyH_take (i := 13) (oi := ⟨_, _, _, _, _, _⟩) (v := ?v14) rfl (by kernel_rfl) (by kernel_rfl) (by kernel_rfl) (fun _ _ _ h => h) ?y14 hS ?_
      case y14 => first | (refine Or.inr ⟨by rfl, ?_⟩; with_reducible rfl) | (refine Or.inl ⟨by rfl, ?_⟩; intro wS hSw; obtain ⟨g0, -⟩ := HV.out wS (HB3.out.trans (hSw.mono HB3.out.size)); obtain ⟨⟨x0, x1, x2, x3, x4⟩, -⟩ := five_box ((hSw.block _ (lt_of_block HX.out)).trans HX.out); go_simp; try with_reducible rfl)
      simp only [Act.put, List.setIfInBounds_toArray, List.set_cons_zero, List.set_cons_succ]
      refine wpAnyH_take (i := 14) (oi := ⟨_, _, _, _, _, _⟩) (v := ?v15) rfl (by kernel_rfl) (by kernel_rfl) (by kernel_rfl) (fun _ _ _ h => h) ?y15 hS ?_
      case y15 => first | (refine Or.inr ⟨by rfl, ?_⟩; with_reducible rfl) | (refine Or.inl ⟨by rfl, ?_⟩; intro wS hSw; obtain ⟨g0, -⟩ := HV.out wS (HB3.out.trans (hSw.mono HB3.out.size)); obtain ⟨⟨x0, x1, x2, x3, x4⟩, -⟩ := five_box ((hSw.block _ (lt_of_block HX.out)).trans HX.out); go_simp; try with_reducible rfl)
      simp only [Act.put, List.setIfInBounds_toArray, List.set_cons_zero, List.set_cons_succ]
      refine wpAnyH_take (i := 15) (oi := ⟨_, _, _, _, _, _⟩) (v := ?v16) rfl (by kernel_rfl) (by kernel_rfl) (by kernel_rfl) (fun _ _ _ h => h) ?y16 hS ?_
      case y16 => first | (refine Or.inr ⟨by rfl, ?_⟩; with_reducible rfl) | (refine Or.inl ⟨by rfl, ?_⟩; intro wS hSw; obtain ⟨g0, -⟩ := HV.out wS (HB3.out.trans (hSw.mono HB3.out.size)); obtain ⟨⟨x0, x1, x2, x3, x4⟩, -⟩ := five_box ((hSw.block _ (lt_of_block HX.out)).trans HX.out); go_simp; try with_reducible rfl)
      simp only [Act.put, List.setIfInBounds_toArray, List.set_cons_zero, List.set_cons_succ]
      refine wpAnyH_ready (rs := [16]) (by kernel_rfl) (by simp) ?_
      refine AllReadyH.cons (o := ⟨_, _, _, _, _, _⟩) rfl (fun K hK => ?_) AllReadyH.nil
      go_simp
      refine (no_drop ⟨0, 0, 0⟩ _ (HN.out _ (HB3.out.trans (hS.mono HB3.out.size)))).mono ?_
      rintro e z ⟨rfl, hb⟩
      go_wp2_with fail
      have hS1 := hS.trans (hb.mono hS.size)
      refine hK.out _ _ hS1 (fun hSd => ?_)
      clear hSd hK K hS hb
      try simp only [Act.put, List.setIfInBounds_toArray, List.set_cons_zero, List.set_cons_succ]
      have hS := hS1
      clear hS1
      refine wpAnyH_take (i := 17) (oi := ⟨_, _, _, _, _, _⟩) (v := ?v17) rfl (by kernel_rfl) (by kernel_rfl) (by kernel_rfl) (fun _ _ _ h => h) ?y17 hS ?_
      case y17 => first | (refine Or.inr ⟨by rfl, ?_⟩; with_reducible rfl) | (refine Or.inl ⟨by rfl, ?_⟩; intro wS hSw; obtain ⟨g0, -⟩ := HV.out wS (HB3.out.trans (hSw.mono HB3.out.size)); obtain ⟨⟨x0, x1, x2, x3, x4⟩, -⟩ := five_box ((hSw.block _ (lt_of_block HX.out)).trans HX.out); go_simp; try with_reducible rfl)
      simp only [Act.put, List.setIfInBounds_toArray, List.set_cons_zero, List.set_cons_succ]
      refine wpAnyH_take (i := 18) (oi := ⟨_, _, _, _, _, _⟩) (v := ?v18) rfl (by kernel_rfl) (by kernel_rfl) (by kernel_rfl) (fun _ _ _ h => h) ?y18 hS ?_
      case y18 => first | (refine Or.inr ⟨by rfl, ?_⟩; with_reducible rfl) | (refine Or.inl ⟨by rfl, ?_⟩; intro wS hSw; obtain ⟨g0, -⟩ := HV.out wS (HB3.out.trans (hSw.mono HB3.out.size)); obtain ⟨⟨x0, x1, x2, x3, x4⟩, -⟩ := five_box ((hSw.block _ (lt_of_block HX.out)).trans HX.out); go_simp; try with_reducible rfl)
      simp only [Act.put, List.setIfInBounds_toArray, List.set_cons_zero, List.set_cons_succ]
      refine wpAnyH_take (i := 19) (oi := ⟨_, _, _, _, _, _⟩) (v := ?v19) rfl (by kernel_rfl) (by kernel_rfl) (by kernel_rfl) (fun _ _ _ h => h) ?y19 hS ?_
      case y19 => first | (refine Or.inr ⟨by rfl, ?_⟩; with_reducible rfl) | (refine Or.inl ⟨by rfl, ?_⟩; intro wS hSw; obtain ⟨g0, -⟩ := HV.out wS (HB3.out.trans (hSw.mono HB3.out.size)); obtain ⟨⟨x0, x1, x2, x3, x4⟩, -⟩ := five_box ((hSw.block _ (lt_of_block HX.out)).trans HX.out); go_simp; try with_reducible rfl)
      simp only [Act.put, List.setIfInBounds_toArray, List.set_cons_zero, List.set_cons_succ]
      refine wpAnyH_take (i := 20) (oi := ⟨_, _, _, _, _, _⟩) (v := ?v20) rfl (by kernel_rfl) (by kernel_rfl) (by kernel_rfl) (fun _ _ _ h => h) ?y20 hS ?_
      case y20 => first | (refine Or.inr ⟨by rfl, ?_⟩; with_reducible rfl) | (refine Or.inl ⟨by rfl, ?_⟩; intro wS hSw; obtain ⟨g0, -⟩ := HV.out wS (HB3.out.trans (hSw.mono HB3.out.size)); obtain ⟨⟨x0, x1, x2, x3, x4⟩, -⟩ := five_box ((hSw.block _ (lt_of_block HX.out)).trans HX.out); go_simp; try with_reducible rfl)
      simp only [Act.put, List.setIfInBounds_toArray, List.set_cons_zero, List.set_cons_succ]
      refine wpAnyH_take (i := 21) (oi := ⟨_, _, _, _, _, _⟩) (v := ?v21) rfl (by kernel_rfl) (by kernel_rfl) (by kernel_rfl) (fun _ _ _ h => h) ?y21 hS ?_
      case y21 => first | (refine Or.inr ⟨by rfl, ?_⟩; with_reducible rfl) | (refine Or.inl ⟨by rfl, ?_⟩; intro wS hSw; obtain ⟨g0, -⟩ := HV.out wS (HB3.out.trans (hSw.mono HB3.out.size)); obtain ⟨⟨x0, x1, x2, x3, x4⟩, -⟩ := five_box ((hSw.block _ (lt_of_block HX.out)).trans HX.out); go_simp; try with_reducible rfl)
      simp only [Act.put, List.setIfInBounds_toArray, List.set_cons_zero, List.set_cons_succ]
      refine wpAnyH_take (i := 22) (oi := ⟨_, _, _, _, _, _⟩) (v := ?v22) rfl (by kernel_rfl) (by kernel_rfl) (by kernel_rfl) (fun _ _ _ h => h) ?y22 hS ?_
      case y22 => first | (refine Or.inr ⟨by rfl, ?_⟩; with_reducible rfl) | (refine Or.inl ⟨by rfl, ?_⟩; intro wS hSw; obtain ⟨g0, -⟩ := HV.out wS (HB3.out.trans (hSw.mono HB3.out.size)); obtain ⟨⟨x0, x1, x2, x3, x4⟩, -⟩ := five_box ((hSw.block _ (lt_of_block HX.out)).trans HX.out); go_simp; try with_reducible rfl)
      simp only [Act.put, List.setIfInBounds_toArray, List.set_cons_zero, List.set_cons_succ]
      refine wpAnyH_take (i := 23) (oi := ⟨_, _, _, _, _, _⟩) (v := ?v23) rfl (by kernel_rfl) (by kernel_rfl) (by kernel_rfl) (fun _ _ _ h => h) ?y23 hS ?_
      case y23 => first | (refine Or.inr ⟨by rfl, ?_⟩; with_reducible rfl) | (refine Or.inl ⟨by rfl, ?_⟩; intro wS hSw; obtain ⟨g0, -⟩ := HV.out wS (HB3.out.trans (hSw.mono HB3.out.size)); obtain ⟨⟨x0, x1, x2, x3, x4⟩, -⟩ := five_box ((hSw.block _ (lt_of_block HX.out)).trans HX.out); go_simp; try with_reducible rfl)
      simp only [Act.put, List.setIfInBounds_toArray, List.set_cons_zero, List.set_cons_succ]
      refine wpAnyH_take (i := 24) (oi := ⟨_, _, _, _, _, _⟩) (v := ?v24) rfl (by kernel_rfl) (by kernel_rfl) (by kernel_rfl) (fun _ _ _ h => h) ?y24 hS ?_
      case y24 => first | (refine Or.inr ⟨by rfl, ?_⟩; with_reducible rfl) | (refine Or.inl ⟨by rfl, ?_⟩; intro wS hSw; obtain ⟨g0, -⟩ := HV.out wS (HB3.out.trans (hSw.mono HB3.out.size)); obtain ⟨⟨x0, x1, x2, x3, x4⟩, -⟩ := five_box ((hSw.block _ (lt_of_block HX.out)).trans HX.out); go_simp; try with_reducible rfl)
      simp only [Act.put, List.setIfInBounds_toArray, List.set_cons_zero, List.set_cons_succ]
      refine wpAnyH_take (i := 25) (oi := ⟨_, _, _, _, _, _⟩) (v := ?v25) rfl (by kernel_rfl) (by kernel_rfl) (by kernel_rfl) (fun _ _ _ h => h) ?y25 hS ?_
      case y25 => first | (refine Or.inr ⟨by rfl, ?_⟩; with_reducible rfl) | (refine Or.inl ⟨by rfl, ?_⟩; intro wS hSw; obtain ⟨g0, -⟩ := HV.out wS (HB3.out.trans (hSw.mono HB3.out.size)); obtain ⟨⟨x0, x1, x2, x3, x4⟩, -⟩ := five_box ((hSw.block _ (lt_of_block HX.out)).trans HX.out); go_simp; try with_reducible rfl)
      simp only [Act.put, List.setIfInBounds_toArray, List.set_cons_zero, List.set_cons_succ]
      refine wpAnyH_take (i := 26) (oi := ⟨_, _, _, _, _, _⟩) (v := ?v26) rfl (by kernel_rfl) (by kernel_rfl) (by kernel_rfl) (fun _ _ _ h => h) ?y26 hS ?_
      case y26 => first | (refine Or.inr ⟨by rfl, ?_⟩; with_reducible rfl) | (refine Or.inl ⟨by rfl, ?_⟩; intro wS hSw; obtain ⟨g0, -⟩ := HV.out wS (HB3.out.trans (hSw.mono HB3.out.size)); obtain ⟨⟨x0, x1, x2, x3, x4⟩, -⟩ := five_box ((hSw.block _ (lt_of_block HX.out)).trans HX.out); go_simp; try with_reducible rfl)
      simp only [Act.put, List.setIfInBounds_toArray, List.set_cons_zero, List.set_cons_succ]
      refine wpAnyH_take (i := 27) (oi := ⟨_, _, _, _, _, _⟩) (v := ?v27) rfl (by kernel_rfl) (by kernel_rfl) (by kernel_rfl) (fun _ _ _ h => h) ?y27 hS ?_
      case y27 => first | (refine Or.inr ⟨by rfl, ?_⟩; with_reducible rfl) | (refine Or.inl ⟨by rfl, ?_⟩; intro wS hSw; obtain ⟨g0, -⟩ := HV.out wS (HB3.out.trans (hSw.mono HB3.out.size)); obtain ⟨⟨x0, x1, x2, x3, x4⟩, -⟩ := five_box ((hSw.block _ (lt_of_block HX.out)).trans HX.out); go_simp; try with_reducible rfl)
      simp only [Act.put, List.setIfInBounds_toArray, List.set_cons_zero, List.set_cons_succ]
      refine wpAnyH_take (i := 28) (oi := ⟨_, _, _, _, _, _⟩) (v := ?v28) rfl (by kernel_rfl) (by kernel_rfl) (by kernel_rfl) (fun _ _ _ h => h) ?y28 hS ?_
      case y28 => first | (refine Or.inr ⟨by rfl, ?_⟩; with_reducible rfl) | (refine Or.inl ⟨by rfl, ?_⟩; intro wS hSw; obtain ⟨g0, -⟩ := HV.out wS (HB3.out.trans (hSw.mono HB3.out.size)); obtain ⟨⟨x0, x1, x2, x3, x4⟩, -⟩ := five_box ((hSw.block _ (lt_of_block HX.out)).trans HX.out); go_simp; try with_reducible rfl)
      simp only [Act.put, List.setIfInBounds_toArray, List.set_cons_zero, List.set_cons_succ]
      refine wpAnyH_take (i := 31) (oi := ⟨_, _, _, _, _, _⟩) (v := ?v29) rfl (by kernel_rfl) (by kernel_rfl) (by kernel_rfl) (fun _ _ _ h => h) ?y29 hS ?_
      case y29 => first | (refine Or.inr ⟨by rfl, ?_⟩; with_reducible rfl) | (refine Or.inl ⟨by rfl, ?_⟩; intro wS hSw; obtain ⟨g0, -⟩ := HV.out wS (HB3.out.trans (hSw.mono HB3.out.size)); obtain ⟨⟨x0, x1, x2, x3, x4⟩, -⟩ := five_box ((hSw.block _ (lt_of_block HX.out)).trans HX.out); go_simp; try with_reducible rfl)
      simp only [Act.put, List.setIfInBounds_toArray, List.set_cons_zero, List.set_cons_succ]
      refine wpAnyH_take (i := 32) (oi := ⟨_, _, _, _, _, _⟩) (v := ?v30) rfl (by kernel_rfl) (by kernel_rfl) (by kernel_rfl) (fun _ _ _ h => h) ?y30 hS ?_
      case y30 => first | (refine Or.inr ⟨by rfl, ?_⟩; with_reducible rfl) | (refine Or.inl ⟨by rfl, ?_⟩; intro wS hSw; obtain ⟨g0, -⟩ := HV.out wS (HB3.out.trans (hSw.mono HB3.out.size)); obtain ⟨⟨x0, x1, x2, x3, x4⟩, -⟩ := five_box ((hSw.block _ (lt_of_block HX.out)).trans HX.out); go_simp; try with_reducible rfl)
      simp only [Act.put, List.setIfInBounds_toArray, List.set_cons_zero, List.set_cons_succ]
      refine wpAnyH_take (i := 33) (oi := ⟨_, _, _, _, _, _⟩) (v := ?v31) rfl (by kernel_rfl) (by kernel_rfl) (by kernel_rfl) (fun _ _ _ h => h) ?y31 hS ?_
      case y31 => first | (refine Or.inr ⟨by rfl, ?_⟩; with_reducible rfl) | (refine Or.inl ⟨by rfl, ?_⟩; intro wS hSw; obtain ⟨g0, -⟩ := HV.out wS (HB3.out.trans (hSw.mono HB3.out.size)); obtain ⟨⟨x0, x1, x2, x3, x4⟩, -⟩ := five_box ((hSw.block _ (lt_of_block HX.out)).trans HX.out); go_simp; try with_reducible rfl)
      simp only [Act.put, List.setIfInBounds_toArray, List.set_cons_zero, List.set_cons_succ]
      refine wpAnyH_take (i := 34) (oi := ⟨_, _, _, _, _, _⟩) (v := ?v32) rfl (by kernel_rfl) (by kernel_rfl) (by kernel_rfl) (fun _ _ _ h => h) ?y32 hS ?_
      case y32 => first | (refine Or.inr ⟨by rfl, ?_⟩; with_reducible rfl) | (refine Or.inl ⟨by rfl, ?_⟩; intro wS hSw; obtain ⟨g0, -⟩ := HV.out wS (HB3.out.trans (hSw.mono HB3.out.size)); obtain ⟨⟨x0, x1, x2, x3, x4⟩, -⟩ := five_box ((hSw.block _ (lt_of_block HX.out)).trans HX.out); go_simp; try with_reducible rfl)
      simp only [Act.put, List.setIfInBounds_toArray, List.set_cons_zero, List.set_cons_succ]
      refine wpAnyH_take (i := 37) (oi := ⟨_, _, _, _, _, _⟩) (v := ?v33) rfl (by kernel_rfl) (by kernel_rfl) (by kernel_rfl) (fun _ _ _ h => h) ?y33 hS ?_
      case y33 => first | (refine Or.inr ⟨by rfl, ?_⟩; with_reducible rfl) | (refine Or.inl ⟨by rfl, ?_⟩; intro wS hSw; obtain ⟨g0, -⟩ := HV.out wS (HB3.out.trans (hSw.mono HB3.out.size)); obtain ⟨⟨x0, x1, x2, x3, x4⟩, -⟩ := five_box ((hSw.block _ (lt_of_block HX.out)).trans HX.out); go_simp; try with_reducible rfl)
      simp only [Act.put, List.setIfInBounds_toArray, List.set_cons_zero, List.set_cons_succ]
      refine wpAnyH_take (i := 38) (oi := ⟨_, _, _, _, _, _⟩) (v := ?v34) rfl (by kernel_rfl) (by kernel_rfl) (by kernel_rfl) (fun _ _ _ h => h) ?y34 hS ?_
      case y34 => first | (refine Or.inr ⟨by rfl, ?_⟩; with_reducible rfl) | (refine Or.inl ⟨by rfl, ?_⟩; intro wS hSw; obtain ⟨g0, -⟩ := HV.out wS (HB3.out.trans (hSw.mono HB3.out.size)); obtain ⟨⟨x0, x1, x2, x3, x4⟩, -⟩ := five_box ((hSw.block _ (lt_of_block HX.out)).trans HX.out); go_simp; try with_reducible rfl)
      simp only [Act.put, List.setIfInBounds_toArray, List.set_cons_zero, List.set_cons_succ]
      refine wpAnyH_take (i := 39) (oi := ⟨_, _, _, _, _, _⟩) (v := ?v35) rfl (by kernel_rfl) (by kernel_rfl) (by kernel_rfl) (fun _ _ _ h => h) ?y35 hS ?_
      case y35 => first | (refine Or.inr ⟨by rfl, ?_⟩; with_reducible rfl) | (refine Or.inl ⟨by rfl, ?_⟩; intro wS hSw; obtain ⟨g0, -⟩ := HV.out wS (HB3.out.trans (hSw.mono HB3.out.size)); obtain ⟨⟨x0, x1, x2, x3, x4⟩, -⟩ := five_box ((hSw.block _ (lt_of_block HX.out)).trans HX.out); go_simp; try with_reducible rfl)
      simp only [Act.put, List.setIfInBounds_toArray, List.set_cons_zero, List.set_cons_succ]
      refine wpAnyH_take (i := 40) (oi := ⟨_, _, _, _, _, _⟩) (v := ?v36) rfl (by kernel_rfl) (by kernel_rfl) (by kernel_rfl) (fun _ _ _ h => h) ?y36 hS ?_
      case y36 => first | (refine Or.inr ⟨by rfl, ?_⟩; with_reducible rfl) | (refine Or.inl ⟨by rfl, ?_⟩; intro wS hSw; obtain ⟨g0, -⟩ := HV.out wS (HB3.out.trans (hSw.mono HB3.out.size)); obtain ⟨⟨x0, x1, x2, x3, x4⟩, -⟩ := five_box ((hSw.block _ (lt_of_block HX.out)).trans HX.out); go_simp; try with_reducible rfl)
      simp only [Act.put, List.setIfInBounds_toArray, List.set_cons_zero, List.set_cons_succ]
      refine wpAnyH_take (i := 43) (oi := ⟨_, _, _, _, _, _⟩) (v := ?v37) rfl (by kernel_rfl) (by kernel_rfl) (by kernel_rfl) (fun _ _ _ h => h) ?y37 hS ?_
      case y37 => first | (refine Or.inr ⟨by rfl, ?_⟩; with_reducible rfl) | (refine Or.inl ⟨by rfl, ?_⟩; intro wS hSw; obtain ⟨g0, -⟩ := HV.out wS (HB3.out.trans (hSw.mono HB3.out.size)); obtain ⟨⟨x0, x1, x2, x3, x4⟩, -⟩ := five_box ((hSw.block _ (lt_of_block HX.out)).trans HX.out); go_simp; try with_reducible rfl)
      simp only [Act.put, List.setIfInBounds_toArray, List.set_cons_zero, List.set_cons_succ]
      refine wpAnyH_take (i := 44) (oi := ⟨_, _, _, _, _, _⟩) (v := ?v38) rfl (by kernel_rfl) (by kernel_rfl) (by kernel_rfl) (fun _ _ _ h => h) ?y38 hS ?_
      case y38 => first | (refine Or.inr ⟨by rfl, ?_⟩; with_reducible rfl) | (refine Or.inl ⟨by rfl, ?_⟩; intro wS hSw; obtain ⟨g0, -⟩ := HV.out wS (HB3.out.trans (hSw.mono HB3.out.size)); obtain ⟨⟨x0, x1, x2, x3, x4⟩, -⟩ := five_box ((hSw.block _ (lt_of_block HX.out)).trans HX.out); go_simp; try with_reducible rfl)
      simp only [Act.put, List.setIfInBounds_toArray, List.set_cons_zero, List.set_cons_succ]
      refine wpAnyH_take (i := 45) (oi := ⟨_, _, _, _, _, _⟩) (v := ?v39) rfl (by kernel_rfl) (by kernel_rfl) (by kernel_rfl) (fun _ _ _ h => h) ?y39 hS ?_
      case y39 => first | (refine Or.inr ⟨by rfl, ?_⟩; with_reducible rfl) | (refine Or.inl ⟨by rfl, ?_⟩; intro wS hSw; obtain ⟨g0, -⟩ := HV.out wS (HB3.out.trans (hSw.mono HB3.out.size)); obtain ⟨⟨x0, x1, x2, x3, x4⟩, -⟩ := five_box ((hSw.block _ (lt_of_block HX.out)).trans HX.out); go_simp; try with_reducible rfl)
      simp only [Act.put, List.setIfInBounds_toArray, List.set_cons_zero, List.set_cons_succ]
      refine wpAnyH_take (i := 46) (oi := ⟨_, _, _, _, _, _⟩) (v := ?v40) rfl (by kernel_rfl) (by kernel_rfl) (by kernel_rfl) (fun _ _ _ h => h) ?y40 hS ?_
      case y40 => first | (refine Or.inr ⟨by rfl, ?_⟩; with_reducible rfl) | (refine Or.inl ⟨by rfl, ?_⟩; intro wS hSw; obtain ⟨g0, -⟩ := HV.out wS (HB3.out.trans (hSw.mono HB3.out.size)); obtain ⟨⟨x0, x1, x2, x3, x4⟩, -⟩ := five_box ((hSw.block _ (lt_of_block HX.out)).trans HX.out); go_simp; try with_reducible rfl)
      simp only [Act.put, List.setIfInBounds_toArray, List.set_cons_zero, List.set_cons_succ]
      refine wpAnyH_ready (rs := [29]) (by kernel_rfl) (by simp) ?_
      refine AllReadyH.cons (o := ⟨_, _, _, _, _, _⟩) rfl (fun K hK => ?_) AllReadyH.nil
      go_simp
      refine (no_clear 0 _ (HN.out _ (HB3.out.trans (hS.mono HB3.out.size)))).mono ?_
      rintro e z ⟨rfl, hb⟩
      go_wp2_with fail
      have hS1 := hS.trans (hb.mono hS.size)
      refine hK.out _ _ hS1 (fun hSd => ?_)
      clear hSd hK K hS hb
      try simp only [Act.put, List.setIfInBounds_toArray, List.set_cons_zero, List.set_cons_succ]
      have hS := hS1
      clear hS1
      refine wpAnyH_take (i := 30) (oi := ⟨_, _, _, _, _, _⟩) (v := ?v41) rfl (by kernel_rfl) (by kernel_rfl) (by kernel_rfl) (fun _ _ _ h => h) ?y41 hS ?_
      case y41 => first | (refine Or.inr ⟨by rfl, ?_⟩; with_reducible rfl) | (refine Or.inl ⟨by rfl, ?_⟩; intro wS hSw; obtain ⟨g0, -⟩ := HV.out wS (HB3.out.trans (hSw.mono HB3.out.size)); obtain ⟨⟨x0, x1, x2, x3, x4⟩, -⟩ := five_box ((hSw.block _ (lt_of_block HX.out)).trans HX.out); go_simp; try with_reducible rfl)
      simp only [Act.put, List.setIfInBounds_toArray, List.set_cons_zero, List.set_cons_succ]
      refine wpAnyH_ready (rs := [35]) (by kernel_rfl) (by simp) ?_
      refine AllReadyH.cons (o := ⟨_, _, _, _, _, _⟩) rfl (fun K hK => ?_) AllReadyH.nil
      go_simp
      refine (no_len _ (HN.out _ (HB3.out.trans (hS.mono HB3.out.size)))).mono ?_
      rintro e z ⟨rfl, rfl⟩
      go_wp2_with fail
      have hS1 := hS
      refine hK.out _ _ hS1 (fun hSd => ?_)
      clear hSd hK K hS
      try simp only [Act.put, List.setIfInBounds_toArray, List.set_cons_zero, List.set_cons_succ]
      have hS := hS1
      clear hS1
      refine wpAnyH_take (i := 36) (oi := ⟨_, _, _, _, _, _⟩) (v := ?v42) rfl (by kernel_rfl) (by kernel_rfl) (by kernel_rfl) (fun _ _ _ h => h) ?y42 hS ?_
      case y42 => first | (refine Or.inr ⟨by rfl, ?_⟩; with_reducible rfl) | (refine Or.inl ⟨by rfl, ?_⟩; intro wS hSw; obtain ⟨g0, -⟩ := HV.out wS (HB3.out.trans (hSw.mono HB3.out.size)); obtain ⟨⟨x0, x1, x2, x3, x4⟩, -⟩ := five_box ((hSw.block _ (lt_of_block HX.out)).trans HX.out); go_simp; try with_reducible rfl)
      simp only [Act.put, List.setIfInBounds_toArray, List.set_cons_zero, List.set_cons_succ]
      refine wpAnyH_ready (rs := [41]) (by kernel_rfl) (by simp) ?_
      refine AllReadyH.cons (o := ⟨_, _, _, _, _, _⟩) rfl (fun K hK => ?_) AllReadyH.nil
      go_simp
      refine (no_peak _ (HN.out _ (HB3.out.trans (hS.mono HB3.out.size)))).mono ?_
      rintro e z ⟨rfl, rfl⟩
      go_wp2_with fail
      have hS1 := hS
      refine hK.out _ _ hS1 (fun hSd => ?_)
      clear hSd hK K hS
      try simp only [Act.put, List.setIfInBounds_toArray, List.set_cons_zero, List.set_cons_succ]
      have hS := hS1
      clear hS1
      refine wpAnyH_take (i := 42) (oi := ⟨_, _, _, _, _, _⟩) (v := ?v43) rfl (by kernel_rfl) (by kernel_rfl) (by kernel_rfl) (fun _ _ _ h => h) ?y43 hS ?_
      case y43 => first | (refine Or.inr ⟨by rfl, ?_⟩; with_reducible rfl) | (refine Or.inl ⟨by rfl, ?_⟩; intro wS hSw; obtain ⟨g0, -⟩ := HV.out wS (HB3.out.trans (hSw.mono HB3.out.size)); obtain ⟨⟨x0, x1, x2, x3, x4⟩, -⟩ := five_box ((hSw.block _ (lt_of_block HX.out)).trans HX.out); go_simp; try with_reducible rfl)
      simp only [Act.put, List.setIfInBounds_toArray, List.set_cons_zero, List.set_cons_succ]
      refine wpAnyH_ready (rs := [47]) (by kernel_rfl) (by simp) ?_
      refine AllReadyH.cons (o := ⟨_, _, _, _, _, _⟩) rfl (fun K hK => ?_) AllReadyH.nil
      go_simp
      refine (no_keys _ (HN.out _ (HB3.out.trans (hS.mono HB3.out.size)))).mono ?_
      rintro e z ⟨rfl, rfl⟩
      go_wp2_with fail
      have hS1 := hS
      refine hK.out _ _ hS1 (fun hSd => ?_)
      clear hSd hK K hS
      try simp only [Act.put, List.setIfInBounds_toArray, List.set_cons_zero, List.set_cons_succ]
      have hS := hS1
      clear hS1
      refine wpAnyH_take (i := 48) (oi := ⟨_, _, _, _, _, _⟩) (v := ?v44) rfl (by kernel_rfl) (by kernel_rfl) (by kernel_rfl) (fun _ _ _ h => h) ?y44 hS ?_
      case y44 => first | (refine Or.inr ⟨by rfl, ?_⟩; with_reducible rfl) | (refine Or.inl ⟨by rfl, ?_⟩; intro wS hSw; obtain ⟨g0, -⟩ := HV.out wS (HB3.out.trans (hSw.mono HB3.out.size)); obtain ⟨⟨x0, x1, x2, x3, x4⟩, -⟩ := five_box ((hSw.block _ (lt_of_block HX.out)).trans HX.out); go_simp; try with_reducible rfl)
      simp only [Act.put, List.setIfInBounds_toArray, List.set_cons_zero, List.set_cons_succ]
      refine wpAnyH_take (i := 49) (oi := ⟨_, _, _, _, _, _⟩) (v := ?v45) rfl (by kernel_rfl) (by kernel_rfl) (by kernel_rfl) (fun _ _ _ h => h) ?y45 hS ?_
      case y45 => first | (refine Or.inr ⟨by rfl, ?_⟩; with_reducible rfl) | (refine Or.inl ⟨by rfl, ?_⟩; intro wS hSw; obtain ⟨g0, -⟩ := HV.out wS (HB3.out.trans (hSw.mono HB3.out.size)); obtain ⟨⟨x0, x1, x2, x3, x4⟩, -⟩ := five_box ((hSw.block _ (lt_of_block HX.out)).trans HX.out); go_simp; try with_reducible rfl)
      simp only [Act.put, List.setIfInBounds_toArray, List.set_cons_zero, List.set_cons_succ]
      refine wpAnyH_take (i := 50) (oi := ⟨_, _, _, _, _, _⟩) (v := ?v46) rfl (by kernel_rfl) (by kernel_rfl) (by kernel_rfl) (fun _ _ _ h => h) ?y46 hS ?_
      case y46 => first | (refine Or.inr ⟨by rfl, ?_⟩; with_reducible rfl) | (refine Or.inl ⟨by rfl, ?_⟩; intro wS hSw; obtain ⟨g0, -⟩ := HV.out wS (HB3.out.trans (hSw.mono HB3.out.size)); obtain ⟨⟨x0, x1, x2, x3, x4⟩, -⟩ := five_box ((hSw.block _ (lt_of_block HX.out)).trans HX.out); go_simp; try with_reducible rfl)
      simp only [Act.put, List.setIfInBounds_toArray, List.set_cons_zero, List.set_cons_succ]
      refine wpAnyH_take (i := 51) (oi := ⟨_, _, _, _, _, _⟩) (v := ?v47) rfl (by kernel_rfl) (by kernel_rfl) (by kernel_rfl) (fun _ _ _ h => h) ?y47 hS ?_
      case y47 => first | (refine Or.inr ⟨by rfl, ?_⟩; with_reducible rfl) | (refine Or.inl ⟨by rfl, ?_⟩; intro wS hSw; obtain ⟨g0, -⟩ := HV.out wS (HB3.out.trans (hSw.mono HB3.out.size)); obtain ⟨⟨x0, x1, x2, x3, x4⟩, -⟩ := five_box ((hSw.block _ (lt_of_block HX.out)).trans HX.out); go_simp; try with_reducible rfl)
      simp only [Act.put, List.setIfInBounds_toArray, List.set_cons_zero, List.set_cons_succ]
      refine wpAnyH_take (i := 52) (oi := ⟨_, _, _, _, _, _⟩) (v := ?v48) rfl (by kernel_rfl) (by kernel_rfl) (by kernel_rfl) (fun _ _ _ h => h) ?y48 hS ?_
      case y48 => first | (refine Or.inr ⟨by rfl, ?_⟩; with_reducible rfl) | (refine Or.inl ⟨by rfl, ?_⟩; intro wS hSw; obtain ⟨g0, -⟩ := HV.out wS (HB3.out.trans (hSw.mono HB3.out.size)); obtain ⟨⟨x0, x1, x2, x3, x4⟩, -⟩ := five_box ((hSw.block _ (lt_of_block HX.out)).trans HX.out); go_simp; try with_reducible rfl)
      simp only [Act.put, List.setIfInBounds_toArray, List.set_cons_zero, List.set_cons_succ]
      refine wpAnyH_take (i := 53) (oi := ⟨_, _, _, _, _, _⟩) (v := ?v49) rfl (by kernel_rfl) (by kernel_rfl) (by kernel_rfl) (fun _ _ _ h => h) ?y49 hS ?_
      case y49 => first | (refine Or.inr ⟨by rfl, ?_⟩; with_reducible rfl) | (refine Or.inl ⟨by rfl, ?_⟩; intro wS hSw; obtain ⟨g0, -⟩ := HV.out wS (HB3.out.trans (hSw.mono HB3.out.size)); obtain ⟨⟨x0, x1, x2, x3, x4⟩, -⟩ := five_box ((hSw.block _ (lt_of_block HX.out)).trans HX.out); go_simp; try with_reducible rfl)
      simp only [Act.put, List.setIfInBounds_toArray, List.set_cons_zero, List.set_cons_succ]
      refine wpAnyH_take (i := 54) (oi := ⟨_, _, _, _, _, _⟩) (v := ?v50) rfl (by kernel_rfl) (by kernel_rfl) (by kernel_rfl) (fun _ _ _ h => h) ?y50 hS ?_
      case y50 => first | (refine Or.inr ⟨by rfl, ?_⟩; with_reducible rfl) | (refine Or.inl ⟨by rfl, ?_⟩; intro wS hSw; obtain ⟨g0, -⟩ := HV.out wS (HB3.out.trans (hSw.mono HB3.out.size)); obtain ⟨⟨x0, x1, x2, x3, x4⟩, -⟩ := five_box ((hSw.block _ (lt_of_block HX.out)).trans HX.out); go_simp; try with_reducible rfl)
      simp only [Act.put, List.setIfInBounds_toArray, List.set_cons_zero, List.set_cons_succ]
      refine wpAnyH_take (i := 55) (oi := ⟨_, _, _, _, _, _⟩) (v := ?v51) rfl (by kernel_rfl) (by kernel_rfl) (by kernel_rfl) (fun _ _ _ h => h) ?y51 hS ?_
      case y51 => first | (refine Or.inr ⟨by rfl, ?_⟩; with_reducible rfl) | (refine Or.inl ⟨by rfl, ?_⟩; intro wS hSw; obtain ⟨g0, -⟩ := HV.out wS (HB3.out.trans (hSw.mono HB3.out.size)); obtain ⟨⟨x0, x1, x2, x3, x4⟩, -⟩ := five_box ((hSw.block _ (lt_of_block HX.out)).trans HX.out); go_simp; try with_reducible rfl)
      simp only [Act.put, List.setIfInBounds_toArray, List.set_cons_zero, List.set_cons_succ]
      refine wpAnyH_take (i := 56) (oi := ⟨_, _, _, _, _, _⟩) (v := ?v52) rfl (by kernel_rfl) (by kernel_rfl) (by kernel_rfl) (fun _ _ _ h => h) ?y52 hS ?_
      case y52 => first | (refine Or.inr ⟨by rfl, ?_⟩; with_reducible rfl) | (refine Or.inl ⟨by rfl, ?_⟩; intro wS hSw; obtain ⟨g0, -⟩ := HV.out wS (HB3.out.trans (hSw.mono HB3.out.size)); obtain ⟨⟨x0, x1, x2, x3, x4⟩, -⟩ := five_box ((hSw.block _ (lt_of_block HX.out)).trans HX.out); go_simp; try with_reducible rfl)
      simp only [Act.put, List.setIfInBounds_toArray, List.set_cons_zero, List.set_cons_succ]
      refine wpAnyH_ready (rs := [57]) (by kernel_rfl) (by simp) ?_
      refine AllReadyH.cons (o := ⟨_, _, _, _, _, _⟩) rfl (fun K hK => ?_) AllReadyH.nil
      go_simp
      refine (no_copy _ (HN.out _ (HB3.out.trans (hS.mono HB3.out.size)))).mono ?_
      rintro e z ⟨rfl, rfl⟩
      go_wp2_with fail
      have hS1 := hS
      refine hK.out _ _ hS1 (fun hSd => ?_)
      clear hSd hK K hS
      try simp only [Act.put, List.setIfInBounds_toArray, List.set_cons_zero, List.set_cons_succ]
      have hS := hS1
      clear hS1
      refine wpAnyH_take (i := 58) (oi := ⟨_, _, _, _, _, _⟩) (v := ?v53) rfl (by kernel_rfl) (by kernel_rfl) (by kernel_rfl) (fun _ _ _ h => h) ?y53 hS ?_
      case y53 => first | (refine Or.inr ⟨by rfl, ?_⟩; with_reducible rfl) | (refine Or.inl ⟨by rfl, ?_⟩; intro wS hSw; obtain ⟨g0, -⟩ := HV.out wS (HB3.out.trans (hSw.mono HB3.out.size)); obtain ⟨⟨x0, x1, x2, x3, x4⟩, -⟩ := five_box ((hSw.block _ (lt_of_block HX.out)).trans HX.out); go_simp; try with_reducible rfl)
      simp only [Act.put, List.setIfInBounds_toArray, List.set_cons_zero, List.set_cons_succ]
      refine wpAnyH_take (i := 59) (oi := ⟨_, _, _, _, _, _⟩) (v := ?v54) rfl (by kernel_rfl) (by kernel_rfl) (by kernel_rfl) (fun _ _ _ h => h) ?y54 hS ?_
      case y54 => first | (refine Or.inr ⟨by rfl, ?_⟩; with_reducible rfl) | (refine Or.inl ⟨by rfl, ?_⟩; intro wS hSw; obtain ⟨g0, -⟩ := HV.out wS (HB3.out.trans (hSw.mono HB3.out.size)); obtain ⟨⟨x0, x1, x2, x3, x4⟩, -⟩ := five_box ((hSw.block _ (lt_of_block HX.out)).trans HX.out); go_simp; try with_reducible rfl)
      simp only [Act.put, List.setIfInBounds_toArray, List.set_cons_zero, List.set_cons_succ]
      refine wpAnyH_done (by kernel_rfl) ?_ _
      have HS := Lib.hid (Hb.out.trans ((HB3.out.trans (hS.mono HB3.out.size)).mono Hb.out.size))
      clear hS
      go_wp2
      go_roundw
      case rel => exact ⟨k + 1, by omega, by go_num, HS⟩
      case measure => simp [intOf]; omega
    · have hlt2 : ¬ (k : Int) < 2 := by omega
      go_wp2
      go_ret
      exact ⟨rfl, HB.out.trans (Hb.out.mono HB.out.size)⟩
    end Go.Proofs.YtpchjpmkkiopiaaGreat
