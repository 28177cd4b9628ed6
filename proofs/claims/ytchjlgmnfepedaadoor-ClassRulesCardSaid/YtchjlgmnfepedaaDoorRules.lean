/-
  Chapter 01: ClassRules: the walk.
-/
import Derived.Test.YtchjlgmnfepedaaDoorTwo
namespace Go.Proofs.YtchjlgmnfepedaaDoor
open Go.RowKit Go.Lib

theorem not0 (w : World) : Calls Tryd.prog 7 #[.agg #[.int .u64 0, .int .u64 0, .int .u64 0, .int .u64 0]] w fun e w' => e = .returned (.agg #[.int .u64 (word (clNot clNone) 0), .int .u64 (word (clNot clNone) 1), .int .u64 (word (clNot clNone) 2), .int .u64 (word (clNot clNone) 3)]) ∧ Below w.heap.size w w' := by
  have := class_Not w clNone
  unfold clv at this
  rw [clc_none] at this
  exact this

set_option maxRecDepth 100000 in
set_option maxHeartbeats 20000000 in
theorem classRules_main (w : World) (a b c : Nat → Bool) (hT : Tab w) :
    Calls Tryd.prog 4 #[clv a, clv b, clv c] w fun e w' => e = .returned (.bool true) ∧ Below w.heap.size w w' := by
  have hpos := hT.pos
  have pA := heap_alloc_new w (.cells (clc a) 24)
  have pB := heap_alloc_new (w.alloc (.cells (clc a) 24)) (.cells (clc b) 24)
  have pC := heap_alloc_new ((w.alloc (.cells (clc a) 24)).alloc (.cells (clc b) 24)) (.cells (clc c) 24)
  have pB := (heap_alloc_old _ (.cells (clc c) 24) (lt_of_block pB)).trans pB
  have pA := (heap_alloc_old _ (.cells (clc c) 24) (by simp; omega)).trans ((heap_alloc_old _ (.cells (clc b) 24) (lt_of_block pA)).trans pA)
  have hB0 := (((Below.refl w.heap.size w).alloc (Nat.le_refl _) (.cells (clc a) 24)).alloc (by simp) (.cells (clc b) 24)).alloc (by simp; omega) (.cells (clc c) 24)
  simp only [World.size_alloc] at pA pB pC
  have PA := Lib.hid pA
  have PB := Lib.hid pB
  have PC := Lib.hid pC
  have HB0 := Lib.hid hB0
  have HT := Lib.hid hT
  clear pA pB pC hB0 hT
  unfold clv
  unfold clc at *
  go_enter Tryd.func4, Tryd.ntmps4
  go_wp2_with fail
  refine (awake_any _ (HT.out.below hpos HB0.out)).mono ?_
  rintro e w1 ⟨rfl, hb⟩
  have hA1 := (hb.block _ (lt_of_block PA.out)).trans PA.out
  have hB1 := (hb.block _ (lt_of_block PB.out)).trans PB.out
  have hC1 := (hb.block _ (lt_of_block PC.out)).trans PC.out
  have PA := Lib.hid hA1
  have PB := Lib.hid hB1
  have PC := Lib.hid hC1
  have HB1 := Lib.hid (HB0.out.trans (hb.mono (by simp; omega)))
  clear hA1 hB1 hC1 hb HB0
  go_wp2_with fail
  refine (not0 _).mono ?_
  rintro e w2 ⟨rfl, hb⟩
  have hN2 : w2.heap[w1.heap.size]? = some (.cells (clc clNone) 24 (0, 0)) := by
    rw [clc_none]; exact (hb.block _ (by simp)).trans (heap_alloc_new w1 _)
  have hA2 := (hb.block _ (by have := lt_of_block PA.out; simp; omega)).trans ((heap_alloc_old _ _ (lt_of_block PA.out)).trans PA.out)
  have hB2 := (hb.block _ (by have := lt_of_block PB.out; simp; omega)).trans ((heap_alloc_old _ _ (lt_of_block PB.out)).trans PB.out)
  have hC2 := (hb.block _ (by have := lt_of_block PC.out; simp; omega)).trans ((heap_alloc_old _ _ (lt_of_block PC.out)).trans PC.out)
  have hB2' := (HB1.out.alloc HB1.out.size _).trans (hb.mono (by have := HB1.out.size; simp; omega))
  have hL2 := heap_alloc_new w2 (.cells (clc (clNot clNone)) 24)
  have hX : Cx w w.heap.size (w.heap.size + 1) (w.heap.size + 1 + 1) w1.heap.size w2.heap.size a b c (w2.alloc (.cells (clc (clNot clNone)) 24)) :=
    ⟨(heap_alloc_old _ _ (lt_of_block hA2)).trans hA2, (heap_alloc_old _ _ (lt_of_block hB2)).trans hB2, (heap_alloc_old _ _ (lt_of_block hC2)).trans hC2, (heap_alloc_old _ _ (lt_of_block hN2)).trans hN2, hL2, hB2'.alloc hB2'.size _⟩
  have HX := Lib.hid hX
  clear hX hL2 hB2' hC2 hB2 hA2 hN2 hb HB1 PA PB PC
  unfold clc at HX
  go_wp2_with fail
  have hX := HX.out
  generalize (w2.alloc (.cells #[.int .u64 (word (clNot clNone) 0), .int .u64 (word (clNot clNone) 1), .int .u64 (word (clNot clNone) 2), .int .u64 (word (clNot clNone) 3)] 24)) = w3 at hX ⊢
  generalize w1.heap.size = N at hX ⊢
  generalize w2.heap.size = L at hX ⊢
  refine wp_region_held_drew (S := Cx w w.heap.size (w.heap.size + 1) (w.heap.size + 1 + 1) N L a b c) (by kernel_rfl) hX.drew (fun hS => ?_)
  refine wpAnyH_take (i := 0) (oi := ⟨_, _, _, _, _, _⟩) (v := ?v1) rfl (by kernel_rfl) (by kernel_rfl) (by kernel_rfl) (fun _ _ _ h => h) ?y1 hS ?_
  case y1 => first | (refine Or.inr ⟨by rfl, ?_⟩; with_reducible rfl) | (refine Or.inl ⟨by rfl, ?_⟩; intro wS hSw; obtain ⟨q0, q1, q2, q3⟩ := cls_cells hSw.pa; go_simp; try with_reducible rfl)
  simp only [Act.put, List.setIfInBounds_toArray, List.set_cons_zero, List.set_cons_succ]
  refine wpAnyH_take (i := 3) (oi := ⟨_, _, _, _, _, _⟩) (v := ?v2) rfl (by kernel_rfl) (by kernel_rfl) (by kernel_rfl) (fun _ _ _ h => h) ?y2 hS ?_
  case y2 => first | (refine Or.inr ⟨by rfl, ?_⟩; with_reducible rfl) | (refine Or.inl ⟨by rfl, ?_⟩; intro wS hSw; obtain ⟨q0, q1, q2, q3⟩ := cls_cells hSw.pa; go_simp; try with_reducible rfl)
  simp only [Act.put, List.setIfInBounds_toArray, List.set_cons_zero, List.set_cons_succ]
  refine wpAnyH_ready (rs := [1]) (by kernel_rfl) (by simp) ?_
  refine AllReadyH.cons (o := ⟨_, _, _, _, _, _⟩) rfl (fun K hK => ?_) AllReadyH.nil
  go_simp
  refine (not1 _ a (clNot a) rfl).mono ?_
  rintro e wx ⟨rfl, hb⟩
  go_wp2_with fail
  refine hK.out _ _ (hS.later hb) (fun hS => ?_)
  clear hK K
  try simp only [Act.put, List.setIfInBounds_toArray, List.set_cons_zero, List.set_cons_succ]
  clear hb
  obtain ⟨wv, hwv⟩ : ∃ wv, wv = wx := ⟨_, rfl⟩
  rw [← hwv] at hS ⊢
  clear hwv
  refine wpAnyH_ready (rs := [2]) (by kernel_rfl) (by simp) ?_
  refine AllReadyH.cons (o := ⟨_, _, _, _, _, _⟩) rfl (fun K hK => ?_) AllReadyH.nil
  go_simp
  refine (not1 _ (clNot a) a (not_not a)).mono ?_
  rintro e wx ⟨rfl, hb⟩
  go_wp2_with fail
  refine hK.out _ _ (hS.later hb) (fun hS => ?_)
  clear hK K
  try simp only [Act.put, List.setIfInBounds_toArray, List.set_cons_zero, List.set_cons_succ]
  clear hb
  obtain ⟨wv, hwv⟩ : ∃ wv, wv = wx := ⟨_, rfl⟩
  rw [← hwv] at hS ⊢
  clear hwv
  have hq := eqa_same a
  refine wpAnyH_take (i := 4) (oi := ⟨_, _, _, _, _, _⟩) (v := ?v3) rfl (by kernel_rfl) (by kernel_rfl) (by kernel_rfl) (fun _ _ _ h => h) ?y3 hS ?_
  case y3 => first | (refine Or.inr ⟨by rfl, ?_⟩; with_reducible rfl) | (refine Or.inl ⟨by rfl, ?_⟩; intro wS hSw; go_simp; try with_reducible rfl)
  simp only [Act.put, List.setIfInBounds_toArray, List.set_cons_zero, List.set_cons_succ]
  refine wpAnyH_take (i := 5) (oi := ⟨_, _, _, _, _, _⟩) (v := ?v4) rfl (by kernel_rfl) (by kernel_rfl) (by kernel_rfl) (fun _ _ _ h => h) ?y4 hS ?_
  case y4 => first | (refine Or.inr ⟨by rfl, ?_⟩; with_reducible rfl) | (refine Or.inl ⟨by rfl, ?_⟩; intro wS hSw; go_simp; try with_reducible rfl)
  simp only [Act.put, List.setIfInBounds_toArray, List.set_cons_zero, List.set_cons_succ]
  refine wpAnyH_take (i := 6) (oi := ⟨_, _, _, _, _, _⟩) (v := ?v5) rfl (by kernel_rfl) (by kernel_rfl) (by kernel_rfl) (fun _ _ _ h => h) ?y5 hS ?_
  case y5 => first | (refine Or.inr ⟨by rfl, ?_⟩; with_reducible rfl) | (refine Or.inl ⟨by rfl, ?_⟩; intro wS hSw; obtain ⟨q0, q1, q2, q3⟩ := cls_cells hSw.pa; go_simp; try with_reducible rfl)
  simp only [Act.put, List.setIfInBounds_toArray, List.set_cons_zero, List.set_cons_succ]
  refine wpAnyH_take (i := 7) (oi := ⟨_, _, _, _, _, _⟩) (v := ?v6) rfl (by kernel_rfl) (by kernel_rfl) (by kernel_rfl) (fun _ _ _ h => h) ?y6 hS ?_
  case y6 => first | (refine Or.inr ⟨by rfl, ?_⟩; with_reducible rfl) | (refine Or.inl ⟨by rfl, ?_⟩; intro wS hSw; obtain ⟨q0, q1, q2, q3⟩ := cls_cells hSw.pb; go_simp; try with_reducible rfl)
  simp only [Act.put, List.setIfInBounds_toArray, List.set_cons_zero, List.set_cons_succ]
  refine wpAnyH_take (i := 11) (oi := ⟨_, _, _, _, _, _⟩) (v := ?v7) rfl (by kernel_rfl) (by kernel_rfl) (by kernel_rfl) (fun _ _ _ h => h) ?y7 hS ?_
  case y7 => first | (refine Or.inr ⟨by rfl, ?_⟩; with_reducible rfl) | (refine Or.inl ⟨by rfl, ?_⟩; intro wS hSw; obtain ⟨q0, q1, q2, q3⟩ := cls_cells hSw.pa; go_simp; try with_reducible rfl)
  simp only [Act.put, List.setIfInBounds_toArray, List.set_cons_zero, List.set_cons_succ]
  refine wpAnyH_take (i := 13) (oi := ⟨_, _, _, _, _, _⟩) (v := ?v8) rfl (by kernel_rfl) (by kernel_rfl) (by kernel_rfl) (fun _ _ _ h => h) ?y8 hS ?_
  case y8 => first | (refine Or.inr ⟨by rfl, ?_⟩; with_reducible rfl) | (refine Or.inl ⟨by rfl, ?_⟩; intro wS hSw; obtain ⟨q0, q1, q2, q3⟩ := cls_cells hSw.pb; go_simp; try with_reducible rfl)
  simp only [Act.put, List.setIfInBounds_toArray, List.set_cons_zero, List.set_cons_succ]
  refine wpAnyH_ready (rs := [8]) (by kernel_rfl) (by simp) ?_
  refine AllReadyH.cons (o := ⟨_, _, _, _, _, _⟩) rfl (fun K hK => ?_) AllReadyH.nil
  go_simp
  refine hK.out _ _ (hS.alloc _) (fun hS => ?_)
  clear hK K
  try simp only [Act.put, List.setIfInBounds_toArray, List.set_cons_zero, List.set_cons_succ]
  refine wpAnyH_ready (rs := [9]) (by kernel_rfl) (by simp) ?_
  refine AllReadyH.cons (o := ⟨_, _, _, _, _, _⟩) rfl (fun K hK => ?_) AllReadyH.nil
  go_simp
  refine (or2 _ a b (clOr a b) rfl).mono ?_
  rintro e wx ⟨rfl, hb⟩
  go_wp2_with fail
  refine hK.out _ _ (hS.later hb) (fun hS => ?_)
  clear hK K
  try simp only [Act.put, List.setIfInBounds_toArray, List.set_cons_zero, List.set_cons_succ]
  clear hb
  obtain ⟨wv, hwv⟩ : ∃ wv, wv = wx := ⟨_, rfl⟩
  rw [← hwv] at hS ⊢
  clear hwv
  refine wpAnyH_ready (rs := [10]) (by kernel_rfl) (by simp) ?_
  refine AllReadyH.cons (o := ⟨_, _, _, _, _, _⟩) rfl (fun K hK => ?_) AllReadyH.nil
  go_simp
  refine (not1 _ (clOr a b) (clNot (clOr a b)) rfl).mono ?_
  rintro e wx ⟨rfl, hb⟩
  go_wp2_with fail
  refine hK.out _ _ (hS.later hb) (fun hS => ?_)
  clear hK K
  try simp only [Act.put, List.setIfInBounds_toArray, List.set_cons_zero, List.set_cons_succ]
  clear hb
  obtain ⟨wv, hwv⟩ : ∃ wv, wv = wx := ⟨_, rfl⟩
  rw [← hwv] at hS ⊢
  clear hwv
  refine wpAnyH_ready (rs := [12]) (by kernel_rfl) (by simp) ?_
  refine AllReadyH.cons (o := ⟨_, _, _, _, _, _⟩) rfl (fun K hK => ?_) AllReadyH.nil
  go_simp
  refine (not1 _ a (clNot a) rfl).mono ?_
  rintro e wx ⟨rfl, hb⟩
  go_wp2_with fail
  refine hK.out _ _ (hS.later hb) (fun hS => ?_)
  clear hK K
  try simp only [Act.put, List.setIfInBounds_toArray, List.set_cons_zero, List.set_cons_succ]
  clear hb
  obtain ⟨wv, hwv⟩ : ∃ wv, wv = wx := ⟨_, rfl⟩
  rw [← hwv] at hS ⊢
  clear hwv
  refine wpAnyH_ready (rs := [14]) (by kernel_rfl) (by simp) ?_
  refine AllReadyH.cons (o := ⟨_, _, _, _, _, _⟩) rfl (fun K hK => ?_) AllReadyH.nil
  go_simp
  refine (not1 _ b (clNot b) rfl).mono ?_
  rintro e wx ⟨rfl, hb⟩
  go_wp2_with fail
  refine hK.out _ _ (hS.later hb) (fun hS => ?_)
  clear hK K
  try simp only [Act.put, List.setIfInBounds_toArray, List.set_cons_zero, List.set_cons_succ]
  clear hb
  obtain ⟨wv, hwv⟩ : ∃ wv, wv = wx := ⟨_, rfl⟩
  rw [← hwv] at hS ⊢
  clear hwv
  refine wpAnyH_ready (rs := [15]) (by kernel_rfl) (by simp) ?_
  refine AllReadyH.cons (o := ⟨_, _, _, _, _, _⟩) rfl (fun K hK => ?_) AllReadyH.nil
  go_simp
  refine hK.out _ _ (hS.alloc _) (fun hS => ?_)
  clear hK K
  try simp only [Act.put, List.setIfInBounds_toArray, List.set_cons_zero, List.set_cons_succ]
  refine wpAnyH_ready (rs := [16]) (by kernel_rfl) (by simp) ?_
  refine AllReadyH.cons (o := ⟨_, _, _, _, _, _⟩) rfl (fun K hK => ?_) AllReadyH.nil
  go_simp
  refine (and2 _ (clNot a) (clNot b) (clNot (clOr a b)) (not_or a b)).mono ?_
  rintro e wx ⟨rfl, hb⟩
  go_wp2_with fail
  refine hK.out _ _ (hS.later hb) (fun hS => ?_)
  clear hK K
  try simp only [Act.put, List.setIfInBounds_toArray, List.set_cons_zero, List.set_cons_succ]
  clear hb
  obtain ⟨wv, hwv⟩ : ∃ wv, wv = wx := ⟨_, rfl⟩
  rw [← hwv] at hS ⊢
  clear hwv
  have hq := eqa_same (clNot (clOr a b))
  refine wpAnyH_take (i := 17) (oi := ⟨_, _, _, _, _, _⟩) (v := ?v9) rfl (by kernel_rfl) (by kernel_rfl) (by kernel_rfl) (fun _ _ _ h => h) ?y9 hS ?_
  case y9 => first | (refine Or.inr ⟨by rfl, ?_⟩; with_reducible rfl) | (refine Or.inl ⟨by rfl, ?_⟩; intro wS hSw; go_simp; try with_reducible rfl)
  simp only [Act.put, List.setIfInBounds_toArray, List.set_cons_zero, List.set_cons_succ]
  refine wpAnyH_take (i := 18) (oi := ⟨_, _, _, _, _, _⟩) (v := ?v10) rfl (by kernel_rfl) (by kernel_rfl) (by kernel_rfl) (fun _ _ _ h => h) ?y10 hS ?_
  case y10 => first | (refine Or.inr ⟨by rfl, ?_⟩; with_reducible rfl) | (refine Or.inl ⟨by rfl, ?_⟩; intro wS hSw; go_simp; try with_reducible rfl)
  simp only [Act.put, List.setIfInBounds_toArray, List.set_cons_zero, List.set_cons_succ]
  refine wpAnyH_take (i := 19) (oi := ⟨_, _, _, _, _, _⟩) (v := ?v11) rfl (by kernel_rfl) (by kernel_rfl) (by kernel_rfl) (fun _ _ _ h => h) ?y11 hS ?_
  case y11 => first | (refine Or.inr ⟨by rfl, ?_⟩; with_reducible rfl) | (refine Or.inl ⟨by rfl, ?_⟩; intro wS hSw; go_simp; try with_reducible rfl)
  simp only [Act.put, List.setIfInBounds_toArray, List.set_cons_zero, List.set_cons_succ]
  refine wpAnyH_take (i := 20) (oi := ⟨_, _, _, _, _, _⟩) (v := ?v12) rfl (by kernel_rfl) (by kernel_rfl) (by kernel_rfl) (fun _ _ _ h => h) ?y12 hS ?_
  case y12 => first | (refine Or.inr ⟨by rfl, ?_⟩; with_reducible rfl) | (refine Or.inl ⟨by rfl, ?_⟩; intro wS hSw; obtain ⟨q0, q1, q2, q3⟩ := cls_cells hSw.pa; go_simp; try with_reducible rfl)
  simp only [Act.put, List.setIfInBounds_toArray, List.set_cons_zero, List.set_cons_succ]
  refine wpAnyH_take (i := 21) (oi := ⟨_, _, _, _, _, _⟩) (v := ?v13) rfl (by kernel_rfl) (by kernel_rfl) (by kernel_rfl) (fun _ _ _ h => h) ?y13 hS ?_
  case y13 => first | (refine Or.inr ⟨by rfl, ?_⟩; with_reducible rfl) | (refine Or.inl ⟨by rfl, ?_⟩; intro wS hSw; obtain ⟨q0, q1, q2, q3⟩ := cls_cells hSw.pa; go_simp; try with_reducible rfl)
  simp only [Act.put, List.setIfInBounds_toArray, List.set_cons_zero, List.set_cons_succ]
  refine wpAnyH_take (i := 25) (oi := ⟨_, _, _, _, _, _⟩) (v := ?v14) rfl (by kernel_rfl) (by kernel_rfl) (by kernel_rfl) (fun _ _ _ h => h) ?y14 hS ?_
  case y14 => first | (refine Or.inr ⟨by rfl, ?_⟩; with_reducible rfl) | (refine Or.inl ⟨by rfl, ?_⟩; intro wS hSw; obtain ⟨q0, q1, q2, q3⟩ := cls_cells hSw.pn; go_simp; try with_reducible rfl)
  simp only [Act.put, List.setIfInBounds_toArray, List.set_cons_zero, List.set_cons_succ]
  refine wpAnyH_ready (rs := [22]) (by kernel_rfl) (by simp) ?_
  refine AllReadyH.cons (o := ⟨_, _, _, _, _, _⟩) rfl (fun K hK => ?_) AllReadyH.nil
  go_simp
  refine (not1 _ a (clNot a) rfl).mono ?_
  rintro e wx ⟨rfl, hb⟩
  go_wp2_with fail
  refine hK.out _ _ (hS.later hb) (fun hS => ?_)
  clear hK K
  try simp only [Act.put, List.setIfInBounds_toArray, List.set_cons_zero, List.set_cons_succ]
  clear hb
  obtain ⟨wv, hwv⟩ : ∃ wv, wv = wx := ⟨_, rfl⟩
  rw [← hwv] at hS ⊢
  clear hwv
  refine wpAnyH_ready (rs := [23]) (by kernel_rfl) (by simp) ?_
  refine AllReadyH.cons (o := ⟨_, _, _, _, _, _⟩) rfl (fun K hK => ?_) AllReadyH.nil
  go_simp
  refine hK.out _ _ (hS.alloc _) (fun hS => ?_)
  clear hK K
  try simp only [Act.put, List.setIfInBounds_toArray, List.set_cons_zero, List.set_cons_succ]
  refine wpAnyH_ready (rs := [24]) (by kernel_rfl) (by simp) ?_
  refine AllReadyH.cons (o := ⟨_, _, _, _, _, _⟩) rfl (fun K hK => ?_) AllReadyH.nil
  go_simp
  refine (and2 _ a (clNot a) clNone (and_not a)).mono ?_
  rintro e wx ⟨rfl, hb⟩
  go_wp2_with fail
  refine hK.out _ _ (hS.later hb) (fun hS => ?_)
  clear hK K
  try simp only [Act.put, List.setIfInBounds_toArray, List.set_cons_zero, List.set_cons_succ]
  clear hb
  obtain ⟨wv, hwv⟩ : ∃ wv, wv = wx := ⟨_, rfl⟩
  rw [← hwv] at hS ⊢
  clear hwv
  have hq := eqa_same clNone
  refine wpAnyH_take (i := 26) (oi := ⟨_, _, _, _, _, _⟩) (v := ?v15) rfl (by kernel_rfl) (by kernel_rfl) (by kernel_rfl) (fun _ _ _ h => h) ?y15 hS ?_
  case y15 => first | (refine Or.inr ⟨by rfl, ?_⟩; with_reducible rfl) | (refine Or.inl ⟨by rfl, ?_⟩; intro wS hSw; go_simp; try with_reducible rfl)
  simp only [Act.put, List.setIfInBounds_toArray, List.set_cons_zero, List.set_cons_succ]
  refine wpAnyH_take (i := 27) (oi := ⟨_, _, _, _, _, _⟩) (v := ?v16) rfl (by kernel_rfl) (by kernel_rfl) (by kernel_rfl) (fun _ _ _ h => h) ?y16 hS ?_
  case y16 => first | (refine Or.inr ⟨by rfl, ?_⟩; with_reducible rfl) | (refine Or.inl ⟨by rfl, ?_⟩; intro wS hSw; go_simp; try with_reducible rfl)
  simp only [Act.put, List.setIfInBounds_toArray, List.set_cons_zero, List.set_cons_succ]
  refine wpAnyH_take (i := 28) (oi := ⟨_, _, _, _, _, _⟩) (v := ?v17) rfl (by kernel_rfl) (by kernel_rfl) (by kernel_rfl) (fun _ _ _ h => h) ?y17 hS ?_
  case y17 => first | (refine Or.inr ⟨by rfl, ?_⟩; with_reducible rfl) | (refine Or.inl ⟨by rfl, ?_⟩; intro wS hSw; go_simp; try with_reducible rfl)
  simp only [Act.put, List.setIfInBounds_toArray, List.set_cons_zero, List.set_cons_succ]
  refine wpAnyH_take (i := 29) (oi := ⟨_, _, _, _, _, _⟩) (v := ?v18) rfl (by kernel_rfl) (by kernel_rfl) (by kernel_rfl) (fun _ _ _ h => h) ?y18 hS ?_
  case y18 => first | (refine Or.inr ⟨by rfl, ?_⟩; with_reducible rfl) | (refine Or.inl ⟨by rfl, ?_⟩; intro wS hSw; obtain ⟨q0, q1, q2, q3⟩ := cls_cells hSw.pa; go_simp; try with_reducible rfl)
  simp only [Act.put, List.setIfInBounds_toArray, List.set_cons_zero, List.set_cons_succ]
  refine wpAnyH_take (i := 30) (oi := ⟨_, _, _, _, _, _⟩) (v := ?v19) rfl (by kernel_rfl) (by kernel_rfl) (by kernel_rfl) (fun _ _ _ h => h) ?y19 hS ?_
  case y19 => first | (refine Or.inr ⟨by rfl, ?_⟩; with_reducible rfl) | (refine Or.inl ⟨by rfl, ?_⟩; intro wS hSw; obtain ⟨q0, q1, q2, q3⟩ := cls_cells hSw.pa; go_simp; try with_reducible rfl)
  simp only [Act.put, List.setIfInBounds_toArray, List.set_cons_zero, List.set_cons_succ]
  refine wpAnyH_take (i := 34) (oi := ⟨_, _, _, _, _, _⟩) (v := ?v20) rfl (by kernel_rfl) (by kernel_rfl) (by kernel_rfl) (fun _ _ _ h => h) ?y20 hS ?_
  case y20 => first | (refine Or.inr ⟨by rfl, ?_⟩; with_reducible rfl) | (refine Or.inl ⟨by rfl, ?_⟩; intro wS hSw; obtain ⟨q0, q1, q2, q3⟩ := cls_cells hSw.pl; go_simp; try with_reducible rfl)
  simp only [Act.put, List.setIfInBounds_toArray, List.set_cons_zero, List.set_cons_succ]
  refine wpAnyH_ready (rs := [31]) (by kernel_rfl) (by simp) ?_
  refine AllReadyH.cons (o := ⟨_, _, _, _, _, _⟩) rfl (fun K hK => ?_) AllReadyH.nil
  go_simp
  refine (not1 _ a (clNot a) rfl).mono ?_
  rintro e wx ⟨rfl, hb⟩
  go_wp2_with fail
  refine hK.out _ _ (hS.later hb) (fun hS => ?_)
  clear hK K
  try simp only [Act.put, List.setIfInBounds_toArray, List.set_cons_zero, List.set_cons_succ]
  clear hb
  obtain ⟨wv, hwv⟩ : ∃ wv, wv = wx := ⟨_, rfl⟩
  rw [← hwv] at hS ⊢
  clear hwv
  refine wpAnyH_ready (rs := [32]) (by kernel_rfl) (by simp) ?_
  refine AllReadyH.cons (o := ⟨_, _, _, _, _, _⟩) rfl (fun K hK => ?_) AllReadyH.nil
  go_simp
  refine hK.out _ _ (hS.alloc _) (fun hS => ?_)
  clear hK K
  try simp only [Act.put, List.setIfInBounds_toArray, List.set_cons_zero, List.set_cons_succ]
  refine wpAnyH_ready (rs := [33]) (by kernel_rfl) (by simp) ?_
  refine AllReadyH.cons (o := ⟨_, _, _, _, _, _⟩) rfl (fun K hK => ?_) AllReadyH.nil
  go_simp
  refine (or2 _ a (clNot a) (clNot clNone) (or_not a)).mono ?_
  rintro e wx ⟨rfl, hb⟩
  go_wp2_with fail
  refine hK.out _ _ (hS.later hb) (fun hS => ?_)
  clear hK K
  try simp only [Act.put, List.setIfInBounds_toArray, List.set_cons_zero, List.set_cons_succ]
  clear hb
  obtain ⟨wv, hwv⟩ : ∃ wv, wv = wx := ⟨_, rfl⟩
  rw [← hwv] at hS ⊢
  clear hwv
  have hq := eqa_same (clNot clNone)
  refine wpAnyH_take (i := 35) (oi := ⟨_, _, _, _, _, _⟩) (v := ?v21) rfl (by kernel_rfl) (by kernel_rfl) (by kernel_rfl) (fun _ _ _ h => h) ?y21 hS ?_
  case y21 => first | (refine Or.inr ⟨by rfl, ?_⟩; with_reducible rfl) | (refine Or.inl ⟨by rfl, ?_⟩; intro wS hSw; go_simp; try with_reducible rfl)
  simp only [Act.put, List.setIfInBounds_toArray, List.set_cons_zero, List.set_cons_succ]
  refine wpAnyH_take (i := 36) (oi := ⟨_, _, _, _, _, _⟩) (v := ?v22) rfl (by kernel_rfl) (by kernel_rfl) (by kernel_rfl) (fun _ _ _ h => h) ?y22 hS ?_
  case y22 => first | (refine Or.inr ⟨by rfl, ?_⟩; with_reducible rfl) | (refine Or.inl ⟨by rfl, ?_⟩; intro wS hSw; go_simp; try with_reducible rfl)
  simp only [Act.put, List.setIfInBounds_toArray, List.set_cons_zero, List.set_cons_succ]
  refine wpAnyH_take (i := 37) (oi := ⟨_, _, _, _, _, _⟩) (v := ?v23) rfl (by kernel_rfl) (by kernel_rfl) (by kernel_rfl) (fun _ _ _ h => h) ?y23 hS ?_
  case y23 => first | (refine Or.inr ⟨by rfl, ?_⟩; with_reducible rfl) | (refine Or.inl ⟨by rfl, ?_⟩; intro wS hSw; go_simp; try with_reducible rfl)
  simp only [Act.put, List.setIfInBounds_toArray, List.set_cons_zero, List.set_cons_succ]
  refine wpAnyH_take (i := 38) (oi := ⟨_, _, _, _, _, _⟩) (v := ?v24) rfl (by kernel_rfl) (by kernel_rfl) (by kernel_rfl) (fun _ _ _ h => h) ?y24 hS ?_
  case y24 => first | (refine Or.inr ⟨by rfl, ?_⟩; with_reducible rfl) | (refine Or.inl ⟨by rfl, ?_⟩; intro wS hSw; obtain ⟨q0, q1, q2, q3⟩ := cls_cells hSw.pl; go_simp; try with_reducible rfl)
  simp only [Act.put, List.setIfInBounds_toArray, List.set_cons_zero, List.set_cons_succ]
  refine wpAnyH_ready (rs := [39]) (by kernel_rfl) (by simp) ?_
  refine AllReadyH.cons (o := ⟨_, _, _, _, _, _⟩) rfl (fun K hK => ?_) AllReadyH.nil
  go_simp
  refine (len1 _ (clNot clNone)).mono ?_
  rintro e wx ⟨rfl, hb⟩
  go_wp2_with fail
  refine hK.out _ _ (hS.later hb) (fun hS => ?_)
  clear hK K
  try simp only [Act.put, List.setIfInBounds_toArray, List.set_cons_zero, List.set_cons_succ]
  clear hb
  obtain ⟨wv, hwv⟩ : ∃ wv, wv = wx := ⟨_, rfl⟩
  rw [← hwv] at hS ⊢
  clear hwv
  have hq := cnt_all
  refine wpAnyH_take (i := 40) (oi := ⟨_, _, _, _, _, _⟩) (v := ?v25) rfl (by kernel_rfl) (by kernel_rfl) (by kernel_rfl) (fun _ _ _ h => h) ?y25 hS ?_
  case y25 => first | (refine Or.inr ⟨by rfl, ?_⟩; with_reducible rfl) | (refine Or.inl ⟨by rfl, ?_⟩; intro wS hSw; go_simp; try with_reducible rfl)
  simp only [Act.put, List.setIfInBounds_toArray, List.set_cons_zero, List.set_cons_succ]
  refine wpAnyH_take (i := 41) (oi := ⟨_, _, _, _, _, _⟩) (v := ?v26) rfl (by kernel_rfl) (by kernel_rfl) (by kernel_rfl) (fun _ _ _ h => h) ?y26 hS ?_
  case y26 => first | (refine Or.inr ⟨by rfl, ?_⟩; with_reducible rfl) | (refine Or.inl ⟨by rfl, ?_⟩; intro wS hSw; go_simp; try with_reducible rfl)
  simp only [Act.put, List.setIfInBounds_toArray, List.set_cons_zero, List.set_cons_succ]
  refine wpAnyH_done (by kernel_rfl) ?_ _
  go_wp2_with fail
  refine wp_region_held_drew (S := Cx w w.heap.size (w.heap.size + 1) (w.heap.size + 1 + 1) N L a b c) (by kernel_rfl) hS.drew (fun hS => ?_)
  generalize wv.drew = wv at hS ⊢
  refine wpAnyH_take (i := 0) (oi := ⟨_, _, _, _, _, _⟩) (v := ?v27) rfl (by kernel_rfl) (by kernel_rfl) (by kernel_rfl) (fun _ _ _ h => h) ?y27 hS ?_
  case y27 => first | (refine Or.inr ⟨by rfl, ?_⟩; with_reducible rfl) | (refine Or.inl ⟨by rfl, ?_⟩; intro wS hSw; obtain ⟨q0, q1, q2, q3⟩ := cls_cells hSw.pa; go_simp; try with_reducible rfl)
  simp only [Act.put, List.setIfInBounds_toArray, List.set_cons_zero, List.set_cons_succ]
  refine wpAnyH_take (i := 1) (oi := ⟨_, _, _, _, _, _⟩) (v := ?v28) rfl (by kernel_rfl) (by kernel_rfl) (by kernel_rfl) (fun _ _ _ h => h) ?y28 hS ?_
  case y28 => first | (refine Or.inr ⟨by rfl, ?_⟩; with_reducible rfl) | (refine Or.inl ⟨by rfl, ?_⟩; intro wS hSw; obtain ⟨q0, q1, q2, q3⟩ := cls_cells hSw.pb; go_simp; try with_reducible rfl)
  simp only [Act.put, List.setIfInBounds_toArray, List.set_cons_zero, List.set_cons_succ]
  refine wpAnyH_take (i := 2) (oi := ⟨_, _, _, _, _, _⟩) (v := ?v29) rfl (by kernel_rfl) (by kernel_rfl) (by kernel_rfl) (fun _ _ _ h => h) ?y29 hS ?_
  case y29 => first | (refine Or.inr ⟨by rfl, ?_⟩; with_reducible rfl) | (refine Or.inl ⟨by rfl, ?_⟩; intro wS hSw; obtain ⟨q0, q1, q2, q3⟩ := cls_cells hSw.pc; go_simp; try with_reducible rfl)
  simp only [Act.put, List.setIfInBounds_toArray, List.set_cons_zero, List.set_cons_succ]
  refine wpAnyH_take (i := 5) (oi := ⟨_, _, _, _, _, _⟩) (v := ?v30) rfl (by kernel_rfl) (by kernel_rfl) (by kernel_rfl) (fun _ _ _ h => h) ?y30 hS ?_
  case y30 => first | (refine Or.inr ⟨by rfl, ?_⟩; with_reducible rfl) | (refine Or.inl ⟨by rfl, ?_⟩; intro wS hSw; obtain ⟨q0, q1, q2, q3⟩ := cls_cells hSw.pc; go_simp; try with_reducible rfl)
  simp only [Act.put, List.setIfInBounds_toArray, List.set_cons_zero, List.set_cons_succ]
  refine wpAnyH_take (i := 6) (oi := ⟨_, _, _, _, _, _⟩) (v := ?v31) rfl (by kernel_rfl) (by kernel_rfl) (by kernel_rfl) (fun _ _ _ h => h) ?y31 hS ?_
  case y31 => first | (refine Or.inr ⟨by rfl, ?_⟩; with_reducible rfl) | (refine Or.inl ⟨by rfl, ?_⟩; intro wS hSw; obtain ⟨q0, q1, q2, q3⟩ := cls_cells hSw.pa; go_simp; try with_reducible rfl)
  simp only [Act.put, List.setIfInBounds_toArray, List.set_cons_zero, List.set_cons_succ]
  refine wpAnyH_take (i := 7) (oi := ⟨_, _, _, _, _, _⟩) (v := ?v32) rfl (by kernel_rfl) (by kernel_rfl) (by kernel_rfl) (fun _ _ _ h => h) ?y32 hS ?_
  case y32 => first | (refine Or.inr ⟨by rfl, ?_⟩; with_reducible rfl) | (refine Or.inl ⟨by rfl, ?_⟩; intro wS hSw; obtain ⟨q0, q1, q2, q3⟩ := cls_cells hSw.pb; go_simp; try with_reducible rfl)
  simp only [Act.put, List.setIfInBounds_toArray, List.set_cons_zero, List.set_cons_succ]
  apply cut_in
  · intro key1_0
    apply cut_in
    · intro key1_1
      apply cut_in
      · intro key1_2
        refine wpAnyH_ready (rs := [3, 8]) (by kernel_rfl) (by simp) ?_
        refine AllReadyH.cons (o := ⟨_, _, _, _, _, _⟩) rfl (fun K hK => ?_) (AllReadyH.cons (o := ⟨_, _, _, _, _, _⟩) rfl (fun K hK => ?_) AllReadyH.nil)
        · go_simp
          refine hK.out _ _ (hS.alloc _) (fun hS => ?_)
          clear hK K
          try simp only [Act.put, List.setIfInBounds_toArray, List.set_cons_zero, List.set_cons_succ]
          have hC3 := cls_new3 wv (a) (b) (c)
          generalize Value.slice (some ⟨wv.heap.size, 0, none⟩) 3 3 = v3 at hC3 ⊢
          generalize wv.alloc (.cells #[.int .u64 (word (a) 0), .int .u64 (word (a) 1), .int .u64 (word (a) 2), .int .u64 (word (a) 3), .int .u64 (word (b) 0), .int .u64 (word (b) 1), .int .u64 (word (b) 2), .int .u64 (word (b) 3), .int .u64 (word (c) 0), .int .u64 (word (c) 1), .int .u64 (word (c) 2), .int .u64 (word (c) 3)] 24) = wv at hS hC3 ⊢
          refine wpAnyH_ready (rs := [4, 8]) (by kernel_rfl) (by simp) ?_
          refine AllReadyH.cons (o := ⟨_, _, _, _, _, _⟩) rfl (fun K hK => ?_) (AllReadyH.cons (o := ⟨_, _, _, _, _, _⟩) rfl (fun K hK => ?_) AllReadyH.nil)
          · go_simp
            refine (or_at _ _ [a, b, c] (clOr (clOr a b) c) (fold_or3 a b c) hC3).mono ?_
            rintro e wv ⟨rfl, hb⟩
            go_wp2_with fail
            refine hK.out _ _ (hS.later hb) (fun hS => ?_)
            clear hK K
            try simp only [Act.put, List.setIfInBounds_toArray, List.set_cons_zero, List.set_cons_succ]
            clear hC3
            clear hb
            refine wpAnyH_ready (rs := [8]) (by kernel_rfl) (by simp) ?_
            refine AllReadyH.cons (o := ⟨_, _, _, _, _, _⟩) rfl (fun K hK => ?_) AllReadyH.nil
            go_simp
            refine hK.out _ _ (hS.alloc _) (fun hS => ?_)
            clear hK K
            try simp only [Act.put, List.setIfInBounds_toArray, List.set_cons_zero, List.set_cons_succ]
            have hC8 := cls_new3 wv (c) (a) (b)
            generalize Value.slice (some ⟨wv.heap.size, 0, none⟩) 3 3 = v8 at hC8 ⊢
            generalize wv.alloc (.cells #[.int .u64 (word (c) 0), .int .u64 (word (c) 1), .int .u64 (word (c) 2), .int .u64 (word (c) 3), .int .u64 (word (a) 0), .int .u64 (word (a) 1), .int .u64 (word (a) 2), .int .u64 (word (a) 3), .int .u64 (word (b) 0), .int .u64 (word (b) 1), .int .u64 (word (b) 2), .int .u64 (word (b) 3)] 24) = wv at hS hC8 ⊢
            refine wpAnyH_listed (L := #[true, true, true, true, true, true, true, true, true, false, false, false, false, false, false, false, false, false, false, false, false, false, false, false, false, false, false, false, false, false, false, false, false, false, false, false, false, false, false, false, false, false, false, false, false, false, false, false, false, false, false, false, false, false, false, false, false, false, false, false, false, false, false, false, false, false, false, false, false]) (by kernel_rfl) ?_
            revert hC8
            revert v8
            revert v3
            revert hS
            revert wv
            exact key1_1
          · go_simp
            refine hK.out _ _ (hS.alloc _) (fun hS => ?_)
            clear hK K
            try simp only [Act.put, List.setIfInBounds_toArray, List.set_cons_zero, List.set_cons_succ]
            replace hC3 := hC3.later ((Below.refl wv.heap.size wv).alloc (Nat.le_refl _) (.cells #[.int .u64 (word (c) 0), .int .u64 (word (c) 1), .int .u64 (word (c) 2), .int .u64 (word (c) 3), .int .u64 (word (a) 0), .int .u64 (word (a) 1), .int .u64 (word (a) 2), .int .u64 (word (a) 3), .int .u64 (word (b) 0), .int .u64 (word (b) 1), .int .u64 (word (b) 2), .int .u64 (word (b) 3)] 24))
            have hC8 := cls_new3 wv (c) (a) (b)
            generalize Value.slice (some ⟨wv.heap.size, 0, none⟩) 3 3 = v8 at hC8 ⊢
            generalize wv.alloc (.cells #[.int .u64 (word (c) 0), .int .u64 (word (c) 1), .int .u64 (word (c) 2), .int .u64 (word (c) 3), .int .u64 (word (a) 0), .int .u64 (word (a) 1), .int .u64 (word (a) 2), .int .u64 (word (a) 3), .int .u64 (word (b) 0), .int .u64 (word (b) 1), .int .u64 (word (b) 2), .int .u64 (word (b) 3)] 24) = wv at hS hC3 hC8 ⊢
            refine wpAnyH_listed (L := #[true, true, true, true, false, true, true, true, true, false, false, false, false, false, false, false, false, false, false, false, false, false, false, false, false, false, false, false, false, false, false, false, false, false, false, false, false, false, false, false, false, false, false, false, false, false, false, false, false, false, false, false, false, false, false, false, false, false, false, false, false, false, false, false, false, false, false, false, false]) (by kernel_rfl) ?_
            revert hC8
            revert v8
            revert hC3
            revert v3
            revert hS
            revert wv
            exact key1_2
        · go_simp
          refine hK.out _ _ (hS.alloc _) (fun hS => ?_)
          clear hK K
          try simp only [Act.put, List.setIfInBounds_toArray, List.set_cons_zero, List.set_cons_succ]
          have hC8 := cls_new3 wv (c) (a) (b)
          generalize Value.slice (some ⟨wv.heap.size, 0, none⟩) 3 3 = v8 at hC8 ⊢
          generalize wv.alloc (.cells #[.int .u64 (word (c) 0), .int .u64 (word (c) 1), .int .u64 (word (c) 2), .int .u64 (word (c) 3), .int .u64 (word (a) 0), .int .u64 (word (a) 1), .int .u64 (word (a) 2), .int .u64 (word (a) 3), .int .u64 (word (b) 0), .int .u64 (word (b) 1), .int .u64 (word (b) 2), .int .u64 (word (b) 3)] 24) = wv at hS hC8 ⊢
          refine wpAnyH_ready (rs := [3]) (by kernel_rfl) (by simp) ?_
          refine AllReadyH.cons (o := ⟨_, _, _, _, _, _⟩) rfl (fun K hK => ?_) AllReadyH.nil
          go_simp
          refine hK.out _ _ (hS.alloc _) (fun hS => ?_)
          clear hK K
          try simp only [Act.put, List.setIfInBounds_toArray, List.set_cons_zero, List.set_cons_succ]
          replace hC8 := hC8.later ((Below.refl wv.heap.size wv).alloc (Nat.le_refl _) (.cells #[.int .u64 (word (a) 0), .int .u64 (word (a) 1), .int .u64 (word (a) 2), .int .u64 (word (a) 3), .int .u64 (word (b) 0), .int .u64 (word (b) 1), .int .u64 (word (b) 2), .int .u64 (word (b) 3), .int .u64 (word (c) 0), .int .u64 (word (c) 1), .int .u64 (word (c) 2), .int .u64 (word (c) 3)] 24))
          have hC3 := cls_new3 wv (a) (b) (c)
          generalize Value.slice (some ⟨wv.heap.size, 0, none⟩) 3 3 = v3 at hC3 ⊢
          generalize wv.alloc (.cells #[.int .u64 (word (a) 0), .int .u64 (word (a) 1), .int .u64 (word (a) 2), .int .u64 (word (a) 3), .int .u64 (word (b) 0), .int .u64 (word (b) 1), .int .u64 (word (b) 2), .int .u64 (word (b) 3), .int .u64 (word (c) 0), .int .u64 (word (c) 1), .int .u64 (word (c) 2), .int .u64 (word (c) 3)] 24) = wv at hS hC8 hC3 ⊢
          refine wpAnyH_listed (L := #[true, true, true, true, false, true, true, true, true, false, false, false, false, false, false, false, false, false, false, false, false, false, false, false, false, false, false, false, false, false, false, false, false, false, false, false, false, false, false, false, false, false, false, false, false, false, false, false, false, false, false, false, false, false, false, false, false, false, false, false, false, false, false, false, false, false, false, false, false]) (by kernel_rfl) ?_
          revert hC8
          revert v8
          revert hC3
          revert v3
          revert hS
          revert wv
          exact key1_2
      · intro wv hS
        intro v3 hC3
        intro v8 hC8
        refine wpAnyH_ready (rs := [4]) (by kernel_rfl) (by simp) ?_
        refine AllReadyH.cons (o := ⟨_, _, _, _, _, _⟩) rfl (fun K hK => ?_) AllReadyH.nil
        go_simp
        refine (or_at _ _ [a, b, c] (clOr (clOr a b) c) (fold_or3 a b c) hC3).mono ?_
        rintro e wv ⟨rfl, hb⟩
        go_wp2_with fail
        refine hK.out _ _ (hS.later hb) (fun hS => ?_)
        clear hK K
        try simp only [Act.put, List.setIfInBounds_toArray, List.set_cons_zero, List.set_cons_succ]
        replace hC8 := hC8.later hb
        clear hC3
        clear hb
        refine wpAnyH_listed (L := #[true, true, true, true, true, true, true, true, true, false, false, false, false, false, false, false, false, false, false, false, false, false, false, false, false, false, false, false, false, false, false, false, false, false, false, false, false, false, false, false, false, false, false, false, false, false, false, false, false, false, false, false, false, false, false, false, false, false, false, false, false, false, false, false, false, false, false, false, false]) (by kernel_rfl) ?_
        revert hC8
        revert v8
        revert v3
        revert hS
        revert wv
        exact key1_1
    · intro wv hS
      intro v3
      intro v8 hC8
      refine wpAnyH_ready (rs := [9]) (by kernel_rfl) (by simp) ?_
      refine AllReadyH.cons (o := ⟨_, _, _, _, _, _⟩) rfl (fun K hK => ?_) AllReadyH.nil
      go_simp
      refine (or_at _ _ [c, a, b] (clOr (clOr a b) c) ((fold_or3 c a b).trans (or_turn a b c)) hC8).mono ?_
      rintro e wv ⟨rfl, hb⟩
      go_wp2_with fail
      refine hK.out _ _ (hS.later hb) (fun hS => ?_)
      clear hK K
      try simp only [Act.put, List.setIfInBounds_toArray, List.set_cons_zero, List.set_cons_succ]
      clear hC8
      clear hb
      refine wpAnyH_listed (L := #[true, true, true, true, true, true, true, true, true, true, false, false, false, false, false, false, false, false, false, false, false, false, false, false, false, false, false, false, false, false, false, false, false, false, false, false, false, false, false, false, false, false, false, false, false, false, false, false, false, false, false, false, false, false, false, false, false, false, false, false, false, false, false, false, false, false, false, false, false]) (by kernel_rfl) ?_
      revert v8
      revert v3
      revert hS
      revert wv
      exact key1_0
  · intro wv hS
    intro v3
    intro v8
    have hq := eqa_same (clOr (clOr a b) c)
    refine wpAnyH_take (i := 10) (oi := ⟨_, _, _, _, _, _⟩) (v := ?v33) rfl (by kernel_rfl) (by kernel_rfl) (by kernel_rfl) (fun _ _ _ h => h) ?y33 hS ?_
    case y33 => first | (refine Or.inr ⟨by rfl, ?_⟩; with_reducible rfl) | (refine Or.inl ⟨by rfl, ?_⟩; intro wS hSw; go_simp; try with_reducible rfl)
    simp only [Act.put, List.setIfInBounds_toArray, List.set_cons_zero, List.set_cons_succ]
    refine wpAnyH_take (i := 11) (oi := ⟨_, _, _, _, _, _⟩) (v := ?v34) rfl (by kernel_rfl) (by kernel_rfl) (by kernel_rfl) (fun _ _ _ h => h) ?y34 hS ?_
    case y34 => first | (refine Or.inr ⟨by rfl, ?_⟩; with_reducible rfl) | (refine Or.inl ⟨by rfl, ?_⟩; intro wS hSw; go_simp; try with_reducible rfl)
    simp only [Act.put, List.setIfInBounds_toArray, List.set_cons_zero, List.set_cons_succ]
    refine wpAnyH_take (i := 12) (oi := ⟨_, _, _, _, _, _⟩) (v := ?v35) rfl (by kernel_rfl) (by kernel_rfl) (by kernel_rfl) (fun _ _ _ h => h) ?y35 hS ?_
    case y35 => first | (refine Or.inr ⟨by rfl, ?_⟩; with_reducible rfl) | (refine Or.inl ⟨by rfl, ?_⟩; intro wS hSw; obtain ⟨q0, q1, q2, q3⟩ := cls_cells hSw.pa; go_simp; try with_reducible rfl)
    simp only [Act.put, List.setIfInBounds_toArray, List.set_cons_zero, List.set_cons_succ]
    refine wpAnyH_take (i := 13) (oi := ⟨_, _, _, _, _, _⟩) (v := ?v36) rfl (by kernel_rfl) (by kernel_rfl) (by kernel_rfl) (fun _ _ _ h => h) ?y36 hS ?_
    case y36 => first | (refine Or.inr ⟨by rfl, ?_⟩; with_reducible rfl) | (refine Or.inl ⟨by rfl, ?_⟩; intro wS hSw; obtain ⟨q0, q1, q2, q3⟩ := cls_cells hSw.pb; go_simp; try with_reducible rfl)
    simp only [Act.put, List.setIfInBounds_toArray, List.set_cons_zero, List.set_cons_succ]
    refine wpAnyH_take (i := 14) (oi := ⟨_, _, _, _, _, _⟩) (v := ?v37) rfl (by kernel_rfl) (by kernel_rfl) (by kernel_rfl) (fun _ _ _ h => h) ?y37 hS ?_
    case y37 => first | (refine Or.inr ⟨by rfl, ?_⟩; with_reducible rfl) | (refine Or.inl ⟨by rfl, ?_⟩; intro wS hSw; obtain ⟨q0, q1, q2, q3⟩ := cls_cells hSw.pc; go_simp; try with_reducible rfl)
    simp only [Act.put, List.setIfInBounds_toArray, List.set_cons_zero, List.set_cons_succ]
    refine wpAnyH_take (i := 17) (oi := ⟨_, _, _, _, _, _⟩) (v := ?v38) rfl (by kernel_rfl) (by kernel_rfl) (by kernel_rfl) (fun _ _ _ h => h) ?y38 hS ?_
    case y38 => first | (refine Or.inr ⟨by rfl, ?_⟩; with_reducible rfl) | (refine Or.inl ⟨by rfl, ?_⟩; intro wS hSw; obtain ⟨q0, q1, q2, q3⟩ := cls_cells hSw.pc; go_simp; try with_reducible rfl)
    simp only [Act.put, List.setIfInBounds_toArray, List.set_cons_zero, List.set_cons_succ]
    refine wpAnyH_take (i := 18) (oi := ⟨_, _, _, _, _, _⟩) (v := ?v39) rfl (by kernel_rfl) (by kernel_rfl) (by kernel_rfl) (fun _ _ _ h => h) ?y39 hS ?_
    case y39 => first | (refine Or.inr ⟨by rfl, ?_⟩; with_reducible rfl) | (refine Or.inl ⟨by rfl, ?_⟩; intro wS hSw; obtain ⟨q0, q1, q2, q3⟩ := cls_cells hSw.pa; go_simp; try with_reducible rfl)
    simp only [Act.put, List.setIfInBounds_toArray, List.set_cons_zero, List.set_cons_succ]
    refine wpAnyH_take (i := 19) (oi := ⟨_, _, _, _, _, _⟩) (v := ?v40) rfl (by kernel_rfl) (by kernel_rfl) (by kernel_rfl) (fun _ _ _ h => h) ?y40 hS ?_
    case y40 => first | (refine Or.inr ⟨by rfl, ?_⟩; with_reducible rfl) | (refine Or.inl ⟨by rfl, ?_⟩; intro wS hSw; obtain ⟨q0, q1, q2, q3⟩ := cls_cells hSw.pb; go_simp; try with_reducible rfl)
    simp only [Act.put, List.setIfInBounds_toArray, List.set_cons_zero, List.set_cons_succ]
    apply cut_in
    · intro key2_0
      apply cut_in
      · intro key2_1
        apply cut_in
        · intro key2_2
          refine wpAnyH_ready (rs := [15, 20]) (by kernel_rfl) (by simp) ?_
          refine AllReadyH.cons (o := ⟨_, _, _, _, _, _⟩) rfl (fun K hK => ?_) (AllReadyH.cons (o := ⟨_, _, _, _, _, _⟩) rfl (fun K hK => ?_) AllReadyH.nil)
          · go_simp
            refine hK.out _ _ (hS.alloc _) (fun hS => ?_)
            clear hK K
            try simp only [Act.put, List.setIfInBounds_toArray, List.set_cons_zero, List.set_cons_succ]
            have hC15 := cls_new3 wv (a) (b) (c)
            generalize Value.slice (some ⟨wv.heap.size, 0, none⟩) 3 3 = v15 at hC15 ⊢
            generalize wv.alloc (.cells #[.int .u64 (word (a) 0), .int .u64 (word (a) 1), .int .u64 (word (a) 2), .int .u64 (word (a) 3), .int .u64 (word (b) 0), .int .u64 (word (b) 1), .int .u64 (word (b) 2), .int .u64 (word (b) 3), .int .u64 (word (c) 0), .int .u64 (word (c) 1), .int .u64 (word (c) 2), .int .u64 (word (c) 3)] 24) = wv at hS hC15 ⊢
            refine wpAnyH_ready (rs := [16, 20]) (by kernel_rfl) (by simp) ?_
            refine AllReadyH.cons (o := ⟨_, _, _, _, _, _⟩) rfl (fun K hK => ?_) (AllReadyH.cons (o := ⟨_, _, _, _, _, _⟩) rfl (fun K hK => ?_) AllReadyH.nil)
            · go_simp
              refine (and_at _ _ [a, b, c] (clAnd (clAnd a b) c) (fold_and3 a b c) hC15).mono ?_
              rintro e wv ⟨rfl, hb⟩
              go_wp2_with fail
              refine hK.out _ _ (hS.later hb) (fun hS => ?_)
              clear hK K
              try simp only [Act.put, List.setIfInBounds_toArray, List.set_cons_zero, List.set_cons_succ]
              clear hC15
              clear hb
              refine wpAnyH_ready (rs := [20]) (by kernel_rfl) (by simp) ?_
              refine AllReadyH.cons (o := ⟨_, _, _, _, _, _⟩) rfl (fun K hK => ?_) AllReadyH.nil
              go_simp
              refine hK.out _ _ (hS.alloc _) (fun hS => ?_)
              clear hK K
              try simp only [Act.put, List.setIfInBounds_toArray, List.set_cons_zero, List.set_cons_succ]
              have hC20 := cls_new3 wv (c) (a) (b)
              generalize Value.slice (some ⟨wv.heap.size, 0, none⟩) 3 3 = v20 at hC20 ⊢
              generalize wv.alloc (.cells #[.int .u64 (word (c) 0), .int .u64 (word (c) 1), .int .u64 (word (c) 2), .int .u64 (word (c) 3), .int .u64 (word (a) 0), .int .u64 (word (a) 1), .int .u64 (word (a) 2), .int .u64 (word (a) 3), .int .u64 (word (b) 0), .int .u64 (word (b) 1), .int .u64 (word (b) 2), .int .u64 (word (b) 3)] 24) = wv at hS hC20 ⊢
              refine wpAnyH_listed (L := #[true, true, true, true, true, true, true, true, true, true, true, true, true, true, true, true, true, true, true, true, true, false, false, false, false, false, false, false, false, false, false, false, false, false, false, false, false, false, false, false, false, false, false, false, false, false, false, false, false, false, false, false, false, false, false, false, false, false, false, false, false, false, false, false, false, false, false, false, false]) (by kernel_rfl) ?_
              revert hC20
              revert v20
              revert v15
              revert hS
              revert wv
              exact key2_1
            · go_simp
              refine hK.out _ _ (hS.alloc _) (fun hS => ?_)
              clear hK K
              try simp only [Act.put, List.setIfInBounds_toArray, List.set_cons_zero, List.set_cons_succ]
              replace hC15 := hC15.later ((Below.refl wv.heap.size wv).alloc (Nat.le_refl _) (.cells #[.int .u64 (word (c) 0), .int .u64 (word (c) 1), .int .u64 (word (c) 2), .int .u64 (word (c) 3), .int .u64 (word (a) 0), .int .u64 (word (a) 1), .int .u64 (word (a) 2), .int .u64 (word (a) 3), .int .u64 (word (b) 0), .int .u64 (word (b) 1), .int .u64 (word (b) 2), .int .u64 (word (b) 3)] 24))
              have hC20 := cls_new3 wv (c) (a) (b)
              generalize Value.slice (some ⟨wv.heap.size, 0, none⟩) 3 3 = v20 at hC20 ⊢
              generalize wv.alloc (.cells #[.int .u64 (word (c) 0), .int .u64 (word (c) 1), .int .u64 (word (c) 2), .int .u64 (word (c) 3), .int .u64 (word (a) 0), .int .u64 (word (a) 1), .int .u64 (word (a) 2), .int .u64 (word (a) 3), .int .u64 (word (b) 0), .int .u64 (word (b) 1), .int .u64 (word (b) 2), .int .u64 (word (b) 3)] 24) = wv at hS hC15 hC20 ⊢
              refine wpAnyH_listed (L := #[true, true, true, true, true, true, true, true, true, true, true, true, true, true, true, true, false, true, true, true, true, false, false, false, false, false, false, false, false, false, false, false, false, false, false, false, false, false, false, false, false, false, false, false, false, false, false, false, false, false, false, false, false, false, false, false, false, false, false, false, false, false, false, false, false, false, false, false, false]) (by kernel_rfl) ?_
              revert hC20
              revert v20
              revert hC15
              revert v15
              revert hS
              revert wv
              exact key2_2
          · go_simp
            refine hK.out _ _ (hS.alloc _) (fun hS => ?_)
            clear hK K
            try simp only [Act.put, List.setIfInBounds_toArray, List.set_cons_zero, List.set_cons_succ]
            have hC20 := cls_new3 wv (c) (a) (b)
            generalize Value.slice (some ⟨wv.heap.size, 0, none⟩) 3 3 = v20 at hC20 ⊢
            generalize wv.alloc (.cells #[.int .u64 (word (c) 0), .int .u64 (word (c) 1), .int .u64 (word (c) 2), .int .u64 (word (c) 3), .int .u64 (word (a) 0), .int .u64 (word (a) 1), .int .u64 (word (a) 2), .int .u64 (word (a) 3), .int .u64 (word (b) 0), .int .u64 (word (b) 1), .int .u64 (word (b) 2), .int .u64 (word (b) 3)] 24) = wv at hS hC20 ⊢
            refine wpAnyH_ready (rs := [15]) (by kernel_rfl) (by simp) ?_
            refine AllReadyH.cons (o := ⟨_, _, _, _, _, _⟩) rfl (fun K hK => ?_) AllReadyH.nil
            go_simp
            refine hK.out _ _ (hS.alloc _) (fun hS => ?_)
            clear hK K
            try simp only [Act.put, List.setIfInBounds_toArray, List.set_cons_zero, List.set_cons_succ]
            replace hC20 := hC20.later ((Below.refl wv.heap.size wv).alloc (Nat.le_refl _) (.cells #[.int .u64 (word (a) 0), .int .u64 (word (a) 1), .int .u64 (word (a) 2), .int .u64 (word (a) 3), .int .u64 (word (b) 0), .int .u64 (word (b) 1), .int .u64 (word (b) 2), .int .u64 (word (b) 3), .int .u64 (word (c) 0), .int .u64 (word (c) 1), .int .u64 (word (c) 2), .int .u64 (word (c) 3)] 24))
            have hC15 := cls_new3 wv (a) (b) (c)
            generalize Value.slice (some ⟨wv.heap.size, 0, none⟩) 3 3 = v15 at hC15 ⊢
            generalize wv.alloc (.cells #[.int .u64 (word (a) 0), .int .u64 (word (a) 1), .int .u64 (word (a) 2), .int .u64 (word (a) 3), .int .u64 (word (b) 0), .int .u64 (word (b) 1), .int .u64 (word (b) 2), .int .u64 (word (b) 3), .int .u64 (word (c) 0), .int .u64 (word (c) 1), .int .u64 (word (c) 2), .int .u64 (word (c) 3)] 24) = wv at hS hC20 hC15 ⊢
            refine wpAnyH_listed (L := #[true, true, true, true, true, true, true, true, true, true, true, true, true, true, true, true, false, true, true, true, true, false, false, false, false, false, false, false, false, false, false, false, false, false, false, false, false, false, false, false, false, false, false, false, false, false, false, false, false, false, false, false, false, false, false, false, false, false, false, false, false, false, false, false, false, false, false, false, false]) (by kernel_rfl) ?_
            revert hC20
            revert v20
            revert hC15
            revert v15
            revert hS
            revert wv
            exact key2_2
        · intro wv hS
          intro v15 hC15
          intro v20 hC20
          refine wpAnyH_ready (rs := [16]) (by kernel_rfl) (by simp) ?_
          refine AllReadyH.cons (o := ⟨_, _, _, _, _, _⟩) rfl (fun K hK => ?_) AllReadyH.nil
          go_simp
          refine (and_at _ _ [a, b, c] (clAnd (clAnd a b) c) (fold_and3 a b c) hC15).mono ?_
          rintro e wv ⟨rfl, hb⟩
          go_wp2_with fail
          refine hK.out _ _ (hS.later hb) (fun hS => ?_)
          clear hK K
          try simp only [Act.put, List.setIfInBounds_toArray, List.set_cons_zero, List.set_cons_succ]
          replace hC20 := hC20.later hb
          clear hC15
          clear hb
          refine wpAnyH_listed (L := #[true, true, true, true, true, true, true, true, true, true, true, true, true, true, true, true, true, true, true, true, true, false, false, false, false, false, false, false, false, false, false, false, false, false, false, false, false, false, false, false, false, false, false, false, false, false, false, false, false, false, false, false, false, false, false, false, false, false, false, false, false, false, false, false, false, false, false, false, false]) (by kernel_rfl) ?_
          revert hC20
          revert v20
          revert v15
          revert hS
          revert wv
          exact key2_1
      · intro wv hS
        intro v15
        intro v20 hC20
        refine wpAnyH_ready (rs := [21]) (by kernel_rfl) (by simp) ?_
        refine AllReadyH.cons (o := ⟨_, _, _, _, _, _⟩) rfl (fun K hK => ?_) AllReadyH.nil
        go_simp
        refine (and_at _ _ [c, a, b] (clAnd (clAnd a b) c) ((fold_and3 c a b).trans (and_turn a b c)) hC20).mono ?_
        rintro e wv ⟨rfl, hb⟩
        go_wp2_with fail
        refine hK.out _ _ (hS.later hb) (fun hS => ?_)
        clear hK K
        try simp only [Act.put, List.setIfInBounds_toArray, List.set_cons_zero, List.set_cons_succ]
        clear hC20
        clear hb
        refine wpAnyH_listed (L := #[true, true, true, true, true, true, true, true, true, true, true, true, true, true, true, true, true, true, true, true, true, true, false, false, false, false, false, false, false, false, false, false, false, false, false, false, false, false, false, false, false, false, false, false, false, false, false, false, false, false, false, false, false, false, false, false, false, false, false, false, false, false, false, false, false, false, false, false, false]) (by kernel_rfl) ?_
        revert v20
        revert v15
        revert hS
        revert wv
        exact key2_0
    · intro wv hS
      intro v15
      intro v20
      have hq := eqa_same (clAnd (clAnd a b) c)
      refine wpAnyH_take (i := 22) (oi := ⟨_, _, _, _, _, _⟩) (v := ?v41) rfl (by kernel_rfl) (by kernel_rfl) (by kernel_rfl) (fun _ _ _ h => h) ?y41 hS ?_
      case y41 => first | (refine Or.inr ⟨by rfl, ?_⟩; with_reducible rfl) | (refine Or.inl ⟨by rfl, ?_⟩; intro wS hSw; go_simp; try with_reducible rfl)
      simp only [Act.put, List.setIfInBounds_toArray, List.set_cons_zero, List.set_cons_succ]
      refine wpAnyH_take (i := 23) (oi := ⟨_, _, _, _, _, _⟩) (v := ?v42) rfl (by kernel_rfl) (by kernel_rfl) (by kernel_rfl) (fun _ _ _ h => h) ?y42 hS ?_
      case y42 => first | (refine Or.inr ⟨by rfl, ?_⟩; with_reducible rfl) | (refine Or.inl ⟨by rfl, ?_⟩; intro wS hSw; go_simp; try with_reducible rfl)
      simp only [Act.put, List.setIfInBounds_toArray, List.set_cons_zero, List.set_cons_succ]
      refine wpAnyH_take (i := 24) (oi := ⟨_, _, _, _, _, _⟩) (v := ?v43) rfl (by kernel_rfl) (by kernel_rfl) (by kernel_rfl) (fun _ _ _ h => h) ?y43 hS ?_
      case y43 => first | (refine Or.inr ⟨by rfl, ?_⟩; with_reducible rfl) | (refine Or.inl ⟨by rfl, ?_⟩; intro wS hSw; go_simp; try with_reducible rfl)
      simp only [Act.put, List.setIfInBounds_toArray, List.set_cons_zero, List.set_cons_succ]
      refine wpAnyH_take (i := 25) (oi := ⟨_, _, _, _, _, _⟩) (v := ?v44) rfl (by kernel_rfl) (by kernel_rfl) (by kernel_rfl) (fun _ _ _ h => h) ?y44 hS ?_
      case y44 => first | (refine Or.inr ⟨by rfl, ?_⟩; with_reducible rfl) | (refine Or.inl ⟨by rfl, ?_⟩; intro wS hSw; obtain ⟨q0, q1, q2, q3⟩ := cls_cells hSw.pa; go_simp; try with_reducible rfl)
      simp only [Act.put, List.setIfInBounds_toArray, List.set_cons_zero, List.set_cons_succ]
      refine wpAnyH_take (i := 26) (oi := ⟨_, _, _, _, _, _⟩) (v := ?v45) rfl (by kernel_rfl) (by kernel_rfl) (by kernel_rfl) (fun _ _ _ h => h) ?y45 hS ?_
      case y45 => first | (refine Or.inr ⟨by rfl, ?_⟩; with_reducible rfl) | (refine Or.inl ⟨by rfl, ?_⟩; intro wS hSw; obtain ⟨q0, q1, q2, q3⟩ := cls_cells hSw.pb; go_simp; try with_reducible rfl)
      simp only [Act.put, List.setIfInBounds_toArray, List.set_cons_zero, List.set_cons_succ]
      refine wpAnyH_take (i := 27) (oi := ⟨_, _, _, _, _, _⟩) (v := ?v46) rfl (by kernel_rfl) (by kernel_rfl) (by kernel_rfl) (fun _ _ _ h => h) ?y46 hS ?_
      case y46 => first | (refine Or.inr ⟨by rfl, ?_⟩; with_reducible rfl) | (refine Or.inl ⟨by rfl, ?_⟩; intro wS hSw; obtain ⟨q0, q1, q2, q3⟩ := cls_cells hSw.pc; go_simp; try with_reducible rfl)
      simp only [Act.put, List.setIfInBounds_toArray, List.set_cons_zero, List.set_cons_succ]
      refine wpAnyH_take (i := 32) (oi := ⟨_, _, _, _, _, _⟩) (v := ?v47) rfl (by kernel_rfl) (by kernel_rfl) (by kernel_rfl) (fun _ _ _ h => h) ?y47 hS ?_
      case y47 => first | (refine Or.inr ⟨by rfl, ?_⟩; with_reducible rfl) | (refine Or.inl ⟨by rfl, ?_⟩; intro wS hSw; obtain ⟨q0, q1, q2, q3⟩ := cls_cells hSw.pa; go_simp; try with_reducible rfl)
      simp only [Act.put, List.setIfInBounds_toArray, List.set_cons_zero, List.set_cons_succ]
      refine wpAnyH_take (i := 33) (oi := ⟨_, _, _, _, _, _⟩) (v := ?v48) rfl (by kernel_rfl) (by kernel_rfl) (by kernel_rfl) (fun _ _ _ h => h) ?y48 hS ?_
      case y48 => first | (refine Or.inr ⟨by rfl, ?_⟩; with_reducible rfl) | (refine Or.inl ⟨by rfl, ?_⟩; intro wS hSw; obtain ⟨q0, q1, q2, q3⟩ := cls_cells hSw.pb; go_simp; try with_reducible rfl)
      simp only [Act.put, List.setIfInBounds_toArray, List.set_cons_zero, List.set_cons_succ]
      refine wpAnyH_take (i := 36) (oi := ⟨_, _, _, _, _, _⟩) (v := ?v49) rfl (by kernel_rfl) (by kernel_rfl) (by kernel_rfl) (fun _ _ _ h => h) ?y49 hS ?_
      case y49 => first | (refine Or.inr ⟨by rfl, ?_⟩; with_reducible rfl) | (refine Or.inl ⟨by rfl, ?_⟩; intro wS hSw; obtain ⟨q0, q1, q2, q3⟩ := cls_cells hSw.pa; go_simp; try with_reducible rfl)
      simp only [Act.put, List.setIfInBounds_toArray, List.set_cons_zero, List.set_cons_succ]
      refine wpAnyH_take (i := 37) (oi := ⟨_, _, _, _, _, _⟩) (v := ?v50) rfl (by kernel_rfl) (by kernel_rfl) (by kernel_rfl) (fun _ _ _ h => h) ?y50 hS ?_
      case y50 => first | (refine Or.inr ⟨by rfl, ?_⟩; with_reducible rfl) | (refine Or.inl ⟨by rfl, ?_⟩; intro wS hSw; obtain ⟨q0, q1, q2, q3⟩ := cls_cells hSw.pc; go_simp; try with_reducible rfl)
      simp only [Act.put, List.setIfInBounds_toArray, List.set_cons_zero, List.set_cons_succ]
      apply cut_in
      · intro key3_0
        apply cut_in
        · intro key3_1
          apply cut_in
          · intro key3_2
            apply cut_in
            · intro key3_3
              apply cut_in
              · intro key3_4
                apply cut_in
                · intro key3_5
                  apply cut_in
                  · intro key3_6
                    apply cut_in
                    · intro key3_7
                      apply cut_in
                      · intro key3_8
                        apply cut_in
                        · intro key3_9
                          apply cut_in
                          · intro key3_10
                            apply cut_in
                            · intro key3_11
                              apply cut_in
                              · intro key3_12
                                apply cut_in
                                · intro key3_13
                                  apply cut_in
                                  · intro key3_14
                                    refine wpAnyH_ready (rs := [28, 34, 38]) (by kernel_rfl) (by simp) ?_
                                    refine AllReadyH.cons (o := ⟨_, _, _, _, _, _⟩) rfl (fun K hK => ?_) (AllReadyH.cons (o := ⟨_, _, _, _, _, _⟩) rfl (fun K hK => ?_) (AllReadyH.cons (o := ⟨_, _, _, _, _, _⟩) rfl (fun K hK => ?_) AllReadyH.nil))
                                    · go_simp
                                      refine hK.out _ _ (hS.alloc _) (fun hS => ?_)
                                      clear hK K
                                      try simp only [Act.put, List.setIfInBounds_toArray, List.set_cons_zero, List.set_cons_succ]
                                      have hC28 := cls_new2 wv (b) (c)
                                      generalize Value.slice (some ⟨wv.heap.size, 0, none⟩) 2 2 = v28 at hC28 ⊢
                                      generalize wv.alloc (.cells #[.int .u64 (word (b) 0), .int .u64 (word (b) 1), .int .u64 (word (b) 2), .int .u64 (word (b) 3), .int .u64 (word (c) 0), .int .u64 (word (c) 1), .int .u64 (word (c) 2), .int .u64 (word (c) 3)] 24) = wv at hS hC28 ⊢
                                      refine wpAnyH_ready (rs := [29, 34, 38]) (by kernel_rfl) (by simp) ?_
                                      refine AllReadyH.cons (o := ⟨_, _, _, _, _, _⟩) rfl (fun K hK => ?_) (AllReadyH.cons (o := ⟨_, _, _, _, _, _⟩) rfl (fun K hK => ?_) (AllReadyH.cons (o := ⟨_, _, _, _, _, _⟩) rfl (fun K hK => ?_) AllReadyH.nil))
                                      · go_simp
                                        refine (or_at _ _ [b, c] (clOr b c) (fold_or2 b c) hC28).mono ?_
                                        rintro e wv ⟨rfl, hb⟩
                                        go_wp2_with fail
                                        refine hK.out _ _ (hS.later hb) (fun hS => ?_)
                                        clear hK K
                                        try simp only [Act.put, List.setIfInBounds_toArray, List.set_cons_zero, List.set_cons_succ]
                                        clear hC28
                                        clear hb
                                        refine wpAnyH_ready (rs := [30, 34, 38]) (by kernel_rfl) (by simp) ?_
                                        refine AllReadyH.cons (o := ⟨_, _, _, _, _, _⟩) rfl (fun K hK => ?_) (AllReadyH.cons (o := ⟨_, _, _, _, _, _⟩) rfl (fun K hK => ?_) (AllReadyH.cons (o := ⟨_, _, _, _, _, _⟩) rfl (fun K hK => ?_) AllReadyH.nil))
                                        · go_simp
                                          refine hK.out _ _ (hS.alloc _) (fun hS => ?_)
                                          clear hK K
                                          try simp only [Act.put, List.setIfInBounds_toArray, List.set_cons_zero, List.set_cons_succ]
                                          have hC30 := cls_new2 wv (a) (clOr b c)
                                          generalize Value.slice (some ⟨wv.heap.size, 0, none⟩) 2 2 = v30 at hC30 ⊢
                                          generalize wv.alloc (.cells #[.int .u64 (word (a) 0), .int .u64 (word (a) 1), .int .u64 (word (a) 2), .int .u64 (word (a) 3), .int .u64 (word (clOr b c) 0), .int .u64 (word (clOr b c) 1), .int .u64 (word (clOr b c) 2), .int .u64 (word (clOr b c) 3)] 24) = wv at hS hC30 ⊢
                                          refine wpAnyH_ready (rs := [31, 34, 38]) (by kernel_rfl) (by simp) ?_
                                          refine AllReadyH.cons (o := ⟨_, _, _, _, _, _⟩) rfl (fun K hK => ?_) (AllReadyH.cons (o := ⟨_, _, _, _, _, _⟩) rfl (fun K hK => ?_) (AllReadyH.cons (o := ⟨_, _, _, _, _, _⟩) rfl (fun K hK => ?_) AllReadyH.nil))
                                          · go_simp
                                            refine (and_at _ _ [a, clOr b c] (clAnd a (clOr b c)) (fold_and2 _ _) hC30).mono ?_
                                            rintro e wv ⟨rfl, hb⟩
                                            go_wp2_with fail
                                            refine hK.out _ _ (hS.later hb) (fun hS => ?_)
                                            clear hK K
                                            try simp only [Act.put, List.setIfInBounds_toArray, List.set_cons_zero, List.set_cons_succ]
                                            clear hC30
                                            clear hb
                                            refine wpAnyH_ready (rs := [34, 38]) (by kernel_rfl) (by simp) ?_
                                            refine AllReadyH.cons (o := ⟨_, _, _, _, _, _⟩) rfl (fun K hK => ?_) (AllReadyH.cons (o := ⟨_, _, _, _, _, _⟩) rfl (fun K hK => ?_) AllReadyH.nil)
                                            · go_simp
                                              refine hK.out _ _ (hS.alloc _) (fun hS => ?_)
                                              clear hK K
                                              try simp only [Act.put, List.setIfInBounds_toArray, List.set_cons_zero, List.set_cons_succ]
                                              have hC34 := cls_new2 wv (a) (b)
                                              generalize Value.slice (some ⟨wv.heap.size, 0, none⟩) 2 2 = v34 at hC34 ⊢
                                              generalize wv.alloc (.cells #[.int .u64 (word (a) 0), .int .u64 (word (a) 1), .int .u64 (word (a) 2), .int .u64 (word (a) 3), .int .u64 (word (b) 0), .int .u64 (word (b) 1), .int .u64 (word (b) 2), .int .u64 (word (b) 3)] 24) = wv at hS hC34 ⊢
                                              refine wpAnyH_listed (L := #[true, true, true, true, true, true, true, true, true, true, true, true, true, true, true, true, true, true, true, true, true, true, true, true, true, true, true, true, true, true, true, true, true, true, true, false, true, true, false, false, false, false, false, false, false, false, false, false, false, false, false, false, false, false, false, false, false, false, false, false, false, false, false, false, false, false, false, false, false]) (by kernel_rfl) ?_
                                              revert hC34
                                              revert v34
                                              revert v30
                                              revert v28
                                              revert hS
                                              revert wv
                                              exact key3_3
                                            · go_simp
                                              refine hK.out _ _ (hS.alloc _) (fun hS => ?_)
                                              clear hK K
                                              try simp only [Act.put, List.setIfInBounds_toArray, List.set_cons_zero, List.set_cons_succ]
                                              have hC38 := cls_new2 wv (a) (c)
                                              generalize Value.slice (some ⟨wv.heap.size, 0, none⟩) 2 2 = v38 at hC38 ⊢
                                              generalize wv.alloc (.cells #[.int .u64 (word (a) 0), .int .u64 (word (a) 1), .int .u64 (word (a) 2), .int .u64 (word (a) 3), .int .u64 (word (c) 0), .int .u64 (word (c) 1), .int .u64 (word (c) 2), .int .u64 (word (c) 3)] 24) = wv at hS hC38 ⊢
                                              refine wpAnyH_listed (L := #[true, true, true, true, true, true, true, true, true, true, true, true, true, true, true, true, true, true, true, true, true, true, true, true, true, true, true, true, true, true, true, true, true, true, false, false, true, true, true, false, false, false, false, false, false, false, false, false, false, false, false, false, false, false, false, false, false, false, false, false, false, false, false, false, false, false, false, false, false]) (by kernel_rfl) ?_
                                              revert hC38
                                              revert v38
                                              revert v30
                                              revert v28
                                              revert hS
                                              revert wv
                                              exact key3_4
                                          · go_simp
                                            refine hK.out _ _ (hS.alloc _) (fun hS => ?_)
                                            clear hK K
                                            try simp only [Act.put, List.setIfInBounds_toArray, List.set_cons_zero, List.set_cons_succ]
                                            replace hC30 := hC30.later ((Below.refl wv.heap.size wv).alloc (Nat.le_refl _) (.cells #[.int .u64 (word (a) 0), .int .u64 (word (a) 1), .int .u64 (word (a) 2), .int .u64 (word (a) 3), .int .u64 (word (b) 0), .int .u64 (word (b) 1), .int .u64 (word (b) 2), .int .u64 (word (b) 3)] 24))
                                            have hC34 := cls_new2 wv (a) (b)
                                            generalize Value.slice (some ⟨wv.heap.size, 0, none⟩) 2 2 = v34 at hC34 ⊢
                                            generalize wv.alloc (.cells #[.int .u64 (word (a) 0), .int .u64 (word (a) 1), .int .u64 (word (a) 2), .int .u64 (word (a) 3), .int .u64 (word (b) 0), .int .u64 (word (b) 1), .int .u64 (word (b) 2), .int .u64 (word (b) 3)] 24) = wv at hS hC30 hC34 ⊢
                                            refine wpAnyH_listed (L := #[true, true, true, true, true, true, true, true, true, true, true, true, true, true, true, true, true, true, true, true, true, true, true, true, true, true, true, true, true, true, true, false, true, true, true, false, true, true, false, false, false, false, false, false, false, false, false, false, false, false, false, false, false, false, false, false, false, false, false, false, false, false, false, false, false, false, false, false, false]) (by kernel_rfl) ?_
                                            revert hC34
                                            revert v34
                                            revert hC30
                                            revert v30
                                            revert v28
                                            revert hS
                                            revert wv
                                            exact key3_6
                                          · go_simp
                                            refine hK.out _ _ (hS.alloc _) (fun hS => ?_)
                                            clear hK K
                                            try simp only [Act.put, List.setIfInBounds_toArray, List.set_cons_zero, List.set_cons_succ]
                                            replace hC30 := hC30.later ((Below.refl wv.heap.size wv).alloc (Nat.le_refl _) (.cells #[.int .u64 (word (a) 0), .int .u64 (word (a) 1), .int .u64 (word (a) 2), .int .u64 (word (a) 3), .int .u64 (word (c) 0), .int .u64 (word (c) 1), .int .u64 (word (c) 2), .int .u64 (word (c) 3)] 24))
                                            have hC38 := cls_new2 wv (a) (c)
                                            generalize Value.slice (some ⟨wv.heap.size, 0, none⟩) 2 2 = v38 at hC38 ⊢
                                            generalize wv.alloc (.cells #[.int .u64 (word (a) 0), .int .u64 (word (a) 1), .int .u64 (word (a) 2), .int .u64 (word (a) 3), .int .u64 (word (c) 0), .int .u64 (word (c) 1), .int .u64 (word (c) 2), .int .u64 (word (c) 3)] 24) = wv at hS hC30 hC38 ⊢
                                            refine wpAnyH_listed (L := #[true, true, true, true, true, true, true, true, true, true, true, true, true, true, true, true, true, true, true, true, true, true, true, true, true, true, true, true, true, true, true, false, true, true, false, false, true, true, true, false, false, false, false, false, false, false, false, false, false, false, false, false, false, false, false, false, false, false, false, false, false, false, false, false, false, false, false, false, false]) (by kernel_rfl) ?_
                                            revert hC38
                                            revert v38
                                            revert hC30
                                            revert v30
                                            revert v28
                                            revert hS
                                            revert wv
                                            exact key3_7
                                        · go_simp
                                          refine hK.out _ _ (hS.alloc _) (fun hS => ?_)
                                          clear hK K
                                          try simp only [Act.put, List.setIfInBounds_toArray, List.set_cons_zero, List.set_cons_succ]
                                          have hC34 := cls_new2 wv (a) (b)
                                          generalize Value.slice (some ⟨wv.heap.size, 0, none⟩) 2 2 = v34 at hC34 ⊢
                                          generalize wv.alloc (.cells #[.int .u64 (word (a) 0), .int .u64 (word (a) 1), .int .u64 (word (a) 2), .int .u64 (word (a) 3), .int .u64 (word (b) 0), .int .u64 (word (b) 1), .int .u64 (word (b) 2), .int .u64 (word (b) 3)] 24) = wv at hS hC34 ⊢
                                          refine wpAnyH_listed (L := #[true, true, true, true, true, true, true, true, true, true, true, true, true, true, true, true, true, true, true, true, true, true, true, true, true, true, true, true, true, true, false, false, true, true, true, false, true, true, false, false, false, false, false, false, false, false, false, false, false, false, false, false, false, false, false, false, false, false, false, false, false, false, false, false, false, false, false, false, false]) (by kernel_rfl) ?_
                                          revert hC34
                                          revert v34
                                          revert v28
                                          revert hS
                                          revert wv
                                          exact key3_9
                                        · go_simp
                                          refine hK.out _ _ (hS.alloc _) (fun hS => ?_)
                                          clear hK K
                                          try simp only [Act.put, List.setIfInBounds_toArray, List.set_cons_zero, List.set_cons_succ]
                                          have hC38 := cls_new2 wv (a) (c)
                                          generalize Value.slice (some ⟨wv.heap.size, 0, none⟩) 2 2 = v38 at hC38 ⊢
                                          generalize wv.alloc (.cells #[.int .u64 (word (a) 0), .int .u64 (word (a) 1), .int .u64 (word (a) 2), .int .u64 (word (a) 3), .int .u64 (word (c) 0), .int .u64 (word (c) 1), .int .u64 (word (c) 2), .int .u64 (word (c) 3)] 24) = wv at hS hC38 ⊢
                                          refine wpAnyH_listed (L := #[true, true, true, true, true, true, true, true, true, true, true, true, true, true, true, true, true, true, true, true, true, true, true, true, true, true, true, true, true, true, false, false, true, true, false, false, true, true, true, false, false, false, false, false, false, false, false, false, false, false, false, false, false, false, false, false, false, false, false, false, false, false, false, false, false, false, false, false, false]) (by kernel_rfl) ?_
                                          revert hC38
                                          revert v38
                                          revert v28
                                          revert hS
                                          revert wv
                                          exact key3_10
                                      · go_simp
                                        refine hK.out _ _ (hS.alloc _) (fun hS => ?_)
                                        clear hK K
                                        try simp only [Act.put, List.setIfInBounds_toArray, List.set_cons_zero, List.set_cons_succ]
                                        replace hC28 := hC28.later ((Below.refl wv.heap.size wv).alloc (Nat.le_refl _) (.cells #[.int .u64 (word (a) 0), .int .u64 (word (a) 1), .int .u64 (word (a) 2), .int .u64 (word (a) 3), .int .u64 (word (b) 0), .int .u64 (word (b) 1), .int .u64 (word (b) 2), .int .u64 (word (b) 3)] 24))
                                        have hC34 := cls_new2 wv (a) (b)
                                        generalize Value.slice (some ⟨wv.heap.size, 0, none⟩) 2 2 = v34 at hC34 ⊢
                                        generalize wv.alloc (.cells #[.int .u64 (word (a) 0), .int .u64 (word (a) 1), .int .u64 (word (a) 2), .int .u64 (word (a) 3), .int .u64 (word (b) 0), .int .u64 (word (b) 1), .int .u64 (word (b) 2), .int .u64 (word (b) 3)] 24) = wv at hS hC28 hC34 ⊢
                                        refine wpAnyH_listed (L := #[true, true, true, true, true, true, true, true, true, true, true, true, true, true, true, true, true, true, true, true, true, true, true, true, true, true, true, true, true, false, false, false, true, true, true, false, true, true, false, false, false, false, false, false, false, false, false, false, false, false, false, false, false, false, false, false, false, false, false, false, false, false, false, false, false, false, false, false, false]) (by kernel_rfl) ?_
                                        revert hC34
                                        revert v34
                                        revert hC28
                                        revert v28
                                        revert hS
                                        revert wv
                                        exact key3_12
                                      · go_simp
                                        refine hK.out _ _ (hS.alloc _) (fun hS => ?_)
                                        clear hK K
                                        try simp only [Act.put, List.setIfInBounds_toArray, List.set_cons_zero, List.set_cons_succ]
                                        replace hC28 := hC28.later ((Below.refl wv.heap.size wv).alloc (Nat.le_refl _) (.cells #[.int .u64 (word (a) 0), .int .u64 (word (a) 1), .int .u64 (word (a) 2), .int .u64 (word (a) 3), .int .u64 (word (c) 0), .int .u64 (word (c) 1), .int .u64 (word (c) 2), .int .u64 (word (c) 3)] 24))
                                        have hC38 := cls_new2 wv (a) (c)
                                        generalize Value.slice (some ⟨wv.heap.size, 0, none⟩) 2 2 = v38 at hC38 ⊢
                                        generalize wv.alloc (.cells #[.int .u64 (word (a) 0), .int .u64 (word (a) 1), .int .u64 (word (a) 2), .int .u64 (word (a) 3), .int .u64 (word (c) 0), .int .u64 (word (c) 1), .int .u64 (word (c) 2), .int .u64 (word (c) 3)] 24) = wv at hS hC28 hC38 ⊢
                                        refine wpAnyH_listed (L := #[true, true, true, true, true, true, true, true, true, true, true, true, true, true, true, true, true, true, true, true, true, true, true, true, true, true, true, true, true, false, false, false, true, true, false, false, true, true, true, false, false, false, false, false, false, false, false, false, false, false, false, false, false, false, false, false, false, false, false, false, false, false, false, false, false, false, false, false, false]) (by kernel_rfl) ?_
                                        revert hC38
                                        revert v38
                                        revert hC28
                                        revert v28
                                        revert hS
                                        revert wv
                                        exact key3_13
                                    · go_simp
                                      refine hK.out _ _ (hS.alloc _) (fun hS => ?_)
                                      clear hK K
                                      try simp only [Act.put, List.setIfInBounds_toArray, List.set_cons_zero, List.set_cons_succ]
                                      have hC34 := cls_new2 wv (a) (b)
                                      generalize Value.slice (some ⟨wv.heap.size, 0, none⟩) 2 2 = v34 at hC34 ⊢
                                      generalize wv.alloc (.cells #[.int .u64 (word (a) 0), .int .u64 (word (a) 1), .int .u64 (word (a) 2), .int .u64 (word (a) 3), .int .u64 (word (b) 0), .int .u64 (word (b) 1), .int .u64 (word (b) 2), .int .u64 (word (b) 3)] 24) = wv at hS hC34 ⊢
                                      refine wpAnyH_ready (rs := [28, 38]) (by kernel_rfl) (by simp) ?_
                                      refine AllReadyH.cons (o := ⟨_, _, _, _, _, _⟩) rfl (fun K hK => ?_) (AllReadyH.cons (o := ⟨_, _, _, _, _, _⟩) rfl (fun K hK => ?_) AllReadyH.nil)
                                      · go_simp
                                        refine hK.out _ _ (hS.alloc _) (fun hS => ?_)
                                        clear hK K
                                        try simp only [Act.put, List.setIfInBounds_toArray, List.set_cons_zero, List.set_cons_succ]
                                        replace hC34 := hC34.later ((Below.refl wv.heap.size wv).alloc (Nat.le_refl _) (.cells #[.int .u64 (word (b) 0), .int .u64 (word (b) 1), .int .u64 (word (b) 2), .int .u64 (word (b) 3), .int .u64 (word (c) 0), .int .u64 (word (c) 1), .int .u64 (word (c) 2), .int .u64 (word (c) 3)] 24))
                                        have hC28 := cls_new2 wv (b) (c)
                                        generalize Value.slice (some ⟨wv.heap.size, 0, none⟩) 2 2 = v28 at hC28 ⊢
                                        generalize wv.alloc (.cells #[.int .u64 (word (b) 0), .int .u64 (word (b) 1), .int .u64 (word (b) 2), .int .u64 (word (b) 3), .int .u64 (word (c) 0), .int .u64 (word (c) 1), .int .u64 (word (c) 2), .int .u64 (word (c) 3)] 24) = wv at hS hC34 hC28 ⊢
                                        refine wpAnyH_listed (L := #[true, true, true, true, true, true, true, true, true, true, true, true, true, true, true, true, true, true, true, true, true, true, true, true, true, true, true, true, true, false, false, false, true, true, true, false, true, true, false, false, false, false, false, false, false, false, false, false, false, false, false, false, false, false, false, false, false, false, false, false, false, false, false, false, false, false, false, false, false]) (by kernel_rfl) ?_
                                        revert hC34
                                        revert v34
                                        revert hC28
                                        revert v28
                                        revert hS
                                        revert wv
                                        exact key3_12
                                      · go_simp
                                        refine hK.out _ _ (hS.alloc _) (fun hS => ?_)
                                        clear hK K
                                        try simp only [Act.put, List.setIfInBounds_toArray, List.set_cons_zero, List.set_cons_succ]
                                        replace hC34 := hC34.later ((Below.refl wv.heap.size wv).alloc (Nat.le_refl _) (.cells #[.int .u64 (word (a) 0), .int .u64 (word (a) 1), .int .u64 (word (a) 2), .int .u64 (word (a) 3), .int .u64 (word (c) 0), .int .u64 (word (c) 1), .int .u64 (word (c) 2), .int .u64 (word (c) 3)] 24))
                                        have hC38 := cls_new2 wv (a) (c)
                                        generalize Value.slice (some ⟨wv.heap.size, 0, none⟩) 2 2 = v38 at hC38 ⊢
                                        generalize wv.alloc (.cells #[.int .u64 (word (a) 0), .int .u64 (word (a) 1), .int .u64 (word (a) 2), .int .u64 (word (a) 3), .int .u64 (word (c) 0), .int .u64 (word (c) 1), .int .u64 (word (c) 2), .int .u64 (word (c) 3)] 24) = wv at hS hC34 hC38 ⊢
                                        refine wpAnyH_listed (L := #[true, true, true, true, true, true, true, true, true, true, true, true, true, true, true, true, true, true, true, true, true, true, true, true, true, true, true, true, false, false, false, false, true, true, true, false, true, true, true, false, false, false, false, false, false, false, false, false, false, false, false, false, false, false, false, false, false, false, false, false, false, false, false, false, false, false, false, false, false]) (by kernel_rfl) ?_
                                        revert hC38
                                        revert v38
                                        revert hC34
                                        revert v34
                                        revert hS
                                        revert wv
                                        exact key3_14
                                    · go_simp
                                      refine hK.out _ _ (hS.alloc _) (fun hS => ?_)
                                      clear hK K
                                      try simp only [Act.put, List.setIfInBounds_toArray, List.set_cons_zero, List.set_cons_succ]
                                      have hC38 := cls_new2 wv (a) (c)
                                      generalize Value.slice (some ⟨wv.heap.size, 0, none⟩) 2 2 = v38 at hC38 ⊢
                                      generalize wv.alloc (.cells #[.int .u64 (word (a) 0), .int .u64 (word (a) 1), .int .u64 (word (a) 2), .int .u64 (word (a) 3), .int .u64 (word (c) 0), .int .u64 (word (c) 1), .int .u64 (word (c) 2), .int .u64 (word (c) 3)] 24) = wv at hS hC38 ⊢
                                      refine wpAnyH_ready (rs := [28, 34]) (by kernel_rfl) (by simp) ?_
                                      refine AllReadyH.cons (o := ⟨_, _, _, _, _, _⟩) rfl (fun K hK => ?_) (AllReadyH.cons (o := ⟨_, _, _, _, _, _⟩) rfl (fun K hK => ?_) AllReadyH.nil)
                                      · go_simp
                                        refine hK.out _ _ (hS.alloc _) (fun hS => ?_)
                                        clear hK K
                                        try simp only [Act.put, List.setIfInBounds_toArray, List.set_cons_zero, List.set_cons_succ]
                                        replace hC38 := hC38.later ((Below.refl wv.heap.size wv).alloc (Nat.le_refl _) (.cells #[.int .u64 (word (b) 0), .int .u64 (word (b) 1), .int .u64 (word (b) 2), .int .u64 (word (b) 3), .int .u64 (word (c) 0), .int .u64 (word (c) 1), .int .u64 (word (c) 2), .int .u64 (word (c) 3)] 24))
                                        have hC28 := cls_new2 wv (b) (c)
                                        generalize Value.slice (some ⟨wv.heap.size, 0, none⟩) 2 2 = v28 at hC28 ⊢
                                        generalize wv.alloc (.cells #[.int .u64 (word (b) 0), .int .u64 (word (b) 1), .int .u64 (word (b) 2), .int .u64 (word (b) 3), .int .u64 (word (c) 0), .int .u64 (word (c) 1), .int .u64 (word (c) 2), .int .u64 (word (c) 3)] 24) = wv at hS hC38 hC28 ⊢
                                        refine wpAnyH_listed (L := #[true, true, true, true, true, true, true, true, true, true, true, true, true, true, true, true, true, true, true, true, true, true, true, true, true, true, true, true, true, false, false, false, true, true, false, false, true, true, true, false, false, false, false, false, false, false, false, false, false, false, false, false, false, false, false, false, false, false, false, false, false, false, false, false, false, false, false, false, false]) (by kernel_rfl) ?_
                                        revert hC38
                                        revert v38
                                        revert hC28
                                        revert v28
                                        revert hS
                                        revert wv
                                        exact key3_13
                                      · go_simp
                                        refine hK.out _ _ (hS.alloc _) (fun hS => ?_)
                                        clear hK K
                                        try simp only [Act.put, List.setIfInBounds_toArray, List.set_cons_zero, List.set_cons_succ]
                                        replace hC38 := hC38.later ((Below.refl wv.heap.size wv).alloc (Nat.le_refl _) (.cells #[.int .u64 (word (a) 0), .int .u64 (word (a) 1), .int .u64 (word (a) 2), .int .u64 (word (a) 3), .int .u64 (word (b) 0), .int .u64 (word (b) 1), .int .u64 (word (b) 2), .int .u64 (word (b) 3)] 24))
                                        have hC34 := cls_new2 wv (a) (b)
                                        generalize Value.slice (some ⟨wv.heap.size, 0, none⟩) 2 2 = v34 at hC34 ⊢
                                        generalize wv.alloc (.cells #[.int .u64 (word (a) 0), .int .u64 (word (a) 1), .int .u64 (word (a) 2), .int .u64 (word (a) 3), .int .u64 (word (b) 0), .int .u64 (word (b) 1), .int .u64 (word (b) 2), .int .u64 (word (b) 3)] 24) = wv at hS hC38 hC34 ⊢
                                        refine wpAnyH_listed (L := #[true, true, true, true, true, true, true, true, true, true, true, true, true, true, true, true, true, true, true, true, true, true, true, true, true, true, true, true, false, false, false, false, true, true, true, false, true, true, true, false, false, false, false, false, false, false, false, false, false, false, false, false, false, false, false, false, false, false, false, false, false, false, false, false, false, false, false, false, false]) (by kernel_rfl) ?_
                                        revert hC38
                                        revert v38
                                        revert hC34
                                        revert v34
                                        revert hS
                                        revert wv
                                        exact key3_14
                                  · intro wv hS
                                    intro v34 hC34
                                    intro v38 hC38
                                    refine wpAnyH_ready (rs := [28]) (by kernel_rfl) (by simp) ?_
                                    refine AllReadyH.cons (o := ⟨_, _, _, _, _, _⟩) rfl (fun K hK => ?_) AllReadyH.nil
                                    go_simp
                                    refine hK.out _ _ (hS.alloc _) (fun hS => ?_)
                                    clear hK K
                                    try simp only [Act.put, List.setIfInBounds_toArray, List.set_cons_zero, List.set_cons_succ]
                                    replace hC34 := hC34.later ((Below.refl wv.heap.size wv).alloc (Nat.le_refl _) (.cells #[.int .u64 (word (b) 0), .int .u64 (word (b) 1), .int .u64 (word (b) 2), .int .u64 (word (b) 3), .int .u64 (word (c) 0), .int .u64 (word (c) 1), .int .u64 (word (c) 2), .int .u64 (word (c) 3)] 24))
                                    replace hC38 := hC38.later ((Below.refl wv.heap.size wv).alloc (Nat.le_refl _) (.cells #[.int .u64 (word (b) 0), .int .u64 (word (b) 1), .int .u64 (word (b) 2), .int .u64 (word (b) 3), .int .u64 (word (c) 0), .int .u64 (word (c) 1), .int .u64 (word (c) 2), .int .u64 (word (c) 3)] 24))
                                    have hC28 := cls_new2 wv (b) (c)
                                    generalize Value.slice (some ⟨wv.heap.size, 0, none⟩) 2 2 = v28 at hC28 ⊢
                                    generalize wv.alloc (.cells #[.int .u64 (word (b) 0), .int .u64 (word (b) 1), .int .u64 (word (b) 2), .int .u64 (word (b) 3), .int .u64 (word (c) 0), .int .u64 (word (c) 1), .int .u64 (word (c) 2), .int .u64 (word (c) 3)] 24) = wv at hS hC34 hC38 hC28 ⊢
                                    refine wpAnyH_listed (L := #[true, true, true, true, true, true, true, true, true, true, true, true, true, true, true, true, true, true, true, true, true, true, true, true, true, true, true, true, true, false, false, false, true, true, true, false, true, true, true, false, false, false, false, false, false, false, false, false, false, false, false, false, false, false, false, false, false, false, false, false, false, false, false, false, false, false, false, false, false]) (by kernel_rfl) ?_
                                    revert hC38
                                    revert v38
                                    revert hC34
                                    revert v34
                                    revert hC28
                                    revert v28
                                    revert hS
                                    revert wv
                                    exact key3_11
                                · intro wv hS
                                  intro v28 hC28
                                  intro v38 hC38
                                  refine wpAnyH_ready (rs := [29, 34]) (by kernel_rfl) (by simp) ?_
                                  refine AllReadyH.cons (o := ⟨_, _, _, _, _, _⟩) rfl (fun K hK => ?_) (AllReadyH.cons (o := ⟨_, _, _, _, _, _⟩) rfl (fun K hK => ?_) AllReadyH.nil)
                                  · go_simp
                                    refine (or_at _ _ [b, c] (clOr b c) (fold_or2 b c) hC28).mono ?_
                                    rintro e wv ⟨rfl, hb⟩
                                    go_wp2_with fail
                                    refine hK.out _ _ (hS.later hb) (fun hS => ?_)
                                    clear hK K
                                    try simp only [Act.put, List.setIfInBounds_toArray, List.set_cons_zero, List.set_cons_succ]
                                    replace hC38 := hC38.later hb
                                    clear hC28
                                    clear hb
                                    refine wpAnyH_listed (L := #[true, true, true, true, true, true, true, true, true, true, true, true, true, true, true, true, true, true, true, true, true, true, true, true, true, true, true, true, true, true, false, false, true, true, false, false, true, true, true, false, false, false, false, false, false, false, false, false, false, false, false, false, false, false, false, false, false, false, false, false, false, false, false, false, false, false, false, false, false]) (by kernel_rfl) ?_
                                    revert hC38
                                    revert v38
                                    revert v28
                                    revert hS
                                    revert wv
                                    exact key3_10
                                  · go_simp
                                    refine hK.out _ _ (hS.alloc _) (fun hS => ?_)
                                    clear hK K
                                    try simp only [Act.put, List.setIfInBounds_toArray, List.set_cons_zero, List.set_cons_succ]
                                    replace hC28 := hC28.later ((Below.refl wv.heap.size wv).alloc (Nat.le_refl _) (.cells #[.int .u64 (word (a) 0), .int .u64 (word (a) 1), .int .u64 (word (a) 2), .int .u64 (word (a) 3), .int .u64 (word (b) 0), .int .u64 (word (b) 1), .int .u64 (word (b) 2), .int .u64 (word (b) 3)] 24))
                                    replace hC38 := hC38.later ((Below.refl wv.heap.size wv).alloc (Nat.le_refl _) (.cells #[.int .u64 (word (a) 0), .int .u64 (word (a) 1), .int .u64 (word (a) 2), .int .u64 (word (a) 3), .int .u64 (word (b) 0), .int .u64 (word (b) 1), .int .u64 (word (b) 2), .int .u64 (word (b) 3)] 24))
                                    have hC34 := cls_new2 wv (a) (b)
                                    generalize Value.slice (some ⟨wv.heap.size, 0, none⟩) 2 2 = v34 at hC34 ⊢
                                    generalize wv.alloc (.cells #[.int .u64 (word (a) 0), .int .u64 (word (a) 1), .int .u64 (word (a) 2), .int .u64 (word (a) 3), .int .u64 (word (b) 0), .int .u64 (word (b) 1), .int .u64 (word (b) 2), .int .u64 (word (b) 3)] 24) = wv at hS hC28 hC38 hC34 ⊢
                                    refine wpAnyH_listed (L := #[true, true, true, true, true, true, true, true, true, true, true, true, true, true, true, true, true, true, true, true, true, true, true, true, true, true, true, true, true, false, false, false, true, true, true, false, true, true, true, false, false, false, false, false, false, false, false, false, false, false, false, false, false, false, false, false, false, false, false, false, false, false, false, false, false, false, false, false, false]) (by kernel_rfl) ?_
                                    revert hC38
                                    revert v38
                                    revert hC34
                                    revert v34
                                    revert hC28
                                    revert v28
                                    revert hS
                                    revert wv
                                    exact key3_11
                              · intro wv hS
                                intro v28 hC28
                                intro v34 hC34
                                refine wpAnyH_ready (rs := [29, 38]) (by kernel_rfl) (by simp) ?_
                                refine AllReadyH.cons (o := ⟨_, _, _, _, _, _⟩) rfl (fun K hK => ?_) (AllReadyH.cons (o := ⟨_, _, _, _, _, _⟩) rfl (fun K hK => ?_) AllReadyH.nil)
                                · go_simp
                                  refine (or_at _ _ [b, c] (clOr b c) (fold_or2 b c) hC28).mono ?_
                                  rintro e wv ⟨rfl, hb⟩
                                  go_wp2_with fail
                                  refine hK.out _ _ (hS.later hb) (fun hS => ?_)
                                  clear hK K
                                  try simp only [Act.put, List.setIfInBounds_toArray, List.set_cons_zero, List.set_cons_succ]
                                  replace hC34 := hC34.later hb
                                  clear hC28
                                  clear hb
                                  refine wpAnyH_listed (L := #[true, true, true, true, true, true, true, true, true, true, true, true, true, true, true, true, true, true, true, true, true, true, true, true, true, true, true, true, true, true, false, false, true, true, true, false, true, true, false, false, false, false, false, false, false, false, false, false, false, false, false, false, false, false, false, false, false, false, false, false, false, false, false, false, false, false, false, false, false]) (by kernel_rfl) ?_
                                  revert hC34
                                  revert v34
                                  revert v28
                                  revert hS
                                  revert wv
                                  exact key3_9
                                · go_simp
                                  refine hK.out _ _ (hS.alloc _) (fun hS => ?_)
                                  clear hK K
                                  try simp only [Act.put, List.setIfInBounds_toArray, List.set_cons_zero, List.set_cons_succ]
                                  replace hC28 := hC28.later ((Below.refl wv.heap.size wv).alloc (Nat.le_refl _) (.cells #[.int .u64 (word (a) 0), .int .u64 (word (a) 1), .int .u64 (word (a) 2), .int .u64 (word (a) 3), .int .u64 (word (c) 0), .int .u64 (word (c) 1), .int .u64 (word (c) 2), .int .u64 (word (c) 3)] 24))
                                  replace hC34 := hC34.later ((Below.refl wv.heap.size wv).alloc (Nat.le_refl _) (.cells #[.int .u64 (word (a) 0), .int .u64 (word (a) 1), .int .u64 (word (a) 2), .int .u64 (word (a) 3), .int .u64 (word (c) 0), .int .u64 (word (c) 1), .int .u64 (word (c) 2), .int .u64 (word (c) 3)] 24))
                                  have hC38 := cls_new2 wv (a) (c)
                                  generalize Value.slice (some ⟨wv.heap.size, 0, none⟩) 2 2 = v38 at hC38 ⊢
                                  generalize wv.alloc (.cells #[.int .u64 (word (a) 0), .int .u64 (word (a) 1), .int .u64 (word (a) 2), .int .u64 (word (a) 3), .int .u64 (word (c) 0), .int .u64 (word (c) 1), .int .u64 (word (c) 2), .int .u64 (word (c) 3)] 24) = wv at hS hC28 hC34 hC38 ⊢
                                  refine wpAnyH_listed (L := #[true, true, true, true, true, true, true, true, true, true, true, true, true, true, true, true, true, true, true, true, true, true, true, true, true, true, true, true, true, false, false, false, true, true, true, false, true, true, true, false, false, false, false, false, false, false, false, false, false, false, false, false, false, false, false, false, false, false, false, false, false, false, false, false, false, false, false, false, false]) (by kernel_rfl) ?_
                                  revert hC38
                                  revert v38
                                  revert hC34
                                  revert v34
                                  revert hC28
                                  revert v28
                                  revert hS
                                  revert wv
                                  exact key3_11
                            · intro wv hS
                              intro v28 hC28
                              intro v34 hC34
                              intro v38 hC38
                              refine wpAnyH_ready (rs := [29]) (by kernel_rfl) (by simp) ?_
                              refine AllReadyH.cons (o := ⟨_, _, _, _, _, _⟩) rfl (fun K hK => ?_) AllReadyH.nil
                              go_simp
                              refine (or_at _ _ [b, c] (clOr b c) (fold_or2 b c) hC28).mono ?_
                              rintro e wv ⟨rfl, hb⟩
                              go_wp2_with fail
                              refine hK.out _ _ (hS.later hb) (fun hS => ?_)
                              clear hK K
                              try simp only [Act.put, List.setIfInBounds_toArray, List.set_cons_zero, List.set_cons_succ]
                              replace hC34 := hC34.later hb
                              replace hC38 := hC38.later hb
                              clear hC28
                              clear hb
                              refine wpAnyH_listed (L := #[true, true, true, true, true, true, true, true, true, true, true, true, true, true, true, true, true, true, true, true, true, true, true, true, true, true, true, true, true, true, false, false, true, true, true, false, true, true, true, false, false, false, false, false, false, false, false, false, false, false, false, false, false, false, false, false, false, false, false, false, false, false, false, false, false, false, false, false, false]) (by kernel_rfl) ?_
                              revert hC38
                              revert v38
                              revert hC34
                              revert v34
                              revert v28
                              revert hS
                              revert wv
                              exact key3_8
                          · intro wv hS
                            intro v28
                            intro v38 hC38
                            refine wpAnyH_ready (rs := [30, 34]) (by kernel_rfl) (by simp) ?_
                            refine AllReadyH.cons (o := ⟨_, _, _, _, _, _⟩) rfl (fun K hK => ?_) (AllReadyH.cons (o := ⟨_, _, _, _, _, _⟩) rfl (fun K hK => ?_) AllReadyH.nil)
                            · go_simp
                              refine hK.out _ _ (hS.alloc _) (fun hS => ?_)
                              clear hK K
                              try simp only [Act.put, List.setIfInBounds_toArray, List.set_cons_zero, List.set_cons_succ]
                              replace hC38 := hC38.later ((Below.refl wv.heap.size wv).alloc (Nat.le_refl _) (.cells #[.int .u64 (word (a) 0), .int .u64 (word (a) 1), .int .u64 (word (a) 2), .int .u64 (word (a) 3), .int .u64 (word (clOr b c) 0), .int .u64 (word (clOr b c) 1), .int .u64 (word (clOr b c) 2), .int .u64 (word (clOr b c) 3)] 24))
                              have hC30 := cls_new2 wv (a) (clOr b c)
                              generalize Value.slice (some ⟨wv.heap.size, 0, none⟩) 2 2 = v30 at hC30 ⊢
                              generalize wv.alloc (.cells #[.int .u64 (word (a) 0), .int .u64 (word (a) 1), .int .u64 (word (a) 2), .int .u64 (word (a) 3), .int .u64 (word (clOr b c) 0), .int .u64 (word (clOr b c) 1), .int .u64 (word (clOr b c) 2), .int .u64 (word (clOr b c) 3)] 24) = wv at hS hC38 hC30 ⊢
                              refine wpAnyH_listed (L := #[true, true, true, true, true, true, true, true, true, true, true, true, true, true, true, true, true, true, true, true, true, true, true, true, true, true, true, true, true, true, true, false, true, true, false, false, true, true, true, false, false, false, false, false, false, false, false, false, false, false, false, false, false, false, false, false, false, false, false, false, false, false, false, false, false, false, false, false, false]) (by kernel_rfl) ?_
                              revert hC38
                              revert v38
                              revert hC30
                              revert v30
                              revert v28
                              revert hS
                              revert wv
                              exact key3_7
                            · go_simp
                              refine hK.out _ _ (hS.alloc _) (fun hS => ?_)
                              clear hK K
                              try simp only [Act.put, List.setIfInBounds_toArray, List.set_cons_zero, List.set_cons_succ]
                              replace hC38 := hC38.later ((Below.refl wv.heap.size wv).alloc (Nat.le_refl _) (.cells #[.int .u64 (word (a) 0), .int .u64 (word (a) 1), .int .u64 (word (a) 2), .int .u64 (word (a) 3), .int .u64 (word (b) 0), .int .u64 (word (b) 1), .int .u64 (word (b) 2), .int .u64 (word (b) 3)] 24))
                              have hC34 := cls_new2 wv (a) (b)
                              generalize Value.slice (some ⟨wv.heap.size, 0, none⟩) 2 2 = v34 at hC34 ⊢
                              generalize wv.alloc (.cells #[.int .u64 (word (a) 0), .int .u64 (word (a) 1), .int .u64 (word (a) 2), .int .u64 (word (a) 3), .int .u64 (word (b) 0), .int .u64 (word (b) 1), .int .u64 (word (b) 2), .int .u64 (word (b) 3)] 24) = wv at hS hC38 hC34 ⊢
                              refine wpAnyH_listed (L := #[true, true, true, true, true, true, true, true, true, true, true, true, true, true, true, true, true, true, true, true, true, true, true, true, true, true, true, true, true, true, false, false, true, true, true, false, true, true, true, false, false, false, false, false, false, false, false, false, false, false, false, false, false, false, false, false, false, false, false, false, false, false, false, false, false, false, false, false, false]) (by kernel_rfl) ?_
                              revert hC38
                              revert v38
                              revert hC34
                              revert v34
                              revert v28
                              revert hS
                              revert wv
                              exact key3_8
                        · intro wv hS
                          intro v28
                          intro v34 hC34
                          refine wpAnyH_ready (rs := [30, 38]) (by kernel_rfl) (by simp) ?_
                          refine AllReadyH.cons (o := ⟨_, _, _, _, _, _⟩) rfl (fun K hK => ?_) (AllReadyH.cons (o := ⟨_, _, _, _, _, _⟩) rfl (fun K hK => ?_) AllReadyH.nil)
                          · go_simp
                            refine hK.out _ _ (hS.alloc _) (fun hS => ?_)
                            clear hK K
                            try simp only [Act.put, List.setIfInBounds_toArray, List.set_cons_zero, List.set_cons_succ]
                            replace hC34 := hC34.later ((Below.refl wv.heap.size wv).alloc (Nat.le_refl _) (.cells #[.int .u64 (word (a) 0), .int .u64 (word (a) 1), .int .u64 (word (a) 2), .int .u64 (word (a) 3), .int .u64 (word (clOr b c) 0), .int .u64 (word (clOr b c) 1), .int .u64 (word (clOr b c) 2), .int .u64 (word (clOr b c) 3)] 24))
                            have hC30 := cls_new2 wv (a) (clOr b c)
                            generalize Value.slice (some ⟨wv.heap.size, 0, none⟩) 2 2 = v30 at hC30 ⊢
                            generalize wv.alloc (.cells #[.int .u64 (word (a) 0), .int .u64 (word (a) 1), .int .u64 (word (a) 2), .int .u64 (word (a) 3), .int .u64 (word (clOr b c) 0), .int .u64 (word (clOr b c) 1), .int .u64 (word (clOr b c) 2), .int .u64 (word (clOr b c) 3)] 24) = wv at hS hC34 hC30 ⊢
                            refine wpAnyH_listed (L := #[true, true, true, true, true, true, true, true, true, true, true, true, true, true, true, true, true, true, true, true, true, true, true, true, true, true, true, true, true, true, true, false, true, true, true, false, true, true, false, false, false, false, false, false, false, false, false, false, false, false, false, false, false, false, false, false, false, false, false, false, false, false, false, false, false, false, false, false, false]) (by kernel_rfl) ?_
                            revert hC34
                            revert v34
                            revert hC30
                            revert v30
                            revert v28
                            revert hS
                            revert wv
                            exact key3_6
                          · go_simp
                            refine hK.out _ _ (hS.alloc _) (fun hS => ?_)
                            clear hK K
                            try simp only [Act.put, List.setIfInBounds_toArray, List.set_cons_zero, List.set_cons_succ]
                            replace hC34 := hC34.later ((Below.refl wv.heap.size wv).alloc (Nat.le_refl _) (.cells #[.int .u64 (word (a) 0), .int .u64 (word (a) 1), .int .u64 (word (a) 2), .int .u64 (word (a) 3), .int .u64 (word (c) 0), .int .u64 (word (c) 1), .int .u64 (word (c) 2), .int .u64 (word (c) 3)] 24))
                            have hC38 := cls_new2 wv (a) (c)
                            generalize Value.slice (some ⟨wv.heap.size, 0, none⟩) 2 2 = v38 at hC38 ⊢
                            generalize wv.alloc (.cells #[.int .u64 (word (a) 0), .int .u64 (word (a) 1), .int .u64 (word (a) 2), .int .u64 (word (a) 3), .int .u64 (word (c) 0), .int .u64 (word (c) 1), .int .u64 (word (c) 2), .int .u64 (word (c) 3)] 24) = wv at hS hC34 hC38 ⊢
                            refine wpAnyH_listed (L := #[true, true, true, true, true, true, true, true, true, true, true, true, true, true, true, true, true, true, true, true, true, true, true, true, true, true, true, true, true, true, false, false, true, true, true, false, true, true, true, false, false, false, false, false, false, false, false, false, false, false, false, false, false, false, false, false, false, false, false, false, false, false, false, false, false, false, false, false, false]) (by kernel_rfl) ?_
                            revert hC38
                            revert v38
                            revert hC34
                            revert v34
                            revert v28
                            revert hS
                            revert wv
                            exact key3_8
                      · intro wv hS
                        intro v28
                        intro v34 hC34
                        intro v38 hC38
                        refine wpAnyH_ready (rs := [30]) (by kernel_rfl) (by simp) ?_
                        refine AllReadyH.cons (o := ⟨_, _, _, _, _, _⟩) rfl (fun K hK => ?_) AllReadyH.nil
                        go_simp
                        refine hK.out _ _ (hS.alloc _) (fun hS => ?_)
                        clear hK K
                        try simp only [Act.put, List.setIfInBounds_toArray, List.set_cons_zero, List.set_cons_succ]
                        replace hC34 := hC34.later ((Below.refl wv.heap.size wv).alloc (Nat.le_refl _) (.cells #[.int .u64 (word (a) 0), .int .u64 (word (a) 1), .int .u64 (word (a) 2), .int .u64 (word (a) 3), .int .u64 (word (clOr b c) 0), .int .u64 (word (clOr b c) 1), .int .u64 (word (clOr b c) 2), .int .u64 (word (clOr b c) 3)] 24))
                        replace hC38 := hC38.later ((Below.refl wv.heap.size wv).alloc (Nat.le_refl _) (.cells #[.int .u64 (word (a) 0), .int .u64 (word (a) 1), .int .u64 (word (a) 2), .int .u64 (word (a) 3), .int .u64 (word (clOr b c) 0), .int .u64 (word (clOr b c) 1), .int .u64 (word (clOr b c) 2), .int .u64 (word (clOr b c) 3)] 24))
                        have hC30 := cls_new2 wv (a) (clOr b c)
                        generalize Value.slice (some ⟨wv.heap.size, 0, none⟩) 2 2 = v30 at hC30 ⊢
                        generalize wv.alloc (.cells #[.int .u64 (word (a) 0), .int .u64 (word (a) 1), .int .u64 (word (a) 2), .int .u64 (word (a) 3), .int .u64 (word (clOr b c) 0), .int .u64 (word (clOr b c) 1), .int .u64 (word (clOr b c) 2), .int .u64 (word (clOr b c) 3)] 24) = wv at hS hC34 hC38 hC30 ⊢
                        refine wpAnyH_listed (L := #[true, true, true, true, true, true, true, true, true, true, true, true, true, true, true, true, true, true, true, true, true, true, true, true, true, true, true, true, true, true, true, false, true, true, true, false, true, true, true, false, false, false, false, false, false, false, false, false, false, false, false, false, false, false, false, false, false, false, false, false, false, false, false, false, false, false, false, false, false]) (by kernel_rfl) ?_
                        revert hC38
                        revert v38
                        revert hC34
                        revert v34
                        revert hC30
                        revert v30
                        revert v28
                        revert hS
                        revert wv
                        exact key3_5
                    · intro wv hS
                      intro v28
                      intro v30 hC30
                      intro v38 hC38
                      refine wpAnyH_ready (rs := [31, 34]) (by kernel_rfl) (by simp) ?_
                      refine AllReadyH.cons (o := ⟨_, _, _, _, _, _⟩) rfl (fun K hK => ?_) (AllReadyH.cons (o := ⟨_, _, _, _, _, _⟩) rfl (fun K hK => ?_) AllReadyH.nil)
                      · go_simp
                        refine (and_at _ _ [a, clOr b c] (clAnd a (clOr b c)) (fold_and2 _ _) hC30).mono ?_
                        rintro e wv ⟨rfl, hb⟩
                        go_wp2_with fail
                        refine hK.out _ _ (hS.later hb) (fun hS => ?_)
                        clear hK K
                        try simp only [Act.put, List.setIfInBounds_toArray, List.set_cons_zero, List.set_cons_succ]
                        replace hC38 := hC38.later hb
                        clear hC30
                        clear hb
                        refine wpAnyH_listed (L := #[true, true, true, true, true, true, true, true, true, true, true, true, true, true, true, true, true, true, true, true, true, true, true, true, true, true, true, true, true, true, true, true, true, true, false, false, true, true, true, false, false, false, false, false, false, false, false, false, false, false, false, false, false, false, false, false, false, false, false, false, false, false, false, false, false, false, false, false, false]) (by kernel_rfl) ?_
                        revert hC38
                        revert v38
                        revert v30
                        revert v28
                        revert hS
                        revert wv
                        exact key3_4
                      · go_simp
                        refine hK.out _ _ (hS.alloc _) (fun hS => ?_)
                        clear hK K
                        try simp only [Act.put, List.setIfInBounds_toArray, List.set_cons_zero, List.set_cons_succ]
                        replace hC30 := hC30.later ((Below.refl wv.heap.size wv).alloc (Nat.le_refl _) (.cells #[.int .u64 (word (a) 0), .int .u64 (word (a) 1), .int .u64 (word (a) 2), .int .u64 (word (a) 3), .int .u64 (word (b) 0), .int .u64 (word (b) 1), .int .u64 (word (b) 2), .int .u64 (word (b) 3)] 24))
                        replace hC38 := hC38.later ((Below.refl wv.heap.size wv).alloc (Nat.le_refl _) (.cells #[.int .u64 (word (a) 0), .int .u64 (word (a) 1), .int .u64 (word (a) 2), .int .u64 (word (a) 3), .int .u64 (word (b) 0), .int .u64 (word (b) 1), .int .u64 (word (b) 2), .int .u64 (word (b) 3)] 24))
                        have hC34 := cls_new2 wv (a) (b)
                        generalize Value.slice (some ⟨wv.heap.size, 0, none⟩) 2 2 = v34 at hC34 ⊢
                        generalize wv.alloc (.cells #[.int .u64 (word (a) 0), .int .u64 (word (a) 1), .int .u64 (word (a) 2), .int .u64 (word (a) 3), .int .u64 (word (b) 0), .int .u64 (word (b) 1), .int .u64 (word (b) 2), .int .u64 (word (b) 3)] 24) = wv at hS hC30 hC38 hC34 ⊢
                        refine wpAnyH_listed (L := #[true, true, true, true, true, true, true, true, true, true, true, true, true, true, true, true, true, true, true, true, true, true, true, true, true, true, true, true, true, true, true, false, true, true, true, false, true, true, true, false, false, false, false, false, false, false, false, false, false, false, false, false, false, false, false, false, false, false, false, false, false, false, false, false, false, false, false, false, false]) (by kernel_rfl) ?_
                        revert hC38
                        revert v38
                        revert hC34
                        revert v34
                        revert hC30
                        revert v30
                        revert v28
                        revert hS
                        revert wv
                        exact key3_5
                  · intro wv hS
                    intro v28
                    intro v30 hC30
                    intro v34 hC34
                    refine wpAnyH_ready (rs := [31, 38]) (by kernel_rfl) (by simp) ?_
                    refine AllReadyH.cons (o := ⟨_, _, _, _, _, _⟩) rfl (fun K hK => ?_) (AllReadyH.cons (o := ⟨_, _, _, _, _, _⟩) rfl (fun K hK => ?_) AllReadyH.nil)
                    · go_simp
                      refine (and_at _ _ [a, clOr b c] (clAnd a (clOr b c)) (fold_and2 _ _) hC30).mono ?_
                      rintro e wv ⟨rfl, hb⟩
                      go_wp2_with fail
                      refine hK.out _ _ (hS.later hb) (fun hS => ?_)
                      clear hK K
                      try simp only [Act.put, List.setIfInBounds_toArray, List.set_cons_zero, List.set_cons_succ]
                      replace hC34 := hC34.later hb
                      clear hC30
                      clear hb
                      refine wpAnyH_listed (L := #[true, true, true, true, true, true, true, true, true, true, true, true, true, true, true, true, true, true, true, true, true, true, true, true, true, true, true, true, true, true, true, true, true, true, true, false, true, true, false, false, false, false, false, false, false, false, false, false, false, false, false, false, false, false, false, false, false, false, false, false, false, false, false, false, false, false, false, false, false]) (by kernel_rfl) ?_
                      revert hC34
                      revert v34
                      revert v30
                      revert v28
                      revert hS
                      revert wv
                      exact key3_3
                    · go_simp
                      refine hK.out _ _ (hS.alloc _) (fun hS => ?_)
                      clear hK K
                      try simp only [Act.put, List.setIfInBounds_toArray, List.set_cons_zero, List.set_cons_succ]
                      replace hC30 := hC30.later ((Below.refl wv.heap.size wv).alloc (Nat.le_refl _) (.cells #[.int .u64 (word (a) 0), .int .u64 (word (a) 1), .int .u64 (word (a) 2), .int .u64 (word (a) 3), .int .u64 (word (c) 0), .int .u64 (word (c) 1), .int .u64 (word (c) 2), .int .u64 (word (c) 3)] 24))
                      replace hC34 := hC34.later ((Below.refl wv.heap.size wv).alloc (Nat.le_refl _) (.cells #[.int .u64 (word (a) 0), .int .u64 (word (a) 1), .int .u64 (word (a) 2), .int .u64 (word (a) 3), .int .u64 (word (c) 0), .int .u64 (word (c) 1), .int .u64 (word (c) 2), .int .u64 (word (c) 3)] 24))
                      have hC38 := cls_new2 wv (a) (c)
                      generalize Value.slice (some ⟨wv.heap.size, 0, none⟩) 2 2 = v38 at hC38 ⊢
                      generalize wv.alloc (.cells #[.int .u64 (word (a) 0), .int .u64 (word (a) 1), .int .u64 (word (a) 2), .int .u64 (word (a) 3), .int .u64 (word (c) 0), .int .u64 (word (c) 1), .int .u64 (word (c) 2), .int .u64 (word (c) 3)] 24) = wv at hS hC30 hC34 hC38 ⊢
                      refine wpAnyH_listed (L := #[true, true, true, true, true, true, true, true, true, true, true, true, true, true, true, true, true, true, true, true, true, true, true, true, true, true, true, true, true, true, true, false, true, true, true, false, true, true, true, false, false, false, false, false, false, false, false, false, false, false, false, false, false, false, false, false, false, false, false, false, false, false, false, false, false, false, false, false, false]) (by kernel_rfl) ?_
                      revert hC38
                      revert v38
                      revert hC34
                      revert v34
                      revert hC30
                      revert v30
                      revert v28
                      revert hS
                      revert wv
                      exact key3_5
                · intro wv hS
                  intro v28
                  intro v30 hC30
                  intro v34 hC34
                  intro v38 hC38
                  refine wpAnyH_ready (rs := [31]) (by kernel_rfl) (by simp) ?_
                  refine AllReadyH.cons (o := ⟨_, _, _, _, _, _⟩) rfl (fun K hK => ?_) AllReadyH.nil
                  go_simp
                  refine (and_at _ _ [a, clOr b c] (clAnd a (clOr b c)) (fold_and2 _ _) hC30).mono ?_
                  rintro e wv ⟨rfl, hb⟩
                  go_wp2_with fail
                  refine hK.out _ _ (hS.later hb) (fun hS => ?_)
                  clear hK K
                  try simp only [Act.put, List.setIfInBounds_toArray, List.set_cons_zero, List.set_cons_succ]
                  replace hC34 := hC34.later hb
                  replace hC38 := hC38.later hb
                  clear hC30
                  clear hb
                  refine wpAnyH_listed (L := #[true, true, true, true, true, true, true, true, true, true, true, true, true, true, true, true, true, true, true, true, true, true, true, true, true, true, true, true, true, true, true, true, true, true, true, false, true, true, true, false, false, false, false, false, false, false, false, false, false, false, false, false, false, false, false, false, false, false, false, false, false, false, false, false, false, false, false, false, false]) (by kernel_rfl) ?_
                  revert hC38
                  revert v38
                  revert hC34
                  revert v34
                  revert v30
                  revert v28
                  revert hS
                  revert wv
                  exact key3_2
              · intro wv hS
                intro v28
                intro v30
                intro v38 hC38
                refine wpAnyH_ready (rs := [34]) (by kernel_rfl) (by simp) ?_
                refine AllReadyH.cons (o := ⟨_, _, _, _, _, _⟩) rfl (fun K hK => ?_) AllReadyH.nil
                go_simp
                refine hK.out _ _ (hS.alloc _) (fun hS => ?_)
                clear hK K
                try simp only [Act.put, List.setIfInBounds_toArray, List.set_cons_zero, List.set_cons_succ]
                replace hC38 := hC38.later ((Below.refl wv.heap.size wv).alloc (Nat.le_refl _) (.cells #[.int .u64 (word (a) 0), .int .u64 (word (a) 1), .int .u64 (word (a) 2), .int .u64 (word (a) 3), .int .u64 (word (b) 0), .int .u64 (word (b) 1), .int .u64 (word (b) 2), .int .u64 (word (b) 3)] 24))
                have hC34 := cls_new2 wv (a) (b)
                generalize Value.slice (some ⟨wv.heap.size, 0, none⟩) 2 2 = v34 at hC34 ⊢
                generalize wv.alloc (.cells #[.int .u64 (word (a) 0), .int .u64 (word (a) 1), .int .u64 (word (a) 2), .int .u64 (word (a) 3), .int .u64 (word (b) 0), .int .u64 (word (b) 1), .int .u64 (word (b) 2), .int .u64 (word (b) 3)] 24) = wv at hS hC38 hC34 ⊢
                refine wpAnyH_listed (L := #[true, true, true, true, true, true, true, true, true, true, true, true, true, true, true, true, true, true, true, true, true, true, true, true, true, true, true, true, true, true, true, true, true, true, true, false, true, true, true, false, false, false, false, false, false, false, false, false, false, false, false, false, false, false, false, false, false, false, false, false, false, false, false, false, false, false, false, false, false]) (by kernel_rfl) ?_
                revert hC38
                revert v38
                revert hC34
                revert v34
                revert v30
                revert v28
                revert hS
                revert wv
                exact key3_2
            · intro wv hS
              intro v28
              intro v30
              intro v34 hC34
              refine wpAnyH_ready (rs := [35, 38]) (by kernel_rfl) (by simp) ?_
              refine AllReadyH.cons (o := ⟨_, _, _, _, _, _⟩) rfl (fun K hK => ?_) (AllReadyH.cons (o := ⟨_, _, _, _, _, _⟩) rfl (fun K hK => ?_) AllReadyH.nil)
              · go_simp
                refine (and_at _ _ [a, b] (clAnd a b) (fold_and2 a b) hC34).mono ?_
                rintro e wv ⟨rfl, hb⟩
                go_wp2_with fail
                refine hK.out _ _ (hS.later hb) (fun hS => ?_)
                clear hK K
                try simp only [Act.put, List.setIfInBounds_toArray, List.set_cons_zero, List.set_cons_succ]
                clear hC34
                clear hb
                refine wpAnyH_ready (rs := [38]) (by kernel_rfl) (by simp) ?_
                refine AllReadyH.cons (o := ⟨_, _, _, _, _, _⟩) rfl (fun K hK => ?_) AllReadyH.nil
                go_simp
                refine hK.out _ _ (hS.alloc _) (fun hS => ?_)
                clear hK K
                try simp only [Act.put, List.setIfInBounds_toArray, List.set_cons_zero, List.set_cons_succ]
                have hC38 := cls_new2 wv (a) (c)
                generalize Value.slice (some ⟨wv.heap.size, 0, none⟩) 2 2 = v38 at hC38 ⊢
                generalize wv.alloc (.cells #[.int .u64 (word (a) 0), .int .u64 (word (a) 1), .int .u64 (word (a) 2), .int .u64 (word (a) 3), .int .u64 (word (c) 0), .int .u64 (word (c) 1), .int .u64 (word (c) 2), .int .u64 (word (c) 3)] 24) = wv at hS hC38 ⊢
                refine wpAnyH_listed (L := #[true, true, true, true, true, true, true, true, true, true, true, true, true, true, true, true, true, true, true, true, true, true, true, true, true, true, true, true, true, true, true, true, true, true, true, true, true, true, true, false, false, false, false, false, false, false, false, false, false, false, false, false, false, false, false, false, false, false, false, false, false, false, false, false, false, false, false, false, false]) (by kernel_rfl) ?_
                revert hC38
                revert v38
                revert v34
                revert v30
                revert v28
                revert hS
                revert wv
                exact key3_1
              · go_simp
                refine hK.out _ _ (hS.alloc _) (fun hS => ?_)
                clear hK K
                try simp only [Act.put, List.setIfInBounds_toArray, List.set_cons_zero, List.set_cons_succ]
                replace hC34 := hC34.later ((Below.refl wv.heap.size wv).alloc (Nat.le_refl _) (.cells #[.int .u64 (word (a) 0), .int .u64 (word (a) 1), .int .u64 (word (a) 2), .int .u64 (word (a) 3), .int .u64 (word (c) 0), .int .u64 (word (c) 1), .int .u64 (word (c) 2), .int .u64 (word (c) 3)] 24))
                have hC38 := cls_new2 wv (a) (c)
                generalize Value.slice (some ⟨wv.heap.size, 0, none⟩) 2 2 = v38 at hC38 ⊢
                generalize wv.alloc (.cells #[.int .u64 (word (a) 0), .int .u64 (word (a) 1), .int .u64 (word (a) 2), .int .u64 (word (a) 3), .int .u64 (word (c) 0), .int .u64 (word (c) 1), .int .u64 (word (c) 2), .int .u64 (word (c) 3)] 24) = wv at hS hC34 hC38 ⊢
                refine wpAnyH_listed (L := #[true, true, true, true, true, true, true, true, true, true, true, true, true, true, true, true, true, true, true, true, true, true, true, true, true, true, true, true, true, true, true, true, true, true, true, false, true, true, true, false, false, false, false, false, false, false, false, false, false, false, false, false, false, false, false, false, false, false, false, false, false, false, false, false, false, false, false, false, false]) (by kernel_rfl) ?_
                revert hC38
                revert v38
                revert hC34
                revert v34
                revert v30
                revert v28
                revert hS
                revert wv
                exact key3_2
          · intro wv hS
            intro v28
            intro v30
            intro v34 hC34
            intro v38 hC38
            refine wpAnyH_ready (rs := [35]) (by kernel_rfl) (by simp) ?_
            refine AllReadyH.cons (o := ⟨_, _, _, _, _, _⟩) rfl (fun K hK => ?_) AllReadyH.nil
            go_simp
            refine (and_at _ _ [a, b] (clAnd a b) (fold_and2 a b) hC34).mono ?_
            rintro e wv ⟨rfl, hb⟩
            go_wp2_with fail
            refine hK.out _ _ (hS.later hb) (fun hS => ?_)
            clear hK K
            try simp only [Act.put, List.setIfInBounds_toArray, List.set_cons_zero, List.set_cons_succ]
            replace hC38 := hC38.later hb
            clear hC34
            clear hb
            refine wpAnyH_listed (L := #[true, true, true, true, true, true, true, true, true, true, true, true, true, true, true, true, true, true, true, true, true, true, true, true, true, true, true, true, true, true, true, true, true, true, true, true, true, true, true, false, false, false, false, false, false, false, false, false, false, false, false, false, false, false, false, false, false, false, false, false, false, false, false, false, false, false, false, false, false]) (by kernel_rfl) ?_
            revert hC38
            revert v38
            revert v34
            revert v30
            revert v28
            revert hS
            revert wv
            exact key3_1
        · intro wv hS
          intro v28
          intro v30
          intro v34
          intro v38 hC38
          refine wpAnyH_ready (rs := [39]) (by kernel_rfl) (by simp) ?_
          refine AllReadyH.cons (o := ⟨_, _, _, _, _, _⟩) rfl (fun K hK => ?_) AllReadyH.nil
          go_simp
          refine (and_at _ _ [a, c] (clAnd a c) (fold_and2 a c) hC38).mono ?_
          rintro e wv ⟨rfl, hb⟩
          go_wp2_with fail
          refine hK.out _ _ (hS.later hb) (fun hS => ?_)
          clear hK K
          try simp only [Act.put, List.setIfInBounds_toArray, List.set_cons_zero, List.set_cons_succ]
          clear hC38
          clear hb
          refine wpAnyH_ready (rs := [40]) (by kernel_rfl) (by simp) ?_
          refine AllReadyH.cons (o := ⟨_, _, _, _, _, _⟩) rfl (fun K hK => ?_) AllReadyH.nil
          go_simp
          refine hK.out _ _ (hS.alloc _) (fun hS => ?_)
          clear hK K
          try simp only [Act.put, List.setIfInBounds_toArray, List.set_cons_zero, List.set_cons_succ]
          have hC40 := cls_new2 wv (clAnd a b) (clAnd a c)
          generalize Value.slice (some ⟨wv.heap.size, 0, none⟩) 2 2 = v40 at hC40 ⊢
          generalize wv.alloc (.cells #[.int .u64 (word (clAnd a b) 0), .int .u64 (word (clAnd a b) 1), .int .u64 (word (clAnd a b) 2), .int .u64 (word (clAnd a b) 3), .int .u64 (word (clAnd a c) 0), .int .u64 (word (clAnd a c) 1), .int .u64 (word (clAnd a c) 2), .int .u64 (word (clAnd a c) 3)] 24) = wv at hS hC40 ⊢
          refine wpAnyH_ready (rs := [41]) (by kernel_rfl) (by simp) ?_
          refine AllReadyH.cons (o := ⟨_, _, _, _, _, _⟩) rfl (fun K hK => ?_) AllReadyH.nil
          go_simp
          refine (or_at _ _ [clAnd a b, clAnd a c] (clAnd a (clOr b c)) ((fold_or2 _ _).trans (and_dist a b c)) hC40).mono ?_
          rintro e wv ⟨rfl, hb⟩
          go_wp2_with fail
          refine hK.out _ _ (hS.later hb) (fun hS => ?_)
          clear hK K
          try simp only [Act.put, List.setIfInBounds_toArray, List.set_cons_zero, List.set_cons_succ]
          clear hC40
          clear hb
          refine wpAnyH_listed (L := #[true, true, true, true, true, true, true, true, true, true, true, true, true, true, true, true, true, true, true, true, true, true, true, true, true, true, true, true, true, true, true, true, true, true, true, true, true, true, true, true, true, true, false, false, false, false, false, false, false, false, false, false, false, false, false, false, false, false, false, false, false, false, false, false, false, false, false, false, false]) (by kernel_rfl) ?_
          revert v40
          revert v38
          revert v34
          revert v30
          revert v28
          revert hS
          revert wv
          exact key3_0
      · intro wv hS
        intro v28
        intro v30
        intro v34
        intro v38
        intro v40
        have hq := eqa_same (clAnd a (clOr b c))
        refine wpAnyH_take (i := 42) (oi := ⟨_, _, _, _, _, _⟩) (v := ?v51) rfl (by kernel_rfl) (by kernel_rfl) (by kernel_rfl) (fun _ _ _ h => h) ?y51 hS ?_
        case y51 => first | (refine Or.inr ⟨by rfl, ?_⟩; with_reducible rfl) | (refine Or.inl ⟨by rfl, ?_⟩; intro wS hSw; go_simp; try with_reducible rfl)
        simp only [Act.put, List.setIfInBounds_toArray, List.set_cons_zero, List.set_cons_succ]
        refine wpAnyH_take (i := 43) (oi := ⟨_, _, _, _, _, _⟩) (v := ?v52) rfl (by kernel_rfl) (by kernel_rfl) (by kernel_rfl) (fun _ _ _ h => h) ?y52 hS ?_
        case y52 => first | (refine Or.inr ⟨by rfl, ?_⟩; with_reducible rfl) | (refine Or.inl ⟨by rfl, ?_⟩; intro wS hSw; go_simp; try with_reducible rfl)
        simp only [Act.put, List.setIfInBounds_toArray, List.set_cons_zero, List.set_cons_succ]
        refine wpAnyH_take (i := 44) (oi := ⟨_, _, _, _, _, _⟩) (v := ?v53) rfl (by kernel_rfl) (by kernel_rfl) (by kernel_rfl) (fun _ _ _ h => h) ?y53 hS ?_
        case y53 => first | (refine Or.inr ⟨by rfl, ?_⟩; with_reducible rfl) | (refine Or.inl ⟨by rfl, ?_⟩; intro wS hSw; go_simp; try with_reducible rfl)
        simp only [Act.put, List.setIfInBounds_toArray, List.set_cons_zero, List.set_cons_succ]
        have l1 := cnt_le a 256
        have l2 := cnt_le b 256
        have l3 := cnt_le (clOr a b) 256
        have l4 := cnt_le (clAnd a b) 256
        have wq1 : IntKind.i64.wrap ((cnt a 256 : Int) + (cnt b 256 : Int)) = (cnt a 256 : Int) + (cnt b 256 : Int) := IntWalk.i64_in _ (by omega)
        have wq2 : IntKind.i64.wrap ((cnt (clOr a b) 256 : Int) + (cnt (clAnd a b) 256 : Int)) = (cnt (clOr a b) 256 : Int) + (cnt (clAnd a b) 256 : Int) := IntWalk.i64_in _ (by omega)
        refine wpAnyH_take (i := 45) (oi := ⟨_, _, _, _, _, _⟩) (v := ?v54) rfl (by kernel_rfl) (by kernel_rfl) (by kernel_rfl) (fun _ _ _ h => h) ?y54 hS ?_
        case y54 => first | (refine Or.inr ⟨by rfl, ?_⟩; with_reducible rfl) | (refine Or.inl ⟨by rfl, ?_⟩; intro wS hSw; obtain ⟨q0, q1, q2, q3⟩ := cls_cells hSw.pa; go_simp; try with_reducible rfl)
        simp only [Act.put, List.setIfInBounds_toArray, List.set_cons_zero, List.set_cons_succ]
        refine wpAnyH_take (i := 47) (oi := ⟨_, _, _, _, _, _⟩) (v := ?v55) rfl (by kernel_rfl) (by kernel_rfl) (by kernel_rfl) (fun _ _ _ h => h) ?y55 hS ?_
        case y55 => first | (refine Or.inr ⟨by rfl, ?_⟩; with_reducible rfl) | (refine Or.inl ⟨by rfl, ?_⟩; intro wS hSw; obtain ⟨q0, q1, q2, q3⟩ := cls_cells hSw.pb; go_simp; try with_reducible rfl)
        simp only [Act.put, List.setIfInBounds_toArray, List.set_cons_zero, List.set_cons_succ]
        refine wpAnyH_take (i := 50) (oi := ⟨_, _, _, _, _, _⟩) (v := ?v56) rfl (by kernel_rfl) (by kernel_rfl) (by kernel_rfl) (fun _ _ _ h => h) ?y56 hS ?_
        case y56 => first | (refine Or.inr ⟨by rfl, ?_⟩; with_reducible rfl) | (refine Or.inl ⟨by rfl, ?_⟩; intro wS hSw; obtain ⟨q0, q1, q2, q3⟩ := cls_cells hSw.pa; go_simp; try with_reducible rfl)
        simp only [Act.put, List.setIfInBounds_toArray, List.set_cons_zero, List.set_cons_succ]
        refine wpAnyH_take (i := 51) (oi := ⟨_, _, _, _, _, _⟩) (v := ?v57) rfl (by kernel_rfl) (by kernel_rfl) (by kernel_rfl) (fun _ _ _ h => h) ?y57 hS ?_
        case y57 => first | (refine Or.inr ⟨by rfl, ?_⟩; with_reducible rfl) | (refine Or.inl ⟨by rfl, ?_⟩; intro wS hSw; obtain ⟨q0, q1, q2, q3⟩ := cls_cells hSw.pb; go_simp; try with_reducible rfl)
        simp only [Act.put, List.setIfInBounds_toArray, List.set_cons_zero, List.set_cons_succ]
        refine wpAnyH_take (i := 55) (oi := ⟨_, _, _, _, _, _⟩) (v := ?v58) rfl (by kernel_rfl) (by kernel_rfl) (by kernel_rfl) (fun _ _ _ h => h) ?y58 hS ?_
        case y58 => first | (refine Or.inr ⟨by rfl, ?_⟩; with_reducible rfl) | (refine Or.inl ⟨by rfl, ?_⟩; intro wS hSw; obtain ⟨q0, q1, q2, q3⟩ := cls_cells hSw.pa; go_simp; try with_reducible rfl)
        simp only [Act.put, List.setIfInBounds_toArray, List.set_cons_zero, List.set_cons_succ]
        refine wpAnyH_take (i := 56) (oi := ⟨_, _, _, _, _, _⟩) (v := ?v59) rfl (by kernel_rfl) (by kernel_rfl) (by kernel_rfl) (fun _ _ _ h => h) ?y59 hS ?_
        case y59 => first | (refine Or.inr ⟨by rfl, ?_⟩; with_reducible rfl) | (refine Or.inl ⟨by rfl, ?_⟩; intro wS hSw; obtain ⟨q0, q1, q2, q3⟩ := cls_cells hSw.pb; go_simp; try with_reducible rfl)
        simp only [Act.put, List.setIfInBounds_toArray, List.set_cons_zero, List.set_cons_succ]
        apply cut_in
        · intro key4_0
          apply cut_in
          · intro key4_1
            apply cut_in
            · intro key4_2
              apply cut_in
              · intro key4_3
                apply cut_in
                · intro key4_4
                  apply cut_in
                  · intro key4_5
                    apply cut_in
                    · intro key4_6
                      apply cut_in
                      · intro key4_7
                        apply cut_in
                        · intro key4_8
                          apply cut_in
                          · intro key4_9
                            refine wpAnyH_ready (rs := [46, 52, 57]) (by kernel_rfl) (by simp) ?_
                            refine AllReadyH.cons (o := ⟨_, _, _, _, _, _⟩) rfl (fun K hK => ?_) (AllReadyH.cons (o := ⟨_, _, _, _, _, _⟩) rfl (fun K hK => ?_) (AllReadyH.cons (o := ⟨_, _, _, _, _, _⟩) rfl (fun K hK => ?_) AllReadyH.nil))
                            · go_simp
                              refine (len1 _ a).mono ?_
                              rintro e wv ⟨rfl, hb⟩
                              go_wp2_with fail
                              refine hK.out _ _ (hS.later hb) (fun hS => ?_)
                              clear hK K
                              try simp only [Act.put, List.setIfInBounds_toArray, List.set_cons_zero, List.set_cons_succ]
                              clear hb
                              refine wpAnyH_ready (rs := [48, 52, 57]) (by kernel_rfl) (by simp) ?_
                              refine AllReadyH.cons (o := ⟨_, _, _, _, _, _⟩) rfl (fun K hK => ?_) (AllReadyH.cons (o := ⟨_, _, _, _, _, _⟩) rfl (fun K hK => ?_) (AllReadyH.cons (o := ⟨_, _, _, _, _, _⟩) rfl (fun K hK => ?_) AllReadyH.nil))
                              · go_simp
                                refine (len1 _ b).mono ?_
                                rintro e wv ⟨rfl, hb⟩
                                go_wp2_with fail
                                refine hK.out _ _ (hS.later hb) (fun hS => ?_)
                                clear hK K
                                try simp only [Act.put, List.setIfInBounds_toArray, List.set_cons_zero, List.set_cons_succ]
                                clear hb
                                refine wpAnyH_take (i := 49) (oi := ⟨_, _, _, _, _, _⟩) (v := ?v60) rfl (by kernel_rfl) (by kernel_rfl) (by kernel_rfl) (fun _ _ _ h => h) ?y60 hS ?_
                                case y60 => first | (refine Or.inr ⟨by rfl, ?_⟩; with_reducible rfl) | (refine Or.inl ⟨by rfl, ?_⟩; intro wS hSw; go_simp; try with_reducible rfl)
                                simp only [Act.put, List.setIfInBounds_toArray, List.set_cons_zero, List.set_cons_succ]
                                try simp only [wq1]
                                refine wpAnyH_ready (rs := [52, 57]) (by kernel_rfl) (by simp) ?_
                                refine AllReadyH.cons (o := ⟨_, _, _, _, _, _⟩) rfl (fun K hK => ?_) (AllReadyH.cons (o := ⟨_, _, _, _, _, _⟩) rfl (fun K hK => ?_) AllReadyH.nil)
                                · go_simp
                                  refine hK.out _ _ (hS.alloc _) (fun hS => ?_)
                                  clear hK K
                                  try simp only [Act.put, List.setIfInBounds_toArray, List.set_cons_zero, List.set_cons_succ]
                                  have hC52 := cls_new2 wv (a) (b)
                                  generalize Value.slice (some ⟨wv.heap.size, 0, none⟩) 2 2 = v52 at hC52 ⊢
                                  generalize wv.alloc (.cells #[.int .u64 (word (a) 0), .int .u64 (word (a) 1), .int .u64 (word (a) 2), .int .u64 (word (a) 3), .int .u64 (word (b) 0), .int .u64 (word (b) 1), .int .u64 (word (b) 2), .int .u64 (word (b) 3)] 24) = wv at hS hC52 ⊢
                                  refine wpAnyH_listed (L := #[true, true, true, true, true, true, true, true, true, true, true, true, true, true, true, true, true, true, true, true, true, true, true, true, true, true, true, true, true, true, true, true, true, true, true, true, true, true, true, true, true, true, true, true, true, true, true, true, true, true, true, true, true, false, false, true, true, false, false, false, false, false, false, false, false, false, false, false, false]) (by kernel_rfl) ?_
                                  revert hC52
                                  revert v52
                                  revert hS
                                  revert wv
                                  exact key4_4
                                · go_simp
                                  refine hK.out _ _ (hS.alloc _) (fun hS => ?_)
                                  clear hK K
                                  try simp only [Act.put, List.setIfInBounds_toArray, List.set_cons_zero, List.set_cons_succ]
                                  have hC57 := cls_new2 wv (a) (b)
                                  generalize Value.slice (some ⟨wv.heap.size, 0, none⟩) 2 2 = v57 at hC57 ⊢
                                  generalize wv.alloc (.cells #[.int .u64 (word (a) 0), .int .u64 (word (a) 1), .int .u64 (word (a) 2), .int .u64 (word (a) 3), .int .u64 (word (b) 0), .int .u64 (word (b) 1), .int .u64 (word (b) 2), .int .u64 (word (b) 3)] 24) = wv at hS hC57 ⊢
                                  refine wpAnyH_listed (L := #[true, true, true, true, true, true, true, true, true, true, true, true, true, true, true, true, true, true, true, true, true, true, true, true, true, true, true, true, true, true, true, true, true, true, true, true, true, true, true, true, true, true, true, true, true, true, true, true, true, true, true, true, false, false, false, true, true, true, false, false, false, false, false, false, false, false, false, false, false]) (by kernel_rfl) ?_
                                  revert hC57
                                  revert v57
                                  revert hS
                                  revert wv
                                  exact key4_5
                              · go_simp
                                refine hK.out _ _ (hS.alloc _) (fun hS => ?_)
                                clear hK K
                                try simp only [Act.put, List.setIfInBounds_toArray, List.set_cons_zero, List.set_cons_succ]
                                have hC52 := cls_new2 wv (a) (b)
                                generalize Value.slice (some ⟨wv.heap.size, 0, none⟩) 2 2 = v52 at hC52 ⊢
                                generalize wv.alloc (.cells #[.int .u64 (word (a) 0), .int .u64 (word (a) 1), .int .u64 (word (a) 2), .int .u64 (word (a) 3), .int .u64 (word (b) 0), .int .u64 (word (b) 1), .int .u64 (word (b) 2), .int .u64 (word (b) 3)] 24) = wv at hS hC52 ⊢
                                refine wpAnyH_listed (L := #[true, true, true, true, true, true, true, true, true, true, true, true, true, true, true, true, true, true, true, true, true, true, true, true, true, true, true, true, true, true, true, true, true, true, true, true, true, true, true, true, true, true, true, true, true, true, true, true, false, false, true, true, true, false, false, true, true, false, false, false, false, false, false, false, false, false, false, false, false]) (by kernel_rfl) ?_
                                revert hC52
                                revert v52
                                revert hS
                                revert wv
                                exact key4_7
                              · go_simp
                                refine hK.out _ _ (hS.alloc _) (fun hS => ?_)
                                clear hK K
                                try simp only [Act.put, List.setIfInBounds_toArray, List.set_cons_zero, List.set_cons_succ]
                                have hC57 := cls_new2 wv (a) (b)
                                generalize Value.slice (some ⟨wv.heap.size, 0, none⟩) 2 2 = v57 at hC57 ⊢
                                generalize wv.alloc (.cells #[.int .u64 (word (a) 0), .int .u64 (word (a) 1), .int .u64 (word (a) 2), .int .u64 (word (a) 3), .int .u64 (word (b) 0), .int .u64 (word (b) 1), .int .u64 (word (b) 2), .int .u64 (word (b) 3)] 24) = wv at hS hC57 ⊢
                                refine wpAnyH_listed (L := #[true, true, true, true, true, true, true, true, true, true, true, true, true, true, true, true, true, true, true, true, true, true, true, true, true, true, true, true, true, true, true, true, true, true, true, true, true, true, true, true, true, true, true, true, true, true, true, true, false, false, true, true, false, false, false, true, true, true, false, false, false, false, false, false, false, false, false, false, false]) (by kernel_rfl) ?_
                                revert hC57
                                revert v57
                                revert hS
                                revert wv
                                exact key4_8
                            · go_simp
                              refine hK.out _ _ (hS.alloc _) (fun hS => ?_)
                              clear hK K
                              try simp only [Act.put, List.setIfInBounds_toArray, List.set_cons_zero, List.set_cons_succ]
                              have hC52 := cls_new2 wv (a) (b)
                              generalize Value.slice (some ⟨wv.heap.size, 0, none⟩) 2 2 = v52 at hC52 ⊢
                              generalize wv.alloc (.cells #[.int .u64 (word (a) 0), .int .u64 (word (a) 1), .int .u64 (word (a) 2), .int .u64 (word (a) 3), .int .u64 (word (b) 0), .int .u64 (word (b) 1), .int .u64 (word (b) 2), .int .u64 (word (b) 3)] 24) = wv at hS hC52 ⊢
                              refine wpAnyH_ready (rs := [46, 57]) (by kernel_rfl) (by simp) ?_
                              refine AllReadyH.cons (o := ⟨_, _, _, _, _, _⟩) rfl (fun K hK => ?_) (AllReadyH.cons (o := ⟨_, _, _, _, _, _⟩) rfl (fun K hK => ?_) AllReadyH.nil)
                              · go_simp
                                refine (len1 _ a).mono ?_
                                rintro e wv ⟨rfl, hb⟩
                                go_wp2_with fail
                                refine hK.out _ _ (hS.later hb) (fun hS => ?_)
                                clear hK K
                                try simp only [Act.put, List.setIfInBounds_toArray, List.set_cons_zero, List.set_cons_succ]
                                replace hC52 := hC52.later hb
                                clear hb
                                refine wpAnyH_listed (L := #[true, true, true, true, true, true, true, true, true, true, true, true, true, true, true, true, true, true, true, true, true, true, true, true, true, true, true, true, true, true, true, true, true, true, true, true, true, true, true, true, true, true, true, true, true, true, true, true, false, false, true, true, true, false, false, true, true, false, false, false, false, false, false, false, false, false, false, false, false]) (by kernel_rfl) ?_
                                revert hC52
                                revert v52
                                revert hS
                                revert wv
                                exact key4_7
                              · go_simp
                                refine hK.out _ _ (hS.alloc _) (fun hS => ?_)
                                clear hK K
                                try simp only [Act.put, List.setIfInBounds_toArray, List.set_cons_zero, List.set_cons_succ]
                                replace hC52 := hC52.later ((Below.refl wv.heap.size wv).alloc (Nat.le_refl _) (.cells #[.int .u64 (word (a) 0), .int .u64 (word (a) 1), .int .u64 (word (a) 2), .int .u64 (word (a) 3), .int .u64 (word (b) 0), .int .u64 (word (b) 1), .int .u64 (word (b) 2), .int .u64 (word (b) 3)] 24))
                                have hC57 := cls_new2 wv (a) (b)
                                generalize Value.slice (some ⟨wv.heap.size, 0, none⟩) 2 2 = v57 at hC57 ⊢
                                generalize wv.alloc (.cells #[.int .u64 (word (a) 0), .int .u64 (word (a) 1), .int .u64 (word (a) 2), .int .u64 (word (a) 3), .int .u64 (word (b) 0), .int .u64 (word (b) 1), .int .u64 (word (b) 2), .int .u64 (word (b) 3)] 24) = wv at hS hC52 hC57 ⊢
                                refine wpAnyH_listed (L := #[true, true, true, true, true, true, true, true, true, true, true, true, true, true, true, true, true, true, true, true, true, true, true, true, true, true, true, true, true, true, true, true, true, true, true, true, true, true, true, true, true, true, true, true, true, true, false, true, false, false, true, true, true, false, false, true, true, true, false, false, false, false, false, false, false, false, false, false, false]) (by kernel_rfl) ?_
                                revert hC57
                                revert v57
                                revert hC52
                                revert v52
                                revert hS
                                revert wv
                                exact key4_9
                            · go_simp
                              refine hK.out _ _ (hS.alloc _) (fun hS => ?_)
                              clear hK K
                              try simp only [Act.put, List.setIfInBounds_toArray, List.set_cons_zero, List.set_cons_succ]
                              have hC57 := cls_new2 wv (a) (b)
                              generalize Value.slice (some ⟨wv.heap.size, 0, none⟩) 2 2 = v57 at hC57 ⊢
                              generalize wv.alloc (.cells #[.int .u64 (word (a) 0), .int .u64 (word (a) 1), .int .u64 (word (a) 2), .int .u64 (word (a) 3), .int .u64 (word (b) 0), .int .u64 (word (b) 1), .int .u64 (word (b) 2), .int .u64 (word (b) 3)] 24) = wv at hS hC57 ⊢
                              refine wpAnyH_ready (rs := [46, 52]) (by kernel_rfl) (by simp) ?_
                              refine AllReadyH.cons (o := ⟨_, _, _, _, _, _⟩) rfl (fun K hK => ?_) (AllReadyH.cons (o := ⟨_, _, _, _, _, _⟩) rfl (fun K hK => ?_) AllReadyH.nil)
                              · go_simp
                                refine (len1 _ a).mono ?_
                                rintro e wv ⟨rfl, hb⟩
                                go_wp2_with fail
                                refine hK.out _ _ (hS.later hb) (fun hS => ?_)
                                clear hK K
                                try simp only [Act.put, List.setIfInBounds_toArray, List.set_cons_zero, List.set_cons_succ]
                                replace hC57 := hC57.later hb
                                clear hb
                                refine wpAnyH_listed (L := #[true, true, true, true, true, true, true, true, true, true, true, true, true, true, true, true, true, true, true, true, true, true, true, true, true, true, true, true, true, true, true, true, true, true, true, true, true, true, true, true, true, true, true, true, true, true, true, true, false, false, true, true, false, false, false, true, true, true, false, false, false, false, false, false, false, false, false, false, false]) (by kernel_rfl) ?_
                                revert hC57
                                revert v57
                                revert hS
                                revert wv
                                exact key4_8
                              · go_simp
                                refine hK.out _ _ (hS.alloc _) (fun hS => ?_)
                                clear hK K
                                try simp only [Act.put, List.setIfInBounds_toArray, List.set_cons_zero, List.set_cons_succ]
                                replace hC57 := hC57.later ((Below.refl wv.heap.size wv).alloc (Nat.le_refl _) (.cells #[.int .u64 (word (a) 0), .int .u64 (word (a) 1), .int .u64 (word (a) 2), .int .u64 (word (a) 3), .int .u64 (word (b) 0), .int .u64 (word (b) 1), .int .u64 (word (b) 2), .int .u64 (word (b) 3)] 24))
                                have hC52 := cls_new2 wv (a) (b)
                                generalize Value.slice (some ⟨wv.heap.size, 0, none⟩) 2 2 = v52 at hC52 ⊢
                                generalize wv.alloc (.cells #[.int .u64 (word (a) 0), .int .u64 (word (a) 1), .int .u64 (word (a) 2), .int .u64 (word (a) 3), .int .u64 (word (b) 0), .int .u64 (word (b) 1), .int .u64 (word (b) 2), .int .u64 (word (b) 3)] 24) = wv at hS hC57 hC52 ⊢
                                refine wpAnyH_listed (L := #[true, true, true, true, true, true, true, true, true, true, true, true, true, true, true, true, true, true, true, true, true, true, true, true, true, true, true, true, true, true, true, true, true, true, true, true, true, true, true, true, true, true, true, true, true, true, false, true, false, false, true, true, true, false, false, true, true, true, false, false, false, false, false, false, false, false, false, false, false]) (by kernel_rfl) ?_
                                revert hC57
                                revert v57
                                revert hC52
                                revert v52
                                revert hS
                                revert wv
                                exact key4_9
                          · intro wv hS
                            intro v52 hC52
                            intro v57 hC57
                            refine wpAnyH_ready (rs := [46]) (by kernel_rfl) (by simp) ?_
                            refine AllReadyH.cons (o := ⟨_, _, _, _, _, _⟩) rfl (fun K hK => ?_) AllReadyH.nil
                            go_simp
                            refine (len1 _ a).mono ?_
                            rintro e wv ⟨rfl, hb⟩
                            go_wp2_with fail
                            refine hK.out _ _ (hS.later hb) (fun hS => ?_)
                            clear hK K
                            try simp only [Act.put, List.setIfInBounds_toArray, List.set_cons_zero, List.set_cons_succ]
                            replace hC52 := hC52.later hb
                            replace hC57 := hC57.later hb
                            clear hb
                            refine wpAnyH_listed (L := #[true, true, true, true, true, true, true, true, true, true, true, true, true, true, true, true, true, true, true, true, true, true, true, true, true, true, true, true, true, true, true, true, true, true, true, true, true, true, true, true, true, true, true, true, true, true, true, true, false, false, true, true, true, false, false, true, true, true, false, false, false, false, false, false, false, false, false, false, false]) (by kernel_rfl) ?_
                            revert hC57
                            revert v57
                            revert hC52
                            revert v52
                            revert hS
                            revert wv
                            exact key4_6
                        · intro wv hS
                          intro v57 hC57
                          refine wpAnyH_ready (rs := [48, 52]) (by kernel_rfl) (by simp) ?_
                          refine AllReadyH.cons (o := ⟨_, _, _, _, _, _⟩) rfl (fun K hK => ?_) (AllReadyH.cons (o := ⟨_, _, _, _, _, _⟩) rfl (fun K hK => ?_) AllReadyH.nil)
                          · go_simp
                            refine (len1 _ b).mono ?_
                            rintro e wv ⟨rfl, hb⟩
                            go_wp2_with fail
                            refine hK.out _ _ (hS.later hb) (fun hS => ?_)
                            clear hK K
                            try simp only [Act.put, List.setIfInBounds_toArray, List.set_cons_zero, List.set_cons_succ]
                            replace hC57 := hC57.later hb
                            clear hb
                            refine wpAnyH_take (i := 49) (oi := ⟨_, _, _, _, _, _⟩) (v := ?v61) rfl (by kernel_rfl) (by kernel_rfl) (by kernel_rfl) (fun _ _ _ h => h) ?y61 hS ?_
                            case y61 => first | (refine Or.inr ⟨by rfl, ?_⟩; with_reducible rfl) | (refine Or.inl ⟨by rfl, ?_⟩; intro wS hSw; go_simp; try with_reducible rfl)
                            simp only [Act.put, List.setIfInBounds_toArray, List.set_cons_zero, List.set_cons_succ]
                            try simp only [wq1]
                            refine wpAnyH_listed (L := #[true, true, true, true, true, true, true, true, true, true, true, true, true, true, true, true, true, true, true, true, true, true, true, true, true, true, true, true, true, true, true, true, true, true, true, true, true, true, true, true, true, true, true, true, true, true, true, true, true, true, true, true, false, false, false, true, true, true, false, false, false, false, false, false, false, false, false, false, false]) (by kernel_rfl) ?_
                            revert hC57
                            revert v57
                            revert hS
                            revert wv
                            exact key4_5
                          · go_simp
                            refine hK.out _ _ (hS.alloc _) (fun hS => ?_)
                            clear hK K
                            try simp only [Act.put, List.setIfInBounds_toArray, List.set_cons_zero, List.set_cons_succ]
                            replace hC57 := hC57.later ((Below.refl wv.heap.size wv).alloc (Nat.le_refl _) (.cells #[.int .u64 (word (a) 0), .int .u64 (word (a) 1), .int .u64 (word (a) 2), .int .u64 (word (a) 3), .int .u64 (word (b) 0), .int .u64 (word (b) 1), .int .u64 (word (b) 2), .int .u64 (word (b) 3)] 24))
                            have hC52 := cls_new2 wv (a) (b)
                            generalize Value.slice (some ⟨wv.heap.size, 0, none⟩) 2 2 = v52 at hC52 ⊢
                            generalize wv.alloc (.cells #[.int .u64 (word (a) 0), .int .u64 (word (a) 1), .int .u64 (word (a) 2), .int .u64 (word (a) 3), .int .u64 (word (b) 0), .int .u64 (word (b) 1), .int .u64 (word (b) 2), .int .u64 (word (b) 3)] 24) = wv at hS hC57 hC52 ⊢
                            refine wpAnyH_listed (L := #[true, true, true, true, true, true, true, true, true, true, true, true, true, true, true, true, true, true, true, true, true, true, true, true, true, true, true, true, true, true, true, true, true, true, true, true, true, true, true, true, true, true, true, true, true, true, true, true, false, false, true, true, true, false, false, true, true, true, false, false, false, false, false, false, false, false, false, false, false]) (by kernel_rfl) ?_
                            revert hC57
                            revert v57
                            revert hC52
                            revert v52
                            revert hS
                            revert wv
                            exact key4_6
                      · intro wv hS
                        intro v52 hC52
                        refine wpAnyH_ready (rs := [48, 57]) (by kernel_rfl) (by simp) ?_
                        refine AllReadyH.cons (o := ⟨_, _, _, _, _, _⟩) rfl (fun K hK => ?_) (AllReadyH.cons (o := ⟨_, _, _, _, _, _⟩) rfl (fun K hK => ?_) AllReadyH.nil)
                        · go_simp
                          refine (len1 _ b).mono ?_
                          rintro e wv ⟨rfl, hb⟩
                          go_wp2_with fail
                          refine hK.out _ _ (hS.later hb) (fun hS => ?_)
                          clear hK K
                          try simp only [Act.put, List.setIfInBounds_toArray, List.set_cons_zero, List.set_cons_succ]
                          replace hC52 := hC52.later hb
                          clear hb
                          refine wpAnyH_take (i := 49) (oi := ⟨_, _, _, _, _, _⟩) (v := ?v62) rfl (by kernel_rfl) (by kernel_rfl) (by kernel_rfl) (fun _ _ _ h => h) ?y62 hS ?_
                          case y62 => first | (refine Or.inr ⟨by rfl, ?_⟩; with_reducible rfl) | (refine Or.inl ⟨by rfl, ?_⟩; intro wS hSw; go_simp; try with_reducible rfl)
                          simp only [Act.put, List.setIfInBounds_toArray, List.set_cons_zero, List.set_cons_succ]
                          try simp only [wq1]
                          refine wpAnyH_listed (L := #[true, true, true, true, true, true, true, true, true, true, true, true, true, true, true, true, true, true, true, true, true, true, true, true, true, true, true, true, true, true, true, true, true, true, true, true, true, true, true, true, true, true, true, true, true, true, true, true, true, true, true, true, true, false, false, true, true, false, false, false, false, false, false, false, false, false, false, false, false]) (by kernel_rfl) ?_
                          revert hC52
                          revert v52
                          revert hS
                          revert wv
                          exact key4_4
                        · go_simp
                          refine hK.out _ _ (hS.alloc _) (fun hS => ?_)
                          clear hK K
                          try simp only [Act.put, List.setIfInBounds_toArray, List.set_cons_zero, List.set_cons_succ]
                          replace hC52 := hC52.later ((Below.refl wv.heap.size wv).alloc (Nat.le_refl _) (.cells #[.int .u64 (word (a) 0), .int .u64 (word (a) 1), .int .u64 (word (a) 2), .int .u64 (word (a) 3), .int .u64 (word (b) 0), .int .u64 (word (b) 1), .int .u64 (word (b) 2), .int .u64 (word (b) 3)] 24))
                          have hC57 := cls_new2 wv (a) (b)
                          generalize Value.slice (some ⟨wv.heap.size, 0, none⟩) 2 2 = v57 at hC57 ⊢
                          generalize wv.alloc (.cells #[.int .u64 (word (a) 0), .int .u64 (word (a) 1), .int .u64 (word (a) 2), .int .u64 (word (a) 3), .int .u64 (word (b) 0), .int .u64 (word (b) 1), .int .u64 (word (b) 2), .int .u64 (word (b) 3)] 24) = wv at hS hC52 hC57 ⊢
                          refine wpAnyH_listed (L := #[true, true, true, true, true, true, true, true, true, true, true, true, true, true, true, true, true, true, true, true, true, true, true, true, true, true, true, true, true, true, true, true, true, true, true, true, true, true, true, true, true, true, true, true, true, true, true, true, false, false, true, true, true, false, false, true, true, true, false, false, false, false, false, false, false, false, false, false, false]) (by kernel_rfl) ?_
                          revert hC57
                          revert v57
                          revert hC52
                          revert v52
                          revert hS
                          revert wv
                          exact key4_6
                    · intro wv hS
                      intro v52 hC52
                      intro v57 hC57
                      refine wpAnyH_ready (rs := [48]) (by kernel_rfl) (by simp) ?_
                      refine AllReadyH.cons (o := ⟨_, _, _, _, _, _⟩) rfl (fun K hK => ?_) AllReadyH.nil
                      go_simp
                      refine (len1 _ b).mono ?_
                      rintro e wv ⟨rfl, hb⟩
                      go_wp2_with fail
                      refine hK.out _ _ (hS.later hb) (fun hS => ?_)
                      clear hK K
                      try simp only [Act.put, List.setIfInBounds_toArray, List.set_cons_zero, List.set_cons_succ]
                      replace hC52 := hC52.later hb
                      replace hC57 := hC57.later hb
                      clear hb
                      refine wpAnyH_take (i := 49) (oi := ⟨_, _, _, _, _, _⟩) (v := ?v63) rfl (by kernel_rfl) (by kernel_rfl) (by kernel_rfl) (fun _ _ _ h => h) ?y63 hS ?_
                      case y63 => first | (refine Or.inr ⟨by rfl, ?_⟩; with_reducible rfl) | (refine Or.inl ⟨by rfl, ?_⟩; intro wS hSw; go_simp; try with_reducible rfl)
                      simp only [Act.put, List.setIfInBounds_toArray, List.set_cons_zero, List.set_cons_succ]
                      try simp only [wq1]
                      refine wpAnyH_listed (L := #[true, true, true, true, true, true, true, true, true, true, true, true, true, true, true, true, true, true, true, true, true, true, true, true, true, true, true, true, true, true, true, true, true, true, true, true, true, true, true, true, true, true, true, true, true, true, true, true, true, true, true, true, true, false, false, true, true, true, false, false, false, false, false, false, false, false, false, false, false]) (by kernel_rfl) ?_
                      revert hC57
                      revert v57
                      revert hC52
                      revert v52
                      revert hS
                      revert wv
                      exact key4_3
                  · intro wv hS
                    intro v57 hC57
                    refine wpAnyH_ready (rs := [52]) (by kernel_rfl) (by simp) ?_
                    refine AllReadyH.cons (o := ⟨_, _, _, _, _, _⟩) rfl (fun K hK => ?_) AllReadyH.nil
                    go_simp
                    refine hK.out _ _ (hS.alloc _) (fun hS => ?_)
                    clear hK K
                    try simp only [Act.put, List.setIfInBounds_toArray, List.set_cons_zero, List.set_cons_succ]
                    replace hC57 := hC57.later ((Below.refl wv.heap.size wv).alloc (Nat.le_refl _) (.cells #[.int .u64 (word (a) 0), .int .u64 (word (a) 1), .int .u64 (word (a) 2), .int .u64 (word (a) 3), .int .u64 (word (b) 0), .int .u64 (word (b) 1), .int .u64 (word (b) 2), .int .u64 (word (b) 3)] 24))
                    have hC52 := cls_new2 wv (a) (b)
                    generalize Value.slice (some ⟨wv.heap.size, 0, none⟩) 2 2 = v52 at hC52 ⊢
                    generalize wv.alloc (.cells #[.int .u64 (word (a) 0), .int .u64 (word (a) 1), .int .u64 (word (a) 2), .int .u64 (word (a) 3), .int .u64 (word (b) 0), .int .u64 (word (b) 1), .int .u64 (word (b) 2), .int .u64 (word (b) 3)] 24) = wv at hS hC57 hC52 ⊢
                    refine wpAnyH_listed (L := #[true, true, true, true, true, true, true, true, true, true, true, true, true, true, true, true, true, true, true, true, true, true, true, true, true, true, true, true, true, true, true, true, true, true, true, true, true, true, true, true, true, true, true, true, true, true, true, true, true, true, true, true, true, false, false, true, true, true, false, false, false, false, false, false, false, false, false, false, false]) (by kernel_rfl) ?_
                    revert hC57
                    revert v57
                    revert hC52
                    revert v52
                    revert hS
                    revert wv
                    exact key4_3
                · intro wv hS
                  intro v52 hC52
                  refine wpAnyH_ready (rs := [53, 57]) (by kernel_rfl) (by simp) ?_
                  refine AllReadyH.cons (o := ⟨_, _, _, _, _, _⟩) rfl (fun K hK => ?_) (AllReadyH.cons (o := ⟨_, _, _, _, _, _⟩) rfl (fun K hK => ?_) AllReadyH.nil)
                  · go_simp
                    refine (or_at _ _ [a, b] (clOr a b) (fold_or2 a b) hC52).mono ?_
                    rintro e wv ⟨rfl, hb⟩
                    go_wp2_with fail
                    refine hK.out _ _ (hS.later hb) (fun hS => ?_)
                    clear hK K
                    try simp only [Act.put, List.setIfInBounds_toArray, List.set_cons_zero, List.set_cons_succ]
                    clear hC52
                    clear hb
                    refine wpAnyH_ready (rs := [54, 57]) (by kernel_rfl) (by simp) ?_
                    refine AllReadyH.cons (o := ⟨_, _, _, _, _, _⟩) rfl (fun K hK => ?_) (AllReadyH.cons (o := ⟨_, _, _, _, _, _⟩) rfl (fun K hK => ?_) AllReadyH.nil)
                    · go_simp
                      refine (len1 _ (clOr a b)).mono ?_
                      rintro e wv ⟨rfl, hb⟩
                      go_wp2_with fail
                      refine hK.out _ _ (hS.later hb) (fun hS => ?_)
                      clear hK K
                      try simp only [Act.put, List.setIfInBounds_toArray, List.set_cons_zero, List.set_cons_succ]
                      clear hb
                      refine wpAnyH_ready (rs := [57]) (by kernel_rfl) (by simp) ?_
                      refine AllReadyH.cons (o := ⟨_, _, _, _, _, _⟩) rfl (fun K hK => ?_) AllReadyH.nil
                      go_simp
                      refine hK.out _ _ (hS.alloc _) (fun hS => ?_)
                      clear hK K
                      try simp only [Act.put, List.setIfInBounds_toArray, List.set_cons_zero, List.set_cons_succ]
                      have hC57 := cls_new2 wv (a) (b)
                      generalize Value.slice (some ⟨wv.heap.size, 0, none⟩) 2 2 = v57 at hC57 ⊢
                      generalize wv.alloc (.cells #[.int .u64 (word (a) 0), .int .u64 (word (a) 1), .int .u64 (word (a) 2), .int .u64 (word (a) 3), .int .u64 (word (b) 0), .int .u64 (word (b) 1), .int .u64 (word (b) 2), .int .u64 (word (b) 3)] 24) = wv at hS hC57 ⊢
                      refine wpAnyH_listed (L := #[true, true, true, true, true, true, true, true, true, true, true, true, true, true, true, true, true, true, true, true, true, true, true, true, true, true, true, true, true, true, true, true, true, true, true, true, true, true, true, true, true, true, true, true, true, true, true, true, true, true, true, true, true, true, true, true, true, true, false, false, false, false, false, false, false, false, false, false, false]) (by kernel_rfl) ?_
                      revert hC57
                      revert v57
                      revert v52
                      revert hS
                      revert wv
                      exact key4_1
                    · go_simp
                      refine hK.out _ _ (hS.alloc _) (fun hS => ?_)
                      clear hK K
                      try simp only [Act.put, List.setIfInBounds_toArray, List.set_cons_zero, List.set_cons_succ]
                      have hC57 := cls_new2 wv (a) (b)
                      generalize Value.slice (some ⟨wv.heap.size, 0, none⟩) 2 2 = v57 at hC57 ⊢
                      generalize wv.alloc (.cells #[.int .u64 (word (a) 0), .int .u64 (word (a) 1), .int .u64 (word (a) 2), .int .u64 (word (a) 3), .int .u64 (word (b) 0), .int .u64 (word (b) 1), .int .u64 (word (b) 2), .int .u64 (word (b) 3)] 24) = wv at hS hC57 ⊢
                      refine wpAnyH_listed (L := #[true, true, true, true, true, true, true, true, true, true, true, true, true, true, true, true, true, true, true, true, true, true, true, true, true, true, true, true, true, true, true, true, true, true, true, true, true, true, true, true, true, true, true, true, true, true, true, true, true, true, true, true, true, true, false, true, true, true, false, false, false, false, false, false, false, false, false, false, false]) (by kernel_rfl) ?_
                      revert hC57
                      revert v57
                      revert v52
                      revert hS
                      revert wv
                      exact key4_2
                  · go_simp
                    refine hK.out _ _ (hS.alloc _) (fun hS => ?_)
                    clear hK K
                    try simp only [Act.put, List.setIfInBounds_toArray, List.set_cons_zero, List.set_cons_succ]
                    replace hC52 := hC52.later ((Below.refl wv.heap.size wv).alloc (Nat.le_refl _) (.cells #[.int .u64 (word (a) 0), .int .u64 (word (a) 1), .int .u64 (word (a) 2), .int .u64 (word (a) 3), .int .u64 (word (b) 0), .int .u64 (word (b) 1), .int .u64 (word (b) 2), .int .u64 (word (b) 3)] 24))
                    have hC57 := cls_new2 wv (a) (b)
                    generalize Value.slice (some ⟨wv.heap.size, 0, none⟩) 2 2 = v57 at hC57 ⊢
                    generalize wv.alloc (.cells #[.int .u64 (word (a) 0), .int .u64 (word (a) 1), .int .u64 (word (a) 2), .int .u64 (word (a) 3), .int .u64 (word (b) 0), .int .u64 (word (b) 1), .int .u64 (word (b) 2), .int .u64 (word (b) 3)] 24) = wv at hS hC52 hC57 ⊢
                    refine wpAnyH_listed (L := #[true, true, true, true, true, true, true, true, true, true, true, true, true, true, true, true, true, true, true, true, true, true, true, true, true, true, true, true, true, true, true, true, true, true, true, true, true, true, true, true, true, true, true, true, true, true, true, true, true, true, true, true, true, false, false, true, true, true, false, false, false, false, false, false, false, false, false, false, false]) (by kernel_rfl) ?_
                    revert hC57
                    revert v57
                    revert hC52
                    revert v52
                    revert hS
                    revert wv
                    exact key4_3
              · intro wv hS
                intro v52 hC52
                intro v57 hC57
                refine wpAnyH_ready (rs := [53]) (by kernel_rfl) (by simp) ?_
                refine AllReadyH.cons (o := ⟨_, _, _, _, _, _⟩) rfl (fun K hK => ?_) AllReadyH.nil
                go_simp
                refine (or_at _ _ [a, b] (clOr a b) (fold_or2 a b) hC52).mono ?_
                rintro e wv ⟨rfl, hb⟩
                go_wp2_with fail
                refine hK.out _ _ (hS.later hb) (fun hS => ?_)
                clear hK K
                try simp only [Act.put, List.setIfInBounds_toArray, List.set_cons_zero, List.set_cons_succ]
                replace hC57 := hC57.later hb
                clear hC52
                clear hb
                refine wpAnyH_listed (L := #[true, true, true, true, true, true, true, true, true, true, true, true, true, true, true, true, true, true, true, true, true, true, true, true, true, true, true, true, true, true, true, true, true, true, true, true, true, true, true, true, true, true, true, true, true, true, true, true, true, true, true, true, true, true, false, true, true, true, false, false, false, false, false, false, false, false, false, false, false]) (by kernel_rfl) ?_
                revert hC57
                revert v57
                revert v52
                revert hS
                revert wv
                exact key4_2
            · intro wv hS
              intro v52
              intro v57 hC57
              refine wpAnyH_ready (rs := [54]) (by kernel_rfl) (by simp) ?_
              refine AllReadyH.cons (o := ⟨_, _, _, _, _, _⟩) rfl (fun K hK => ?_) AllReadyH.nil
              go_simp
              refine (len1 _ (clOr a b)).mono ?_
              rintro e wv ⟨rfl, hb⟩
              go_wp2_with fail
              refine hK.out _ _ (hS.later hb) (fun hS => ?_)
              clear hK K
              try simp only [Act.put, List.setIfInBounds_toArray, List.set_cons_zero, List.set_cons_succ]
              replace hC57 := hC57.later hb
              clear hb
              refine wpAnyH_listed (L := #[true, true, true, true, true, true, true, true, true, true, true, true, true, true, true, true, true, true, true, true, true, true, true, true, true, true, true, true, true, true, true, true, true, true, true, true, true, true, true, true, true, true, true, true, true, true, true, true, true, true, true, true, true, true, true, true, true, true, false, false, false, false, false, false, false, false, false, false, false]) (by kernel_rfl) ?_
              revert hC57
              revert v57
              revert v52
              revert hS
              revert wv
              exact key4_1
          · intro wv hS
            intro v52
            intro v57 hC57
            refine wpAnyH_ready (rs := [58]) (by kernel_rfl) (by simp) ?_
            refine AllReadyH.cons (o := ⟨_, _, _, _, _, _⟩) rfl (fun K hK => ?_) AllReadyH.nil
            go_simp
            refine (and_at _ _ [a, b] (clAnd a b) (fold_and2 a b) hC57).mono ?_
            rintro e wv ⟨rfl, hb⟩
            go_wp2_with fail
            refine hK.out _ _ (hS.later hb) (fun hS => ?_)
            clear hK K
            try simp only [Act.put, List.setIfInBounds_toArray, List.set_cons_zero, List.set_cons_succ]
            clear hC57
            clear hb
            refine wpAnyH_ready (rs := [59]) (by kernel_rfl) (by simp) ?_
            refine AllReadyH.cons (o := ⟨_, _, _, _, _, _⟩) rfl (fun K hK => ?_) AllReadyH.nil
            go_simp
            refine (len1 _ (clAnd a b)).mono ?_
            rintro e wv ⟨rfl, hb⟩
            go_wp2_with fail
            refine hK.out _ _ (hS.later hb) (fun hS => ?_)
            clear hK K
            try simp only [Act.put, List.setIfInBounds_toArray, List.set_cons_zero, List.set_cons_succ]
            clear hb
            refine wpAnyH_listed (L := #[true, true, true, true, true, true, true, true, true, true, true, true, true, true, true, true, true, true, true, true, true, true, true, true, true, true, true, true, true, true, true, true, true, true, true, true, true, true, true, true, true, true, true, true, true, true, true, true, true, true, true, true, true, true, true, true, true, true, true, true, false, false, false, false, false, false, false, false, false]) (by kernel_rfl) ?_
            revert v57
            revert v52
            revert hS
            revert wv
            exact key4_0
        · intro wv hS
          intro v52
          intro v57
          have hq : ((cnt a 256 : Int) + (cnt b 256 : Int) == (cnt (clOr a b) 256 : Int) + (cnt (clAnd a b) 256 : Int)) = true := by have := cnt_two a b 256; simp; omega
          refine wpAnyH_take (i := 60) (oi := ⟨_, _, _, _, _, _⟩) (v := ?v64) rfl (by kernel_rfl) (by kernel_rfl) (by kernel_rfl) (fun _ _ _ h => h) ?y64 hS ?_
          case y64 => first | (refine Or.inr ⟨by rfl, ?_⟩; with_reducible rfl) | (refine Or.inl ⟨by rfl, ?_⟩; intro wS hSw; go_simp; try with_reducible rfl)
          simp only [Act.put, List.setIfInBounds_toArray, List.set_cons_zero, List.set_cons_succ]
          try simp only [wq2]
          refine wpAnyH_take (i := 61) (oi := ⟨_, _, _, _, _, _⟩) (v := ?v65) rfl (by kernel_rfl) (by kernel_rfl) (by kernel_rfl) (fun _ _ _ h => h) ?y65 hS ?_
          case y65 => first | (refine Or.inr ⟨by rfl, ?_⟩; with_reducible rfl) | (refine Or.inl ⟨by rfl, ?_⟩; intro wS hSw; go_simp; try with_reducible rfl)
          simp only [Act.put, List.setIfInBounds_toArray, List.set_cons_zero, List.set_cons_succ]
          refine wpAnyH_take (i := 62) (oi := ⟨_, _, _, _, _, _⟩) (v := ?v66) rfl (by kernel_rfl) (by kernel_rfl) (by kernel_rfl) (fun _ _ _ h => h) ?y66 hS ?_
          case y66 => first | (refine Or.inr ⟨by rfl, ?_⟩; with_reducible rfl) | (refine Or.inl ⟨by rfl, ?_⟩; intro wS hSw; go_simp; try with_reducible rfl)
          simp only [Act.put, List.setIfInBounds_toArray, List.set_cons_zero, List.set_cons_succ]
          refine wpAnyH_take (i := 63) (oi := ⟨_, _, _, _, _, _⟩) (v := ?v67) rfl (by kernel_rfl) (by kernel_rfl) (by kernel_rfl) (fun _ _ _ h => h) ?y67 hS ?_
          case y67 => first | (refine Or.inr ⟨by rfl, ?_⟩; with_reducible rfl) | (refine Or.inl ⟨by rfl, ?_⟩; intro wS hSw; go_simp; try with_reducible rfl)
          simp only [Act.put, List.setIfInBounds_toArray, List.set_cons_zero, List.set_cons_succ]
          refine wpAnyH_take (i := 65) (oi := ⟨_, _, _, _, _, _⟩) (v := ?v68) rfl (by kernel_rfl) (by kernel_rfl) (by kernel_rfl) (fun _ _ _ h => h) ?y68 hS ?_
          case y68 => first | (refine Or.inr ⟨by rfl, ?_⟩; with_reducible rfl) | (refine Or.inl ⟨by rfl, ?_⟩; intro wS hSw; obtain ⟨q0, q1, q2, q3⟩ := cls_cells hSw.pl; go_simp; try with_reducible rfl)
          simp only [Act.put, List.setIfInBounds_toArray, List.set_cons_zero, List.set_cons_succ]
          refine wpAnyH_ready (rs := [64]) (by kernel_rfl) (by simp) ?_
          refine AllReadyH.cons (o := ⟨_, _, _, _, _, _⟩) rfl (fun K hK => ?_) AllReadyH.nil
          go_simp
          refine (range_at _).mono ?_
          rintro e wx ⟨rfl, hb⟩
          go_wp2_with fail
          refine hK.out _ _ (hS.later hb) (fun hS => ?_)
          clear hK K
          try simp only [Act.put, List.setIfInBounds_toArray, List.set_cons_zero, List.set_cons_succ]
          clear hb
          obtain ⟨wv, hwv⟩ : ∃ wv, wv = wx := ⟨_, rfl⟩
          rw [← hwv] at hS ⊢
          clear hwv
          have hq := eqa_same (clNot clNone)
          refine wpAnyH_take (i := 66) (oi := ⟨_, _, _, _, _, _⟩) (v := ?v69) rfl (by kernel_rfl) (by kernel_rfl) (by kernel_rfl) (fun _ _ _ h => h) ?y69 hS ?_
          case y69 => first | (refine Or.inr ⟨by rfl, ?_⟩; with_reducible rfl) | (refine Or.inl ⟨by rfl, ?_⟩; intro wS hSw; go_simp; try with_reducible rfl)
          simp only [Act.put, List.setIfInBounds_toArray, List.set_cons_zero, List.set_cons_succ]
          refine wpAnyH_take (i := 67) (oi := ⟨_, _, _, _, _, _⟩) (v := ?v70) rfl (by kernel_rfl) (by kernel_rfl) (by kernel_rfl) (fun _ _ _ h => h) ?y70 hS ?_
          case y70 => first | (refine Or.inr ⟨by rfl, ?_⟩; with_reducible rfl) | (refine Or.inl ⟨by rfl, ?_⟩; intro wS hSw; go_simp; try with_reducible rfl)
          simp only [Act.put, List.setIfInBounds_toArray, List.set_cons_zero, List.set_cons_succ]
          refine wpAnyH_take (i := 68) (oi := ⟨_, _, _, _, _, _⟩) (v := ?v71) rfl (by kernel_rfl) (by kernel_rfl) (by kernel_rfl) (fun _ _ _ h => h) ?y71 hS ?_
          case y71 => first | (refine Or.inr ⟨by rfl, ?_⟩; with_reducible rfl) | (refine Or.inl ⟨by rfl, ?_⟩; intro wS hSw; go_simp; try with_reducible rfl)
          simp only [Act.put, List.setIfInBounds_toArray, List.set_cons_zero, List.set_cons_succ]
          refine wpAnyH_done (by kernel_rfl) ?_ _
          go_wp2
          go_ret
          exact ⟨rfl, hS.bel⟩
end Go.Proofs.YtchjlgmnfepedaaDoor
