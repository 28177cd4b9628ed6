/-
  gram: whether a text is a name: the walk.
-/
import Derived.Test.YtkimkghldilliaaGreatGrF
import Derived.Laws.EntriesVeiled
namespace Go.Proofs.YtkimkghldilliaaGreat
open Go.RowKit Go.Lib Go.Maps

theorem decode_ge (s : ByteArray) (i : Nat) (h : ¬ (s.get! i).toNat < 128) : 128 ≤ (Utf8.decode s i).1 := by
  have e0 : (s.get! (i + 0)).toNat = (s.get! i).toNat := rfl
  simp only [Utf8.decode, e0, if_neg h]
  repeat' split
  all_goals first
    | (simp only [Utf8.runeError]; omega)
    | (simp_all; omega)
    | simp_all
theorem decode_lt (s : ByteArray) (i : Nat) (h : (s.get! i).toNat < 128) : Utf8.decode s i = ((s.get! i).toNat, 1) := by
  have e0 : (s.get! (i + 0)).toNat = (s.get! i).toNat := rfl
  simp only [Utf8.decode, e0, if_pos h]
theorem oddR_ge {x : Nat} (h : 128 ≤ x) : oddR x = true := by
  unfold oddR isLetter
  simp; omega
theorem idx_neg (s : ByteArray) : ∀ (f pos : Nat), s.size ≤ pos + f → (Lib.idxFuncFrom oddR true s f pos < 0 ↔ ∀ i, pos ≤ i → i < s.size → oddR (s.get! i).toNat = false)
  | 0, pos, h => by
    simp only [Lib.idxFuncFrom]
    exact ⟨fun _ i h1 h2 => by omega, fun _ => by omega⟩
  | f + 1, pos, h => by
    unfold Lib.idxFuncFrom
    by_cases hp : pos < s.size
    · rw [if_pos hp]
      by_cases hb : (s.get! pos).toNat < 128
      · rw [decode_lt s pos hb]
        simp only
        by_cases ho : oddR (s.get! pos).toNat = true
        · rw [if_pos ho]
          exact ⟨fun h => by omega, fun h => by rw [h pos (Nat.le_refl _) hp] at ho; cases ho⟩
        · rw [if_neg ho, idx_neg s f (pos + 1) (by omega)]
          refine ⟨fun h i h1 h2 => ?_, fun h i h1 h2 => h i (by omega) h2⟩
          by_cases hi : i = pos
          · subst hi; simpa using ho
          · exact h i (by omega) h2
      · rw [if_pos (oddR_ge (decode_ge s pos hb))]
        exact ⟨fun h => by omega, fun h => by have := h pos (Nat.le_refl _) hp; rw [oddR_ge (by omega)] at this; cases this⟩
    · rw [if_neg hp]
      exact ⟨fun _ i h1 h2 => by omega, fun _ => by omega⟩
theorem name_spec (s : ByteArray) : nameOk s = (decide (0 < s.size) && decide (s.size ≤ 32) && decide (Lib.idxFunc oddR true s < 0) && isLetter (s.get! 0).toNat) := by
  have h := idx_neg s s.size 0 (by omega)
  have e : Lib.idxFunc oddR true s = Lib.idxFuncFrom oddR true s s.size 0 := rfl
  rw [e, Bool.eq_iff_iff]
  unfold nameOk
  simp only [Bool.and_eq_true, decide_eq_true_eq, List.all_eq_true, List.mem_range, Bool.or_eq_true, h]
  constructor
  · rintro ⟨⟨h1, h2⟩, h3⟩
    refine ⟨⟨⟨h1, h2⟩, fun i _ hi => ?_⟩, ?_⟩
    · unfold oddR
      rcases h3 i hi with h4 | ⟨⟨_, h4⟩, h5⟩
      · simp [h4]
      · simp; omega
    · rcases h3 0 h1 with h4 | ⟨⟨h4, _⟩, _⟩
      · exact h4
      · omega
  · rintro ⟨⟨⟨h1, h2⟩, h3⟩, h4⟩
    refine ⟨⟨h1, h2⟩, fun i hi => ?_⟩
    by_cases h0 : i = 0
    · subst h0; exact .inl h4
    · have := h3 i (Nat.zero_le _) hi
      unfold oddR at this
      simp at this
      by_cases hl : isLetter (s.get! i).toNat = true
      · exact .inl hl
      · have := this (by simpa using hl)
        exact .inr ⟨⟨by omega, by omega⟩, by omega⟩

set_option maxRecDepth 100000 in
set_option maxHeartbeats 4000000 in
theorem name_empty (s : ByteArray) (w : World) (h0 : s.size = 0) : Calls Tryz.prog 94 #[.string s] w fun e w' => e = .returned (.bool (false)) ∧ Below w.heap.size w w' := by
  have qe := str_empty s
  rw [h0] at qe
  obtain ⟨q, hq⟩ : ∃ q, q = false := ⟨_, rfl⟩
  have HQ := Lib.hid hq.symm
  rw [← hq]
  clear hq
  have a0 := heap_alloc_new w (.cells #[.nilFunc] 216)
  obtain ⟨a1, a2⟩ := block_cell' a0 0
  simp only [List.getElem?_toArray, List.getElem?_cons_zero] at a1
  have A0 := Lib.hid a0
  clear a0
  go_enter Tryz.func94, Tryz.ntmps94
  go_upto_region 2 with (fail)
  refine gen_world (S := fun u => Below w.heap.size w u ∧ u.heap[w.heap.size]? = some (.cells #[fnv 121] 216 (0, 0))) (one_new w _) (fun u hu => ?_)
  obtain ⟨hb, h1⟩ := hu
  have HB := Lib.hid hb
  have H1 := Lib.hid h1
  obtain ⟨X, hX⟩ : ∃ X, X = w.heap.size := ⟨_, rfl⟩
  rw [← hX] at H1 ⊢
  clear hb h1 hX a1 a2 A0
  go_upto_region 3 with (fail)
  refine wp_region_held_drew (S := fun z => Below u.heap.size u z) (by kernel_rfl) (Below.refl u.heap.size u).drew (fun hS => ?_)
  refine wpAnyH_take (i := 0) (oi := ⟨_, _, _, _, _, _⟩) (v := ?v1) rfl (by kernel_rfl) (by kernel_rfl) (by kernel_rfl) (fun _ _ _ h => h) ?y1 hS ?_
  case y1 => first | (refine Or.inr ⟨by rfl, ?_⟩; with_reducible rfl) | (refine Or.inl ⟨by rfl, ?_⟩; intro wS hSw; obtain t0 := (block_cell' ((hSw.block _ (lt_of_block H1.out)).trans H1.out) 0).1; simp [fnv] at t0; go_simp; try with_reducible rfl)
  simp only [Act.put, List.setIfInBounds_toArray, List.set_cons_zero, List.set_cons_succ]
  refine wpAnyH_take (i := 1) (oi := ⟨_, _, _, _, _, _⟩) (v := ?v2) rfl (by kernel_rfl) (by kernel_rfl) (by kernel_rfl) (fun _ _ _ h => h) ?y2 hS ?_
  case y2 => first | (refine Or.inr ⟨by rfl, ?_⟩; with_reducible rfl) | (refine Or.inl ⟨by rfl, ?_⟩; intro wS hSw; obtain t0 := (block_cell' ((hSw.block _ (lt_of_block H1.out)).trans H1.out) 0).1; simp [fnv] at t0; go_simp; try with_reducible rfl)
  simp only [Act.put, List.setIfInBounds_toArray, List.set_cons_zero, List.set_cons_succ]
  refine wpAnyH_take (i := 2) (oi := ⟨_, _, _, _, _, _⟩) (v := ?v3) rfl (by kernel_rfl) (by kernel_rfl) (by kernel_rfl) (fun _ _ _ h => h) ?y3 hS ?_
  case y3 => first | (refine Or.inr ⟨by rfl, ?_⟩; with_reducible rfl) | (refine Or.inl ⟨by rfl, ?_⟩; intro wS hSw; obtain t0 := (block_cell' ((hSw.block _ (lt_of_block H1.out)).trans H1.out) 0).1; simp [fnv] at t0; go_simp; try with_reducible rfl)
  simp only [Act.put, List.setIfInBounds_toArray, List.set_cons_zero, List.set_cons_succ]
  refine wpAnyH_take (i := 3) (oi := ⟨_, _, _, _, _, _⟩) (v := ?v4) rfl (by kernel_rfl) (by kernel_rfl) (by kernel_rfl) (fun _ _ _ h => h) ?y4 hS ?_
  case y4 => first | (refine Or.inr ⟨by rfl, ?_⟩; with_reducible rfl) | (refine Or.inl ⟨by rfl, ?_⟩; intro wS hSw; obtain t0 := (block_cell' ((hSw.block _ (lt_of_block H1.out)).trans H1.out) 0).1; simp [fnv] at t0; go_simp; try with_reducible rfl)
  simp only [Act.put, List.setIfInBounds_toArray, List.set_cons_zero, List.set_cons_succ]
  refine wpAnyH_take (i := 4) (oi := ⟨_, _, _, _, _, _⟩) (v := ?v5) rfl (by kernel_rfl) (by kernel_rfl) (by kernel_rfl) (fun _ _ _ h => h) ?y5 hS ?_
  case y5 => first | (refine Or.inr ⟨by rfl, ?_⟩; with_reducible rfl) | (refine Or.inl ⟨by rfl, ?_⟩; intro wS hSw; obtain t0 := (block_cell' ((hSw.block _ (lt_of_block H1.out)).trans H1.out) 0).1; simp [fnv] at t0; go_simp; try with_reducible rfl)
  simp only [Act.put, List.setIfInBounds_toArray, List.set_cons_zero, List.set_cons_succ]
  refine wpAnyH_take (i := 5) (oi := ⟨_, _, _, _, _, _⟩) (v := ?v6) rfl (by kernel_rfl) (by kernel_rfl) (by kernel_rfl) (fun _ _ _ h => h) ?y6 hS ?_
  case y6 => first | (refine Or.inr ⟨by rfl, ?_⟩; with_reducible rfl) | (refine Or.inl ⟨by rfl, ?_⟩; intro wS hSw; obtain t0 := (block_cell' ((hSw.block _ (lt_of_block H1.out)).trans H1.out) 0).1; simp [fnv] at t0; go_simp; try with_reducible rfl)
  simp only [Act.put, List.setIfInBounds_toArray, List.set_cons_zero, List.set_cons_succ]
  refine wpAnyH_take (i := 6) (oi := ⟨_, _, _, _, _, _⟩) (v := ?v7) rfl (by kernel_rfl) (by kernel_rfl) (by kernel_rfl) (fun _ _ _ h => h) ?y7 hS ?_
  case y7 => first | (refine Or.inr ⟨by rfl, ?_⟩; with_reducible rfl) | (refine Or.inl ⟨by rfl, ?_⟩; intro wS hSw; obtain t0 := (block_cell' ((hSw.block _ (lt_of_block H1.out)).trans H1.out) 0).1; simp [fnv] at t0; go_simp; try with_reducible rfl)
  simp only [Act.put, List.setIfInBounds_toArray, List.set_cons_zero, List.set_cons_succ]
  refine wpAnyH_take (i := 7) (oi := ⟨_, _, _, _, _, _⟩) (v := ?v8) rfl (by kernel_rfl) (by kernel_rfl) (by kernel_rfl) (fun _ _ _ h => h) ?y8 hS ?_
  case y8 => first | (refine Or.inr ⟨by rfl, ?_⟩; with_reducible rfl) | (refine Or.inl ⟨by rfl, ?_⟩; intro wS hSw; obtain t0 := (block_cell' ((hSw.block _ (lt_of_block H1.out)).trans H1.out) 0).1; simp [fnv] at t0; go_simp; try with_reducible rfl)
  simp only [Act.put, List.setIfInBounds_toArray, List.set_cons_zero, List.set_cons_succ]
  refine wpAnyH_take (i := 8) (oi := ⟨_, _, _, _, _, _⟩) (v := ?v9) rfl (by kernel_rfl) (by kernel_rfl) (by kernel_rfl) (fun _ _ _ h => h) ?y9 hS ?_
  case y9 => first | (refine Or.inr ⟨by rfl, ?_⟩; with_reducible rfl) | (refine Or.inl ⟨by rfl, ?_⟩; intro wS hSw; obtain t0 := (block_cell' ((hSw.block _ (lt_of_block H1.out)).trans H1.out) 0).1; simp [fnv] at t0; go_simp; try with_reducible rfl)
  simp only [Act.put, List.setIfInBounds_toArray, List.set_cons_zero, List.set_cons_succ]
  refine wpAnyH_take (i := 9) (oi := ⟨_, _, _, _, _, _⟩) (v := ?v10) rfl (by kernel_rfl) (by kernel_rfl) (by kernel_rfl) (fun _ _ _ h => h) ?y10 hS ?_
  case y10 => first | (refine Or.inr ⟨by rfl, ?_⟩; with_reducible rfl) | (refine Or.inl ⟨by rfl, ?_⟩; intro wS hSw; obtain t0 := (block_cell' ((hSw.block _ (lt_of_block H1.out)).trans H1.out) 0).1; simp [fnv] at t0; go_simp; try with_reducible rfl)
  simp only [Act.put, List.setIfInBounds_toArray, List.set_cons_zero, List.set_cons_succ]
  refine wpAnyH_take (i := 10) (oi := ⟨_, _, _, _, _, _⟩) (v := ?v11) rfl (by kernel_rfl) (by kernel_rfl) (by kernel_rfl) (fun _ _ _ h => h) ?y11 hS ?_
  case y11 => first | (refine Or.inr ⟨by rfl, ?_⟩; with_reducible rfl) | (refine Or.inl ⟨by rfl, ?_⟩; intro wS hSw; obtain t0 := (block_cell' ((hSw.block _ (lt_of_block H1.out)).trans H1.out) 0).1; simp [fnv] at t0; go_simp; try with_reducible rfl)
  simp only [Act.put, List.setIfInBounds_toArray, List.set_cons_zero, List.set_cons_succ]
  refine wpAnyH_take (i := 11) (oi := ⟨_, _, _, _, _, _⟩) (v := ?v12) rfl (by kernel_rfl) (by kernel_rfl) (by kernel_rfl) (fun _ _ _ h => h) ?y12 hS ?_
  case y12 => first | (refine Or.inr ⟨by rfl, ?_⟩; with_reducible rfl) | (refine Or.inl ⟨by rfl, ?_⟩; intro wS hSw; obtain t0 := (block_cell' ((hSw.block _ (lt_of_block H1.out)).trans H1.out) 0).1; simp [fnv] at t0; go_simp; try with_reducible rfl)
  simp only [Act.put, List.setIfInBounds_toArray, List.set_cons_zero, List.set_cons_succ]
  refine wpAnyH_take (i := 12) (oi := ⟨_, _, _, _, _, _⟩) (v := ?v13) rfl (by kernel_rfl) (by kernel_rfl) (by kernel_rfl) (fun _ _ _ h => h) ?y13 hS ?_
  case y13 => first | (refine Or.inr ⟨by rfl, ?_⟩; with_reducible rfl) | (refine Or.inl ⟨by rfl, ?_⟩; intro wS hSw; obtain t0 := (block_cell' ((hSw.block _ (lt_of_block H1.out)).trans H1.out) 0).1; simp [fnv] at t0; go_simp; try with_reducible rfl)
  simp only [Act.put, List.setIfInBounds_toArray, List.set_cons_zero, List.set_cons_succ]
  refine wpAnyH_take (i := 13) (oi := ⟨_, _, _, _, _, _⟩) (v := ?v14) rfl (by kernel_rfl) (by kernel_rfl) (by kernel_rfl) (fun _ _ _ h => h) ?y14 hS ?_
  case y14 => first | (refine Or.inr ⟨by rfl, ?_⟩; with_reducible rfl) | (refine Or.inl ⟨by rfl, ?_⟩; intro wS hSw; obtain t0 := (block_cell' ((hSw.block _ (lt_of_block H1.out)).trans H1.out) 0).1; simp [fnv] at t0; go_simp; try with_reducible rfl)
  simp only [Act.put, List.setIfInBounds_toArray, List.set_cons_zero, List.set_cons_succ]
  refine wpAnyH_take (i := 14) (oi := ⟨_, _, _, _, _, _⟩) (v := ?v15) rfl (by kernel_rfl) (by kernel_rfl) (by kernel_rfl) (fun _ _ _ h => h) ?y15 hS ?_
  case y15 => first | (refine Or.inr ⟨by rfl, ?_⟩; with_reducible rfl) | (refine Or.inl ⟨by rfl, ?_⟩; intro wS hSw; obtain t0 := (block_cell' ((hSw.block _ (lt_of_block H1.out)).trans H1.out) 0).1; simp [fnv] at t0; go_simp; try with_reducible rfl)
  simp only [Act.put, List.setIfInBounds_toArray, List.set_cons_zero, List.set_cons_succ]
  refine wpAnyH_take (i := 15) (oi := ⟨_, _, _, _, _, _⟩) (v := ?v16) rfl (by kernel_rfl) (by kernel_rfl) (by kernel_rfl) (fun _ _ _ h => h) ?y16 hS ?_
  case y16 => first | (refine Or.inr ⟨by rfl, ?_⟩; with_reducible rfl) | (refine Or.inl ⟨by rfl, ?_⟩; intro wS hSw; obtain t0 := (block_cell' ((hSw.block _ (lt_of_block H1.out)).trans H1.out) 0).1; simp [fnv] at t0; go_simp; try with_reducible rfl)
  simp only [Act.put, List.setIfInBounds_toArray, List.set_cons_zero, List.set_cons_succ]
  refine wpAnyH_take (i := 16) (oi := ⟨_, _, _, _, _, _⟩) (v := ?v17) rfl (by kernel_rfl) (by kernel_rfl) (by kernel_rfl) (fun _ _ _ h => h) ?y17 hS ?_
  case y17 => first | (refine Or.inr ⟨by rfl, ?_⟩; with_reducible rfl) | (refine Or.inl ⟨by rfl, ?_⟩; intro wS hSw; obtain t0 := (block_cell' ((hSw.block _ (lt_of_block H1.out)).trans H1.out) 0).1; simp [fnv] at t0; go_simp; try with_reducible rfl)
  simp only [Act.put, List.setIfInBounds_toArray, List.set_cons_zero, List.set_cons_succ]
  refine wpAnyH_take (i := 17) (oi := ⟨_, _, _, _, _, _⟩) (v := ?v18) rfl (by kernel_rfl) (by kernel_rfl) (by kernel_rfl) (fun _ _ _ h => h) ?y18 hS ?_
  case y18 => first | (refine Or.inr ⟨by rfl, ?_⟩; with_reducible rfl) | (refine Or.inl ⟨by rfl, ?_⟩; intro wS hSw; obtain t0 := (block_cell' ((hSw.block _ (lt_of_block H1.out)).trans H1.out) 0).1; simp [fnv] at t0; go_simp; try with_reducible rfl)
  simp only [Act.put, List.setIfInBounds_toArray, List.set_cons_zero, List.set_cons_succ]
  refine wpAnyH_take (i := 18) (oi := ⟨_, _, _, _, _, _⟩) (v := ?v19) rfl (by kernel_rfl) (by kernel_rfl) (by kernel_rfl) (fun _ _ _ h => h) ?y19 hS ?_
  case y19 => first | (refine Or.inr ⟨by rfl, ?_⟩; with_reducible rfl) | (refine Or.inl ⟨by rfl, ?_⟩; intro wS hSw; obtain t0 := (block_cell' ((hSw.block _ (lt_of_block H1.out)).trans H1.out) 0).1; simp [fnv] at t0; go_simp; try with_reducible rfl)
  simp only [Act.put, List.setIfInBounds_toArray, List.set_cons_zero, List.set_cons_succ]
  refine wpAnyH_take (i := 19) (oi := ⟨_, _, _, _, _, _⟩) (v := ?v20) rfl (by kernel_rfl) (by kernel_rfl) (by kernel_rfl) (fun _ _ _ h => h) ?y20 hS ?_
  case y20 => first | (refine Or.inr ⟨by rfl, ?_⟩; with_reducible rfl) | (refine Or.inl ⟨by rfl, ?_⟩; intro wS hSw; obtain t0 := (block_cell' ((hSw.block _ (lt_of_block H1.out)).trans H1.out) 0).1; simp [fnv] at t0; go_simp; try with_reducible rfl)
  simp only [Act.put, List.setIfInBounds_toArray, List.set_cons_zero, List.set_cons_succ]
  refine wpAnyH_take (i := 20) (oi := ⟨_, _, _, _, _, _⟩) (v := ?v21) rfl (by kernel_rfl) (by kernel_rfl) (by kernel_rfl) (fun _ _ _ h => h) ?y21 hS ?_
  case y21 => first | (refine Or.inr ⟨by rfl, ?_⟩; with_reducible rfl) | (refine Or.inl ⟨by rfl, ?_⟩; intro wS hSw; obtain t0 := (block_cell' ((hSw.block _ (lt_of_block H1.out)).trans H1.out) 0).1; simp [fnv] at t0; go_simp; try with_reducible rfl)
  simp only [Act.put, List.setIfInBounds_toArray, List.set_cons_zero, List.set_cons_succ]
  refine wpAnyH_done (by kernel_rfl) ?_ _
  have HS := Lib.hid hS
  clear hS
  go_wp2
  go_ret
  exact ⟨ret_bool (by first | done | rfl | (rw [← HQ.out]; done) | (rw [← HQ.out]; simp)), HB.out.trans (HS.out.mono HB.out.size)⟩
set_option maxRecDepth 100000 in
set_option maxHeartbeats 4000000 in
theorem name_long (s : ByteArray) (w : World) (h0 : s.size ≠ 0) (h1 : ¬ s.size ≤ 32) : Calls Tryz.prog 94 #[.string s] w fun e w' => e = .returned (.bool (false)) ∧ Below w.heap.size w w' := by
  have qe := str_empty s
  rw [show (s.size == 0) = false by simpa using h0] at qe
  have d1 : decide ((s.size : Int) ≤ (32 : Int)) = false := by simpa using (by omega : ¬ (s.size : Int) ≤ 32)
  obtain ⟨q, hq⟩ : ∃ q, q = false := ⟨_, rfl⟩
  have HQ := Lib.hid hq.symm
  rw [← hq]
  clear hq
  have a0 := heap_alloc_new w (.cells #[.nilFunc] 216)
  obtain ⟨a1, a2⟩ := block_cell' a0 0
  simp only [List.getElem?_toArray, List.getElem?_cons_zero] at a1
  have A0 := Lib.hid a0
  clear a0
  go_enter Tryz.func94, Tryz.ntmps94
  go_upto_region 2 with (fail)
  refine gen_world (S := fun u => Below w.heap.size w u ∧ u.heap[w.heap.size]? = some (.cells #[fnv 121] 216 (0, 0))) (one_new w _) (fun u hu => ?_)
  obtain ⟨hb, h1⟩ := hu
  have HB := Lib.hid hb
  have H1 := Lib.hid h1
  obtain ⟨X, hX⟩ : ∃ X, X = w.heap.size := ⟨_, rfl⟩
  rw [← hX] at H1 ⊢
  clear hb h1 hX a1 a2 A0
  go_upto_region 3 with (fail)
  refine wp_region_held_drew (S := fun z => Below u.heap.size u z) (by kernel_rfl) (Below.refl u.heap.size u).drew (fun hS => ?_)
  refine wpAnyH_take (i := 0) (oi := ⟨_, _, _, _, _, _⟩) (v := ?v22) rfl (by kernel_rfl) (by kernel_rfl) (by kernel_rfl) (fun _ _ _ h => h) ?y22 hS ?_
  case y22 => first | (refine Or.inr ⟨by rfl, ?_⟩; with_reducible rfl) | (refine Or.inl ⟨by rfl, ?_⟩; intro wS hSw; obtain t0 := (block_cell' ((hSw.block _ (lt_of_block H1.out)).trans H1.out) 0).1; simp [fnv] at t0; go_simp; try with_reducible rfl)
  simp only [Act.put, List.setIfInBounds_toArray, List.set_cons_zero, List.set_cons_succ]
  refine wpAnyH_take (i := 1) (oi := ⟨_, _, _, _, _, _⟩) (v := ?v23) rfl (by kernel_rfl) (by kernel_rfl) (by kernel_rfl) (fun _ _ _ h => h) ?y23 hS ?_
  case y23 => first | (refine Or.inr ⟨by rfl, ?_⟩; with_reducible rfl) | (refine Or.inl ⟨by rfl, ?_⟩; intro wS hSw; obtain t0 := (block_cell' ((hSw.block _ (lt_of_block H1.out)).trans H1.out) 0).1; simp [fnv] at t0; go_simp; try with_reducible rfl)
  simp only [Act.put, List.setIfInBounds_toArray, List.set_cons_zero, List.set_cons_succ]
  refine wpAnyH_take (i := 2) (oi := ⟨_, _, _, _, _, _⟩) (v := ?v24) rfl (by kernel_rfl) (by kernel_rfl) (by kernel_rfl) (fun _ _ _ h => h) ?y24 hS ?_
  case y24 => first | (refine Or.inr ⟨by rfl, ?_⟩; with_reducible rfl) | (refine Or.inl ⟨by rfl, ?_⟩; intro wS hSw; obtain t0 := (block_cell' ((hSw.block _ (lt_of_block H1.out)).trans H1.out) 0).1; simp [fnv] at t0; go_simp; try with_reducible rfl)
  simp only [Act.put, List.setIfInBounds_toArray, List.set_cons_zero, List.set_cons_succ]
  refine wpAnyH_take (i := 3) (oi := ⟨_, _, _, _, _, _⟩) (v := ?v25) rfl (by kernel_rfl) (by kernel_rfl) (by kernel_rfl) (fun _ _ _ h => h) ?y25 hS ?_
  case y25 => first | (refine Or.inr ⟨by rfl, ?_⟩; with_reducible rfl) | (refine Or.inl ⟨by rfl, ?_⟩; intro wS hSw; obtain t0 := (block_cell' ((hSw.block _ (lt_of_block H1.out)).trans H1.out) 0).1; simp [fnv] at t0; go_simp; try with_reducible rfl)
  simp only [Act.put, List.setIfInBounds_toArray, List.set_cons_zero, List.set_cons_succ]
  refine wpAnyH_take (i := 4) (oi := ⟨_, _, _, _, _, _⟩) (v := ?v26) rfl (by kernel_rfl) (by kernel_rfl) (by kernel_rfl) (fun _ _ _ h => h) ?y26 hS ?_
  case y26 => first | (refine Or.inr ⟨by rfl, ?_⟩; with_reducible rfl) | (refine Or.inl ⟨by rfl, ?_⟩; intro wS hSw; obtain t0 := (block_cell' ((hSw.block _ (lt_of_block H1.out)).trans H1.out) 0).1; simp [fnv] at t0; go_simp; try with_reducible rfl)
  simp only [Act.put, List.setIfInBounds_toArray, List.set_cons_zero, List.set_cons_succ]
  refine wpAnyH_take (i := 5) (oi := ⟨_, _, _, _, _, _⟩) (v := ?v27) rfl (by kernel_rfl) (by kernel_rfl) (by kernel_rfl) (fun _ _ _ h => h) ?y27 hS ?_
  case y27 => first | (refine Or.inr ⟨by rfl, ?_⟩; with_reducible rfl) | (refine Or.inl ⟨by rfl, ?_⟩; intro wS hSw; obtain t0 := (block_cell' ((hSw.block _ (lt_of_block H1.out)).trans H1.out) 0).1; simp [fnv] at t0; go_simp; try with_reducible rfl)
  simp only [Act.put, List.setIfInBounds_toArray, List.set_cons_zero, List.set_cons_succ]
  refine wpAnyH_take (i := 6) (oi := ⟨_, _, _, _, _, _⟩) (v := ?v28) rfl (by kernel_rfl) (by kernel_rfl) (by kernel_rfl) (fun _ _ _ h => h) ?y28 hS ?_
  case y28 => first | (refine Or.inr ⟨by rfl, ?_⟩; with_reducible rfl) | (refine Or.inl ⟨by rfl, ?_⟩; intro wS hSw; obtain t0 := (block_cell' ((hSw.block _ (lt_of_block H1.out)).trans H1.out) 0).1; simp [fnv] at t0; go_simp; try with_reducible rfl)
  simp only [Act.put, List.setIfInBounds_toArray, List.set_cons_zero, List.set_cons_succ]
  refine wpAnyH_take (i := 7) (oi := ⟨_, _, _, _, _, _⟩) (v := ?v29) rfl (by kernel_rfl) (by kernel_rfl) (by kernel_rfl) (fun _ _ _ h => h) ?y29 hS ?_
  case y29 => first | (refine Or.inr ⟨by rfl, ?_⟩; with_reducible rfl) | (refine Or.inl ⟨by rfl, ?_⟩; intro wS hSw; obtain t0 := (block_cell' ((hSw.block _ (lt_of_block H1.out)).trans H1.out) 0).1; simp [fnv] at t0; go_simp; try with_reducible rfl)
  simp only [Act.put, List.setIfInBounds_toArray, List.set_cons_zero, List.set_cons_succ]
  refine wpAnyH_take (i := 8) (oi := ⟨_, _, _, _, _, _⟩) (v := ?v30) rfl (by kernel_rfl) (by kernel_rfl) (by kernel_rfl) (fun _ _ _ h => h) ?y30 hS ?_
  case y30 => first | (refine Or.inr ⟨by rfl, ?_⟩; with_reducible rfl) | (refine Or.inl ⟨by rfl, ?_⟩; intro wS hSw; obtain t0 := (block_cell' ((hSw.block _ (lt_of_block H1.out)).trans H1.out) 0).1; simp [fnv] at t0; go_simp; try with_reducible rfl)
  simp only [Act.put, List.setIfInBounds_toArray, List.set_cons_zero, List.set_cons_succ]
  refine wpAnyH_take (i := 9) (oi := ⟨_, _, _, _, _, _⟩) (v := ?v31) rfl (by kernel_rfl) (by kernel_rfl) (by kernel_rfl) (fun _ _ _ h => h) ?y31 hS ?_
  case y31 => first | (refine Or.inr ⟨by rfl, ?_⟩; with_reducible rfl) | (refine Or.inl ⟨by rfl, ?_⟩; intro wS hSw; obtain t0 := (block_cell' ((hSw.block _ (lt_of_block H1.out)).trans H1.out) 0).1; simp [fnv] at t0; go_simp; try with_reducible rfl)
  simp only [Act.put, List.setIfInBounds_toArray, List.set_cons_zero, List.set_cons_succ]
  refine wpAnyH_take (i := 10) (oi := ⟨_, _, _, _, _, _⟩) (v := ?v32) rfl (by kernel_rfl) (by kernel_rfl) (by kernel_rfl) (fun _ _ _ h => h) ?y32 hS ?_
  case y32 => first | (refine Or.inr ⟨by rfl, ?_⟩; with_reducible rfl) | (refine Or.inl ⟨by rfl, ?_⟩; intro wS hSw; obtain t0 := (block_cell' ((hSw.block _ (lt_of_block H1.out)).trans H1.out) 0).1; simp [fnv] at t0; go_simp; try with_reducible rfl)
  simp only [Act.put, List.setIfInBounds_toArray, List.set_cons_zero, List.set_cons_succ]
  refine wpAnyH_take (i := 11) (oi := ⟨_, _, _, _, _, _⟩) (v := ?v33) rfl (by kernel_rfl) (by kernel_rfl) (by kernel_rfl) (fun _ _ _ h => h) ?y33 hS ?_
  case y33 => first | (refine Or.inr ⟨by rfl, ?_⟩; with_reducible rfl) | (refine Or.inl ⟨by rfl, ?_⟩; intro wS hSw; obtain t0 := (block_cell' ((hSw.block _ (lt_of_block H1.out)).trans H1.out) 0).1; simp [fnv] at t0; go_simp; try with_reducible rfl)
  simp only [Act.put, List.setIfInBounds_toArray, List.set_cons_zero, List.set_cons_succ]
  refine wpAnyH_take (i := 12) (oi := ⟨_, _, _, _, _, _⟩) (v := ?v34) rfl (by kernel_rfl) (by kernel_rfl) (by kernel_rfl) (fun _ _ _ h => h) ?y34 hS ?_
  case y34 => first | (refine Or.inr ⟨by rfl, ?_⟩; with_reducible rfl) | (refine Or.inl ⟨by rfl, ?_⟩; intro wS hSw; obtain t0 := (block_cell' ((hSw.block _ (lt_of_block H1.out)).trans H1.out) 0).1; simp [fnv] at t0; go_simp; try with_reducible rfl)
  simp only [Act.put, List.setIfInBounds_toArray, List.set_cons_zero, List.set_cons_succ]
  refine wpAnyH_take (i := 13) (oi := ⟨_, _, _, _, _, _⟩) (v := ?v35) rfl (by kernel_rfl) (by kernel_rfl) (by kernel_rfl) (fun _ _ _ h => h) ?y35 hS ?_
  case y35 => first | (refine Or.inr ⟨by rfl, ?_⟩; with_reducible rfl) | (refine Or.inl ⟨by rfl, ?_⟩; intro wS hSw; obtain t0 := (block_cell' ((hSw.block _ (lt_of_block H1.out)).trans H1.out) 0).1; simp [fnv] at t0; go_simp; try with_reducible rfl)
  simp only [Act.put, List.setIfInBounds_toArray, List.set_cons_zero, List.set_cons_succ]
  refine wpAnyH_take (i := 14) (oi := ⟨_, _, _, _, _, _⟩) (v := ?v36) rfl (by kernel_rfl) (by kernel_rfl) (by kernel_rfl) (fun _ _ _ h => h) ?y36 hS ?_
  case y36 => first | (refine Or.inr ⟨by rfl, ?_⟩; with_reducible rfl) | (refine Or.inl ⟨by rfl, ?_⟩; intro wS hSw; obtain t0 := (block_cell' ((hSw.block _ (lt_of_block H1.out)).trans H1.out) 0).1; simp [fnv] at t0; go_simp; try with_reducible rfl)
  simp only [Act.put, List.setIfInBounds_toArray, List.set_cons_zero, List.set_cons_succ]
  refine wpAnyH_take (i := 15) (oi := ⟨_, _, _, _, _, _⟩) (v := ?v37) rfl (by kernel_rfl) (by kernel_rfl) (by kernel_rfl) (fun _ _ _ h => h) ?y37 hS ?_
  case y37 => first | (refine Or.inr ⟨by rfl, ?_⟩; with_reducible rfl) | (refine Or.inl ⟨by rfl, ?_⟩; intro wS hSw; obtain t0 := (block_cell' ((hSw.block _ (lt_of_block H1.out)).trans H1.out) 0).1; simp [fnv] at t0; go_simp; try with_reducible rfl)
  simp only [Act.put, List.setIfInBounds_toArray, List.set_cons_zero, List.set_cons_succ]
  refine wpAnyH_take (i := 16) (oi := ⟨_, _, _, _, _, _⟩) (v := ?v38) rfl (by kernel_rfl) (by kernel_rfl) (by kernel_rfl) (fun _ _ _ h => h) ?y38 hS ?_
  case y38 => first | (refine Or.inr ⟨by rfl, ?_⟩; with_reducible rfl) | (refine Or.inl ⟨by rfl, ?_⟩; intro wS hSw; obtain t0 := (block_cell' ((hSw.block _ (lt_of_block H1.out)).trans H1.out) 0).1; simp [fnv] at t0; go_simp; try with_reducible rfl)
  simp only [Act.put, List.setIfInBounds_toArray, List.set_cons_zero, List.set_cons_succ]
  refine wpAnyH_take (i := 17) (oi := ⟨_, _, _, _, _, _⟩) (v := ?v39) rfl (by kernel_rfl) (by kernel_rfl) (by kernel_rfl) (fun _ _ _ h => h) ?y39 hS ?_
  case y39 => first | (refine Or.inr ⟨by rfl, ?_⟩; with_reducible rfl) | (refine Or.inl ⟨by rfl, ?_⟩; intro wS hSw; obtain t0 := (block_cell' ((hSw.block _ (lt_of_block H1.out)).trans H1.out) 0).1; simp [fnv] at t0; go_simp; try with_reducible rfl)
  simp only [Act.put, List.setIfInBounds_toArray, List.set_cons_zero, List.set_cons_succ]
  refine wpAnyH_take (i := 18) (oi := ⟨_, _, _, _, _, _⟩) (v := ?v40) rfl (by kernel_rfl) (by kernel_rfl) (by kernel_rfl) (fun _ _ _ h => h) ?y40 hS ?_
  case y40 => first | (refine Or.inr ⟨by rfl, ?_⟩; with_reducible rfl) | (refine Or.inl ⟨by rfl, ?_⟩; intro wS hSw; obtain t0 := (block_cell' ((hSw.block _ (lt_of_block H1.out)).trans H1.out) 0).1; simp [fnv] at t0; go_simp; try with_reducible rfl)
  simp only [Act.put, List.setIfInBounds_toArray, List.set_cons_zero, List.set_cons_succ]
  refine wpAnyH_take (i := 19) (oi := ⟨_, _, _, _, _, _⟩) (v := ?v41) rfl (by kernel_rfl) (by kernel_rfl) (by kernel_rfl) (fun _ _ _ h => h) ?y41 hS ?_
  case y41 => first | (refine Or.inr ⟨by rfl, ?_⟩; with_reducible rfl) | (refine Or.inl ⟨by rfl, ?_⟩; intro wS hSw; obtain t0 := (block_cell' ((hSw.block _ (lt_of_block H1.out)).trans H1.out) 0).1; simp [fnv] at t0; go_simp; try with_reducible rfl)
  simp only [Act.put, List.setIfInBounds_toArray, List.set_cons_zero, List.set_cons_succ]
  refine wpAnyH_take (i := 20) (oi := ⟨_, _, _, _, _, _⟩) (v := ?v42) rfl (by kernel_rfl) (by kernel_rfl) (by kernel_rfl) (fun _ _ _ h => h) ?y42 hS ?_
  case y42 => first | (refine Or.inr ⟨by rfl, ?_⟩; with_reducible rfl) | (refine Or.inl ⟨by rfl, ?_⟩; intro wS hSw; obtain t0 := (block_cell' ((hSw.block _ (lt_of_block H1.out)).trans H1.out) 0).1; simp [fnv] at t0; go_simp; try with_reducible rfl)
  simp only [Act.put, List.setIfInBounds_toArray, List.set_cons_zero, List.set_cons_succ]
  refine wpAnyH_done (by kernel_rfl) ?_ _
  have HS := Lib.hid hS
  clear hS
  go_wp2
  go_ret
  exact ⟨ret_bool (by first | done | rfl | (rw [← HQ.out]; done) | (rw [← HQ.out]; simp)), HB.out.trans (HS.out.mono HB.out.size)⟩
set_option maxRecDepth 100000 in
set_option maxHeartbeats 4000000 in
theorem name_odd (s : ByteArray) (w : World) (h0 : s.size ≠ 0) (h1 : s.size ≤ 32) (h2 : ¬ Lib.idxFunc oddR true s < 0) : Calls Tryz.prog 94 #[.string s] w fun e w' => e = .returned (.bool (false)) ∧ Below w.heap.size w w' := by
  have qe := str_empty s
  rw [show (s.size == 0) = false by simpa using h0] at qe
  have d1 : decide ((s.size : Int) ≤ (32 : Int)) = true := by simpa using (by omega : (s.size : Int) ≤ 32)
  obtain ⟨k, hk⟩ : ∃ k, k = Lib.idxFunc oddR true s := ⟨_, rfl⟩
  have d2 : decide (k < 0) = false := by rw [hk]; simpa using h2
  obtain ⟨q, hq⟩ : ∃ q, q = false := ⟨_, rfl⟩
  have HQ := Lib.hid hq.symm
  rw [← hq]
  clear hq
  have hgi : ∀ w, (Instr.index 9 (.string s) (.int .i64 0)).run Tryz.prog w = .ok (.int .u8 (s.get! 0).toNat) w := by
    have hb : 0 < s.size := by omega
    intro w
    rw [run_index_string _ _ _ _ _ Tryz.underlying9, dif_pos ⟨Int.le_refl _, by omega⟩]
    have : s[(0 : Int).toNat]'(by simpa using hb) = s.get! 0 := by simp [ByteArray.get!, getElem!_pos, hb]; rfl
    rw [this]
  have HIx := Lib.hid (show ∀ (b : Nat) (wq : World), wq.cell? ⟨b, 0, none⟩ = some (fnv 121) → Calls Tryz.prog 123 #[.string s, .func (.func 122) #[] #[.pointer (some ⟨b, 0, none⟩)]] wq fun e w' => e = .returned (.int .i64 k) ∧ Below wq.heap.size wq w' from fun b wq h => hk ▸ IndexFunc_any b s wq h)
  clear hk h2
  have a0 := heap_alloc_new w (.cells #[.nilFunc] 216)
  obtain ⟨a1, a2⟩ := block_cell' a0 0
  simp only [List.getElem?_toArray, List.getElem?_cons_zero] at a1
  have A0 := Lib.hid a0
  clear a0
  go_enter Tryz.func94, Tryz.ntmps94
  go_upto_region 2 with (fail)
  refine gen_world (S := fun u => Below w.heap.size w u ∧ u.heap[w.heap.size]? = some (.cells #[fnv 121] 216 (0, 0))) (one_new w _) (fun u hu => ?_)
  obtain ⟨hb, h1⟩ := hu
  have HB := Lib.hid hb
  have H1 := Lib.hid h1
  obtain ⟨X, hX⟩ : ∃ X, X = w.heap.size := ⟨_, rfl⟩
  rw [← hX] at H1 ⊢
  clear hb h1 hX a1 a2 A0
  go_upto_region 3 with (fail)
  refine wp_region_held_drew (S := fun z => Below u.heap.size u z) (by kernel_rfl) (Below.refl u.heap.size u).drew (fun hS => ?_)
  refine wpAnyH_take (i := 0) (oi := ⟨_, _, _, _, _, _⟩) (v := ?v43) rfl (by kernel_rfl) (by kernel_rfl) (by kernel_rfl) (fun _ _ _ h => h) ?y43 hS ?_
  case y43 => first | (refine Or.inr ⟨by rfl, ?_⟩; with_reducible rfl) | (refine Or.inl ⟨by rfl, ?_⟩; intro wS hSw; obtain t0 := (block_cell' ((hSw.block _ (lt_of_block H1.out)).trans H1.out) 0).1; simp [fnv] at t0; go_simp; try with_reducible rfl)
  simp only [Act.put, List.setIfInBounds_toArray, List.set_cons_zero, List.set_cons_succ]
  refine wpAnyH_take (i := 1) (oi := ⟨_, _, _, _, _, _⟩) (v := ?v44) rfl (by kernel_rfl) (by kernel_rfl) (by kernel_rfl) (fun _ _ _ h => h) ?y44 hS ?_
  case y44 => first | (refine Or.inr ⟨by rfl, ?_⟩; with_reducible rfl) | (refine Or.inl ⟨by rfl, ?_⟩; intro wS hSw; obtain t0 := (block_cell' ((hSw.block _ (lt_of_block H1.out)).trans H1.out) 0).1; simp [fnv] at t0; go_simp; try with_reducible rfl)
  simp only [Act.put, List.setIfInBounds_toArray, List.set_cons_zero, List.set_cons_succ]
  refine wpAnyH_take (i := 2) (oi := ⟨_, _, _, _, _, _⟩) (v := ?v45) rfl (by kernel_rfl) (by kernel_rfl) (by kernel_rfl) (fun _ _ _ h => h) ?y45 hS ?_
  case y45 => first | (refine Or.inr ⟨by rfl, ?_⟩; with_reducible rfl) | (refine Or.inl ⟨by rfl, ?_⟩; intro wS hSw; obtain t0 := (block_cell' ((hSw.block _ (lt_of_block H1.out)).trans H1.out) 0).1; simp [fnv] at t0; go_simp; try with_reducible rfl)
  simp only [Act.put, List.setIfInBounds_toArray, List.set_cons_zero, List.set_cons_succ]
  refine wpAnyH_take (i := 3) (oi := ⟨_, _, _, _, _, _⟩) (v := ?v46) rfl (by kernel_rfl) (by kernel_rfl) (by kernel_rfl) (fun _ _ _ h => h) ?y46 hS ?_
  case y46 => first | (refine Or.inr ⟨by rfl, ?_⟩; with_reducible rfl) | (refine Or.inl ⟨by rfl, ?_⟩; intro wS hSw; obtain t0 := (block_cell' ((hSw.block _ (lt_of_block H1.out)).trans H1.out) 0).1; simp [fnv] at t0; go_simp; try with_reducible rfl)
  simp only [Act.put, List.setIfInBounds_toArray, List.set_cons_zero, List.set_cons_succ]
  refine wpAnyH_take (i := 4) (oi := ⟨_, _, _, _, _, _⟩) (v := ?v47) rfl (by kernel_rfl) (by kernel_rfl) (by kernel_rfl) (fun _ _ _ h => h) ?y47 hS ?_
  case y47 => first | (refine Or.inr ⟨by rfl, ?_⟩; with_reducible rfl) | (refine Or.inl ⟨by rfl, ?_⟩; intro wS hSw; obtain t0 := (block_cell' ((hSw.block _ (lt_of_block H1.out)).trans H1.out) 0).1; simp [fnv] at t0; go_simp; try with_reducible rfl)
  simp only [Act.put, List.setIfInBounds_toArray, List.set_cons_zero, List.set_cons_succ]
  refine wpAnyH_take (i := 5) (oi := ⟨_, _, _, _, _, _⟩) (v := ?v48) rfl (by kernel_rfl) (by kernel_rfl) (by kernel_rfl) (fun _ _ _ h => h) ?y48 hS ?_
  case y48 => first | (refine Or.inr ⟨by rfl, ?_⟩; with_reducible rfl) | (refine Or.inl ⟨by rfl, ?_⟩; intro wS hSw; obtain t0 := (block_cell' ((hSw.block _ (lt_of_block H1.out)).trans H1.out) 0).1; simp [fnv] at t0; go_simp; try with_reducible rfl)
  simp only [Act.put, List.setIfInBounds_toArray, List.set_cons_zero, List.set_cons_succ]
  refine wpAnyH_take (i := 6) (oi := ⟨_, _, _, _, _, _⟩) (v := ?v49) rfl (by kernel_rfl) (by kernel_rfl) (by kernel_rfl) (fun _ _ _ h => h) ?y49 hS ?_
  case y49 => first | (refine Or.inr ⟨by rfl, ?_⟩; with_reducible rfl) | (refine Or.inl ⟨by rfl, ?_⟩; intro wS hSw; obtain t0 := (block_cell' ((hSw.block _ (lt_of_block H1.out)).trans H1.out) 0).1; simp [fnv] at t0; go_simp; try with_reducible rfl)
  simp only [Act.put, List.setIfInBounds_toArray, List.set_cons_zero, List.set_cons_succ]
  refine wpAnyH_take (i := 7) (oi := ⟨_, _, _, _, _, _⟩) (v := ?v50) rfl (by kernel_rfl) (by kernel_rfl) (by kernel_rfl) (fun _ _ _ h => h) ?y50 hS ?_
  case y50 => first | (refine Or.inr ⟨by rfl, ?_⟩; with_reducible rfl) | (refine Or.inl ⟨by rfl, ?_⟩; intro wS hSw; obtain t0 := (block_cell' ((hSw.block _ (lt_of_block H1.out)).trans H1.out) 0).1; simp [fnv] at t0; go_simp; try with_reducible rfl)
  simp only [Act.put, List.setIfInBounds_toArray, List.set_cons_zero, List.set_cons_succ]
  refine wpAnyH_take (i := 8) (oi := ⟨_, _, _, _, _, _⟩) (v := ?v51) rfl (by kernel_rfl) (by kernel_rfl) (by kernel_rfl) (fun _ _ _ h => h) ?y51 hS ?_
  case y51 => first | (refine Or.inr ⟨by rfl, ?_⟩; with_reducible rfl) | (refine Or.inl ⟨by rfl, ?_⟩; intro wS hSw; obtain t0 := (block_cell' ((hSw.block _ (lt_of_block H1.out)).trans H1.out) 0).1; simp [fnv] at t0; go_simp; try with_reducible rfl)
  simp only [Act.put, List.setIfInBounds_toArray, List.set_cons_zero, List.set_cons_succ]
  refine wpAnyH_take (i := 9) (oi := ⟨_, _, _, _, _, _⟩) (v := ?v52) rfl (by kernel_rfl) (by kernel_rfl) (by kernel_rfl) (fun _ _ _ h => h) ?y52 hS ?_
  case y52 => first | (refine Or.inr ⟨by rfl, ?_⟩; with_reducible rfl) | (refine Or.inl ⟨by rfl, ?_⟩; intro wS hSw; obtain t0 := (block_cell' ((hSw.block _ (lt_of_block H1.out)).trans H1.out) 0).1; simp [fnv] at t0; go_simp; try with_reducible rfl)
  simp only [Act.put, List.setIfInBounds_toArray, List.set_cons_zero, List.set_cons_succ]
  refine wpAnyH_ready (rs := [10]) (by kernel_rfl) (by simp) ?_
  refine AllReadyH.cons (o := ⟨_, _, _, _, _, _⟩) rfl (fun K hK => ?_) AllReadyH.nil
  go_simp
  refine (HIx.out X _ (by have := (block_cell' ((hS.block _ (lt_of_block H1.out)).trans H1.out) 0).1; simpa using this)).mono ?_
  rintro e z ⟨rfl, hb⟩
  go_wp2_with fail
  refine hK.out _ _ (hS.trans (hb.mono hS.size)) (fun hS2 => ?_)
  have HS := Lib.hid (hS.trans (hb.mono hS.size))
  clear hK K hS hb hS2
  have hS := HS.out
  try simp only [Act.put, List.setIfInBounds_toArray, List.set_cons_zero, List.set_cons_succ]
  refine wpAnyH_take (i := 11) (oi := ⟨_, _, _, _, _, _⟩) (v := ?v53) rfl (by kernel_rfl) (by kernel_rfl) (by kernel_rfl) (fun _ _ _ h => h) ?y53 hS ?_
  case y53 => first | (refine Or.inr ⟨by rfl, ?_⟩; with_reducible rfl) | (refine Or.inl ⟨by rfl, ?_⟩; intro wS hSw; obtain t0 := (block_cell' ((hSw.block _ (lt_of_block H1.out)).trans H1.out) 0).1; simp [fnv] at t0; go_simp; try with_reducible rfl)
  simp only [Act.put, List.setIfInBounds_toArray, List.set_cons_zero, List.set_cons_succ]
  refine wpAnyH_take (i := 12) (oi := ⟨_, _, _, _, _, _⟩) (v := ?v54) rfl (by kernel_rfl) (by kernel_rfl) (by kernel_rfl) (fun _ _ _ h => h) ?y54 hS ?_
  case y54 => first | (refine Or.inr ⟨by rfl, ?_⟩; with_reducible rfl) | (refine Or.inl ⟨by rfl, ?_⟩; intro wS hSw; obtain t0 := (block_cell' ((hSw.block _ (lt_of_block H1.out)).trans H1.out) 0).1; simp [fnv] at t0; go_simp; try with_reducible rfl)
  simp only [Act.put, List.setIfInBounds_toArray, List.set_cons_zero, List.set_cons_succ]
  refine wpAnyH_take (i := 13) (oi := ⟨_, _, _, _, _, _⟩) (v := ?v55) rfl (by kernel_rfl) (by kernel_rfl) (by kernel_rfl) (fun _ _ _ h => h) ?y55 hS ?_
  case y55 => first | (refine Or.inr ⟨by rfl, ?_⟩; with_reducible rfl) | (refine Or.inl ⟨by rfl, ?_⟩; intro wS hSw; obtain t0 := (block_cell' ((hSw.block _ (lt_of_block H1.out)).trans H1.out) 0).1; simp [fnv] at t0; go_simp; try with_reducible rfl)
  simp only [Act.put, List.setIfInBounds_toArray, List.set_cons_zero, List.set_cons_succ]
  refine wpAnyH_take (i := 14) (oi := ⟨_, _, _, _, _, _⟩) (v := ?v56) rfl (by kernel_rfl) (by kernel_rfl) (by kernel_rfl) (fun _ _ _ h => h) ?y56 hS ?_
  case y56 => first | (refine Or.inr ⟨by rfl, ?_⟩; with_reducible rfl) | (refine Or.inl ⟨by rfl, ?_⟩; intro wS hSw; obtain t0 := (block_cell' ((hSw.block _ (lt_of_block H1.out)).trans H1.out) 0).1; simp [fnv] at t0; go_simp; try with_reducible rfl)
  simp only [Act.put, List.setIfInBounds_toArray, List.set_cons_zero, List.set_cons_succ]
  refine wpAnyH_take (i := 15) (oi := ⟨_, _, _, _, _, _⟩) (v := ?v57) rfl (by kernel_rfl) (by kernel_rfl) (by kernel_rfl) (fun _ _ _ h => h) ?y57 hS ?_
  case y57 => first | (refine Or.inr ⟨by rfl, ?_⟩; with_reducible rfl) | (refine Or.inl ⟨by rfl, ?_⟩; intro wS hSw; obtain t0 := (block_cell' ((hSw.block _ (lt_of_block H1.out)).trans H1.out) 0).1; simp [fnv] at t0; go_simp; try with_reducible rfl)
  simp only [Act.put, List.setIfInBounds_toArray, List.set_cons_zero, List.set_cons_succ]
  refine wpAnyH_take (i := 16) (oi := ⟨_, _, _, _, _, _⟩) (v := ?v58) rfl (by kernel_rfl) (by kernel_rfl) (by kernel_rfl) (fun _ _ _ h => h) ?y58 hS ?_
  case y58 => first | (refine Or.inr ⟨by rfl, ?_⟩; with_reducible rfl) | (refine Or.inl ⟨by rfl, ?_⟩; intro wS hSw; obtain t0 := (block_cell' ((hSw.block _ (lt_of_block H1.out)).trans H1.out) 0).1; simp [fnv] at t0; go_simp; try with_reducible rfl)
  simp only [Act.put, List.setIfInBounds_toArray, List.set_cons_zero, List.set_cons_succ]
  refine wpAnyH_take (i := 17) (oi := ⟨_, _, _, _, _, _⟩) (v := ?v59) rfl (by kernel_rfl) (by kernel_rfl) (by kernel_rfl) (fun _ _ _ h => h) ?y59 hS ?_
  case y59 => first | (refine Or.inr ⟨by rfl, ?_⟩; with_reducible rfl) | (refine Or.inl ⟨by rfl, ?_⟩; intro wS hSw; obtain t0 := (block_cell' ((hSw.block _ (lt_of_block H1.out)).trans H1.out) 0).1; simp [fnv] at t0; go_simp; try with_reducible rfl)
  simp only [Act.put, List.setIfInBounds_toArray, List.set_cons_zero, List.set_cons_succ]
  refine wpAnyH_take (i := 18) (oi := ⟨_, _, _, _, _, _⟩) (v := ?v60) rfl (by kernel_rfl) (by kernel_rfl) (by kernel_rfl) (fun _ _ _ h => h) ?y60 hS ?_
  case y60 => first | (refine Or.inr ⟨by rfl, ?_⟩; with_reducible rfl) | (refine Or.inl ⟨by rfl, ?_⟩; intro wS hSw; obtain t0 := (block_cell' ((hSw.block _ (lt_of_block H1.out)).trans H1.out) 0).1; simp [fnv] at t0; go_simp; try with_reducible rfl)
  simp only [Act.put, List.setIfInBounds_toArray, List.set_cons_zero, List.set_cons_succ]
  refine wpAnyH_take (i := 19) (oi := ⟨_, _, _, _, _, _⟩) (v := ?v61) rfl (by kernel_rfl) (by kernel_rfl) (by kernel_rfl) (fun _ _ _ h => h) ?y61 hS ?_
  case y61 => first | (refine Or.inr ⟨by rfl, ?_⟩; with_reducible rfl) | (refine Or.inl ⟨by rfl, ?_⟩; intro wS hSw; obtain t0 := (block_cell' ((hSw.block _ (lt_of_block H1.out)).trans H1.out) 0).1; simp [fnv] at t0; go_simp; try with_reducible rfl)
  simp only [Act.put, List.setIfInBounds_toArray, List.set_cons_zero, List.set_cons_succ]
  refine wpAnyH_take (i := 20) (oi := ⟨_, _, _, _, _, _⟩) (v := ?v62) rfl (by kernel_rfl) (by kernel_rfl) (by kernel_rfl) (fun _ _ _ h => h) ?y62 hS ?_
  case y62 => first | (refine Or.inr ⟨by rfl, ?_⟩; with_reducible rfl) | (refine Or.inl ⟨by rfl, ?_⟩; intro wS hSw; obtain t0 := (block_cell' ((hSw.block _ (lt_of_block H1.out)).trans H1.out) 0).1; simp [fnv] at t0; go_simp; try with_reducible rfl)
  simp only [Act.put, List.setIfInBounds_toArray, List.set_cons_zero, List.set_cons_succ]
  refine wpAnyH_done (by kernel_rfl) ?_ _
  have HS := Lib.hid hS
  clear hS
  go_wp2
  go_ret
  exact ⟨ret_bool (by first | done | rfl | (rw [← HQ.out]; done) | (rw [← HQ.out]; simp)), HB.out.trans (HS.out.mono HB.out.size)⟩
set_option maxRecDepth 100000 in
set_option maxHeartbeats 4000000 in
theorem name_let (s : ByteArray) (w : World) (h0 : s.size ≠ 0) (h1 : s.size ≤ 32) (h2 : Lib.idxFunc oddR true s < 0) : Calls Tryz.prog 94 #[.string s] w fun e w' => e = .returned (.bool (isLetter (s.get! 0).toNat)) ∧ Below w.heap.size w w' := by
  have qe := str_empty s
  rw [show (s.size == 0) = false by simpa using h0] at qe
  have d1 : decide ((s.size : Int) ≤ (32 : Int)) = true := by simpa using (by omega : (s.size : Int) ≤ 32)
  obtain ⟨k, hk⟩ : ∃ k, k = Lib.idxFunc oddR true s := ⟨_, rfl⟩
  have d2 : decide (k < 0) = true := by rw [hk]; simpa using h2
  have hgi : ∀ w, (Instr.index 9 (.string s) (.int .i64 0)).run Tryz.prog w = .ok (.int .u8 (s.get! 0).toNat) w := by
    have hb : 0 < s.size := by omega
    intro w
    rw [run_index_string _ _ _ _ _ Tryz.underlying9, dif_pos ⟨Int.le_refl _, by omega⟩]
    have : s[(0 : Int).toNat]'(by simpa using hb) = s.get! 0 := by simp [ByteArray.get!, getElem!_pos, hb]; rfl
    rw [this]
  have HIx := Lib.hid (show ∀ (b : Nat) (wq : World), wq.cell? ⟨b, 0, none⟩ = some (fnv 121) → Calls Tryz.prog 123 #[.string s, .func (.func 122) #[] #[.pointer (some ⟨b, 0, none⟩)]] wq fun e w' => e = .returned (.int .i64 k) ∧ Below wq.heap.size wq w' from fun b wq h => hk ▸ IndexFunc_any b s wq h)
  clear hk h2
  have hc0 := UInt8.toNat_lt (s.get! 0)
  obtain ⟨c, hc⟩ : ∃ c, c = (s.get! 0).toNat := ⟨_, rfl⟩
  rw [← hc] at hgi hc0 ⊢
  clear hc
  have hcw : IntKind.i32.wrap (c : Int) = c := IntWalk.i32_in _ (by omega)
  have HLt := Lib.hid (fun wq => letter_any c (by omega) wq)
  obtain ⟨q, hq⟩ : ∃ q, q = isLetter c := ⟨_, rfl⟩
  rw [← hq] at HLt ⊢
  clear hq
  have a0 := heap_alloc_new w (.cells #[.nilFunc] 216)
  obtain ⟨a1, a2⟩ := block_cell' a0 0
  simp only [List.getElem?_toArray, List.getElem?_cons_zero] at a1
  have A0 := Lib.hid a0
  clear a0
  go_enter Tryz.func94, Tryz.ntmps94
  go_upto_region 2 with (fail)
  refine gen_world (S := fun u => Below w.heap.size w u ∧ u.heap[w.heap.size]? = some (.cells #[fnv 121] 216 (0, 0))) (one_new w _) (fun u hu => ?_)
  obtain ⟨hb, h1⟩ := hu
  have HB := Lib.hid hb
  have H1 := Lib.hid h1
  obtain ⟨X, hX⟩ : ∃ X, X = w.heap.size := ⟨_, rfl⟩
  rw [← hX] at H1 ⊢
  clear hb h1 hX a1 a2 A0
  go_upto_region 3 with (fail)
  refine wp_region_held_drew (S := fun z => Below u.heap.size u z) (by kernel_rfl) (Below.refl u.heap.size u).drew (fun hS => ?_)
  refine wpAnyH_take (i := 0) (oi := ⟨_, _, _, _, _, _⟩) (v := ?v63) rfl (by kernel_rfl) (by kernel_rfl) (by kernel_rfl) (fun _ _ _ h => h) ?y63 hS ?_
  case y63 => first | (refine Or.inr ⟨by rfl, ?_⟩; with_reducible rfl) | (refine Or.inl ⟨by rfl, ?_⟩; intro wS hSw; obtain t0 := (block_cell' ((hSw.block _ (lt_of_block H1.out)).trans H1.out) 0).1; simp [fnv] at t0; go_simp; try with_reducible rfl)
  simp only [Act.put, List.setIfInBounds_toArray, List.set_cons_zero, List.set_cons_succ]
  refine wpAnyH_take (i := 1) (oi := ⟨_, _, _, _, _, _⟩) (v := ?v64) rfl (by kernel_rfl) (by kernel_rfl) (by kernel_rfl) (fun _ _ _ h => h) ?y64 hS ?_
  case y64 => first | (refine Or.inr ⟨by rfl, ?_⟩; with_reducible rfl) | (refine Or.inl ⟨by rfl, ?_⟩; intro wS hSw; obtain t0 := (block_cell' ((hSw.block _ (lt_of_block H1.out)).trans H1.out) 0).1; simp [fnv] at t0; go_simp; try with_reducible rfl)
  simp only [Act.put, List.setIfInBounds_toArray, List.set_cons_zero, List.set_cons_succ]
  refine wpAnyH_take (i := 2) (oi := ⟨_, _, _, _, _, _⟩) (v := ?v65) rfl (by kernel_rfl) (by kernel_rfl) (by kernel_rfl) (fun _ _ _ h => h) ?y65 hS ?_
  case y65 => first | (refine Or.inr ⟨by rfl, ?_⟩; with_reducible rfl) | (refine Or.inl ⟨by rfl, ?_⟩; intro wS hSw; obtain t0 := (block_cell' ((hSw.block _ (lt_of_block H1.out)).trans H1.out) 0).1; simp [fnv] at t0; go_simp; try with_reducible rfl)
  simp only [Act.put, List.setIfInBounds_toArray, List.set_cons_zero, List.set_cons_succ]
  refine wpAnyH_take (i := 3) (oi := ⟨_, _, _, _, _, _⟩) (v := ?v66) rfl (by kernel_rfl) (by kernel_rfl) (by kernel_rfl) (fun _ _ _ h => h) ?y66 hS ?_
  case y66 => first | (refine Or.inr ⟨by rfl, ?_⟩; with_reducible rfl) | (refine Or.inl ⟨by rfl, ?_⟩; intro wS hSw; obtain t0 := (block_cell' ((hSw.block _ (lt_of_block H1.out)).trans H1.out) 0).1; simp [fnv] at t0; go_simp; try with_reducible rfl)
  simp only [Act.put, List.setIfInBounds_toArray, List.set_cons_zero, List.set_cons_succ]
  refine wpAnyH_take (i := 4) (oi := ⟨_, _, _, _, _, _⟩) (v := ?v67) rfl (by kernel_rfl) (by kernel_rfl) (by kernel_rfl) (fun _ _ _ h => h) ?y67 hS ?_
  case y67 => first | (refine Or.inr ⟨by rfl, ?_⟩; with_reducible rfl) | (refine Or.inl ⟨by rfl, ?_⟩; intro wS hSw; obtain t0 := (block_cell' ((hSw.block _ (lt_of_block H1.out)).trans H1.out) 0).1; simp [fnv] at t0; go_simp; try with_reducible rfl)
  simp only [Act.put, List.setIfInBounds_toArray, List.set_cons_zero, List.set_cons_succ]
  refine wpAnyH_take (i := 5) (oi := ⟨_, _, _, _, _, _⟩) (v := ?v68) rfl (by kernel_rfl) (by kernel_rfl) (by kernel_rfl) (fun _ _ _ h => h) ?y68 hS ?_
  case y68 => first | (refine Or.inr ⟨by rfl, ?_⟩; with_reducible rfl) | (refine Or.inl ⟨by rfl, ?_⟩; intro wS hSw; obtain t0 := (block_cell' ((hSw.block _ (lt_of_block H1.out)).trans H1.out) 0).1; simp [fnv] at t0; go_simp; try with_reducible rfl)
  simp only [Act.put, List.setIfInBounds_toArray, List.set_cons_zero, List.set_cons_succ]
  refine wpAnyH_take (i := 6) (oi := ⟨_, _, _, _, _, _⟩) (v := ?v69) rfl (by kernel_rfl) (by kernel_rfl) (by kernel_rfl) (fun _ _ _ h => h) ?y69 hS ?_
  case y69 => first | (refine Or.inr ⟨by rfl, ?_⟩; with_reducible rfl) | (refine Or.inl ⟨by rfl, ?_⟩; intro wS hSw; obtain t0 := (block_cell' ((hSw.block _ (lt_of_block H1.out)).trans H1.out) 0).1; simp [fnv] at t0; go_simp; try with_reducible rfl)
  simp only [Act.put, List.setIfInBounds_toArray, List.set_cons_zero, List.set_cons_succ]
  refine wpAnyH_take (i := 7) (oi := ⟨_, _, _, _, _, _⟩) (v := ?v70) rfl (by kernel_rfl) (by kernel_rfl) (by kernel_rfl) (fun _ _ _ h => h) ?y70 hS ?_
  case y70 => first | (refine Or.inr ⟨by rfl, ?_⟩; with_reducible rfl) | (refine Or.inl ⟨by rfl, ?_⟩; intro wS hSw; obtain t0 := (block_cell' ((hSw.block _ (lt_of_block H1.out)).trans H1.out) 0).1; simp [fnv] at t0; go_simp; try with_reducible rfl)
  simp only [Act.put, List.setIfInBounds_toArray, List.set_cons_zero, List.set_cons_succ]
  refine wpAnyH_take (i := 8) (oi := ⟨_, _, _, _, _, _⟩) (v := ?v71) rfl (by kernel_rfl) (by kernel_rfl) (by kernel_rfl) (fun _ _ _ h => h) ?y71 hS ?_
  case y71 => first | (refine Or.inr ⟨by rfl, ?_⟩; with_reducible rfl) | (refine Or.inl ⟨by rfl, ?_⟩; intro wS hSw; obtain t0 := (block_cell' ((hSw.block _ (lt_of_block H1.out)).trans H1.out) 0).1; simp [fnv] at t0; go_simp; try with_reducible rfl)
  simp only [Act.put, List.setIfInBounds_toArray, List.set_cons_zero, List.set_cons_succ]
  refine wpAnyH_take (i := 9) (oi := ⟨_, _, _, _, _, _⟩) (v := ?v72) rfl (by kernel_rfl) (by kernel_rfl) (by kernel_rfl) (fun _ _ _ h => h) ?y72 hS ?_
  case y72 => first | (refine Or.inr ⟨by rfl, ?_⟩; with_reducible rfl) | (refine Or.inl ⟨by rfl, ?_⟩; intro wS hSw; obtain t0 := (block_cell' ((hSw.block _ (lt_of_block H1.out)).trans H1.out) 0).1; simp [fnv] at t0; go_simp; try with_reducible rfl)
  simp only [Act.put, List.setIfInBounds_toArray, List.set_cons_zero, List.set_cons_succ]
  refine wpAnyH_ready (rs := [10]) (by kernel_rfl) (by simp) ?_
  refine AllReadyH.cons (o := ⟨_, _, _, _, _, _⟩) rfl (fun K hK => ?_) AllReadyH.nil
  go_simp
  refine (HIx.out X _ (by have := (block_cell' ((hS.block _ (lt_of_block H1.out)).trans H1.out) 0).1; simpa using this)).mono ?_
  rintro e z ⟨rfl, hb⟩
  go_wp2_with fail
  refine hK.out _ _ (hS.trans (hb.mono hS.size)) (fun hS2 => ?_)
  have HS := Lib.hid (hS.trans (hb.mono hS.size))
  clear hK K hS hb hS2
  have hS := HS.out
  try simp only [Act.put, List.setIfInBounds_toArray, List.set_cons_zero, List.set_cons_succ]
  refine wpAnyH_take (i := 11) (oi := ⟨_, _, _, _, _, _⟩) (v := ?v73) rfl (by kernel_rfl) (by kernel_rfl) (by kernel_rfl) (fun _ _ _ h => h) ?y73 hS ?_
  case y73 => first | (refine Or.inr ⟨by rfl, ?_⟩; with_reducible rfl) | (refine Or.inl ⟨by rfl, ?_⟩; intro wS hSw; obtain t0 := (block_cell' ((hSw.block _ (lt_of_block H1.out)).trans H1.out) 0).1; simp [fnv] at t0; go_simp; try with_reducible rfl)
  simp only [Act.put, List.setIfInBounds_toArray, List.set_cons_zero, List.set_cons_succ]
  refine wpAnyH_take (i := 12) (oi := ⟨_, _, _, _, _, _⟩) (v := ?v74) rfl (by kernel_rfl) (by kernel_rfl) (by kernel_rfl) (fun _ _ _ h => h) ?y74 hS ?_
  case y74 => first | (refine Or.inr ⟨by rfl, ?_⟩; with_reducible rfl) | (refine Or.inl ⟨by rfl, ?_⟩; intro wS hSw; obtain t0 := (block_cell' ((hSw.block _ (lt_of_block H1.out)).trans H1.out) 0).1; simp [fnv] at t0; go_simp; try with_reducible rfl)
  simp only [Act.put, List.setIfInBounds_toArray, List.set_cons_zero, List.set_cons_succ]
  refine wpAnyH_take (i := 13) (oi := ⟨_, _, _, _, _, _⟩) (v := ?v75) rfl (by kernel_rfl) (by kernel_rfl) (by kernel_rfl) (fun _ _ _ h => h) ?y75 hS ?_
  case y75 => first | (refine Or.inr ⟨by rfl, ?_⟩; with_reducible rfl) | (refine Or.inl ⟨by rfl, ?_⟩; intro wS hSw; obtain t0 := (block_cell' ((hSw.block _ (lt_of_block H1.out)).trans H1.out) 0).1; simp [fnv] at t0; go_simp; try with_reducible rfl)
  simp only [Act.put, List.setIfInBounds_toArray, List.set_cons_zero, List.set_cons_succ]
  refine wpAnyH_take (i := 14) (oi := ⟨_, _, _, _, _, _⟩) (v := ?v76) rfl (by kernel_rfl) (by kernel_rfl) (by kernel_rfl) (fun _ _ _ h => h) ?y76 hS ?_
  case y76 => first | (refine Or.inr ⟨by rfl, ?_⟩; with_reducible rfl) | (refine Or.inl ⟨by rfl, ?_⟩; intro wS hSw; obtain t0 := (block_cell' ((hSw.block _ (lt_of_block H1.out)).trans H1.out) 0).1; simp [fnv] at t0; go_simp; try with_reducible rfl)
  simp only [Act.put, List.setIfInBounds_toArray, List.set_cons_zero, List.set_cons_succ]
  refine wpAnyH_take (i := 15) (oi := ⟨_, _, _, _, _, _⟩) (v := ?v77) rfl (by kernel_rfl) (by kernel_rfl) (by kernel_rfl) (fun _ _ _ h => h) ?y77 hS ?_
  case y77 => first | (refine Or.inr ⟨by rfl, ?_⟩; with_reducible rfl) | (refine Or.inl ⟨by rfl, ?_⟩; intro wS hSw; obtain t0 := (block_cell' ((hSw.block _ (lt_of_block H1.out)).trans H1.out) 0).1; simp [fnv] at t0; go_simp; try with_reducible rfl)
  simp only [Act.put, List.setIfInBounds_toArray, List.set_cons_zero, List.set_cons_succ]
  refine wpAnyH_take (i := 16) (oi := ⟨_, _, _, _, _, _⟩) (v := ?v78) rfl (by kernel_rfl) (by kernel_rfl) (by kernel_rfl) (fun _ _ _ h => h) ?y78 hS ?_
  case y78 => first | (refine Or.inr ⟨by rfl, ?_⟩; with_reducible rfl) | (refine Or.inl ⟨by rfl, ?_⟩; intro wS hSw; obtain t0 := (block_cell' ((hSw.block _ (lt_of_block H1.out)).trans H1.out) 0).1; simp [fnv] at t0; go_simp; try with_reducible rfl)
  simp only [Act.put, List.setIfInBounds_toArray, List.set_cons_zero, List.set_cons_succ]
  refine wpAnyH_take (i := 17) (oi := ⟨_, _, _, _, _, _⟩) (v := ?v79) rfl (by kernel_rfl) (by kernel_rfl) (by kernel_rfl) (fun _ _ _ h => h) ?y79 hS ?_
  case y79 => first | (refine Or.inr ⟨by rfl, ?_⟩; with_reducible rfl) | (refine Or.inl ⟨by rfl, ?_⟩; intro wS hSw; obtain t0 := (block_cell' ((hSw.block _ (lt_of_block H1.out)).trans H1.out) 0).1; simp [fnv] at t0; go_simp; try with_reducible rfl)
  simp only [Act.put, List.setIfInBounds_toArray, List.set_cons_zero, List.set_cons_succ]
  refine wpAnyH_ready (rs := [18]) (by kernel_rfl) (by simp) ?_
  refine AllReadyH.cons (o := ⟨_, _, _, _, _, _⟩) rfl (fun K hK => ?_) AllReadyH.nil
  go_simp
  refine (HLt.out _).mono ?_
  rintro e z ⟨rfl, hb⟩
  go_wp2_with fail
  refine hK.out _ _ (hS.trans (hb.mono hS.size)) (fun hS2 => ?_)
  have HS := Lib.hid (hS.trans (hb.mono hS.size))
  clear hK K hS hb hS2
  have hS := HS.out
  try simp only [Act.put, List.setIfInBounds_toArray, List.set_cons_zero, List.set_cons_succ]
  refine wpAnyH_take (i := 19) (oi := ⟨_, _, _, _, _, _⟩) (v := ?v80) rfl (by kernel_rfl) (by kernel_rfl) (by kernel_rfl) (fun _ _ _ h => h) ?y80 hS ?_
  case y80 => first | (refine Or.inr ⟨by rfl, ?_⟩; with_reducible rfl) | (refine Or.inl ⟨by rfl, ?_⟩; intro wS hSw; obtain t0 := (block_cell' ((hSw.block _ (lt_of_block H1.out)).trans H1.out) 0).1; simp [fnv] at t0; go_simp; try with_reducible rfl)
  simp only [Act.put, List.setIfInBounds_toArray, List.set_cons_zero, List.set_cons_succ]
  refine wpAnyH_take (i := 20) (oi := ⟨_, _, _, _, _, _⟩) (v := ?v81) rfl (by kernel_rfl) (by kernel_rfl) (by kernel_rfl) (fun _ _ _ h => h) ?y81 hS ?_
  case y81 => first | (refine Or.inr ⟨by rfl, ?_⟩; with_reducible rfl) | (refine Or.inl ⟨by rfl, ?_⟩; intro wS hSw; obtain t0 := (block_cell' ((hSw.block _ (lt_of_block H1.out)).trans H1.out) 0).1; simp [fnv] at t0; go_simp; try with_reducible rfl)
  simp only [Act.put, List.setIfInBounds_toArray, List.set_cons_zero, List.set_cons_succ]
  refine wpAnyH_done (by kernel_rfl) ?_ _
  have HS := Lib.hid hS
  clear hS
  go_wp2
  go_ret
  exact ⟨rfl, HB.out.trans (HS.out.mono HB.out.size)⟩
theorem name_any (s : ByteArray) (w : World) : Calls Tryz.prog 94 #[.string s] w fun e w' => e = .returned (.bool (nameOk s)) ∧ Below w.heap.size w w' := by
  rw [name_spec]
  by_cases h0 : s.size = 0
  · rw [show (decide (0 < s.size) && decide (s.size ≤ 32) && decide (Lib.idxFunc oddR true s < 0) && isLetter (s.get! 0).toNat) = false by simp [h0]]
    exact name_empty s w h0
  by_cases h1 : s.size ≤ 32
  · by_cases h2 : Lib.idxFunc oddR true s < 0
    · rw [show (decide (0 < s.size) && decide (s.size ≤ 32) && decide (Lib.idxFunc oddR true s < 0) && isLetter (s.get! 0).toNat) = isLetter (s.get! 0).toNat by simp [h1, h2]; omega]
      exact name_let s w h0 h1 h2
    · rw [show (decide (0 < s.size) && decide (s.size ≤ 32) && decide (Lib.idxFunc oddR true s < 0) && isLetter (s.get! 0).toNat) = false by simp [h2]]
      exact name_odd s w h0 h1 h2
  · rw [show (decide (0 < s.size) && decide (s.size ≤ 32) && decide (Lib.idxFunc oddR true s < 0) && isLetter (s.get! 0).toNat) = false by simp [h1]]
    exact name_long s w h0 h1
end Go.Proofs.YtkimkghldilliaaGreat
