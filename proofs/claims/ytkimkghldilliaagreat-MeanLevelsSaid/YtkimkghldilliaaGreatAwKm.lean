import Derived.Test.YtkimkghldilliaaGreatMatm
import Derived.Lib.SlBytesConst
namespace Go.Proofs.YtkimkghldilliaaGreat
open Go.RowKit Go.Lib

def amongN : List Nd := [⟨3, 8796093022208, 25769803776, 0, 0, ⟨#[]⟩, 0, 0, [], .slice none 0 0⟩]
def amC : Nat → Array Value
  | 0 => #[.int .u64 0, .int .u64 0, .int .u64 0, .int .u64 0]
  | 1 => #[.int .u64 0, .int .u64 8589934592, .int .u64 0, .int .u64 0]
  | 2 => #[.int .u64 0, .int .u64 25769803776, .int .u64 0, .int .u64 0]
  | _ => #[.int .u64 8796093022208, .int .u64 25769803776, .int .u64 0, .int .u64 0]
set_option maxRecDepth 100000 in
set_option maxHeartbeats 4000000 in
theorem among_made (w : World) : Calls Tryz.prog 44 #[.string ⟨#[97, 98, 43]⟩] w (NsPost amongN w) := by
  obtain ⟨s, hs⟩ : ∃ s : ByteArray, s = ⟨#[97, 98, 43]⟩ := ⟨_, rfl⟩
  have h0 : ∀ w, (Instr.index 9 (.string s) (.int .i64 0)).run Tryz.prog w = .ok (.int .u8 97) w := fun w => by rw [hs]; rfl
  have h1 : ∀ w, (Instr.index 9 (.string s) (.int .i64 1)).run Tryz.prog w = .ok (.int .u8 98) w := fun w => by rw [hs]; rfl
  have h2 : ∀ w, (Instr.index 9 (.string s) (.int .i64 2)).run Tryz.prog w = .ok (.int .u8 43) w := fun w => by rw [hs]; rfl
  have hsz : s.size = 3 := by rw [hs]; rfl
  have hw0 : IntKind.u8.wrap 0 = 0 := by kernel_rfl
  have hw1 : IntKind.u8.wrap 1 = 1 := by kernel_rfl
  rw [← hs]
  clear hs
  go_enter Tryz.func44, Tryz.ntmps44
  go_upto_region 2 with (fail)
  refine gen_world (S := fun u => Below w.heap.size w u ∧ u.heap[w.heap.size]? = some (.cells (amC 0) 58 (0, 0))) (one_new w _) (fun u hu => ?_)
  obtain ⟨hb, h1⟩ := hu
  have HB := Lib.hid hb
  have H1 := Lib.hid h1
  obtain ⟨X, hX⟩ : ∃ X, X = w.heap.size := ⟨_, rfl⟩
  have HX := Lib.hid hX
  rw [← hX] at H1 ⊢
  clear hb h1 hX
  go_wp2
  go_loopw [4] (fun i wr => ∃ k : Nat, k ≤ 3 ∧ i = .int .i64 k ∧ Hid (wr.heap[X]? = some (.cells (amC k) 58 (0, 0))) ∧ Hid (Below w.heap.size w wr)) (fun i _ => 3 - (intOf i).toNat)
  case atStart => exact ⟨0, by omega, rfl, H1, HB⟩
  case round =>
    clear H1 HB
    obtain ⟨k, hk, rfl, H1, HB⟩ := hrel
    have hk4 : k = 0 ∨ k = 1 ∨ k = 2 ∨ k = 3 := by omega
    rcases hk4 with rfl | rfl | rfl | rfl
    · have hd := H1.out
      unfold amC at hd
      obtain ⟨d0, d1, d2, d3⟩ := four_box hd
      obtain ⟨g0, g1, g2, g3⟩ := four_frz hd
      clear hd
      go_upto_region 5 with (fail)
      refine wp_region_held_drew (S := fun _ => True) (by kernel_rfl) trivial (fun hS => ?_)
      refine wpAnyH_take (i := 0) (oi := ⟨_, _, _, _, _, _⟩) (v := ?v1) rfl (by kernel_rfl) (by kernel_rfl) (by kernel_rfl) (fun _ _ _ h => h) ?y1 hS ?_
      case y1 => first | (refine Or.inr ⟨by rfl, ?_⟩; with_reducible rfl) | (refine Or.inl ⟨by rfl, ?_⟩; intro wS hSw; go_simp; try with_reducible rfl)
      simp only [Act.put, List.setIfInBounds_toArray, List.set_cons_zero, List.set_cons_succ]
      refine wpAnyH_take (i := 1) (oi := ⟨_, _, _, _, _, _⟩) (v := ?v2) rfl (by kernel_rfl) (by kernel_rfl) (by kernel_rfl) (fun _ _ _ h => h) ?y2 hS ?_
      case y2 => first | (refine Or.inr ⟨by rfl, ?_⟩; with_reducible rfl) | (refine Or.inl ⟨by rfl, ?_⟩; intro wS hSw; go_simp; try with_reducible rfl)
      simp only [Act.put, List.setIfInBounds_toArray, List.set_cons_zero, List.set_cons_succ]
      refine wpAnyH_take (i := 2) (oi := ⟨_, _, _, _, _, _⟩) (v := ?v3) rfl (by kernel_rfl) (by kernel_rfl) (by kernel_rfl) (fun _ _ _ h => h) ?y3 hS ?_
      case y3 => first | (refine Or.inr ⟨by rfl, ?_⟩; with_reducible rfl) | (refine Or.inl ⟨by rfl, ?_⟩; intro wS hSw; go_simp; try with_reducible rfl)
      simp only [Act.put, List.setIfInBounds_toArray, List.set_cons_zero, List.set_cons_succ]
      refine wpAnyH_take (i := 3) (oi := ⟨_, _, _, _, _, _⟩) (v := ?v4) rfl (by kernel_rfl) (by kernel_rfl) (by kernel_rfl) (fun _ _ _ h => h) ?y4 hS ?_
      case y4 => first | (refine Or.inr ⟨by rfl, ?_⟩; with_reducible rfl) | (refine Or.inl ⟨by rfl, ?_⟩; intro wS hSw; go_simp; try with_reducible rfl)
      simp only [Act.put, List.setIfInBounds_toArray, List.set_cons_zero, List.set_cons_succ]
      refine wpAnyH_take (i := 4) (oi := ⟨_, _, _, _, _, _⟩) (v := ?v5) rfl (by kernel_rfl) (by kernel_rfl) (by kernel_rfl) (fun _ _ _ h => h) ?y5 hS ?_
      case y5 => first | (refine Or.inr ⟨by rfl, ?_⟩; with_reducible rfl) | (refine Or.inl ⟨by rfl, ?_⟩; intro wS hSw; go_simp; try with_reducible rfl)
      simp only [Act.put, List.setIfInBounds_toArray, List.set_cons_zero, List.set_cons_succ]
      refine wpAnyH_take (i := 5) (oi := ⟨_, _, _, _, _, _⟩) (v := ?v6) rfl (by kernel_rfl) (by kernel_rfl) (by kernel_rfl) (fun _ _ _ h => h) ?y6 hS ?_
      case y6 => first | (refine Or.inr ⟨by rfl, ?_⟩; with_reducible rfl) | (refine Or.inl ⟨by rfl, ?_⟩; intro wS hSw; go_simp; try with_reducible rfl)
      simp only [Act.put, List.setIfInBounds_toArray, List.set_cons_zero, List.set_cons_succ]
      refine wpAnyH_take (i := 6) (oi := ⟨_, _, _, _, _, _⟩) (v := ?v7) rfl (by kernel_rfl) (by kernel_rfl) (by kernel_rfl) (fun _ _ _ h => h) ?y7 hS ?_
      case y7 => first | (refine Or.inr ⟨by rfl, ?_⟩; with_reducible rfl) | (refine Or.inl ⟨by rfl, ?_⟩; intro wS hSw; go_simp; try with_reducible rfl)
      simp only [Act.put, List.setIfInBounds_toArray, List.set_cons_zero, List.set_cons_succ]
      refine wpAnyH_take (i := 7) (oi := ⟨_, _, _, _, _, _⟩) (v := ?v8) rfl (by kernel_rfl) (by kernel_rfl) (by kernel_rfl) (fun _ _ _ h => h) ?y8 hS ?_
      case y8 => first | (refine Or.inr ⟨by rfl, ?_⟩; with_reducible rfl) | (refine Or.inl ⟨by rfl, ?_⟩; intro wS hSw; go_simp; try with_reducible rfl)
      simp only [Act.put, List.setIfInBounds_toArray, List.set_cons_zero, List.set_cons_succ]
      refine wpAnyH_take (i := 8) (oi := ⟨_, _, _, _, _, _⟩) (v := ?v9) rfl (by kernel_rfl) (by kernel_rfl) (by kernel_rfl) (fun _ _ _ h => h) ?y9 hS ?_
      case y9 => first | (refine Or.inr ⟨by rfl, ?_⟩; with_reducible rfl) | (refine Or.inl ⟨by rfl, ?_⟩; intro wS hSw; go_simp; try with_reducible rfl)
      simp only [Act.put, List.setIfInBounds_toArray, List.set_cons_zero, List.set_cons_succ]
      refine wpAnyH_take (i := 10) (oi := ⟨_, _, _, _, _, _⟩) (v := ?v10) rfl (by kernel_rfl) (by kernel_rfl) (by kernel_rfl) (fun _ _ _ h => h) ?y10 hS ?_
      case y10 => first | (refine Or.inr ⟨by rfl, ?_⟩; with_reducible rfl) | (refine Or.inl ⟨by rfl, ?_⟩; intro wS hSw; go_simp; try with_reducible rfl)
      simp only [Act.put, List.setIfInBounds_toArray, List.set_cons_zero, List.set_cons_succ]
      refine wpAnyH_take (i := 11) (oi := ⟨_, _, _, _, _, _⟩) (v := ?v11) rfl (by kernel_rfl) (by kernel_rfl) (by kernel_rfl) (fun _ _ _ h => h) ?y11 hS ?_
      case y11 => first | (refine Or.inr ⟨by rfl, ?_⟩; with_reducible rfl) | (refine Or.inl ⟨by rfl, ?_⟩; intro wS hSw; go_simp; try with_reducible rfl)
      simp only [Act.put, List.setIfInBounds_toArray, List.set_cons_zero, List.set_cons_succ]
      refine wpAnyH_take (i := 12) (oi := ⟨_, _, _, _, _, _⟩) (v := ?v12) rfl (by kernel_rfl) (by kernel_rfl) (by kernel_rfl) (fun _ _ _ h => h) ?y12 hS ?_
      case y12 => first | (refine Or.inr ⟨by rfl, ?_⟩; with_reducible rfl) | (refine Or.inl ⟨by rfl, ?_⟩; intro wS hSw; go_simp; try with_reducible rfl)
      simp only [Act.put, List.setIfInBounds_toArray, List.set_cons_zero, List.set_cons_succ]
      refine wpAnyH_take (i := 13) (oi := ⟨_, _, _, _, _, _⟩) (v := ?v13) rfl (by kernel_rfl) (by kernel_rfl) (by kernel_rfl) (fun _ _ _ h => h) ?y13 hS ?_
      case y13 => first | (refine Or.inr ⟨by rfl, ?_⟩; with_reducible rfl) | (refine Or.inl ⟨by rfl, ?_⟩; intro wS hSw; go_simp; try with_reducible rfl)
      simp only [Act.put, List.setIfInBounds_toArray, List.set_cons_zero, List.set_cons_succ]
      refine wpAnyH_take (i := 14) (oi := ⟨_, _, _, _, _, _⟩) (v := ?v14) rfl (by kernel_rfl) (by kernel_rfl) (by kernel_rfl) (fun _ _ _ h => h) ?y14 hS ?_
      case y14 => first | (refine Or.inr ⟨by rfl, ?_⟩; with_reducible rfl) | (refine Or.inl ⟨by rfl, ?_⟩; intro wS hSw; go_simp; try with_reducible rfl)
      simp only [Act.put, List.setIfInBounds_toArray, List.set_cons_zero, List.set_cons_succ]
      refine wpAnyH_ready (rs := [9]) (by kernel_rfl) (by simp) ?_
      refine AllReadyH.cons (o := ⟨_, _, _, _, _, _⟩) rfl (fun K hK => ?_) AllReadyH.nil
      go_simp
      refine hK.out _ _ trivial (fun hS2 => ?_)
      clear hK K
      try simp only [Act.put, List.setIfInBounds_toArray, List.set_cons_zero, List.set_cons_succ]
      refine wpAnyH_take (i := 15) (oi := ⟨_, _, _, _, _, _⟩) (v := ?v15) rfl (by kernel_rfl) (by kernel_rfl) (by kernel_rfl) (fun _ _ _ h => h) ?y15 hS ?_
      case y15 => first | (refine Or.inr ⟨by rfl, ?_⟩; with_reducible rfl) | (refine Or.inl ⟨by rfl, ?_⟩; intro wS hSw; go_simp; try with_reducible rfl)
      simp only [Act.put, List.setIfInBounds_toArray, List.set_cons_zero, List.set_cons_succ]
      refine wpAnyH_take (i := 16) (oi := ⟨_, _, _, _, _, _⟩) (v := ?v16) rfl (by kernel_rfl) (by kernel_rfl) (by kernel_rfl) (fun _ _ _ h => h) ?y16 hS ?_
      case y16 => first | (refine Or.inr ⟨by rfl, ?_⟩; with_reducible rfl) | (refine Or.inl ⟨by rfl, ?_⟩; intro wS hSw; go_simp; try with_reducible rfl)
      simp only [Act.put, List.setIfInBounds_toArray, List.set_cons_zero, List.set_cons_succ]
      refine wpAnyH_ready (rs := [17]) (by kernel_rfl) (by simp) ?_
      refine AllReadyH.cons (o := ⟨_, _, _, _, _, _⟩) rfl (fun K hK => ?_) AllReadyH.nil
      go_simp
      refine hK.out _ _ trivial (fun hS3 => ?_)
      clear hK K
      try simp only [Act.put, List.setIfInBounds_toArray, List.set_cons_zero, List.set_cons_succ]
      refine wpAnyH_done (by kernel_rfl) ?_ _
      go_wp2
      have k1 := block_setCell' (k := 1) (u := .int .u64 (bits .or .u64 0 8589934592)) H1.out
      have hbv : bits .or .u64 0 8589934592 = 8589934592 := by kernel_rfl
      rw [hbv] at k1 ⊢
      exact ⟨⟨1, by omega, by go_num, Lib.hid k1, Lib.hid (HB.out.setCell (p := ⟨X, 1, none⟩) (by have := HX.out; simp only; omega) _).drew⟩, by simp [intOf]⟩
    · have hd := H1.out
      unfold amC at hd
      obtain ⟨d0, d1, d2, d3⟩ := four_box hd
      obtain ⟨g0, g1, g2, g3⟩ := four_frz hd
      clear hd
      go_upto_region 5 with (fail)
      refine wp_region_held_drew (S := fun _ => True) (by kernel_rfl) trivial (fun hS => ?_)
      refine wpAnyH_take (i := 0) (oi := ⟨_, _, _, _, _, _⟩) (v := ?v17) rfl (by kernel_rfl) (by kernel_rfl) (by kernel_rfl) (fun _ _ _ h => h) ?y17 hS ?_
      case y17 => first | (refine Or.inr ⟨by rfl, ?_⟩; with_reducible rfl) | (refine Or.inl ⟨by rfl, ?_⟩; intro wS hSw; go_simp; try with_reducible rfl)
      simp only [Act.put, List.setIfInBounds_toArray, List.set_cons_zero, List.set_cons_succ]
      refine wpAnyH_take (i := 1) (oi := ⟨_, _, _, _, _, _⟩) (v := ?v18) rfl (by kernel_rfl) (by kernel_rfl) (by kernel_rfl) (fun _ _ _ h => h) ?y18 hS ?_
      case y18 => first | (refine Or.inr ⟨by rfl, ?_⟩; with_reducible rfl) | (refine Or.inl ⟨by rfl, ?_⟩; intro wS hSw; go_simp; try with_reducible rfl)
      simp only [Act.put, List.setIfInBounds_toArray, List.set_cons_zero, List.set_cons_succ]
      refine wpAnyH_take (i := 2) (oi := ⟨_, _, _, _, _, _⟩) (v := ?v19) rfl (by kernel_rfl) (by kernel_rfl) (by kernel_rfl) (fun _ _ _ h => h) ?y19 hS ?_
      case y19 => first | (refine Or.inr ⟨by rfl, ?_⟩; with_reducible rfl) | (refine Or.inl ⟨by rfl, ?_⟩; intro wS hSw; go_simp; try with_reducible rfl)
      simp only [Act.put, List.setIfInBounds_toArray, List.set_cons_zero, List.set_cons_succ]
      refine wpAnyH_take (i := 3) (oi := ⟨_, _, _, _, _, _⟩) (v := ?v20) rfl (by kernel_rfl) (by kernel_rfl) (by kernel_rfl) (fun _ _ _ h => h) ?y20 hS ?_
      case y20 => first | (refine Or.inr ⟨by rfl, ?_⟩; with_reducible rfl) | (refine Or.inl ⟨by rfl, ?_⟩; intro wS hSw; go_simp; try with_reducible rfl)
      simp only [Act.put, List.setIfInBounds_toArray, List.set_cons_zero, List.set_cons_succ]
      refine wpAnyH_take (i := 4) (oi := ⟨_, _, _, _, _, _⟩) (v := ?v21) rfl (by kernel_rfl) (by kernel_rfl) (by kernel_rfl) (fun _ _ _ h => h) ?y21 hS ?_
      case y21 => first | (refine Or.inr ⟨by rfl, ?_⟩; with_reducible rfl) | (refine Or.inl ⟨by rfl, ?_⟩; intro wS hSw; go_simp; try with_reducible rfl)
      simp only [Act.put, List.setIfInBounds_toArray, List.set_cons_zero, List.set_cons_succ]
      refine wpAnyH_take (i := 5) (oi := ⟨_, _, _, _, _, _⟩) (v := ?v22) rfl (by kernel_rfl) (by kernel_rfl) (by kernel_rfl) (fun _ _ _ h => h) ?y22 hS ?_
      case y22 => first | (refine Or.inr ⟨by rfl, ?_⟩; with_reducible rfl) | (refine Or.inl ⟨by rfl, ?_⟩; intro wS hSw; go_simp; try with_reducible rfl)
      simp only [Act.put, List.setIfInBounds_toArray, List.set_cons_zero, List.set_cons_succ]
      refine wpAnyH_take (i := 6) (oi := ⟨_, _, _, _, _, _⟩) (v := ?v23) rfl (by kernel_rfl) (by kernel_rfl) (by kernel_rfl) (fun _ _ _ h => h) ?y23 hS ?_
      case y23 => first | (refine Or.inr ⟨by rfl, ?_⟩; with_reducible rfl) | (refine Or.inl ⟨by rfl, ?_⟩; intro wS hSw; go_simp; try with_reducible rfl)
      simp only [Act.put, List.setIfInBounds_toArray, List.set_cons_zero, List.set_cons_succ]
      refine wpAnyH_take (i := 7) (oi := ⟨_, _, _, _, _, _⟩) (v := ?v24) rfl (by kernel_rfl) (by kernel_rfl) (by kernel_rfl) (fun _ _ _ h => h) ?y24 hS ?_
      case y24 => first | (refine Or.inr ⟨by rfl, ?_⟩; with_reducible rfl) | (refine Or.inl ⟨by rfl, ?_⟩; intro wS hSw; go_simp; try with_reducible rfl)
      simp only [Act.put, List.setIfInBounds_toArray, List.set_cons_zero, List.set_cons_succ]
      refine wpAnyH_take (i := 8) (oi := ⟨_, _, _, _, _, _⟩) (v := ?v25) rfl (by kernel_rfl) (by kernel_rfl) (by kernel_rfl) (fun _ _ _ h => h) ?y25 hS ?_
      case y25 => first | (refine Or.inr ⟨by rfl, ?_⟩; with_reducible rfl) | (refine Or.inl ⟨by rfl, ?_⟩; intro wS hSw; go_simp; try with_reducible rfl)
      simp only [Act.put, List.setIfInBounds_toArray, List.set_cons_zero, List.set_cons_succ]
      refine wpAnyH_take (i := 10) (oi := ⟨_, _, _, _, _, _⟩) (v := ?v26) rfl (by kernel_rfl) (by kernel_rfl) (by kernel_rfl) (fun _ _ _ h => h) ?y26 hS ?_
      case y26 => first | (refine Or.inr ⟨by rfl, ?_⟩; with_reducible rfl) | (refine Or.inl ⟨by rfl, ?_⟩; intro wS hSw; go_simp; try with_reducible rfl)
      simp only [Act.put, List.setIfInBounds_toArray, List.set_cons_zero, List.set_cons_succ]
      refine wpAnyH_take (i := 11) (oi := ⟨_, _, _, _, _, _⟩) (v := ?v27) rfl (by kernel_rfl) (by kernel_rfl) (by kernel_rfl) (fun _ _ _ h => h) ?y27 hS ?_
      case y27 => first | (refine Or.inr ⟨by rfl, ?_⟩; with_reducible rfl) | (refine Or.inl ⟨by rfl, ?_⟩; intro wS hSw; go_simp; try with_reducible rfl)
      simp only [Act.put, List.setIfInBounds_toArray, List.set_cons_zero, List.set_cons_succ]
      refine wpAnyH_take (i := 12) (oi := ⟨_, _, _, _, _, _⟩) (v := ?v28) rfl (by kernel_rfl) (by kernel_rfl) (by kernel_rfl) (fun _ _ _ h => h) ?y28 hS ?_
      case y28 => first | (refine Or.inr ⟨by rfl, ?_⟩; with_reducible rfl) | (refine Or.inl ⟨by rfl, ?_⟩; intro wS hSw; go_simp; try with_reducible rfl)
      simp only [Act.put, List.setIfInBounds_toArray, List.set_cons_zero, List.set_cons_succ]
      refine wpAnyH_take (i := 13) (oi := ⟨_, _, _, _, _, _⟩) (v := ?v29) rfl (by kernel_rfl) (by kernel_rfl) (by kernel_rfl) (fun _ _ _ h => h) ?y29 hS ?_
      case y29 => first | (refine Or.inr ⟨by rfl, ?_⟩; with_reducible rfl) | (refine Or.inl ⟨by rfl, ?_⟩; intro wS hSw; go_simp; try with_reducible rfl)
      simp only [Act.put, List.setIfInBounds_toArray, List.set_cons_zero, List.set_cons_succ]
      refine wpAnyH_take (i := 14) (oi := ⟨_, _, _, _, _, _⟩) (v := ?v30) rfl (by kernel_rfl) (by kernel_rfl) (by kernel_rfl) (fun _ _ _ h => h) ?y30 hS ?_
      case y30 => first | (refine Or.inr ⟨by rfl, ?_⟩; with_reducible rfl) | (refine Or.inl ⟨by rfl, ?_⟩; intro wS hSw; go_simp; try with_reducible rfl)
      simp only [Act.put, List.setIfInBounds_toArray, List.set_cons_zero, List.set_cons_succ]
      refine wpAnyH_ready (rs := [9]) (by kernel_rfl) (by simp) ?_
      refine AllReadyH.cons (o := ⟨_, _, _, _, _, _⟩) rfl (fun K hK => ?_) AllReadyH.nil
      go_simp
      refine hK.out _ _ trivial (fun hS2 => ?_)
      clear hK K
      try simp only [Act.put, List.setIfInBounds_toArray, List.set_cons_zero, List.set_cons_succ]
      refine wpAnyH_take (i := 15) (oi := ⟨_, _, _, _, _, _⟩) (v := ?v31) rfl (by kernel_rfl) (by kernel_rfl) (by kernel_rfl) (fun _ _ _ h => h) ?y31 hS ?_
      case y31 => first | (refine Or.inr ⟨by rfl, ?_⟩; with_reducible rfl) | (refine Or.inl ⟨by rfl, ?_⟩; intro wS hSw; go_simp; try with_reducible rfl)
      simp only [Act.put, List.setIfInBounds_toArray, List.set_cons_zero, List.set_cons_succ]
      refine wpAnyH_take (i := 16) (oi := ⟨_, _, _, _, _, _⟩) (v := ?v32) rfl (by kernel_rfl) (by kernel_rfl) (by kernel_rfl) (fun _ _ _ h => h) ?y32 hS ?_
      case y32 => first | (refine Or.inr ⟨by rfl, ?_⟩; with_reducible rfl) | (refine Or.inl ⟨by rfl, ?_⟩; intro wS hSw; go_simp; try with_reducible rfl)
      simp only [Act.put, List.setIfInBounds_toArray, List.set_cons_zero, List.set_cons_succ]
      refine wpAnyH_ready (rs := [17]) (by kernel_rfl) (by simp) ?_
      refine AllReadyH.cons (o := ⟨_, _, _, _, _, _⟩) rfl (fun K hK => ?_) AllReadyH.nil
      go_simp
      refine hK.out _ _ trivial (fun hS3 => ?_)
      clear hK K
      try simp only [Act.put, List.setIfInBounds_toArray, List.set_cons_zero, List.set_cons_succ]
      refine wpAnyH_done (by kernel_rfl) ?_ _
      go_wp2
      have k1 := block_setCell' (k := 1) (u := .int .u64 (bits .or .u64 8589934592 17179869184)) H1.out
      have hbv : bits .or .u64 8589934592 17179869184 = 25769803776 := by kernel_rfl
      rw [hbv] at k1 ⊢
      exact ⟨⟨2, by omega, by go_num, Lib.hid k1, Lib.hid (HB.out.setCell (p := ⟨X, 1, none⟩) (by have := HX.out; simp only; omega) _).drew⟩, by simp [intOf]⟩
    · have hd := H1.out
      unfold amC at hd
      obtain ⟨d0, d1, d2, d3⟩ := four_box hd
      obtain ⟨g0, g1, g2, g3⟩ := four_frz hd
      clear hd
      go_upto_region 5 with (fail)
      refine wp_region_held_drew (S := fun _ => True) (by kernel_rfl) trivial (fun hS => ?_)
      refine wpAnyH_take (i := 0) (oi := ⟨_, _, _, _, _, _⟩) (v := ?v33) rfl (by kernel_rfl) (by kernel_rfl) (by kernel_rfl) (fun _ _ _ h => h) ?y33 hS ?_
      case y33 => first | (refine Or.inr ⟨by rfl, ?_⟩; with_reducible rfl) | (refine Or.inl ⟨by rfl, ?_⟩; intro wS hSw; go_simp; try with_reducible rfl)
      simp only [Act.put, List.setIfInBounds_toArray, List.set_cons_zero, List.set_cons_succ]
      refine wpAnyH_take (i := 1) (oi := ⟨_, _, _, _, _, _⟩) (v := ?v34) rfl (by kernel_rfl) (by kernel_rfl) (by kernel_rfl) (fun _ _ _ h => h) ?y34 hS ?_
      case y34 => first | (refine Or.inr ⟨by rfl, ?_⟩; with_reducible rfl) | (refine Or.inl ⟨by rfl, ?_⟩; intro wS hSw; go_simp; try with_reducible rfl)
      simp only [Act.put, List.setIfInBounds_toArray, List.set_cons_zero, List.set_cons_succ]
      refine wpAnyH_take (i := 2) (oi := ⟨_, _, _, _, _, _⟩) (v := ?v35) rfl (by kernel_rfl) (by kernel_rfl) (by kernel_rfl) (fun _ _ _ h => h) ?y35 hS ?_
      case y35 => first | (refine Or.inr ⟨by rfl, ?_⟩; with_reducible rfl) | (refine Or.inl ⟨by rfl, ?_⟩; intro wS hSw; go_simp; try with_reducible rfl)
      simp only [Act.put, List.setIfInBounds_toArray, List.set_cons_zero, List.set_cons_succ]
      refine wpAnyH_take (i := 3) (oi := ⟨_, _, _, _, _, _⟩) (v := ?v36) rfl (by kernel_rfl) (by kernel_rfl) (by kernel_rfl) (fun _ _ _ h => h) ?y36 hS ?_
      case y36 => first | (refine Or.inr ⟨by rfl, ?_⟩; with_reducible rfl) | (refine Or.inl ⟨by rfl, ?_⟩; intro wS hSw; go_simp; try with_reducible rfl)
      simp only [Act.put, List.setIfInBounds_toArray, List.set_cons_zero, List.set_cons_succ]
      refine wpAnyH_take (i := 4) (oi := ⟨_, _, _, _, _, _⟩) (v := ?v37) rfl (by kernel_rfl) (by kernel_rfl) (by kernel_rfl) (fun _ _ _ h => h) ?y37 hS ?_
      case y37 => first | (refine Or.inr ⟨by rfl, ?_⟩; with_reducible rfl) | (refine Or.inl ⟨by rfl, ?_⟩; intro wS hSw; go_simp; try with_reducible rfl)
      simp only [Act.put, List.setIfInBounds_toArray, List.set_cons_zero, List.set_cons_succ]
      refine wpAnyH_take (i := 5) (oi := ⟨_, _, _, _, _, _⟩) (v := ?v38) rfl (by kernel_rfl) (by kernel_rfl) (by kernel_rfl) (fun _ _ _ h => h) ?y38 hS ?_
      case y38 => first | (refine Or.inr ⟨by rfl, ?_⟩; with_reducible rfl) | (refine Or.inl ⟨by rfl, ?_⟩; intro wS hSw; go_simp; try with_reducible rfl)
      simp only [Act.put, List.setIfInBounds_toArray, List.set_cons_zero, List.set_cons_succ]
      refine wpAnyH_take (i := 6) (oi := ⟨_, _, _, _, _, _⟩) (v := ?v39) rfl (by kernel_rfl) (by kernel_rfl) (by kernel_rfl) (fun _ _ _ h => h) ?y39 hS ?_
      case y39 => first | (refine Or.inr ⟨by rfl, ?_⟩; with_reducible rfl) | (refine Or.inl ⟨by rfl, ?_⟩; intro wS hSw; go_simp; try with_reducible rfl)
      simp only [Act.put, List.setIfInBounds_toArray, List.set_cons_zero, List.set_cons_succ]
      refine wpAnyH_take (i := 7) (oi := ⟨_, _, _, _, _, _⟩) (v := ?v40) rfl (by kernel_rfl) (by kernel_rfl) (by kernel_rfl) (fun _ _ _ h => h) ?y40 hS ?_
      case y40 => first | (refine Or.inr ⟨by rfl, ?_⟩; with_reducible rfl) | (refine Or.inl ⟨by rfl, ?_⟩; intro wS hSw; go_simp; try with_reducible rfl)
      simp only [Act.put, List.setIfInBounds_toArray, List.set_cons_zero, List.set_cons_succ]
      refine wpAnyH_take (i := 8) (oi := ⟨_, _, _, _, _, _⟩) (v := ?v41) rfl (by kernel_rfl) (by kernel_rfl) (by kernel_rfl) (fun _ _ _ h => h) ?y41 hS ?_
      case y41 => first | (refine Or.inr ⟨by rfl, ?_⟩; with_reducible rfl) | (refine Or.inl ⟨by rfl, ?_⟩; intro wS hSw; go_simp; try with_reducible rfl)
      simp only [Act.put, List.setIfInBounds_toArray, List.set_cons_zero, List.set_cons_succ]
      refine wpAnyH_take (i := 10) (oi := ⟨_, _, _, _, _, _⟩) (v := ?v42) rfl (by kernel_rfl) (by kernel_rfl) (by kernel_rfl) (fun _ _ _ h => h) ?y42 hS ?_
      case y42 => first | (refine Or.inr ⟨by rfl, ?_⟩; with_reducible rfl) | (refine Or.inl ⟨by rfl, ?_⟩; intro wS hSw; go_simp; try with_reducible rfl)
      simp only [Act.put, List.setIfInBounds_toArray, List.set_cons_zero, List.set_cons_succ]
      refine wpAnyH_take (i := 11) (oi := ⟨_, _, _, _, _, _⟩) (v := ?v43) rfl (by kernel_rfl) (by kernel_rfl) (by kernel_rfl) (fun _ _ _ h => h) ?y43 hS ?_
      case y43 => first | (refine Or.inr ⟨by rfl, ?_⟩; with_reducible rfl) | (refine Or.inl ⟨by rfl, ?_⟩; intro wS hSw; go_simp; try with_reducible rfl)
      simp only [Act.put, List.setIfInBounds_toArray, List.set_cons_zero, List.set_cons_succ]
      refine wpAnyH_take (i := 12) (oi := ⟨_, _, _, _, _, _⟩) (v := ?v44) rfl (by kernel_rfl) (by kernel_rfl) (by kernel_rfl) (fun _ _ _ h => h) ?y44 hS ?_
      case y44 => first | (refine Or.inr ⟨by rfl, ?_⟩; with_reducible rfl) | (refine Or.inl ⟨by rfl, ?_⟩; intro wS hSw; go_simp; try with_reducible rfl)
      simp only [Act.put, List.setIfInBounds_toArray, List.set_cons_zero, List.set_cons_succ]
      refine wpAnyH_take (i := 13) (oi := ⟨_, _, _, _, _, _⟩) (v := ?v45) rfl (by kernel_rfl) (by kernel_rfl) (by kernel_rfl) (fun _ _ _ h => h) ?y45 hS ?_
      case y45 => first | (refine Or.inr ⟨by rfl, ?_⟩; with_reducible rfl) | (refine Or.inl ⟨by rfl, ?_⟩; intro wS hSw; go_simp; try with_reducible rfl)
      simp only [Act.put, List.setIfInBounds_toArray, List.set_cons_zero, List.set_cons_succ]
      refine wpAnyH_take (i := 14) (oi := ⟨_, _, _, _, _, _⟩) (v := ?v46) rfl (by kernel_rfl) (by kernel_rfl) (by kernel_rfl) (fun _ _ _ h => h) ?y46 hS ?_
      case y46 => first | (refine Or.inr ⟨by rfl, ?_⟩; with_reducible rfl) | (refine Or.inl ⟨by rfl, ?_⟩; intro wS hSw; go_simp; try with_reducible rfl)
      simp only [Act.put, List.setIfInBounds_toArray, List.set_cons_zero, List.set_cons_succ]
      refine wpAnyH_ready (rs := [9]) (by kernel_rfl) (by simp) ?_
      refine AllReadyH.cons (o := ⟨_, _, _, _, _, _⟩) rfl (fun K hK => ?_) AllReadyH.nil
      go_simp
      refine hK.out _ _ trivial (fun hS2 => ?_)
      clear hK K
      try simp only [Act.put, List.setIfInBounds_toArray, List.set_cons_zero, List.set_cons_succ]
      refine wpAnyH_take (i := 15) (oi := ⟨_, _, _, _, _, _⟩) (v := ?v47) rfl (by kernel_rfl) (by kernel_rfl) (by kernel_rfl) (fun _ _ _ h => h) ?y47 hS ?_
      case y47 => first | (refine Or.inr ⟨by rfl, ?_⟩; with_reducible rfl) | (refine Or.inl ⟨by rfl, ?_⟩; intro wS hSw; go_simp; try with_reducible rfl)
      simp only [Act.put, List.setIfInBounds_toArray, List.set_cons_zero, List.set_cons_succ]
      refine wpAnyH_take (i := 16) (oi := ⟨_, _, _, _, _, _⟩) (v := ?v48) rfl (by kernel_rfl) (by kernel_rfl) (by kernel_rfl) (fun _ _ _ h => h) ?y48 hS ?_
      case y48 => first | (refine Or.inr ⟨by rfl, ?_⟩; with_reducible rfl) | (refine Or.inl ⟨by rfl, ?_⟩; intro wS hSw; go_simp; try with_reducible rfl)
      simp only [Act.put, List.setIfInBounds_toArray, List.set_cons_zero, List.set_cons_succ]
      refine wpAnyH_ready (rs := [17]) (by kernel_rfl) (by simp) ?_
      refine AllReadyH.cons (o := ⟨_, _, _, _, _, _⟩) rfl (fun K hK => ?_) AllReadyH.nil
      go_simp
      refine hK.out _ _ trivial (fun hS3 => ?_)
      clear hK K
      try simp only [Act.put, List.setIfInBounds_toArray, List.set_cons_zero, List.set_cons_succ]
      refine wpAnyH_done (by kernel_rfl) ?_ _
      go_wp2
      have k1 := block_setCell' (k := 0) (u := .int .u64 (bits .or .u64 0 8796093022208)) H1.out
      have hbv : bits .or .u64 0 8796093022208 = 8796093022208 := by kernel_rfl
      rw [hbv] at k1 ⊢
      exact ⟨⟨3, by omega, by go_num, Lib.hid k1, Lib.hid (HB.out.setCell (p := ⟨X, 0, none⟩) (by have := HX.out; simp only; omega) _).drew⟩, by simp [intOf]⟩
    · have hd := H1.out
      unfold amC at hd
      obtain ⟨d0, d1, d2, d3⟩ := four_box hd
      clear hd
      have hn := one_new wr (.cells #[.int .i64 3, .int .u64 8796093022208, .int .u64 25769803776, .int .u64 0, .int .u64 0, .string ⟨#[]⟩, .int .i64 0, .int .i64 0, .slice none 0 0] 60 (0, 0))
      have HN := Lib.hid hn
      clear hn
      go_wp2
      go_ret
      exact ⟨_, amongN, rfl, rfl, (NsOwn.one rfl rfl HN.out.2).base_le HB.out.size, HB.out.trans (HN.out.1.mono HB.out.size)⟩
end Go.Proofs.YtkimkghldilliaaGreat
namespace Go.Proofs.YtkimkghldilliaaGreat
open Go.RowKit Go.Lib

def kn0 : List (List Nd) := [(ofN 7 [(ofN 6 [[callN 0 0], [wordN ⟨#[97]⟩]]), [wordN ⟨#[98]⟩]])]
def kn1 : List (List Nd) := [(ofN 7 [(ofN 6 [[callN 0 1], [wordN ⟨#[43]⟩], [callN 0 2]]), (ofN 6 [[callN 0 2], [wordN ⟨#[42]⟩], [callN 0 3]]), [wordN ⟨#[97]⟩]])]
def kn2 : List (List Nd) := [(ofN 7 [(ofN 6 [[callN 1 0], [wordN ⟨#[97]⟩]]), [wordN ⟨#[98]⟩]]), (ofN 7 [(ofN 6 [[callN 0 0], [wordN ⟨#[98]⟩]]), [wordN ⟨#[97]⟩]])]
def kn3 : List (List Nd) := [(ofN 7 [(ofN 6 [[callN 0 0], [wordN ⟨#[97]⟩]]), [bare 1 []]])]
def kn4 : List (List Nd) := [(ofN 7 [(ofN 6 [[callN 1 0], [callN 0 0]]), [wordN ⟨#[97]⟩]]), (ofN 7 [(ofN 6 [[callN 0 0], [wordN ⟨#[98]⟩]]), [bare 1 []]])]
def kn5 : List (List Nd) := [(ofN 7 [(ofN 6 [(ofN 11 [[callN 0 0]]), [wordN ⟨#[97]⟩]]), (ofN 6 [[callN 0 0], [wordN ⟨#[98]⟩]]), (ofN 6 [(ofN 12 [[wordN ⟨#[97]⟩]]), [bare 2 []]])])]
def kn6 : List (List Nd) := [(ofN 6 [(ofN 8 [[callN 1 0]]), (ofN 10 [[callN 2 0]])]), (ofN 7 [(ofN 6 [[callN 2 0], [wordN ⟨#[98]⟩]]), [wordN ⟨#[97, 98]⟩]]), (ofN 7 [(ofN 6 [[callN 1 0], [wordN ⟨#[97]⟩]]), amongN])]
def kn7 : List (List Nd) := [(ofN 7 [(ofN 6 [[callN 0 0], [callN 0 0]]), [wordN ⟨#[97]⟩], [wordN ⟨#[98]⟩]])]
def kn8 : List (List Nd) := [(ofN 7 [(ofN 6 [[wordN ⟨#[97]⟩], [callN 0 1]]), [wordN ⟨#[98]⟩]])]
def kn9 : List (List Nd) := [(ofN 6 [(ofN 8 [(ofN 7 [(ofN 6 [[callN 1 0], [wordN ⟨#[43]⟩]]), (ofN 6 [[callN 1 3], [wordN ⟨#[42]⟩]])])]), [callN 1 1]]), (ofN 7 [(ofN 9 [[wordN ⟨#[97]⟩]]), (ofN 6 [[wordN ⟨#[98]⟩], [callN 2 0]])]), (ofN 7 [[callN 0 2], [bare 1 []]])]
def kn10 : List (List Nd) := [(ofN 7 [(ofN 6 [[callN 1 0], [wordN ⟨#[43]⟩], [callN 0 0]]), [callN 1 0]]), (ofN 7 [(ofN 6 [(ofN 11 [[wordN ⟨#[43]⟩]]), [bare 2 []], [callN 1 0]]), [bare 1 []]])]
def kn11 : List (List Nd) := [(ofN 7 [(ofN 6 [[callN 0 1], [callN 1 1]]), [callN 1 0]]), (ofN 7 [(ofN 6 [[callN 0 2], [wordN ⟨#[97]⟩]]), [wordN ⟨#[98]⟩], [wordN ⟨#[97]⟩]])]
def knL : Nat → List (List Nd)
  | 0 => kn0
  | 1 => kn1
  | 2 => kn2
  | 3 => kn3
  | 4 => kn4
  | 5 => kn5
  | 6 => kn6
  | 7 => kn7
  | 8 => kn8
  | 9 => kn9
  | 10 => kn10
  | _ => kn11
end Go.Proofs.YtkimkghldilliaaGreat
namespace Go.Proofs.YtkimkghldilliaaGreat
open Go.RowKit Go.Lib

set_option maxRecDepth 100000 in
set_option maxHeartbeats 4000000 in
theorem known_0 (n : Int) (w : World) (hk : pickN n 12 = 0) : Calls Tryz.prog 16 #[.int .i64 n] w (GrPost kn0 w) := by
  go_enter Tryz.func16, Tryz.ntmps16
  go_upto_region 1 with (fail)
  refine gen_world (S := fun u => Below w.heap.size w u ∧ u.heap[w.heap.size]? = some (.cells #[.slice none 0 0, .slice none 0 0] 25 (0, 0))) (one_new w _) (fun u hu => ?_)
  obtain ⟨hb, h1⟩ := hu
  have B0 := Lib.hid hb
  have H1 := Lib.hid h1
  obtain ⟨X, hX⟩ : ∃ X, X = w.heap.size := ⟨_, rfl⟩
  have HX := Lib.hid hX
  rw [← hX] at H1 ⊢
  clear hb h1 hX
  go_wp2_with fail
  refine (pick_any u n 12 (by omega) (by omega)).mono ?_
  rintro e u' ⟨rfl, rfl⟩
  rw [hk]
  clear hk
  go_wp2_with fail
  refine (call_made 0 0 u).mono ?_
  rintro e w1 ⟨v7, N7, rfl, hm, hO, hB⟩
  have M7_1 := Lib.hid (show NsM w1 v7 [callN 0 0] from NsM.of (w' := w) hm hO)
  have B1 := Lib.hid (B0.out.trans (hB.mono B0.out.size))
  have H1_1 := Lib.hid ((hB.block _ (lt_of_block H1.out)).trans H1.out)
  clear hm hO hB B0 H1
  obtain ⟨a7, n7, c7, rfl⟩ := M7_1.out.val
  go_wp2_with fail
  refine (word_made ⟨#[97]⟩ w1).mono ?_
  rintro e w2 ⟨v8, N8, rfl, hm, hO, hB⟩
  have M8_2 := Lib.hid (show NsM w2 v8 [wordN ⟨#[97]⟩] from NsM.of (w' := w) hm hO)
  have M7_2 := Lib.hid (M7_1.out.later hB)
  have B2 := Lib.hid (B1.out.trans (hB.mono B1.out.size))
  have H1_2 := Lib.hid ((hB.block _ (lt_of_block H1_1.out)).trans H1_1.out)
  clear hm hO hB M7_1 B1 H1_1
  obtain ⟨a8, n8, c8, rfl⟩ := M8_2.out.val
  go_wp2_with fail
  refine (chain_m _ _ _ _ w2 M7_2.out M8_2.out (by kernel_rfl) (by kernel_rfl)).mono ?_
  rintro e w3 ⟨v9, N9, rfl, hm, hO, hB⟩
  have M9_3 := Lib.hid (show NsM w3 v9 (ofN 6 [[callN 0 0], [wordN ⟨#[97]⟩]]) from NsM.of (w' := w) hm hO)
  have B3 := Lib.hid (B2.out.trans (hB.mono B2.out.size))
  have H1_3 := Lib.hid ((hB.block _ (lt_of_block H1_2.out)).trans H1_2.out)
  clear hm hO hB M7_2 M8_2 B2 H1_2
  obtain ⟨a9, n9, c9, rfl⟩ := M9_3.out.val
  go_wp2_with fail
  refine (word_made ⟨#[98]⟩ w3).mono ?_
  rintro e w4 ⟨v10, N10, rfl, hm, hO, hB⟩
  have M10_4 := Lib.hid (show NsM w4 v10 [wordN ⟨#[98]⟩] from NsM.of (w' := w) hm hO)
  have M9_4 := Lib.hid (M9_3.out.later hB)
  have B4 := Lib.hid (B3.out.trans (hB.mono B3.out.size))
  have H1_4 := Lib.hid ((hB.block _ (lt_of_block H1_3.out)).trans H1_3.out)
  clear hm hO hB M9_3 B3 H1_3
  obtain ⟨a10, n10, c10, rfl⟩ := M10_4.out.val
  go_wp2_with fail
  refine (first_m _ _ _ _ w4 M9_4.out M10_4.out (by kernel_rfl) (by kernel_rfl)).mono ?_
  rintro e w5 ⟨v11, N11, rfl, hm, hO, hB⟩
  have M11_5 := Lib.hid (show NsM w5 v11 (ofN 7 [(ofN 6 [[callN 0 0], [wordN ⟨#[97]⟩]]), [wordN ⟨#[98]⟩]]) from NsM.of (w' := w) hm hO)
  have B5 := Lib.hid (B4.out.trans (hB.mono B4.out.size))
  have H1_5 := Lib.hid ((hB.block _ (lt_of_block H1_4.out)).trans H1_4.out)
  clear hm hO hB M9_4 M10_4 B4 H1_4
  obtain ⟨a11, n11, c11, rfl⟩ := M11_5.out.val
  have HN6 := Lib.hid (one_new w5 (.cells #[.slice a11 n11 c11] 23 (0, 0)))
  go_wp2_with fail
  refine (gram_m w5.heap.size [.slice a11 n11 c11] [(ofN 7 [(ofN 6 [[callN 0 0], [wordN ⟨#[97]⟩]]), [wordN ⟨#[98]⟩]])] _ HN6.out.2 ⟨M11_5.out.later HN6.out.1, (by kernel_rfl), trivial⟩ (by simp)).mono ?_
  rintro e w6 ⟨rv, nv, N, rfl, hm, hR, hO, hB⟩
  replace hB := HN6.out.1.trans (hB.mono HN6.out.1.size)
  have B6 := Lib.hid (B5.out.trans (hB.mono B5.out.size))
  have H1_6 := Lib.hid ((hB.block _ (lt_of_block H1_5.out)).trans H1_5.out)
  have hb2 : w.heap.size ≤ w5.heap.size := B5.out.size
  have hb3 := HN6.out.1.size
  have HR := Lib.hid (ownsRow_base hR (Nat.le_trans hb2 hb3))
  have HO := Lib.hid (hO.base_le (Nat.le_trans hb2 hb3))
  have HM := Lib.hid hm
  clear hm hR hO hB hb2 hb3 M11_5 B5 H1_5
  obtain ⟨ra, rc, rfl⟩ := own_val HR.out
  obtain ⟨na, nc, hnv⟩ := own_val HO.out.row
  subst hnv
  obtain ⟨nl, hnl⟩ : ∃ nl, nl = N.length := ⟨_, rfl⟩
  have HNl := Lib.hid hnl
  rw [← hnl] at HO ⊢
  clear hnl
  obtain ⟨u0, u1, e0, e1⟩ := box_cells H1_6.out
  go_wp2
  obtain ⟨k2, hk2⟩ := set2g H1_6.out (.slice ra 1 rc) (.slice na nl nc)
  obtain ⟨q0, q1, -, -⟩ := box_cells k2
  exact bodyPost_ret (v := .agg #[.slice ra 1 rc, .slice na nl nc]) (by simp [results, Tryz.f16, go_sem, q0, q1]) rfl ⟨_, _, N, rfl, HM.out, Keeps.row hk2 HR.out (fun k e => own_off HR.out H1_6.out (by decide) k e), HO.out.off H1_6.out hk2, B6.out.trans (Keeps.one_below hk2 B6.out.size (Nat.le_of_eq HX.out.symm))⟩
set_option maxRecDepth 100000 in
set_option maxHeartbeats 4000000 in
theorem known_1 (n : Int) (w : World) (hk : pickN n 12 = 1) : Calls Tryz.prog 16 #[.int .i64 n] w (GrPost kn1 w) := by
  go_enter Tryz.func16, Tryz.ntmps16
  go_upto_region 1 with (fail)
  refine gen_world (S := fun u => Below w.heap.size w u ∧ u.heap[w.heap.size]? = some (.cells #[.slice none 0 0, .slice none 0 0] 25 (0, 0))) (one_new w _) (fun u hu => ?_)
  obtain ⟨hb, h1⟩ := hu
  have B0 := Lib.hid hb
  have H1 := Lib.hid h1
  obtain ⟨X, hX⟩ : ∃ X, X = w.heap.size := ⟨_, rfl⟩
  have HX := Lib.hid hX
  rw [← hX] at H1 ⊢
  clear hb h1 hX
  go_wp2_with fail
  refine (pick_any u n 12 (by omega) (by omega)).mono ?_
  rintro e u' ⟨rfl, rfl⟩
  rw [hk]
  clear hk
  go_wp2_with fail
  refine (infix_m 0 1 2 ⟨#[43]⟩ u).mono ?_
  rintro e w1 ⟨v16, N16, rfl, hm, hO, hB⟩
  have M16_1 := Lib.hid (show NsM w1 v16 (ofN 6 [[callN 0 1], [wordN ⟨#[43]⟩], [callN 0 2]]) from NsM.of (w' := w) hm hO)
  have B1 := Lib.hid (B0.out.trans (hB.mono B0.out.size))
  have H1_1 := Lib.hid ((hB.block _ (lt_of_block H1.out)).trans H1.out)
  clear hm hO hB B0 H1
  obtain ⟨a16, n16, c16, rfl⟩ := M16_1.out.val
  go_wp2_with fail
  refine (infix_m 0 2 3 ⟨#[42]⟩ w1).mono ?_
  rintro e w2 ⟨v17, N17, rfl, hm, hO, hB⟩
  have M17_2 := Lib.hid (show NsM w2 v17 (ofN 6 [[callN 0 2], [wordN ⟨#[42]⟩], [callN 0 3]]) from NsM.of (w' := w) hm hO)
  have M16_2 := Lib.hid (M16_1.out.later hB)
  have B2 := Lib.hid (B1.out.trans (hB.mono B1.out.size))
  have H1_2 := Lib.hid ((hB.block _ (lt_of_block H1_1.out)).trans H1_1.out)
  clear hm hO hB M16_1 B1 H1_1
  obtain ⟨a17, n17, c17, rfl⟩ := M17_2.out.val
  go_wp2_with fail
  refine (word_made ⟨#[97]⟩ w2).mono ?_
  rintro e w3 ⟨v18, N18, rfl, hm, hO, hB⟩
  have M18_3 := Lib.hid (show NsM w3 v18 [wordN ⟨#[97]⟩] from NsM.of (w' := w) hm hO)
  have M16_3 := Lib.hid (M16_2.out.later hB)
  have M17_3 := Lib.hid (M17_2.out.later hB)
  have B3 := Lib.hid (B2.out.trans (hB.mono B2.out.size))
  have H1_3 := Lib.hid ((hB.block _ (lt_of_block H1_2.out)).trans H1_2.out)
  clear hm hO hB M16_2 M17_2 B2 H1_2
  obtain ⟨a18, n18, c18, rfl⟩ := M18_3.out.val
  have HN4 := Lib.hid (one_new w3 (.cells #[.slice a16 n16 c16, .slice a17 n17 c17, .slice a18 n18 c18] 23 (0, 0)))
  go_wp2_with fail
  refine (of_m 7 w3.heap.size [.slice a16 n16 c16, .slice a17 n17 c17, .slice a18 n18 c18] [(ofN 6 [[callN 0 1], [wordN ⟨#[43]⟩], [callN 0 2]]), (ofN 6 [[callN 0 2], [wordN ⟨#[42]⟩], [callN 0 3]]), [wordN ⟨#[97]⟩]] _ HN4.out.2 ⟨M16_3.out.later HN4.out.1, (by kernel_rfl), M17_3.out.later HN4.out.1, (by kernel_rfl), M18_3.out.later HN4.out.1, (by kernel_rfl), trivial⟩ (by simp)).mono ?_
  rintro e w4 ⟨v20, N20, rfl, hm, hO, hB⟩
  replace hB := HN4.out.1.trans (hB.mono HN4.out.1.size)
  have M20_4 := Lib.hid (show NsM w4 v20 (ofN 7 [(ofN 6 [[callN 0 1], [wordN ⟨#[43]⟩], [callN 0 2]]), (ofN 6 [[callN 0 2], [wordN ⟨#[42]⟩], [callN 0 3]]), [wordN ⟨#[97]⟩]]) from NsM.of (w' := w) hm hO)
  have B4 := Lib.hid (B3.out.trans (hB.mono B3.out.size))
  have H1_4 := Lib.hid ((hB.block _ (lt_of_block H1_3.out)).trans H1_3.out)
  clear hm hO hB M16_3 M17_3 M18_3 B3 H1_3
  obtain ⟨a20, n20, c20, rfl⟩ := M20_4.out.val
  have HN5 := Lib.hid (one_new w4 (.cells #[.slice a20 n20 c20] 23 (0, 0)))
  go_wp2_with fail
  refine (gram_m w4.heap.size [.slice a20 n20 c20] [(ofN 7 [(ofN 6 [[callN 0 1], [wordN ⟨#[43]⟩], [callN 0 2]]), (ofN 6 [[callN 0 2], [wordN ⟨#[42]⟩], [callN 0 3]]), [wordN ⟨#[97]⟩]])] _ HN5.out.2 ⟨M20_4.out.later HN5.out.1, (by kernel_rfl), trivial⟩ (by simp)).mono ?_
  rintro e w5 ⟨rv, nv, N, rfl, hm, hR, hO, hB⟩
  replace hB := HN5.out.1.trans (hB.mono HN5.out.1.size)
  have B5 := Lib.hid (B4.out.trans (hB.mono B4.out.size))
  have H1_5 := Lib.hid ((hB.block _ (lt_of_block H1_4.out)).trans H1_4.out)
  have hb2 : w.heap.size ≤ w4.heap.size := B4.out.size
  have hb3 := HN5.out.1.size
  have HR := Lib.hid (ownsRow_base hR (Nat.le_trans hb2 hb3))
  have HO := Lib.hid (hO.base_le (Nat.le_trans hb2 hb3))
  have HM := Lib.hid hm
  clear hm hR hO hB hb2 hb3 M20_4 B4 H1_4
  obtain ⟨ra, rc, rfl⟩ := own_val HR.out
  obtain ⟨na, nc, hnv⟩ := own_val HO.out.row
  subst hnv
  obtain ⟨nl, hnl⟩ : ∃ nl, nl = N.length := ⟨_, rfl⟩
  have HNl := Lib.hid hnl
  rw [← hnl] at HO ⊢
  clear hnl
  obtain ⟨u0, u1, e0, e1⟩ := box_cells H1_5.out
  go_wp2
  obtain ⟨k2, hk2⟩ := set2g H1_5.out (.slice ra 1 rc) (.slice na nl nc)
  obtain ⟨q0, q1, -, -⟩ := box_cells k2
  exact bodyPost_ret (v := .agg #[.slice ra 1 rc, .slice na nl nc]) (by simp [results, Tryz.f16, go_sem, q0, q1]) rfl ⟨_, _, N, rfl, HM.out, Keeps.row hk2 HR.out (fun k e => own_off HR.out H1_5.out (by decide) k e), HO.out.off H1_5.out hk2, B5.out.trans (Keeps.one_below hk2 B5.out.size (Nat.le_of_eq HX.out.symm))⟩
set_option maxRecDepth 100000 in
set_option maxHeartbeats 4000000 in
theorem known_3 (n : Int) (w : World) (hk : pickN n 12 = 3) : Calls Tryz.prog 16 #[.int .i64 n] w (GrPost kn3 w) := by
  go_enter Tryz.func16, Tryz.ntmps16
  go_upto_region 1 with (fail)
  refine gen_world (S := fun u => Below w.heap.size w u ∧ u.heap[w.heap.size]? = some (.cells #[.slice none 0 0, .slice none 0 0] 25 (0, 0))) (one_new w _) (fun u hu => ?_)
  obtain ⟨hb, h1⟩ := hu
  have B0 := Lib.hid hb
  have H1 := Lib.hid h1
  obtain ⟨X, hX⟩ : ∃ X, X = w.heap.size := ⟨_, rfl⟩
  have HX := Lib.hid hX
  rw [← hX] at H1 ⊢
  clear hb h1 hX
  go_wp2_with fail
  refine (pick_any u n 12 (by omega) (by omega)).mono ?_
  rintro e u' ⟨rfl, rfl⟩
  rw [hk]
  clear hk
  go_wp2_with fail
  refine (call_made 0 0 u).mono ?_
  rintro e w1 ⟨v39, N39, rfl, hm, hO, hB⟩
  have M39_1 := Lib.hid (show NsM w1 v39 [callN 0 0] from NsM.of (w' := w) hm hO)
  have B1 := Lib.hid (B0.out.trans (hB.mono B0.out.size))
  have H1_1 := Lib.hid ((hB.block _ (lt_of_block H1.out)).trans H1.out)
  clear hm hO hB B0 H1
  obtain ⟨a39, n39, c39, rfl⟩ := M39_1.out.val
  go_wp2_with fail
  refine (word_made ⟨#[97]⟩ w1).mono ?_
  rintro e w2 ⟨v40, N40, rfl, hm, hO, hB⟩
  have M40_2 := Lib.hid (show NsM w2 v40 [wordN ⟨#[97]⟩] from NsM.of (w' := w) hm hO)
  have M39_2 := Lib.hid (M39_1.out.later hB)
  have B2 := Lib.hid (B1.out.trans (hB.mono B1.out.size))
  have H1_2 := Lib.hid ((hB.block _ (lt_of_block H1_1.out)).trans H1_1.out)
  clear hm hO hB M39_1 B1 H1_1
  obtain ⟨a40, n40, c40, rfl⟩ := M40_2.out.val
  go_wp2_with fail
  refine (chain_m _ _ _ _ w2 M39_2.out M40_2.out (by kernel_rfl) (by kernel_rfl)).mono ?_
  rintro e w3 ⟨v41, N41, rfl, hm, hO, hB⟩
  have M41_3 := Lib.hid (show NsM w3 v41 (ofN 6 [[callN 0 0], [wordN ⟨#[97]⟩]]) from NsM.of (w' := w) hm hO)
  have B3 := Lib.hid (B2.out.trans (hB.mono B2.out.size))
  have H1_3 := Lib.hid ((hB.block _ (lt_of_block H1_2.out)).trans H1_2.out)
  clear hm hO hB M39_2 M40_2 B2 H1_2
  obtain ⟨a41, n41, c41, rfl⟩ := M41_3.out.val
  go_wp2_with fail
  refine (leaf_made 1 w3).mono ?_
  rintro e w4 ⟨v42, N42, rfl, hm, hO, hB⟩
  have M42_4 := Lib.hid (show NsM w4 v42 [bare 1 []] from NsM.of (w' := w) hm hO)
  have M41_4 := Lib.hid (M41_3.out.later hB)
  have B4 := Lib.hid (B3.out.trans (hB.mono B3.out.size))
  have H1_4 := Lib.hid ((hB.block _ (lt_of_block H1_3.out)).trans H1_3.out)
  clear hm hO hB M41_3 B3 H1_3
  obtain ⟨a42, n42, c42, rfl⟩ := M42_4.out.val
  go_wp2_with fail
  refine (first_m _ _ _ _ w4 M41_4.out M42_4.out (by kernel_rfl) (by kernel_rfl)).mono ?_
  rintro e w5 ⟨v43, N43, rfl, hm, hO, hB⟩
  have M43_5 := Lib.hid (show NsM w5 v43 (ofN 7 [(ofN 6 [[callN 0 0], [wordN ⟨#[97]⟩]]), [bare 1 []]]) from NsM.of (w' := w) hm hO)
  have B5 := Lib.hid (B4.out.trans (hB.mono B4.out.size))
  have H1_5 := Lib.hid ((hB.block _ (lt_of_block H1_4.out)).trans H1_4.out)
  clear hm hO hB M41_4 M42_4 B4 H1_4
  obtain ⟨a43, n43, c43, rfl⟩ := M43_5.out.val
  have HN6 := Lib.hid (one_new w5 (.cells #[.slice a43 n43 c43] 23 (0, 0)))
  go_wp2_with fail
  refine (gram_m w5.heap.size [.slice a43 n43 c43] [(ofN 7 [(ofN 6 [[callN 0 0], [wordN ⟨#[97]⟩]]), [bare 1 []]])] _ HN6.out.2 ⟨M43_5.out.later HN6.out.1, (by kernel_rfl), trivial⟩ (by simp)).mono ?_
  rintro e w6 ⟨rv, nv, N, rfl, hm, hR, hO, hB⟩
  replace hB := HN6.out.1.trans (hB.mono HN6.out.1.size)
  have B6 := Lib.hid (B5.out.trans (hB.mono B5.out.size))
  have H1_6 := Lib.hid ((hB.block _ (lt_of_block H1_5.out)).trans H1_5.out)
  have hb2 : w.heap.size ≤ w5.heap.size := B5.out.size
  have hb3 := HN6.out.1.size
  have HR := Lib.hid (ownsRow_base hR (Nat.le_trans hb2 hb3))
  have HO := Lib.hid (hO.base_le (Nat.le_trans hb2 hb3))
  have HM := Lib.hid hm
  clear hm hR hO hB hb2 hb3 M43_5 B5 H1_5
  obtain ⟨ra, rc, rfl⟩ := own_val HR.out
  obtain ⟨na, nc, hnv⟩ := own_val HO.out.row
  subst hnv
  obtain ⟨nl, hnl⟩ : ∃ nl, nl = N.length := ⟨_, rfl⟩
  have HNl := Lib.hid hnl
  rw [← hnl] at HO ⊢
  clear hnl
  obtain ⟨u0, u1, e0, e1⟩ := box_cells H1_6.out
  go_wp2
  obtain ⟨k2, hk2⟩ := set2g H1_6.out (.slice ra 1 rc) (.slice na nl nc)
  obtain ⟨q0, q1, -, -⟩ := box_cells k2
  exact bodyPost_ret (v := .agg #[.slice ra 1 rc, .slice na nl nc]) (by simp [results, Tryz.f16, go_sem, q0, q1]) rfl ⟨_, _, N, rfl, HM.out, Keeps.row hk2 HR.out (fun k e => own_off HR.out H1_6.out (by decide) k e), HO.out.off H1_6.out hk2, B6.out.trans (Keeps.one_below hk2 B6.out.size (Nat.le_of_eq HX.out.symm))⟩
end Go.Proofs.YtkimkghldilliaaGreat
namespace Go.Proofs.YtkimkghldilliaaGreat
open Go.RowKit Go.Lib

def frontL : List UInt8 → List UInt8 → Nat
  | a :: t, b :: u => if b = a then frontL t u + 1 else 0
  | _, _ => 0
theorem frontL_le : ∀ (t u : List UInt8), frontL t u ≤ t.length ∧ frontL t u ≤ u.length
  | [], u => by simp [frontL]
  | a :: t, [] => by simp [frontL]
  | a :: t, b :: u => by
    have := frontL_le t u
    unfold frontL
    split
    · simp; omega
    · simp
theorem frontL_step (t u : List UInt8) (n : Nat) (h : n ≤ frontL t u) : n = frontL t u ∨ (n < t.length ∧ n < u.length ∧ t[n]? = u[n]?) := by
  induction n generalizing t u with
  | zero =>
    match t, u with
    | [], u => left; simp [frontL]
    | a :: t, [] => left; simp [frontL]
    | a :: t, b :: u =>
      by_cases e : b = a
      · right; subst e; simp
      · left; simp [frontL, e]
  | succ n ih =>
    match t, u, h with
    | [], u, h => simp [frontL] at h
    | a :: t, [], h => simp [frontL] at h
    | a :: t, b :: u, h =>
      by_cases e : b = a
      · have h2 : n ≤ frontL t u := by simp [frontL, e] at h; exact h
        rcases ih t u h2 with h3 | h3
        · left; simp [frontL, e, h3]
        · right; simpa using h3
      · simp [frontL, e] at h
theorem frontL_next (t u : List UInt8) (n : Nat) (h : n ≤ frontL t u) (h1 : n < t.length) (h2 : n < u.length) : (t[n]? = u[n]? → n + 1 ≤ frontL t u) ∧ (t[n]? ≠ u[n]? → n = frontL t u) := by
  induction n generalizing t u with
  | zero =>
    match t, u, h1, h2 with
    | a :: t, b :: u, _, _ =>
      by_cases e : b = a
      · subst e; simp [frontL]
      · refine ⟨fun h3 => ?_, fun _ => by simp [frontL, e]⟩
        simp at h3
        exact absurd h3.symm e
  | succ n ih =>
    match t, u, h1, h2 with
    | a :: t, b :: u, h1, h2 =>
      by_cases e : b = a
      · have h3 : n ≤ frontL t u := by simp [frontL, e] at h; exact h
        have := ih t u h3 (by simpa using h1) (by simpa using h2)
        simp only [List.getElem?_cons_succ, frontL, e, if_true]
        exact ⟨fun h4 => by have := this.1 h4; omega, fun h4 => by have := this.2 h4; omega⟩
      · simp [frontL, e] at h
end Go.Proofs.YtkimkghldilliaaGreat
namespace Go.Proofs.YtkimkghldilliaaGreat
open Go.RowKit Go.Lib

/-- A <- A x / y. -/
def leftLs (x y : ByteArray) : List (List Nd) := [ofN 7 [ofN 6 [[callN 0 0], [wordN x]], [wordN y]]]
def leftN (x y : ByteArray) : List Nd := [bare 7 [1, 4], bare 6 [2, 3], callN 0 0, wordN x, wordN y]
theorem leftN_eq (x y : ByteArray) : ofT 0 (leftLs x y) = leftN x y := rfl
def leftR : List Ru := [⟨nameN 0, 0⟩]
theorem leftR_eq (x y : ByteArray) : gramR 0 0 (leftLs x y) = leftR := rfl
def exN : List Nd := leftN ⟨#[97]⟩ ⟨#[98]⟩
def exW : List UInt8 := [98, 97, 97, 99]
def exA : Option (Fo × Ss) := freshE (ev false leftR exN exW 100) false [] 0 0 0 0 101 ⟨100, false⟩
theorem exA_eq : exA = some (.hit ⟨3, 3, 1, [⟨0, 0, 0, 3, 1⟩, ⟨0, 0, 0, 2, 1⟩, ⟨0, 0, 0, 1, 0⟩]⟩, ⟨83, false⟩) := by kernel_rfl
theorem exB_eq : freshE (ev false leftR exN exW 8) false [] 0 1 0 0 9 ⟨8, false⟩ = some (.hit ⟨1, -1, 1, [⟨0, 1, 0, 1, 0⟩]⟩, ⟨0, false⟩) := by kernel_rfl
theorem exC_ok : (freshE (ev false leftR exN exW 7) false [] 0 1 0 0 8 ⟨7, false⟩).map (fun q => q.2.over) = some true := by kernel_rfl
theorem exC_ex : ∃ r s, freshE (ev false leftR exN exW 7) false [] 0 1 0 0 8 ⟨7, false⟩ = some (r, s) ∧ s.over = true := by
  have h := exC_ok
  cases e : freshE (ev false leftR exN exW 7) false [] 0 1 0 0 8 ⟨7, false⟩ with
  | none => rw [e] at h; cases h
  | some q =>
    rw [e] at h
    simp only [Option.map_some, Option.some.injEq] at h
    exact ⟨q.1, q.2, rfl, h⟩
theorem exR : grRight leftR exN = true := by kernel_rfl
end Go.Proofs.YtkimkghldilliaaGreat
namespace Go.Proofs.YtkimkghldilliaaGreat
open Go.RowKit Go.Lib

theorem exW_bytes (w : World) : BytesAt (w.alloc (.cells #[.int .u8 98, .int .u8 97, .int .u8 97, .int .u8 99] 5 (4, 5))) (.slice (some ⟨w.heap.size, 0, none⟩) 4 4) exW := by
  refine ⟨_, w.heap.size, 0, 4, rfl, by decide, by unfold maxLen; omega, (fun h => by cases h), fun _ => rfl, fun k hk => ?_⟩
  have hk' : k < 4 := hk
  rw [cell_alloc_new]
  rcases (by omega : k = 0 ∨ k = 1 ∨ k = 2 ∨ k = 3) with rfl | rfl | rfl | rfl <;> rfl
theorem exN_nd : ∀ x ∈ exN, NdP x := by
  intro x hx
  have h : exN.all (fun x => ndB x && decide (x.text.size ≤ 1000)) = true := by kernel_rfl
  have := List.all_eq_true.1 h x hx
  simp only [Bool.and_eq_true, decide_eq_true_eq] at this
  exact ndB_P this.1 this.2
set_option maxRecDepth 100000 in
set_option maxHeartbeats 8000000 in
theorem awake_any (w : World) : Calls Tryz.prog 7 #[] w fun e w' => e = .returned (.bool true) ∧ Below w.heap.size w w' := by
  have kc := fun (w : World) (C : Array Value) (n c : Nat) => Lib.run_convert_bytes_const (P := Tryz.prog) w 26 5 C n c Tryz.underlying26 Tryz.underlying5
  go_enter Tryz.func7, Tryz.ntmps7
  go_wp2_with fail
  refine (known_0 0 w (by decide)).mono ?_
  rintro e w1 ⟨rv, nv, N, rfl, hm, hR, hO, hB⟩
  have HM := Lib.hid hm
  have HR := Lib.hid hR
  have HO := Lib.hid hO
  have B0 := Lib.hid hB
  clear hm hR hO hB
  obtain ⟨ra, rc, hrv⟩ := own_val HR.out
  have hrv2 : rv = .slice ra 1 rc := hrv
  subst hrv2
  clear hrv
  obtain ⟨na, nc, hnv⟩ := own_val HO.out.row
  subst hnv
  obtain ⟨nl, hnl⟩ : ∃ nl, nl = N.length := ⟨_, rfl⟩
  rw [← hnl] at HO ⊢
  clear hnl
  go_upto_region 2 with (fail)
  refine gen_world (S := fun u => Below w1.heap.size w1 u ∧ u.heap[w1.heap.size]? = some (.cells #[.slice ra 1 rc, .slice na nl nc] 25 (0, 0))) (one_new w1 _) (fun u0 hu => ?_)
  obtain ⟨hb, h1⟩ := hu
  have HR0 := Lib.hid (Keeps.row (Keeps.ofNew hb (fun _ => False)) HR.out (fun _ _ => id))
  have HO0 := Lib.hid (HO.out.later hb)
  have BU0 := Lib.hid (B0.out.trans (hb.mono B0.out.size))
  obtain ⟨G, hG⟩ : ∃ G, G = w1.heap.size := ⟨_, rfl⟩
  rw [← hG] at h1 ⊢
  have HG0 := Lib.hid h1
  clear hb h1 hG HR HO B0
  obtain ⟨v0, v1, -, -⟩ := box_cells HG0.out
  have HN0 := Lib.hid (And.intro (one_new u0 (.cells #[.int .u8 98, .int .u8 97, .int .u8 97, .int .u8 99] 5 (4, 5))).1 (exW_bytes u0))
  go_wp2_with fail
  refine (match_made (P := exN) (W := exW) (ru := ⟨nameN 0, 0⟩) (p := 0) (T := 100) _ (Keeps.row (Keeps.ofNew HN0.out.1 (fun _ => False)) HR0.out (fun _ _ => id)) (HO0.out.later HN0.out.1) rfl HM.out exN_nd HN0.out.2 exR (by decide) (by decide) rfl (by decide) (by decide) (by decide) exA_eq).mono ?_
  rintro e z0 ⟨⟨tv, he, ht⟩, hb⟩
  have he2 : e = .returned (.tuple #[.agg #[.bool true, .int .i64 3, .int .i64 3, tv], .int .i64 17, .int .i64 0]) := he
  subst he2
  clear he
  obtain ⟨ta0, tc0, htv⟩ := ht.val'
  have htv2 : tv = .slice ta0 3 tc0 := htv
  subst htv2
  clear htv
  replace hb := HN0.out.1.trans (hb.mono HN0.out.1.size)
  have HT0 := Lib.hid (show TwIn _ _ [⟨0, 0, 0, 3, 1⟩, ⟨0, 0, 0, 2, 1⟩, ⟨0, 0, 0, 1, 0⟩] from ht)
  have HZ0 := Lib.hid hb
  clear ht hb v0 v1
  go_upto_region 3 with (fail)
  refine gen_world (S := fun u => Below z0.heap.size z0 u ∧ u.heap[z0.heap.size]? = some (.cells #[.bool true, .int .i64 3, .int .i64 3, .slice ta0 3 tc0] 35 (0, 0))) (one_new z0 _) (fun u1 hu => ?_)
  obtain ⟨hb, h1⟩ := hu
  have hb2 : Below u0.heap.size u0 u1 := HZ0.out.trans (hb.mono HZ0.out.size)
  have HR1 := Lib.hid (Keeps.row (Keeps.ofNew hb2 (fun _ => False)) HR0.out (fun _ _ => id))
  have HO1 := Lib.hid (HO0.out.later hb2)
  have BU1 := Lib.hid (BU0.out.trans (hb2.mono BU0.out.size))
  have HG1 := Lib.hid ((hb2.block _ (lt_of_block HG0.out)).trans HG0.out)
  have HT0_1 := Lib.hid (HT0.out.later hb)
  obtain ⟨F0, hF⟩ : ∃ F, F = z0.heap.size := ⟨_, rfl⟩
  rw [← hF] at h1 ⊢
  have HF0_1 := Lib.hid h1
  clear hb h1 hb2 hF HT0 HZ0 HN0 HR0 HO0 BU0 HG0
  obtain ⟨v0, v1, -, -⟩ := box_cells HG1.out
  have HN1 := Lib.hid (And.intro (one_new u1 (.cells #[.int .u8 98, .int .u8 97, .int .u8 97, .int .u8 99] 5 (4, 5))).1 (exW_bytes u1))
  go_wp2_with fail
  refine (match_made (P := exN) (W := exW) (ru := ⟨nameN 0, 0⟩) (p := 0) (T := 8) _ (Keeps.row (Keeps.ofNew HN1.out.1 (fun _ => False)) HR1.out (fun _ _ => id)) (HO1.out.later HN1.out.1) rfl HM.out exN_nd HN1.out.2 exR (by decide) (by decide) rfl (by decide) (by decide) (by decide) exB_eq).mono ?_
  rintro e z1 ⟨⟨tv, he, ht⟩, hb⟩
  have he2 : e = .returned (.tuple #[.agg #[.bool true, .int .i64 1, .int .i64 (-1), tv], .int .i64 8, .int .i64 0]) := he
  subst he2
  clear he
  obtain ⟨ta1, tc1, htv⟩ := ht.val'
  have htv2 : tv = .slice ta1 1 tc1 := htv
  subst htv2
  clear htv
  replace hb := HN1.out.1.trans (hb.mono HN1.out.1.size)
  have HT1 := Lib.hid ht
  have HZ1 := Lib.hid hb
  clear ht hb v0 v1
  go_upto_region 4 with (fail)
  refine gen_world (S := fun u => Below z1.heap.size z1 u ∧ u.heap[z1.heap.size]? = some (.cells #[.bool true, .int .i64 1, .int .i64 (-1), .slice ta1 1 tc1] 35 (0, 0))) (one_new z1 _) (fun u2 hu => ?_)
  obtain ⟨hb, h1⟩ := hu
  have hb2 : Below u1.heap.size u1 u2 := HZ1.out.trans (hb.mono HZ1.out.size)
  have HR2 := Lib.hid (Keeps.row (Keeps.ofNew hb2 (fun _ => False)) HR1.out (fun _ _ => id))
  have HO2 := Lib.hid (HO1.out.later hb2)
  have BU2 := Lib.hid (BU1.out.trans (hb2.mono BU1.out.size))
  have HG2 := Lib.hid ((hb2.block _ (lt_of_block HG1.out)).trans HG1.out)
  have HT1_2 := Lib.hid (HT1.out.later hb)
  obtain ⟨F1, hF⟩ : ∃ F, F = z1.heap.size := ⟨_, rfl⟩
  rw [← hF] at h1 ⊢
  have HF1_2 := Lib.hid h1
  have HF0_2 := Lib.hid ((hb2.block _ (lt_of_block HF0_1.out)).trans HF0_1.out)
  have HT0_2 := Lib.hid (HT0_1.out.later hb2)
  clear HF0_1 HT0_1
  clear hb h1 hb2 hF HT1 HZ1 HN1 HR1 HO1 BU1 HG1
  obtain ⟨v0, v1, -, -⟩ := box_cells HG2.out
  have HN2 := Lib.hid (And.intro (one_new u2 (.cells #[.int .u8 98, .int .u8 97, .int .u8 97, .int .u8 99] 5 (4, 5))).1 (exW_bytes u2))
  go_wp2_with fail
  obtain ⟨r, s, hex, hov⟩ := exC_ex
  refine (match_made (P := exN) (W := exW) (ru := ⟨nameN 0, 0⟩) (p := 0) (T := 7) _ (Keeps.row (Keeps.ofNew HN2.out.1 (fun _ => False)) HR2.out (fun _ _ => id)) (HO2.out.later HN2.out.1) rfl HM.out exN_nd HN2.out.2 exR (by decide) (by decide) rfl (by decide) (by decide) (by decide) hex).mono ?_
  rintro e z2 hP
  obtain ⟨⟨tv, rfl, ht⟩, hb⟩ := match_full hP hov
  clear hP
  obtain ⟨ta2, tc2, htv⟩ := ht.val'
  have htv2 : tv = .slice ta2 0 tc2 := htv
  subst htv2
  clear htv hex hov
  replace hb := HN2.out.1.trans (hb.mono HN2.out.1.size)
  have HT2 := Lib.hid ht
  have HZ2 := Lib.hid hb
  clear ht hb v0 v1
  go_upto_region 5 with (fail)
  refine gen_world (S := fun u => Below z2.heap.size z2 u ∧ u.heap[z2.heap.size]? = some (.cells #[.bool false, .int .i64 0, .int .i64 0, .slice ta2 0 tc2] 35 (0, 0))) (one_new z2 _) (fun u3 hu => ?_)
  obtain ⟨hb, h1⟩ := hu
  have hb2 : Below u2.heap.size u2 u3 := HZ2.out.trans (hb.mono HZ2.out.size)
  have HR3 := Lib.hid (Keeps.row (Keeps.ofNew hb2 (fun _ => False)) HR2.out (fun _ _ => id))
  have HO3 := Lib.hid (HO2.out.later hb2)
  have BU3 := Lib.hid (BU2.out.trans (hb2.mono BU2.out.size))
  have HG3 := Lib.hid ((hb2.block _ (lt_of_block HG2.out)).trans HG2.out)
  have HT2_3 := Lib.hid (HT2.out.later hb)
  obtain ⟨F2, hF⟩ : ∃ F, F = z2.heap.size := ⟨_, rfl⟩
  rw [← hF] at h1 ⊢
  have HF2_3 := Lib.hid h1
  have HF0_3 := Lib.hid ((hb2.block _ (lt_of_block HF0_2.out)).trans HF0_2.out)
  have HT0_3 := Lib.hid (HT0_2.out.later hb2)
  clear HF0_2 HT0_2
  have HF1_3 := Lib.hid ((hb2.block _ (lt_of_block HF1_2.out)).trans HF1_2.out)
  have HT1_3 := Lib.hid (HT1_2.out.later hb2)
  clear HF1_2 HT1_2
  clear hb h1 hb2 hF HT2 HZ2 HN2 HR2 HO2 BU2 HG2
  obtain ⟨x0, x1, x2, x3⟩ := four_box HF0_3.out
  obtain ⟨y0, y1, y2, y3⟩ := four_box HF1_3.out
  obtain ⟨-, -, -, -, hc⟩ := TwAt.cells HT0_3.out.1
  obtain ⟨tb, tf, ha, -, c0, c1, c2, c3, c4⟩ := hc 0 (by decide)
  obtain ⟨tb1, tf1, ha1, -, d0, d1, d2, d3, d4⟩ := hc 1 (by decide)
  obtain ⟨tb2, tf2, ha2, -, e0, e1, e2, e3, e4⟩ := hc 2 (by decide)
  subst ha
  simp only [Option.some.injEq, Addr.mk.injEq, and_true] at ha1 ha2
  obtain ⟨rfl, rfl⟩ := ha1
  obtain ⟨rfl, rfl⟩ := ha2
  clear hc
  simp only [List.getElem_cons_zero, List.getElem_cons_succ] at c0 c1 c2 c3 c4 d0 d1 d2 d3 d4 e0 e1 e2 e3 e4
  go_wp2
  go_ret
  exact ⟨rfl, BU3.out⟩
end Go.Proofs.YtkimkghldilliaaGreat
