import Derived.Test.YtpchjpmkkiopiaaHpRm
namespace Go.Proofs.Ytpchjpmkkiopiaa
open Go.RowKit Go.Lib

set_option maxHeartbeats 400000 in
theorem rLen_any [Watch] {base r m : Nat} {lv : Value} {L : List En} (w : World) (h : RowIs base w r m lv L) : Calls Try.prog 116 #[.pointer (some ⟨r, 0, none⟩)] w fun e w' => e = .returned (.int .i64 L.length) ∧ w = w' := by
  obtain ⟨c0, -, -⟩ := h.cells
  obtain ⟨ao, cap, rfl⟩ := own_val h.row
  obtain ⟨n, hn⟩ : ∃ n, n = L.length := ⟨_, rfl⟩
  rw [← hn] at c0 ⊢
  clear h hn
  go_enter Try.func116, Try.ntmps116
  go_wp2
  go_ret
  exact ⟨rfl, rfl⟩
set_option maxRecDepth 100000 in
set_option maxHeartbeats 2000000 in
theorem rLess_any [Watch] {base r m : Nat} {lv : Value} {L : List En} (i j : Nat) (w : World) (h : RowIs base w r m lv L) (hi : i < L.length) (hj : j < L.length) :
    Calls Try.prog 117 #[.pointer (some ⟨r, 0, none⟩), .int .i64 i, .int .i64 j] w fun e w' => e = .returned (.bool (decide (En.lt (pos L i) (pos L j)))) ∧ Below w.heap.size w w' := by
  have hd : decide (En.lt (pos L i) (pos L j)) = decide (cmpE (pos L i) (pos L j) < 0) := decide_eq_decide.2 (cmpE_lt _ _).symm
  have HD := Lib.hid hd
  have hr := h.row
  have hle := h.le
  obtain ⟨c0, -, -⟩ := h.cells
  obtain ⟨g, cap, rfl⟩ := own_shape hr (by omega)
  obtain ⟨⟨a0, a1, a2⟩, -⟩ := row3 hr i hi
  obtain ⟨⟨b0, b1, b2⟩, -⟩ := row3 hr j hj
  have R0 := Lib.hid c0
  have A0 := Lib.hid a0
  have A1 := Lib.hid a1
  have A2 := Lib.hid a2
  have B0 := Lib.hid b0
  have B1 := Lib.hid b1
  have B2 := Lib.hid b2
  obtain ⟨n, hn⟩ : ∃ n, n = L.length := ⟨_, rfl⟩
  rw [← hn] at R0 hle hi hj
  have hi' : (i : Int) < n := by omega
  have hj' : (j : Int) < n := by omega
  clear h hr c0 a0 a1 a2 b0 b1 b2 hd hn
  go_enter Try.func117, Try.ntmps117
  go_upto_region 1 with (fail)
  refine wp_region_held_drew (S := fun wq => Below w.heap.size w wq) (by kernel_rfl) ((Below.refl _ _).drew) (fun hS => ?_)
  refine wpAnyH_take (i := 0) (oi := ⟨_, _, _, _, _, _⟩) (v := ?v1) rfl (by kernel_rfl) (by kernel_rfl) (by kernel_rfl) (fun _ _ _ h => h) ?y1 hS ?_
  case y1 => first | (refine Or.inr ⟨by rfl, ?_⟩; with_reducible rfl) | (refine Or.inl ⟨by rfl, ?_⟩; intro wS hSw; have r0S := cell_later hSw R0.out; have a0S := cell_later hSw A0.out; have a1S := cell_later hSw A1.out; have a2S := cell_later hSw A2.out; have b0S := cell_later hSw B0.out; have b1S := cell_later hSw B1.out; have b2S := cell_later hSw B2.out; go_simp; try with_reducible rfl)
  simp only [Act.put, List.setIfInBounds_toArray, List.set_cons_zero, List.set_cons_succ]
  refine wpAnyH_take (i := 1) (oi := ⟨_, _, _, _, _, _⟩) (v := ?v2) rfl (by kernel_rfl) (by kernel_rfl) (by kernel_rfl) (fun _ _ _ h => h) ?y2 hS ?_
  case y2 => first | (refine Or.inr ⟨by rfl, ?_⟩; with_reducible rfl) | (refine Or.inl ⟨by rfl, ?_⟩; intro wS hSw; have r0S := cell_later hSw R0.out; have a0S := cell_later hSw A0.out; have a1S := cell_later hSw A1.out; have a2S := cell_later hSw A2.out; have b0S := cell_later hSw B0.out; have b1S := cell_later hSw B1.out; have b2S := cell_later hSw B2.out; go_simp; try with_reducible rfl)
  simp only [Act.put, List.setIfInBounds_toArray, List.set_cons_zero, List.set_cons_succ]
  refine wpAnyH_take (i := 2) (oi := ⟨_, _, _, _, _, _⟩) (v := ?v3) rfl (by kernel_rfl) (by kernel_rfl) (by kernel_rfl) (fun _ _ _ h => h) ?y3 hS ?_
  case y3 => first | (refine Or.inr ⟨by rfl, ?_⟩; with_reducible rfl) | (refine Or.inl ⟨by rfl, ?_⟩; intro wS hSw; have r0S := cell_later hSw R0.out; have a0S := cell_later hSw A0.out; have a1S := cell_later hSw A1.out; have a2S := cell_later hSw A2.out; have b0S := cell_later hSw B0.out; have b1S := cell_later hSw B1.out; have b2S := cell_later hSw B2.out; go_simp; try with_reducible rfl)
  simp only [Act.put, List.setIfInBounds_toArray, List.set_cons_zero, List.set_cons_succ]
  refine wpAnyH_take (i := 3) (oi := ⟨_, _, _, _, _, _⟩) (v := ?v4) rfl (by kernel_rfl) (by kernel_rfl) (by kernel_rfl) (fun _ _ _ h => h) ?y4 hS ?_
  case y4 => first | (refine Or.inr ⟨by rfl, ?_⟩; with_reducible rfl) | (refine Or.inl ⟨by rfl, ?_⟩; intro wS hSw; have r0S := cell_later hSw R0.out; have a0S := cell_later hSw A0.out; have a1S := cell_later hSw A1.out; have a2S := cell_later hSw A2.out; have b0S := cell_later hSw B0.out; have b1S := cell_later hSw B1.out; have b2S := cell_later hSw B2.out; go_simp; try with_reducible rfl)
  simp only [Act.put, List.setIfInBounds_toArray, List.set_cons_zero, List.set_cons_succ]
  refine wpAnyH_take (i := 4) (oi := ⟨_, _, _, _, _, _⟩) (v := ?v5) rfl (by kernel_rfl) (by kernel_rfl) (by kernel_rfl) (fun _ _ _ h => h) ?y5 hS ?_
  case y5 => first | (refine Or.inr ⟨by rfl, ?_⟩; with_reducible rfl) | (refine Or.inl ⟨by rfl, ?_⟩; intro wS hSw; have r0S := cell_later hSw R0.out; have a0S := cell_later hSw A0.out; have a1S := cell_later hSw A1.out; have a2S := cell_later hSw A2.out; have b0S := cell_later hSw B0.out; have b1S := cell_later hSw B1.out; have b2S := cell_later hSw B2.out; go_simp; try with_reducible rfl)
  simp only [Act.put, List.setIfInBounds_toArray, List.set_cons_zero, List.set_cons_succ]
  refine wpAnyH_take (i := 5) (oi := ⟨_, _, _, _, _, _⟩) (v := ?v6) rfl (by kernel_rfl) (by kernel_rfl) (by kernel_rfl) (fun _ _ _ h => h) ?y6 hS ?_
  case y6 => first | (refine Or.inr ⟨by rfl, ?_⟩; with_reducible rfl) | (refine Or.inl ⟨by rfl, ?_⟩; intro wS hSw; have r0S := cell_later hSw R0.out; have a0S := cell_later hSw A0.out; have a1S := cell_later hSw A1.out; have a2S := cell_later hSw A2.out; have b0S := cell_later hSw B0.out; have b1S := cell_later hSw B1.out; have b2S := cell_later hSw B2.out; go_simp; try with_reducible rfl)
  simp only [Act.put, List.setIfInBounds_toArray, List.set_cons_zero, List.set_cons_succ]
  refine wpAnyH_take (i := 6) (oi := ⟨_, _, _, _, _, _⟩) (v := ?v7) rfl (by kernel_rfl) (by kernel_rfl) (by kernel_rfl) (fun _ _ _ h => h) ?y7 hS ?_
  case y7 => first | (refine Or.inr ⟨by rfl, ?_⟩; with_reducible rfl) | (refine Or.inl ⟨by rfl, ?_⟩; intro wS hSw; have r0S := cell_later hSw R0.out; have a0S := cell_later hSw A0.out; have a1S := cell_later hSw A1.out; have a2S := cell_later hSw A2.out; have b0S := cell_later hSw B0.out; have b1S := cell_later hSw B1.out; have b2S := cell_later hSw B2.out; go_simp; try with_reducible rfl)
  simp only [Act.put, List.setIfInBounds_toArray, List.set_cons_zero, List.set_cons_succ]
  refine wpAnyH_take (i := 7) (oi := ⟨_, _, _, _, _, _⟩) (v := ?v8) rfl (by kernel_rfl) (by kernel_rfl) (by kernel_rfl) (fun _ _ _ h => h) ?y8 hS ?_
  case y8 => first | (refine Or.inr ⟨by rfl, ?_⟩; with_reducible rfl) | (refine Or.inl ⟨by rfl, ?_⟩; intro wS hSw; have r0S := cell_later hSw R0.out; have a0S := cell_later hSw A0.out; have a1S := cell_later hSw A1.out; have a2S := cell_later hSw A2.out; have b0S := cell_later hSw B0.out; have b1S := cell_later hSw B1.out; have b2S := cell_later hSw B2.out; go_simp; try with_reducible rfl)
  simp only [Act.put, List.setIfInBounds_toArray, List.set_cons_zero, List.set_cons_succ]
  refine wpAnyH_take (i := 8) (oi := ⟨_, _, _, _, _, _⟩) (v := ?v9) rfl (by kernel_rfl) (by kernel_rfl) (by kernel_rfl) (fun _ _ _ h => h) ?y9 hS ?_
  case y9 => first | (refine Or.inr ⟨by rfl, ?_⟩; with_reducible rfl) | (refine Or.inl ⟨by rfl, ?_⟩; intro wS hSw; have r0S := cell_later hSw R0.out; have a0S := cell_later hSw A0.out; have a1S := cell_later hSw A1.out; have a2S := cell_later hSw A2.out; have b0S := cell_later hSw B0.out; have b1S := cell_later hSw B1.out; have b2S := cell_later hSw B2.out; go_simp; try with_reducible rfl)
  simp only [Act.put, List.setIfInBounds_toArray, List.set_cons_zero, List.set_cons_succ]
  refine wpAnyH_take (i := 9) (oi := ⟨_, _, _, _, _, _⟩) (v := ?v10) rfl (by kernel_rfl) (by kernel_rfl) (by kernel_rfl) (fun _ _ _ h => h) ?y10 hS ?_
  case y10 => first | (refine Or.inr ⟨by rfl, ?_⟩; with_reducible rfl) | (refine Or.inl ⟨by rfl, ?_⟩; intro wS hSw; have r0S := cell_later hSw R0.out; have a0S := cell_later hSw A0.out; have a1S := cell_later hSw A1.out; have a2S := cell_later hSw A2.out; have b0S := cell_later hSw B0.out; have b1S := cell_later hSw B1.out; have b2S := cell_later hSw B2.out; go_simp; try with_reducible rfl)
  simp only [Act.put, List.setIfInBounds_toArray, List.set_cons_zero, List.set_cons_succ]
  refine wpAnyH_take (i := 10) (oi := ⟨_, _, _, _, _, _⟩) (v := ?v11) rfl (by kernel_rfl) (by kernel_rfl) (by kernel_rfl) (fun _ _ _ h => h) ?y11 hS ?_
  case y11 => first | (refine Or.inr ⟨by rfl, ?_⟩; with_reducible rfl) | (refine Or.inl ⟨by rfl, ?_⟩; intro wS hSw; have r0S := cell_later hSw R0.out; have a0S := cell_later hSw A0.out; have a1S := cell_later hSw A1.out; have a2S := cell_later hSw A2.out; have b0S := cell_later hSw B0.out; have b1S := cell_later hSw B1.out; have b2S := cell_later hSw B2.out; go_simp; try with_reducible rfl)
  simp only [Act.put, List.setIfInBounds_toArray, List.set_cons_zero, List.set_cons_succ]
  refine wpAnyH_take (i := 11) (oi := ⟨_, _, _, _, _, _⟩) (v := ?v12) rfl (by kernel_rfl) (by kernel_rfl) (by kernel_rfl) (fun _ _ _ h => h) ?y12 hS ?_
  case y12 => first | (refine Or.inr ⟨by rfl, ?_⟩; with_reducible rfl) | (refine Or.inl ⟨by rfl, ?_⟩; intro wS hSw; have r0S := cell_later hSw R0.out; have a0S := cell_later hSw A0.out; have a1S := cell_later hSw A1.out; have a2S := cell_later hSw A2.out; have b0S := cell_later hSw B0.out; have b1S := cell_later hSw B1.out; have b2S := cell_later hSw B2.out; go_simp; try with_reducible rfl)
  simp only [Act.put, List.setIfInBounds_toArray, List.set_cons_zero, List.set_cons_succ]
  refine wpAnyH_take (i := 12) (oi := ⟨_, _, _, _, _, _⟩) (v := ?v13) rfl (by kernel_rfl) (by kernel_rfl) (by kernel_rfl) (fun _ _ _ h => h) ?y13 hS ?_
  case y13 => first | (refine Or.inr ⟨by rfl, ?_⟩; with_reducible rfl) | (refine Or.inl ⟨by rfl, ?_⟩; intro wS hSw; have r0S := cell_later hSw R0.out; have a0S := cell_later hSw A0.out; have a1S := cell_later hSw A1.out; have a2S := cell_later hSw A2.out; have b0S := cell_later hSw B0.out; have b1S := cell_later hSw B1.out; have b2S := cell_later hSw B2.out; go_simp; try with_reducible rfl)
  simp only [Act.put, List.setIfInBounds_toArray, List.set_cons_zero, List.set_cons_succ]
  refine wpAnyH_take (i := 13) (oi := ⟨_, _, _, _, _, _⟩) (v := ?v14) rfl (by kernel_rfl) (by kernel_rfl) (by kernel_rfl) (fun _ _ _ h => h) ?y14 hS ?_
  case y14 => first | (refine Or.inr ⟨by rfl, ?_⟩; with_reducible rfl) | (refine Or.inl ⟨by rfl, ?_⟩; intro wS hSw; have r0S := cell_later hSw R0.out; have a0S := cell_later hSw A0.out; have a1S := cell_later hSw A1.out; have a2S := cell_later hSw A2.out; have b0S := cell_later hSw B0.out; have b1S := cell_later hSw B1.out; have b2S := cell_later hSw B2.out; go_simp; try with_reducible rfl)
  simp only [Act.put, List.setIfInBounds_toArray, List.set_cons_zero, List.set_cons_succ]
  refine wpAnyH_ready (rs := [14]) (by kernel_rfl) (by simp) ?_
  refine AllReadyH.cons (o := ⟨_, _, _, _, _, _⟩) rfl (fun K hK => ?_) AllReadyH.nil
  go_simp
  refine (compare_any (pos L i) (pos L j) _).mono ?_
  rintro e wx ⟨rfl, hbx⟩
  have hS : Below w.heap.size w wx := hS.trans (hbx.mono hS.size)
  go_wp2_with fail
  refine hK.out _ _ hS (fun _ => ?_)
  clear hK K
  try simp only [Act.put, List.setIfInBounds_toArray, List.set_cons_zero, List.set_cons_succ]
  refine wpAnyH_take (i := 15) (oi := ⟨_, _, _, _, _, _⟩) (v := ?v15) rfl (by kernel_rfl) (by kernel_rfl) (by kernel_rfl) (fun _ _ _ h => h) ?y15 hS ?_
  case y15 => first | (refine Or.inr ⟨by rfl, ?_⟩; with_reducible rfl) | (refine Or.inl ⟨by rfl, ?_⟩; intro wS hSw; have r0S := cell_later hSw R0.out; have a0S := cell_later hSw A0.out; have a1S := cell_later hSw A1.out; have a2S := cell_later hSw A2.out; have b0S := cell_later hSw B0.out; have b1S := cell_later hSw B1.out; have b2S := cell_later hSw B2.out; go_simp; try with_reducible rfl)
  simp only [Act.put, List.setIfInBounds_toArray, List.set_cons_zero, List.set_cons_succ]
  refine wpAnyH_take (i := 16) (oi := ⟨_, _, _, _, _, _⟩) (v := ?v16) rfl (by kernel_rfl) (by kernel_rfl) (by kernel_rfl) (fun _ _ _ h => h) ?y16 hS ?_
  case y16 => first | (refine Or.inr ⟨by rfl, ?_⟩; with_reducible rfl) | (refine Or.inl ⟨by rfl, ?_⟩; intro wS hSw; have r0S := cell_later hSw R0.out; have a0S := cell_later hSw A0.out; have a1S := cell_later hSw A1.out; have a2S := cell_later hSw A2.out; have b0S := cell_later hSw B0.out; have b1S := cell_later hSw B1.out; have b2S := cell_later hSw B2.out; go_simp; try with_reducible rfl)
  simp only [Act.put, List.setIfInBounds_toArray, List.set_cons_zero, List.set_cons_succ]
  refine wpAnyH_done (by kernel_rfl) ?_ _
  have HS := Lib.hid hS
  clear hS
  go_wp2
  go_ret
  exact ⟨by rw [HD.out]; rfl, HS.out⟩
end Go.Proofs.Ytpchjpmkkiopiaa
