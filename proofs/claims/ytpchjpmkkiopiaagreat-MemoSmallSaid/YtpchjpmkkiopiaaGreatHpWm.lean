import Derived.Test.YtpchjpmkkiopiaaGreatHpSm
namespace Go.Proofs.YtpchjpmkkiopiaaGreat
open Go.RowKit Go.Lib

theorem pos_swl_i {L : List En} {i j : Nat} (hi : i < L.length) (hj : j < L.length) : pos (swl L i j) i = pos L j := by
  by_cases h : i = j
  · subst h
    unfold swl
    rw [pos_set (by simpa using hi)]
    simp
  · rw [pos_swl hi hj h]; simp [swp]
theorem pos_swl_j {L : List En} {i j : Nat} (hi : i < L.length) (hj : j < L.length) : pos (swl L i j) j = pos L i := by
  unfold swl
  rw [pos_set (by simpa using hj)]
  simp
set_option maxRecDepth 100000 in
set_option maxHeartbeats 4000000 in
theorem rSwap_any [Watch] {base r m : Nat} {lv : Value} {L : List En} (i j : Nat) (w : World) (h : RowIs base w r m lv L) (hi : i < L.length) (hj : j < L.length) :
    Calls Tryz.prog 118 #[.pointer (some ⟨r, 0, none⟩), .int .i64 i, .int .i64 j] w fun e w' => e = .returned (.tuple #[]) ∧ RowIs base w' r m lv (swl L i j) ∧ KeepH base w w' := by
  have H := Lib.hid h
  have Hle := Lib.hid h.le
  have Hi := Lib.hid hi
  have Hj := Lib.hid hj
  have hr := h.row
  obtain ⟨c0, c1, fr0⟩ := h.cells
  obtain ⟨g, cap, rfl⟩ := own_shape hr (by omega)
  obtain ⟨⟨a0, a1, a2⟩, fa0, fa1, fa2⟩ := row3 hr i hi
  obtain ⟨⟨b0, b1, b2⟩, fb0, fb1, fb2⟩ := row3 hr j hj
  obtain ⟨hp1, hk1⟩ := row_put3 hr i hi (pos L j)
  have hp1' := hp1
  obtain ⟨⟨d0, d1, d2⟩, fd0, fd1, fd2⟩ := row3 hp1 j (by simpa using hj)
  have Hp1 := Lib.hid hp1
  have Hk1 := Lib.hid hk1
  clear hp1 hp1' hk1
  obtain ⟨n, hn⟩ : ∃ n, n = L.length := ⟨_, rfl⟩
  have Hn := Lib.hid hn
  rw [← hn] at c0 hi hj
  have hi' : (i : Int) < n := by omega
  have hj' : (j : Int) < n := by omega
  clear h hr hn
  go_enter Tryz.func118, Tryz.ntmps118
  go_upto_region 0 with (fail)
  go_region
  all_goals go_upto_region 1 with (fail)
  obtain ⟨hp2, hk2⟩ := row_put3 Hp1.out j (by simpa using Hj.out) (pos L i)
  have hkd : Keeps (fun k => k = g) w (World.drew _) := Keeps.drew (Hk1.out.trans hk2)
  have hrd := ((Keeps.refl (fun _ => False) _).drew).row hp2 (fun _ _ h => h)
  refine gen_world (S := fun u => u.ownsRow base 133 3 (.slice (some ⟨g, 0, none⟩) L.length cap) L.length ((swl L i j).flatMap enc) ∧ Keeps (fun k => k = g) w u) ⟨hrd, hkd⟩ (fun u hu => ?_)
  obtain ⟨hru, hku⟩ := hu
  obtain ⟨g', cap', cur, hv, hgb, hg, -⟩ := H.out.row.2.resolve_left (fun h => by simp at h)
  simp only [Value.slice.injEq, Option.some.injEq, Addr.mk.injEq] at hv
  obtain ⟨⟨rfl, -⟩, -, rfl⟩ := hv
  have hrg : r ≠ g := fun e => by have := H.out.blk; rw [e, hg] at this; simp at this
  have hmg : m ≠ g := fun e => by obtain ⟨D, ⟨es, clock, h1, -⟩, -⟩ := H.out.fn; rw [e, hg] at h1; simp at h1
  have hmr : m ≠ r := fun e => by obtain ⟨D, ⟨es, clock, h1, -⟩, -⟩ := H.out.fn; rw [e, H.out.blk] at h1; simp at h1
  have hbr := hku.obj H.out.blk hrg
  have hsl : (swl L i j).length = L.length := swl_len L i j
  have hpi : pos (swl L i j) i = pos L j := pos_swl_i Hi.out Hj.out
  have hpj : pos (swl L i j) j = pos L i := pos_swl_j Hi.out Hj.out
  obtain ⟨⟨-, x1, -⟩, -⟩ := row3 hru i (by rw [hsl]; exact Hi.out)
  obtain ⟨⟨-, y1, -⟩, -⟩ := row3 hru j (by rw [hsl]; exact Hj.out)
  rw [hpi] at x1
  rw [hpj] at y1
  have R0 := Lib.hid (show u.cell? ⟨r, 0, none⟩ = some (.slice (some ⟨g, 0, none⟩) n cap) by rw [Hn.out]; simp [World.cell?, hbr])
  have R1 := Lib.hid (show u.cell? ⟨r, 1, none⟩ = some (.map (some m)) by simp [World.cell?, hbr])
  have A1 := Lib.hid x1
  have B1 := Lib.hid y1
  have HFn := Lib.hid (H.out.fn.keeps hku hmg)
  have HNr := Lib.hid hmr
  have HNg := Lib.hid hmg
  have HNx := Lib.hid hrg
  have HWj := Lib.hid (H.out.wf (pos L j) (by rw [pos_get Hj.out]; exact List.getElem_mem _))
  have HWi := Lib.hid (H.out.wf (pos L i) (by rw [pos_get Hi.out]; exact List.getElem_mem _))
  have HSj := Lib.hid (show (whr L (pos L j).name).isSome = true by rw [whr_some H.out.once Hj.out rfl]; rfl)
  have HSi := Lib.hid (show (setF (whr L) (pos L j).name (some i) (pos L i).name).isSome = true by
    unfold setF
    split
    · rfl
    · rw [whr_some H.out.once Hi.out rfl]; rfl)
  have HRu := Lib.hid hru
  have HKu := Lib.hid hku
  have HBr := Lib.hid hbr
  have HG := Lib.hid (And.intro hgb hg)
  clear hp2 hk2 hkd hrd hru hku hgb hg hrg hmg hmr hbr hsl hpi hpj x1 y1 c0 c1 fr0 a0 a1 a2 fa0 fa1 fa2 b0 b1 b2 fb0 fb1 fb2 d0 d1 d2 fd0 fd1 fd2 Hp1 Hk1
  refine wp_region_held_drew (S := fun wq => wq.cell? ⟨r, 0, none⟩ = some (.slice (some ⟨g, 0, none⟩) n cap) ∧ wq.cell? ⟨r, 1, none⟩ = some (.map (some m)) ∧ wq.cell? ⟨g, i * 3 + 1, none⟩ = some (.int .i64 (pos L j).name) ∧ wq.cell? ⟨g, j * 3 + 1, none⟩ = some (.int .i64 (pos L i).name)) (by kernel_rfl) ⟨R0.out, R1.out, A1.out, B1.out⟩ (fun hS => ?_)
  refine wpAnyH_take (i := 0) (oi := ⟨_, _, _, _, _, _⟩) (v := ?v1) rfl (by kernel_rfl) (by kernel_rfl) (by kernel_rfl) (fun _ _ _ h => h) ?y1 hS ?_
  case y1 => first | (refine Or.inr ⟨by rfl, ?_⟩; with_reducible rfl) | (refine Or.inl ⟨by rfl, ?_⟩; intro wS hSw; obtain ⟨r0S, r1S, a1S, b1S⟩ := hSw; go_simp; try with_reducible rfl)
  simp only [Act.put, List.setIfInBounds_toArray, List.set_cons_zero, List.set_cons_succ]
  refine wpAnyH_take (i := 1) (oi := ⟨_, _, _, _, _, _⟩) (v := ?v2) rfl (by kernel_rfl) (by kernel_rfl) (by kernel_rfl) (fun _ _ _ h => h) ?y2 hS ?_
  case y2 => first | (refine Or.inr ⟨by rfl, ?_⟩; with_reducible rfl) | (refine Or.inl ⟨by rfl, ?_⟩; intro wS hSw; obtain ⟨r0S, r1S, a1S, b1S⟩ := hSw; go_simp; try with_reducible rfl)
  simp only [Act.put, List.setIfInBounds_toArray, List.set_cons_zero, List.set_cons_succ]
  refine wpAnyH_take (i := 2) (oi := ⟨_, _, _, _, _, _⟩) (v := ?v3) rfl (by kernel_rfl) (by kernel_rfl) (by kernel_rfl) (fun _ _ _ h => h) ?y3 hS ?_
  case y3 => first | (refine Or.inr ⟨by rfl, ?_⟩; with_reducible rfl) | (refine Or.inl ⟨by rfl, ?_⟩; intro wS hSw; obtain ⟨r0S, r1S, a1S, b1S⟩ := hSw; go_simp; try with_reducible rfl)
  simp only [Act.put, List.setIfInBounds_toArray, List.set_cons_zero, List.set_cons_succ]
  refine wpAnyH_take (i := 3) (oi := ⟨_, _, _, _, _, _⟩) (v := ?v4) rfl (by kernel_rfl) (by kernel_rfl) (by kernel_rfl) (fun _ _ _ h => h) ?y4 hS ?_
  case y4 => first | (refine Or.inr ⟨by rfl, ?_⟩; with_reducible rfl) | (refine Or.inl ⟨by rfl, ?_⟩; intro wS hSw; obtain ⟨r0S, r1S, a1S, b1S⟩ := hSw; go_simp; try with_reducible rfl)
  simp only [Act.put, List.setIfInBounds_toArray, List.set_cons_zero, List.set_cons_succ]
  refine wpAnyH_take (i := 4) (oi := ⟨_, _, _, _, _, _⟩) (v := ?v5) rfl (by kernel_rfl) (by kernel_rfl) (by kernel_rfl) (fun _ _ _ h => h) ?y5 hS ?_
  case y5 => first | (refine Or.inr ⟨by rfl, ?_⟩; with_reducible rfl) | (refine Or.inl ⟨by rfl, ?_⟩; intro wS hSw; obtain ⟨r0S, r1S, a1S, b1S⟩ := hSw; go_simp; try with_reducible rfl)
  simp only [Act.put, List.setIfInBounds_toArray, List.set_cons_zero, List.set_cons_succ]
  refine wpAnyH_take (i := 5) (oi := ⟨_, _, _, _, _, _⟩) (v := ?v6) rfl (by kernel_rfl) (by kernel_rfl) (by kernel_rfl) (fun _ _ _ h => h) ?y6 hS ?_
  case y6 => first | (refine Or.inr ⟨by rfl, ?_⟩; with_reducible rfl) | (refine Or.inl ⟨by rfl, ?_⟩; intro wS hSw; obtain ⟨r0S, r1S, a1S, b1S⟩ := hSw; go_simp; try with_reducible rfl)
  simp only [Act.put, List.setIfInBounds_toArray, List.set_cons_zero, List.set_cons_succ]
  refine wpAnyH_take (i := 6) (oi := ⟨_, _, _, _, _, _⟩) (v := ?v7) rfl (by kernel_rfl) (by kernel_rfl) (by kernel_rfl) (fun _ _ _ h => h) ?y7 hS ?_
  case y7 => first | (refine Or.inr ⟨by rfl, ?_⟩; with_reducible rfl) | (refine Or.inl ⟨by rfl, ?_⟩; intro wS hSw; obtain ⟨r0S, r1S, a1S, b1S⟩ := hSw; go_simp; try with_reducible rfl)
  simp only [Act.put, List.setIfInBounds_toArray, List.set_cons_zero, List.set_cons_succ]
  refine wpAnyH_take (i := 7) (oi := ⟨_, _, _, _, _, _⟩) (v := ?v8) rfl (by kernel_rfl) (by kernel_rfl) (by kernel_rfl) (fun _ _ _ h => h) ?y8 hS ?_
  case y8 => first | (refine Or.inr ⟨by rfl, ?_⟩; with_reducible rfl) | (refine Or.inl ⟨by rfl, ?_⟩; intro wS hSw; obtain ⟨r0S, r1S, a1S, b1S⟩ := hSw; go_simp; try with_reducible rfl)
  simp only [Act.put, List.setIfInBounds_toArray, List.set_cons_zero, List.set_cons_succ]
  refine wpAnyH_take (i := 8) (oi := ⟨_, _, _, _, _, _⟩) (v := ?v9) rfl (by kernel_rfl) (by kernel_rfl) (by kernel_rfl) (fun _ _ _ h => h) ?y9 hS ?_
  case y9 => first | (refine Or.inr ⟨by rfl, ?_⟩; with_reducible rfl) | (refine Or.inl ⟨by rfl, ?_⟩; intro wS hSw; obtain ⟨r0S, r1S, a1S, b1S⟩ := hSw; go_simp; try with_reducible rfl)
  simp only [Act.put, List.setIfInBounds_toArray, List.set_cons_zero, List.set_cons_succ]
  refine wpAnyH_take (i := 9) (oi := ⟨_, _, _, _, _, _⟩) (v := ?v10) rfl (by kernel_rfl) (by kernel_rfl) (by kernel_rfl) (fun _ _ _ h => h) ?y10 hS ?_
  case y10 => first | (refine Or.inr ⟨by rfl, ?_⟩; with_reducible rfl) | (refine Or.inl ⟨by rfl, ?_⟩; intro wS hSw; obtain ⟨r0S, r1S, a1S, b1S⟩ := hSw; go_simp; try with_reducible rfl)
  simp only [Act.put, List.setIfInBounds_toArray, List.set_cons_zero, List.set_cons_succ]
  refine wpAnyH_take (i := 10) (oi := ⟨_, _, _, _, _, _⟩) (v := ?v11) rfl (by kernel_rfl) (by kernel_rfl) (by kernel_rfl) (fun _ _ _ h => h) ?y11 hS ?_
  case y11 => first | (refine Or.inr ⟨by rfl, ?_⟩; with_reducible rfl) | (refine Or.inl ⟨by rfl, ?_⟩; intro wS hSw; obtain ⟨r0S, r1S, a1S, b1S⟩ := hSw; go_simp; try with_reducible rfl)
  simp only [Act.put, List.setIfInBounds_toArray, List.set_cons_zero, List.set_cons_succ]
  refine wpAnyH_take (i := 11) (oi := ⟨_, _, _, _, _, _⟩) (v := ?v12) rfl (by kernel_rfl) (by kernel_rfl) (by kernel_rfl) (fun _ _ _ h => h) ?y12 hS ?_
  case y12 => first | (refine Or.inr ⟨by rfl, ?_⟩; with_reducible rfl) | (refine Or.inl ⟨by rfl, ?_⟩; intro wS hSw; obtain ⟨r0S, r1S, a1S, b1S⟩ := hSw; go_simp; try with_reducible rfl)
  simp only [Act.put, List.setIfInBounds_toArray, List.set_cons_zero, List.set_cons_succ]
  refine wpAnyH_take (i := 12) (oi := ⟨_, _, _, _, _, _⟩) (v := ?v13) rfl (by kernel_rfl) (by kernel_rfl) (by kernel_rfl) (fun _ _ _ h => h) ?y13 hS ?_
  case y13 => first | (refine Or.inr ⟨by rfl, ?_⟩; with_reducible rfl) | (refine Or.inl ⟨by rfl, ?_⟩; intro wS hSw; obtain ⟨r0S, r1S, a1S, b1S⟩ := hSw; go_simp; try with_reducible rfl)
  simp only [Act.put, List.setIfInBounds_toArray, List.set_cons_zero, List.set_cons_succ]
  refine wpAnyH_take (i := 13) (oi := ⟨_, _, _, _, _, _⟩) (v := ?v14) rfl (by kernel_rfl) (by kernel_rfl) (by kernel_rfl) (fun _ _ _ h => h) ?y14 hS ?_
  case y14 => first | (refine Or.inr ⟨by rfl, ?_⟩; with_reducible rfl) | (refine Or.inl ⟨by rfl, ?_⟩; intro wS hSw; obtain ⟨r0S, r1S, a1S, b1S⟩ := hSw; go_simp; try with_reducible rfl)
  simp only [Act.put, List.setIfInBounds_toArray, List.set_cons_zero, List.set_cons_succ]
  refine wpAnyH_take (i := 14) (oi := ⟨_, _, _, _, _, _⟩) (v := ?v15) rfl (by kernel_rfl) (by kernel_rfl) (by kernel_rfl) (fun _ _ _ h => h) ?y15 hS ?_
  case y15 => first | (refine Or.inr ⟨by rfl, ?_⟩; with_reducible rfl) | (refine Or.inl ⟨by rfl, ?_⟩; intro wS hSw; obtain ⟨r0S, r1S, a1S, b1S⟩ := hSw; go_simp; try with_reducible rfl)
  simp only [Act.put, List.setIfInBounds_toArray, List.set_cons_zero, List.set_cons_succ]
  refine wpAnyH_take (i := 15) (oi := ⟨_, _, _, _, _, _⟩) (v := ?v16) rfl (by kernel_rfl) (by kernel_rfl) (by kernel_rfl) (fun _ _ _ h => h) ?y16 hS ?_
  case y16 => first | (refine Or.inr ⟨by rfl, ?_⟩; with_reducible rfl) | (refine Or.inl ⟨by rfl, ?_⟩; intro wS hSw; obtain ⟨r0S, r1S, a1S, b1S⟩ := hSw; go_simp; try with_reducible rfl)
  simp only [Act.put, List.setIfInBounds_toArray, List.set_cons_zero, List.set_cons_succ]
  refine wpAnyH_take (i := 16) (oi := ⟨_, _, _, _, _, _⟩) (v := ?v17) rfl (by kernel_rfl) (by kernel_rfl) (by kernel_rfl) (fun _ _ _ h => h) ?y17 hS ?_
  case y17 => first | (refine Or.inr ⟨by rfl, ?_⟩; with_reducible rfl) | (refine Or.inl ⟨by rfl, ?_⟩; intro wS hSw; obtain ⟨r0S, r1S, a1S, b1S⟩ := hSw; go_simp; try with_reducible rfl)
  simp only [Act.put, List.setIfInBounds_toArray, List.set_cons_zero, List.set_cons_succ]
  refine wpAnyH_take (i := 17) (oi := ⟨_, _, _, _, _, _⟩) (v := ?v18) rfl (by kernel_rfl) (by kernel_rfl) (by kernel_rfl) (fun _ _ _ h => h) ?y18 hS ?_
  case y18 => first | (refine Or.inr ⟨by rfl, ?_⟩; with_reducible rfl) | (refine Or.inl ⟨by rfl, ?_⟩; intro wS hSw; obtain ⟨r0S, r1S, a1S, b1S⟩ := hSw; go_simp; try with_reducible rfl)
  simp only [Act.put, List.setIfInBounds_toArray, List.set_cons_zero, List.set_cons_succ]
  refine wpAnyH_take (i := 18) (oi := ⟨_, _, _, _, _, _⟩) (v := ?v19) rfl (by kernel_rfl) (by kernel_rfl) (by kernel_rfl) (fun _ _ _ h => h) ?y19 hS ?_
  case y19 => first | (refine Or.inr ⟨by rfl, ?_⟩; with_reducible rfl) | (refine Or.inl ⟨by rfl, ?_⟩; intro wS hSw; obtain ⟨r0S, r1S, a1S, b1S⟩ := hSw; go_simp; try with_reducible rfl)
  simp only [Act.put, List.setIfInBounds_toArray, List.set_cons_zero, List.set_cons_succ]
  refine wpAnyH_take (i := 19) (oi := ⟨_, _, _, _, _, _⟩) (v := ?v20) rfl (by kernel_rfl) (by kernel_rfl) (by kernel_rfl) (fun _ _ _ h => h) ?y20 hS ?_
  case y20 => first | (refine Or.inr ⟨by rfl, ?_⟩; with_reducible rfl) | (refine Or.inl ⟨by rfl, ?_⟩; intro wS hSw; obtain ⟨r0S, r1S, a1S, b1S⟩ := hSw; go_simp; try with_reducible rfl)
  simp only [Act.put, List.setIfInBounds_toArray, List.set_cons_zero, List.set_cons_succ]
  refine wpAnyH_take (i := 20) (oi := ⟨_, _, _, _, _, _⟩) (v := ?v21) rfl (by kernel_rfl) (by kernel_rfl) (by kernel_rfl) (fun _ _ _ h => h) ?y21 hS ?_
  case y21 => first | (refine Or.inr ⟨by rfl, ?_⟩; with_reducible rfl) | (refine Or.inl ⟨by rfl, ?_⟩; intro wS hSw; obtain ⟨r0S, r1S, a1S, b1S⟩ := hSw; go_simp; try with_reducible rfl)
  simp only [Act.put, List.setIfInBounds_toArray, List.set_cons_zero, List.set_cons_succ]
  refine wpAnyH_take (i := 21) (oi := ⟨_, _, _, _, _, _⟩) (v := ?v22) rfl (by kernel_rfl) (by kernel_rfl) (by kernel_rfl) (fun _ _ _ h => h) ?y22 hS ?_
  case y22 => first | (refine Or.inr ⟨by rfl, ?_⟩; with_reducible rfl) | (refine Or.inl ⟨by rfl, ?_⟩; intro wS hSw; obtain ⟨r0S, r1S, a1S, b1S⟩ := hSw; go_simp; try with_reducible rfl)
  simp only [Act.put, List.setIfInBounds_toArray, List.set_cons_zero, List.set_cons_succ]
  refine wpAnyH_take (i := 22) (oi := ⟨_, _, _, _, _, _⟩) (v := ?v23) rfl (by kernel_rfl) (by kernel_rfl) (by kernel_rfl) (fun _ _ _ h => h) ?y23 hS ?_
  case y23 => first | (refine Or.inr ⟨by rfl, ?_⟩; with_reducible rfl) | (refine Or.inl ⟨by rfl, ?_⟩; intro wS hSw; obtain ⟨r0S, r1S, a1S, b1S⟩ := hSw; go_simp; try with_reducible rfl)
  simp only [Act.put, List.setIfInBounds_toArray, List.set_cons_zero, List.set_cons_succ]
  refine wpAnyH_take (i := 23) (oi := ⟨_, _, _, _, _, _⟩) (v := ?v24) rfl (by kernel_rfl) (by kernel_rfl) (by kernel_rfl) (fun _ _ _ h => h) ?y24 hS ?_
  case y24 => first | (refine Or.inr ⟨by rfl, ?_⟩; with_reducible rfl) | (refine Or.inl ⟨by rfl, ?_⟩; intro wS hSw; obtain ⟨r0S, r1S, a1S, b1S⟩ := hSw; go_simp; try with_reducible rfl)
  simp only [Act.put, List.setIfInBounds_toArray, List.set_cons_zero, List.set_cons_succ]
  refine wpAnyH_take (i := 24) (oi := ⟨_, _, _, _, _, _⟩) (v := ?v25) rfl (by kernel_rfl) (by kernel_rfl) (by kernel_rfl) (fun _ _ _ h => h) ?y25 hS ?_
  case y25 => first | (refine Or.inr ⟨by rfl, ?_⟩; with_reducible rfl) | (refine Or.inl ⟨by rfl, ?_⟩; intro wS hSw; obtain ⟨r0S, r1S, a1S, b1S⟩ := hSw; go_simp; try with_reducible rfl)
  simp only [Act.put, List.setIfInBounds_toArray, List.set_cons_zero, List.set_cons_succ]
  refine wpAnyH_take (i := 25) (oi := ⟨_, _, _, _, _, _⟩) (v := ?v26) rfl (by kernel_rfl) (by kernel_rfl) (by kernel_rfl) (fun _ _ _ h => h) ?y26 hS ?_
  case y26 => first | (refine Or.inr ⟨by rfl, ?_⟩; with_reducible rfl) | (refine Or.inl ⟨by rfl, ?_⟩; intro wS hSw; obtain ⟨r0S, r1S, a1S, b1S⟩ := hSw; go_simp; try with_reducible rfl)
  simp only [Act.put, List.setIfInBounds_toArray, List.set_cons_zero, List.set_cons_succ]
  refine wpAnyH_take (i := 26) (oi := ⟨_, _, _, _, _, _⟩) (v := ?v27) rfl (by kernel_rfl) (by kernel_rfl) (by kernel_rfl) (fun _ _ _ h => h) ?y27 hS ?_
  case y27 => first | (refine Or.inr ⟨by rfl, ?_⟩; with_reducible rfl) | (refine Or.inl ⟨by rfl, ?_⟩; intro wS hSw; obtain ⟨r0S, r1S, a1S, b1S⟩ := hSw; go_simp; try with_reducible rfl)
  simp only [Act.put, List.setIfInBounds_toArray, List.set_cons_zero, List.set_cons_succ]
  refine wpAnyH_take (i := 27) (oi := ⟨_, _, _, _, _, _⟩) (v := ?v28) rfl (by kernel_rfl) (by kernel_rfl) (by kernel_rfl) (fun _ _ _ h => h) ?y28 hS ?_
  case y28 => first | (refine Or.inr ⟨by rfl, ?_⟩; with_reducible rfl) | (refine Or.inl ⟨by rfl, ?_⟩; intro wS hSw; obtain ⟨r0S, r1S, a1S, b1S⟩ := hSw; go_simp; try with_reducible rfl)
  simp only [Act.put, List.setIfInBounds_toArray, List.set_cons_zero, List.set_cons_succ]
  obtain ⟨v1, st1, he1, hst1⟩ := (HFn.out.of_block (w' := u.drew) rfl).entry (by have := Hle.out; omega) HWj.out HSj.out
  refine wpAnyH_ready (rs := [28]) (by kernel_rfl) (by simp) ?_
  refine AllReadyH.cons (o := ⟨_, _, _, _, _, _⟩) rfl (fun K hK => ?_) AllReadyH.nil
  go_simp
  refine hK.out _ _ (hS) (fun _ => ?_)
  clear hK K
  try simp only [Act.put, List.setIfInBounds_toArray, List.set_cons_zero, List.set_cons_succ]
  refine wpAnyH_take (i := 29) (oi := ⟨_, _, _, _, _, _⟩) (v := ?v29) rfl (by kernel_rfl) (by kernel_rfl) (by kernel_rfl) (fun _ _ _ h => h) ?y29 hS ?_
  case y29 => first | (refine Or.inr ⟨by rfl, ?_⟩; with_reducible rfl) | (refine Or.inl ⟨by rfl, ?_⟩; intro wS hSw; obtain ⟨r0S, r1S, a1S, b1S⟩ := hSw; go_simp; try with_reducible rfl)
  simp only [Act.put, List.setIfInBounds_toArray, List.set_cons_zero, List.set_cons_succ]
  obtain ⟨w3, hr3, hm3, hk3⟩ := hst1 i (by have := Hle.out; have := Hi.out; omega)
  have hS3 : w3.cell? ⟨r, 0, none⟩ = some (.slice (some ⟨g, 0, none⟩) n cap) ∧ w3.cell? ⟨r, 1, none⟩ = some (.map (some m)) ∧ w3.cell? ⟨g, i * 3 + 1, none⟩ = some (.int .i64 (pos L j).name) ∧ w3.cell? ⟨g, j * 3 + 1, none⟩ = some (.int .i64 (pos L i).name) := ⟨hk3.cell hS.1 (Ne.symm HNr.out), hk3.cell hS.2.1 (Ne.symm HNr.out), hk3.cell hS.2.2.1 (Ne.symm HNg.out), hk3.cell hS.2.2.2 (Ne.symm HNg.out)⟩
  refine wpAnyH_ready (rs := [30]) (by kernel_rfl) (by simp) ?_
  refine AllReadyH.cons (o := ⟨_, _, _, _, _, _⟩) rfl (fun K hK => ?_) AllReadyH.nil
  go_simp
  refine hK.out _ _ (hS3) (fun _ => ?_)
  clear hK K
  try simp only [Act.put, List.setIfInBounds_toArray, List.set_cons_zero, List.set_cons_succ]
  clear hS he1 hr3
  have hS := hS3
  obtain ⟨v2, st2, he2, hst2⟩ := hm3.entry (by have := Hle.out; omega) HWi.out HSi.out
  refine wpAnyH_ready (rs := [31]) (by kernel_rfl) (by simp) ?_
  refine AllReadyH.cons (o := ⟨_, _, _, _, _, _⟩) rfl (fun K hK => ?_) AllReadyH.nil
  go_simp
  refine hK.out _ _ (hS) (fun _ => ?_)
  clear hK K
  try simp only [Act.put, List.setIfInBounds_toArray, List.set_cons_zero, List.set_cons_succ]
  refine wpAnyH_take (i := 32) (oi := ⟨_, _, _, _, _, _⟩) (v := ?v30) rfl (by kernel_rfl) (by kernel_rfl) (by kernel_rfl) (fun _ _ _ h => h) ?y30 hS ?_
  case y30 => first | (refine Or.inr ⟨by rfl, ?_⟩; with_reducible rfl) | (refine Or.inl ⟨by rfl, ?_⟩; intro wS hSw; obtain ⟨r0S, r1S, a1S, b1S⟩ := hSw; go_simp; try with_reducible rfl)
  simp only [Act.put, List.setIfInBounds_toArray, List.set_cons_zero, List.set_cons_succ]
  obtain ⟨w4, hr4, hm4, hk4⟩ := hst2 j (by have := Hle.out; have := Hj.out; omega)
  have hS4 : w4.cell? ⟨r, 0, none⟩ = some (.slice (some ⟨g, 0, none⟩) n cap) ∧ w4.cell? ⟨r, 1, none⟩ = some (.map (some m)) ∧ w4.cell? ⟨g, i * 3 + 1, none⟩ = some (.int .i64 (pos L j).name) ∧ w4.cell? ⟨g, j * 3 + 1, none⟩ = some (.int .i64 (pos L i).name) := ⟨hk4.cell hS.1 (Ne.symm HNr.out), hk4.cell hS.2.1 (Ne.symm HNr.out), hk4.cell hS.2.2.1 (Ne.symm HNg.out), hk4.cell hS.2.2.2 (Ne.symm HNg.out)⟩
  refine wpAnyH_ready (rs := [33]) (by kernel_rfl) (by simp) ?_
  refine AllReadyH.cons (o := ⟨_, _, _, _, _, _⟩) rfl (fun K hK => ?_) AllReadyH.nil
  go_simp
  refine hK.out _ _ (hS4) (fun _ => ?_)
  clear hK K
  try simp only [Act.put, List.setIfInBounds_toArray, List.set_cons_zero, List.set_cons_succ]
  refine wpAnyH_done (by kernel_rfl) ?_ _
  have HM := Lib.hid hm4
  have hkk : Keeps (· = m) u w4 := (((Keeps.refl (· = m) u).drew).trans hk3).trans hk4
  have HK := Lib.hid hkk
  clear hS hS3 hS4 he2 hr4 hm4 hm3 hk3 hk4 hst1 hst2 hkk
  go_wp2
  go_end0
  have hmc : ∀ k cs, u.heap[k]? = some (.cells cs 133 (0, 0)) → ¬ k = m := fun k cs h e => by obtain ⟨D, ⟨es, clock, h1, -⟩, -⟩ := HFn.out; rw [e, h1] at h; simp at h
  have hsl := swl_len L i j
  refine ⟨rfl, ⟨HK.out.obj HBr.out (Ne.symm HNr.out), ?_, ?_, H.out.once.perm (swl_perm Hi.out Hj.out), fun e he => H.out.wf e ((swl_perm Hi.out Hj.out).mem_iff.1 he), H.out.br, H.out.bm, by rw [hsl]; exact H.out.le, H.out.nr, H.out.nm, H.out.nl, Nat.le_trans H.out.lim (Nat.le_trans HKu.out.size HK.out.size)⟩, KeepH.trans (Keeps.mono HKu.out fun k _ e => by subst e; exact ⟨⟨HG.out.1, H.out.nl _ rfl⟩, by rw [HG.out.2]; simp⟩) (KeepH.ofMap HFn.out H.out.bm H.out.nm HK.out)⟩
  · rw [hsl]; exact row_kept HRu.out HK.out hmc
  · rw [hsl]
    refine HM.out.ext fun x _ => ?_
    by_cases hij : i = j
    · have e1 : whr (swl L i j) x = whr L x := by subst hij; congr 1; unfold swl; rw [List.set_set, pos_get Hi.out, List.set_getElem_self]
      rw [e1]
      unfold setF
      by_cases h1 : x = (pos L i).name
      · rw [if_pos h1, h1, ← hij]; exact (whr_some H.out.once Hi.out rfl).symm
      · rw [if_neg h1, if_neg (by rw [← hij]; exact h1)]
    · rw [whr_swl H.out.once Hi.out Hj.out hij]
      unfold setF
      by_cases h1 : x = (pos L i).name
      · have hne : ¬ x = (pos L j).name := fun h2 => hij (by have e1 := whr_some H.out.once Hi.out h1.symm; have e2 := whr_some H.out.once Hj.out h2.symm; rw [e1] at e2; simpa using e2)
        rw [if_pos h1, if_neg hne, if_pos h1]
      · rw [if_neg h1]
        by_cases h2 : x = (pos L j).name
        · rw [if_pos h2, if_pos h2]
        · rw [if_neg h2, if_neg h2, if_neg h1]
end Go.Proofs.YtpchjpmkkiopiaaGreat
