import Derived.Test.YtcpcgpanmoellaaHdAm
namespace Go.Proofs.Ytcpcgpanmoellaa
open Go.RowKit Go.Lib

/-- behind a deed. -/
def Deeded (B q r : Nat) (w0 w : World) (t : Int) (M : List En) : Prop := ∃ t' M', Two B q r w0 w t' M' t' M' ∧ M'.length ≤ M.length + 2 ∧ t' ≤ t + 2
structure Deedp (B q r : Nat) (w0 w : World) (t : Int) (M : List En) (c : Nat) : Prop where
  out : c ≤ 2 → Deeded B q r w0 w t M
theorem deed_put {B q r : Nat} {w0 w : World} {t : Int} {M : List En} {l : List (Int × Int)} (h : Two B q r w0 w (putQ t M l).2.1 (putQ t M l).2.2 (putQ t M l).2.1 (putQ t M l).2.2) : Deedp B q r w0 w t M l.length :=
  ⟨fun hc => ⟨_, _, h, by have := (putQ_len l t M).1; omega, by have := (putQ_len l t M).2.1; omega⟩⟩
theorem gen_any {P : Program} {md : Region.Mode} {ops : Array Oper} {Q : Exit → Act → World → Prop} {S : World → Prop} {fuel : Nat} {L : Array Bool} {a : Act} {w : World} (S' : World → Prop) (h : S' w) (k : ∀ w', S' w' → wpAnyH P md ops Q S fuel L a w') : wpAnyH P md ops Q S fuel L a w := k w h
set_option maxRecDepth 100000 in
set_option maxHeartbeats 8000000 in
theorem deed_any {B q r : Nat} {w0 : World} {t : Int} {M : List En} (a k n : Int) (w : World) (h : Two B q r w0 w t M t M) (hwf : (kx n).wf = true) (hl : M.length ≤ 99000) (ht : t ≤ 990000) :
    Calls Try.prog 19 #[.pointer (some ⟨q, 0, none⟩), .pointer (some ⟨r, 0, none⟩), .agg #[.int .i64 a, .int .i64 k, .int .i64 n]] w fun e w' => e = .returned (.bool true) ∧ Deeded B q r w0 w' t M := by
  have H := Lib.hid h
  have HWf := Lib.hid hwf
  clear h hwf
  go_enter Try.func19, Try.ntmps19
  go_upto_region 1 with (fail)
  refine gen_world (S := fun u => Below w.heap.size w u ∧ u.heap[w.heap.size]? = some (.cells #[.int .i64 a, .int .i64 k, .int .i64 n] 54 (0, 0))) (one_new w _) (fun u hu => ?_)
  obtain ⟨hb, hx⟩ := hu
  have HTw := Lib.hid (H.out.later hb)
  have HX0 := Lib.hid hx
  obtain ⟨x0, x1, x2, -⟩ := three_box hx
  obtain ⟨X, hX⟩ : ∃ X, X = w.heap.size := ⟨_, rfl⟩
  rw [← hX] at HX0 x0 x1 x2 ⊢
  have HX := HX0
  obtain ⟨v, hv, hvq⟩ := HTw.out.rq
  have HV := Lib.hid hv
  have HNr := Lib.hid (show ∀ b, u.heap.size ≤ b → b ≠ r from fun b hb => by have := lt_of_block hv.blk; omega)
  have HNv := Lib.hid (show ∀ b, u.heap.size ≤ b → ¬ v.ownBlock = some b from fun b hb e => by have := (hv.row.lt b e).2; omega)
  clear hb hx hX HX0 hv hvq
  obtain ⟨p, hp⟩ : ∃ p : Nat, pickN a 6 = p := ⟨(pickN a 6).toNat, by have := pickN_range a 6 (by omega); omega⟩
  have hp6 : p < 6 := by have := pickN_range a 6 (by omega); omega
  have hpk := pick_any u a 6 (by omega) (by omega)
  rw [hp] at hpk
  have HPk := Lib.hid hpk
  clear hp hpk
  rcases (show p = 0 ∨ p = 1 ∨ p = 2 ∨ p = 3 ∨ p = 4 ∨ p = 5 by omega) with rfl | rfl | rfl | rfl | rfl | rfl
  · go_wp2_with fail
    refine HPk.out.mono ?_
    rintro e w1 ⟨rfl, rfl⟩
    clear x0
    go_upto_region 3 with (fail)
    clear x1 x2
    refine wp_region_held_drew (S := fun wq => wq.heap[X]? = some (.cells #[.int .i64 a, .int .i64 k, .int .i64 n] 54 (0, 0))) (by kernel_rfl) HX.out (fun hS => ?_)
    refine wpAnyH_take (i := 0) (oi := ⟨_, _, _, _, _, _⟩) (v := ?v1) rfl (by kernel_rfl) (by kernel_rfl) (by kernel_rfl) (fun _ _ _ h => h) ?y1 hS ?_
    case y1 => first | (refine Or.inr ⟨by rfl, ?_⟩; with_reducible rfl) | (refine Or.inl ⟨by rfl, ?_⟩; intro wS hSw; obtain ⟨x0S, x1S, x2S, -⟩ := three_box hSw; go_simp; try with_reducible rfl)
    simp only [Act.put, List.setIfInBounds_toArray, List.set_cons_zero, List.set_cons_succ]
    refine wpAnyH_take (i := 1) (oi := ⟨_, _, _, _, _, _⟩) (v := ?v2) rfl (by kernel_rfl) (by kernel_rfl) (by kernel_rfl) (fun _ _ _ h => h) ?y2 hS ?_
    case y2 => first | (refine Or.inr ⟨by rfl, ?_⟩; with_reducible rfl) | (refine Or.inl ⟨by rfl, ?_⟩; intro wS hSw; obtain ⟨x0S, x1S, x2S, -⟩ := three_box hSw; go_simp; try with_reducible rfl)
    simp only [Act.put, List.setIfInBounds_toArray, List.set_cons_zero, List.set_cons_succ]
    refine wpAnyH_take (i := 2) (oi := ⟨_, _, _, _, _, _⟩) (v := ?v3) rfl (by kernel_rfl) (by kernel_rfl) (by kernel_rfl) (fun _ _ _ h => h) ?y3 hS ?_
    case y3 => first | (refine Or.inr ⟨by rfl, ?_⟩; with_reducible rfl) | (refine Or.inl ⟨by rfl, ?_⟩; intro wS hSw; obtain ⟨x0S, x1S, x2S, -⟩ := three_box hSw; go_simp; try with_reducible rfl)
    simp only [Act.put, List.setIfInBounds_toArray, List.set_cons_zero, List.set_cons_succ]
    refine wpAnyH_take (i := 3) (oi := ⟨_, _, _, _, _, _⟩) (v := ?v4) rfl (by kernel_rfl) (by kernel_rfl) (by kernel_rfl) (fun _ _ _ h => h) ?y4 hS ?_
    case y4 => first | (refine Or.inr ⟨by rfl, ?_⟩; with_reducible rfl) | (refine Or.inl ⟨by rfl, ?_⟩; intro wS hSw; obtain ⟨x0S, x1S, x2S, -⟩ := three_box hSw; go_simp; try with_reducible rfl)
    simp only [Act.put, List.setIfInBounds_toArray, List.set_cons_zero, List.set_cons_succ]
    refine wpAnyH_take (i := 4) (oi := ⟨_, _, _, _, _, _⟩) (v := ?v5) rfl (by kernel_rfl) (by kernel_rfl) (by kernel_rfl) (fun _ _ _ h => h) ?y5 hS ?_
    case y5 => first | (refine Or.inr ⟨by rfl, ?_⟩; with_reducible rfl) | (refine Or.inl ⟨by rfl, ?_⟩; intro wS hSw; obtain ⟨x0S, x1S, x2S, -⟩ := three_box hSw; go_simp; try with_reducible rfl)
    simp only [Act.put, List.setIfInBounds_toArray, List.set_cons_zero, List.set_cons_succ]
    refine wpAnyH_take (i := 5) (oi := ⟨_, _, _, _, _, _⟩) (v := ?v6) rfl (by kernel_rfl) (by kernel_rfl) (by kernel_rfl) (fun _ _ _ h => h) ?y6 hS ?_
    case y6 => first | (refine Or.inr ⟨by rfl, ?_⟩; with_reducible rfl) | (refine Or.inl ⟨by rfl, ?_⟩; intro wS hSw; obtain ⟨x0S, x1S, x2S, -⟩ := three_box hSw; go_simp; try with_reducible rfl)
    simp only [Act.put, List.setIfInBounds_toArray, List.set_cons_zero, List.set_cons_succ]
    refine wpAnyH_take (i := 8) (oi := ⟨_, _, _, _, _, _⟩) (v := ?v7) rfl (by kernel_rfl) (by kernel_rfl) (by kernel_rfl) (fun _ _ _ h => h) ?y7 hS ?_
    case y7 => first | (refine Or.inr ⟨by rfl, ?_⟩; with_reducible rfl) | (refine Or.inl ⟨by rfl, ?_⟩; intro wS hSw; obtain ⟨x0S, x1S, x2S, -⟩ := three_box hSw; go_simp; try with_reducible rfl)
    simp only [Act.put, List.setIfInBounds_toArray, List.set_cons_zero, List.set_cons_succ]
    refine wpAnyH_take (i := 9) (oi := ⟨_, _, _, _, _, _⟩) (v := ?v8) rfl (by kernel_rfl) (by kernel_rfl) (by kernel_rfl) (fun _ _ _ h => h) ?y8 hS ?_
    case y8 => first | (refine Or.inr ⟨by rfl, ?_⟩; with_reducible rfl) | (refine Or.inl ⟨by rfl, ?_⟩; intro wS hSw; obtain ⟨x0S, x1S, x2S, -⟩ := three_box hSw; go_simp; try with_reducible rfl)
    simp only [Act.put, List.setIfInBounds_toArray, List.set_cons_zero, List.set_cons_succ]
    refine wpAnyH_take (i := 10) (oi := ⟨_, _, _, _, _, _⟩) (v := ?v9) rfl (by kernel_rfl) (by kernel_rfl) (by kernel_rfl) (fun _ _ _ h => h) ?y9 hS ?_
    case y9 => first | (refine Or.inr ⟨by rfl, ?_⟩; with_reducible rfl) | (refine Or.inl ⟨by rfl, ?_⟩; intro wS hSw; obtain ⟨x0S, x1S, x2S, -⟩ := three_box hSw; go_simp; try with_reducible rfl)
    simp only [Act.put, List.setIfInBounds_toArray, List.set_cons_zero, List.set_cons_succ]
    refine wpAnyH_take (i := 11) (oi := ⟨_, _, _, _, _, _⟩) (v := ?v10) rfl (by kernel_rfl) (by kernel_rfl) (by kernel_rfl) (fun _ _ _ h => h) ?y10 hS ?_
    case y10 => first | (refine Or.inr ⟨by rfl, ?_⟩; with_reducible rfl) | (refine Or.inl ⟨by rfl, ?_⟩; intro wS hSw; obtain ⟨x0S, x1S, x2S, -⟩ := three_box hSw; go_simp; try with_reducible rfl)
    simp only [Act.put, List.setIfInBounds_toArray, List.set_cons_zero, List.set_cons_succ]
    refine wpAnyH_take (i := 12) (oi := ⟨_, _, _, _, _, _⟩) (v := ?v11) rfl (by kernel_rfl) (by kernel_rfl) (by kernel_rfl) (fun _ _ _ h => h) ?y11 hS ?_
    case y11 => first | (refine Or.inr ⟨by rfl, ?_⟩; with_reducible rfl) | (refine Or.inl ⟨by rfl, ?_⟩; intro wS hSw; obtain ⟨x0S, x1S, x2S, -⟩ := three_box hSw; go_simp; try with_reducible rfl)
    simp only [Act.put, List.setIfInBounds_toArray, List.set_cons_zero, List.set_cons_succ]
    refine wpAnyH_take (i := 13) (oi := ⟨_, _, _, _, _, _⟩) (v := ?v12) rfl (by kernel_rfl) (by kernel_rfl) (by kernel_rfl) (fun _ _ _ h => h) ?y12 hS ?_
    case y12 => first | (refine Or.inr ⟨by rfl, ?_⟩; with_reducible rfl) | (refine Or.inl ⟨by rfl, ?_⟩; intro wS hSw; obtain ⟨x0S, x1S, x2S, -⟩ := three_box hSw; go_simp; try with_reducible rfl)
    simp only [Act.put, List.setIfInBounds_toArray, List.set_cons_zero, List.set_cons_succ]
    refine gen_any (S' := fun wv => wv.heap[X]? = some (.cells #[.int .i64 a, .int .i64 k, .int .i64 n] 54 (0, 0)) ∧ Two B q r w0 wv t M t M ∧ Rq B wv r v M ∧ u.heap.size ≤ wv.heap.size) ⟨HX.out, HTw.out.later (Below.refl _ _).drew, HV.out.later (Below.refl _ _).drew, Nat.le_refl _⟩ (fun wv1 hF => ?_)
    obtain ⟨hS1, hT1, hV1, hz1⟩ := hF
    refine wpAnyH_ready (rs := [6, 14]) (by kernel_rfl) (by simp) ?_
    refine AllReadyH.cons (o := ⟨_, _, _, _, _, _⟩) rfl (fun K hK => ?_) (AllReadyH.cons (o := ⟨_, _, _, _, _, _⟩) rfl (fun K hK => ?_) AllReadyH.nil)
    · have hg2 := one_new wv1 (.cells #[.int .i64 k, .int .i64 n] 30 (0, 0))
      have hS2a := (hg2.1.block _ (lt_of_block hS1)).trans hS1
      go_simp
      refine hK.out _ _ (hS2a) (fun _ => ?_)
      clear hK K
      try simp only [Act.put, List.setIfInBounds_toArray, List.set_cons_zero, List.set_cons_succ]
      refine gen_any (S' := fun wv => wv.heap[X]? = some (.cells #[.int .i64 a, .int .i64 k, .int .i64 n] 54 (0, 0)) ∧ Two B q r w0 wv t M t M ∧ Rq B wv r v M ∧ u.heap.size ≤ wv.heap.size ∧ wv.heap[wv1.heap.size]? = some (.cells #[.int .i64 k, .int .i64 n] 30 (0, 0))) ⟨hS2a, hT1.later hg2.1, hV1.later hg2.1, Nat.le_trans hz1 hg2.1.size, hg2.2⟩ (fun wv2 hF => ?_)
      obtain ⟨hS2, hT2, hV2, hz2, hi2⟩ := hF
      refine wpAnyH_ready (rs := [7, 14]) (by kernel_rfl) (by simp) ?_
      refine AllReadyH.cons (o := ⟨_, _, _, _, _, _⟩) rfl (fun K hK => ?_) (AllReadyH.cons (o := ⟨_, _, _, _, _, _⟩) rfl (fun K hK => ?_) AllReadyH.nil)
      · go_simp
        refine (two_putQ _ hT2 (it_one hi2) (by simpa using HWf.out) (by simp; omega) (by simp; omega)).mono ?_
        rintro e wv3 ⟨rfl, hT3, hK3, hW3, hL3⟩
        have hS3 := hK3 _ _ _ _ hS2 (by decide)
        have hV3 := hW3 _ hV2
        have hz3 : u.heap.size ≤ wv3.heap.size := Nat.le_trans hz2 hL3
        go_wp2_with fail
        refine hK.out _ _ (hS3) (fun _ => ?_)
        clear hK K
        try simp only [Act.put, List.setIfInBounds_toArray, List.set_cons_zero, List.set_cons_succ]
        refine wpAnyH_ready (rs := [14]) (by kernel_rfl) (by simp) ?_
        refine AllReadyH.cons (o := ⟨_, _, _, _, _, _⟩) rfl (fun K hK => ?_) AllReadyH.nil
        have hg4 := one_new wv3 (.cells #[.int .i64 k, .int .i64 n] 79 (0, 0))
        have hS4a := (hg4.1.block _ (lt_of_block hS3)).trans hS3
        go_simp
        refine hK.out _ _ (hS4a) (fun _ => ?_)
        clear hK K
        try simp only [Act.put, List.setIfInBounds_toArray, List.set_cons_zero, List.set_cons_succ]
        have hT4 := hT3.later hg4.1
        have hV4 := hV3.later hg4.1
        have hr4 := hg4.2
        have hS4 := hS4a
        have hb4 : u.heap.size ≤ wv3.heap.size := hz3
        refine wpAnyH_ready (rs := [15]) (by kernel_rfl) (by simp) ?_
        refine AllReadyH.cons (o := ⟨_, _, _, _, _, _⟩) rfl (fun K hK => ?_) AllReadyH.nil
        go_simp
        refine (two_putR2 (l := [(k, n)]) _ hT4 hV4 (HNr.out _ hb4) (HNv.out _ hb4) (by simp; omega) (rit_one hr4)).mono ?_
        rintro e wy5 ⟨rfl, hT5, hK5⟩
        have hS5 := hK5 _ _ _ _ hS4 (by decide)
        go_wp2_with fail
        refine hK.out _ _ (hS5) (fun _ => ?_)
        clear hK K
        try simp only [Act.put, List.setIfInBounds_toArray, List.set_cons_zero, List.set_cons_succ]
        refine wpAnyH_take (i := 16) (oi := ⟨_, _, _, _, _, _⟩) (v := ?v13) rfl (by kernel_rfl) (by kernel_rfl) (by kernel_rfl) (fun _ _ _ h => h) ?y13 hS5 ?_
        case y13 => first | (refine Or.inr ⟨by rfl, ?_⟩; with_reducible rfl) | (refine Or.inl ⟨by rfl, ?_⟩; intro wS hSw; go_simp; try with_reducible rfl)
        simp only [Act.put, List.setIfInBounds_toArray, List.set_cons_zero, List.set_cons_succ]
        refine wpAnyH_take (i := 17) (oi := ⟨_, _, _, _, _, _⟩) (v := ?v14) rfl (by kernel_rfl) (by kernel_rfl) (by kernel_rfl) (fun _ _ _ h => h) ?y14 hS5 ?_
        case y14 => first | (refine Or.inr ⟨by rfl, ?_⟩; with_reducible rfl) | (refine Or.inl ⟨by rfl, ?_⟩; intro wS hSw; go_simp; try with_reducible rfl)
        simp only [Act.put, List.setIfInBounds_toArray, List.set_cons_zero, List.set_cons_succ]
        refine wpAnyH_done (by kernel_rfl) ?_ _
        have HE := Lib.hid (deed_put (l := [(k, n)]) hT5)
        clear hS5 hT5 hK5 hS4 hT4 hV4 hr4
        go_wp2
        go_ret
        exact ⟨rfl, HE.out.out (by simp)⟩
      · have hg6 := one_new wv2 (.cells #[.int .i64 k, .int .i64 n] 79 (0, 0))
        have hS6a := (hg6.1.block _ (lt_of_block hS2)).trans hS2
        go_simp
        refine hK.out _ _ (hS6a) (fun _ => ?_)
        clear hK K
        try simp only [Act.put, List.setIfInBounds_toArray, List.set_cons_zero, List.set_cons_succ]
        refine gen_any (S' := fun wv => wv.heap[X]? = some (.cells #[.int .i64 a, .int .i64 k, .int .i64 n] 54 (0, 0)) ∧ Two B q r w0 wv t M t M ∧ Rq B wv r v M ∧ u.heap.size ≤ wv.heap.size ∧ wv.heap[wv1.heap.size]? = some (.cells #[.int .i64 k, .int .i64 n] 30 (0, 0)) ∧ wv.heap[wv2.heap.size]? = some (.cells #[.int .i64 k, .int .i64 n] 79 (0, 0))) ⟨hS6a, hT2.later hg6.1, hV2.later hg6.1, Nat.le_trans hz2 hg6.1.size, (hg6.1.block _ (lt_of_block hi2)).trans hi2, hg6.2⟩ (fun wv6 hF => ?_)
        obtain ⟨hS6, hT6, hV6, hz6, hi6, hr6⟩ := hF
        refine wpAnyH_ready (rs := [7]) (by kernel_rfl) (by simp) ?_
        refine AllReadyH.cons (o := ⟨_, _, _, _, _, _⟩) rfl (fun K hK => ?_) AllReadyH.nil
        go_simp
        refine (two_putQ _ hT6 (it_one hi6) (by simpa using HWf.out) (by simp; omega) (by simp; omega)).mono ?_
        rintro e wv7 ⟨rfl, hT7, hK7, hW7, hL7⟩
        have hS7 := hK7 _ _ _ _ hS6 (by decide)
        have hV7 := hW7 _ hV6
        have hz7 : u.heap.size ≤ wv7.heap.size := Nat.le_trans hz6 hL7
        have hr7 := hK7 _ _ _ _ hr6 (by decide)
        go_wp2_with fail
        refine hK.out _ _ (hS7) (fun _ => ?_)
        clear hK K
        try simp only [Act.put, List.setIfInBounds_toArray, List.set_cons_zero, List.set_cons_succ]
        refine wpAnyH_ready (rs := [15]) (by kernel_rfl) (by simp) ?_
        refine AllReadyH.cons (o := ⟨_, _, _, _, _, _⟩) rfl (fun K hK => ?_) AllReadyH.nil
        go_simp
        refine (two_putR2 (l := [(k, n)]) _ hT7 hV7 (HNr.out _ (by first | exact hz2 | omega)) (HNv.out _ (by first | exact hz2 | omega)) (by simp; omega) (rit_one hr7)).mono ?_
        rintro e wy8 ⟨rfl, hT8, hK8⟩
        have hS8 := hK8 _ _ _ _ hS7 (by decide)
        go_wp2_with fail
        refine hK.out _ _ (hS8) (fun _ => ?_)
        clear hK K
        try simp only [Act.put, List.setIfInBounds_toArray, List.set_cons_zero, List.set_cons_succ]
        refine wpAnyH_take (i := 16) (oi := ⟨_, _, _, _, _, _⟩) (v := ?v15) rfl (by kernel_rfl) (by kernel_rfl) (by kernel_rfl) (fun _ _ _ h => h) ?y15 hS8 ?_
        case y15 => first | (refine Or.inr ⟨by rfl, ?_⟩; with_reducible rfl) | (refine Or.inl ⟨by rfl, ?_⟩; intro wS hSw; go_simp; try with_reducible rfl)
        simp only [Act.put, List.setIfInBounds_toArray, List.set_cons_zero, List.set_cons_succ]
        refine wpAnyH_take (i := 17) (oi := ⟨_, _, _, _, _, _⟩) (v := ?v16) rfl (by kernel_rfl) (by kernel_rfl) (by kernel_rfl) (fun _ _ _ h => h) ?y16 hS8 ?_
        case y16 => first | (refine Or.inr ⟨by rfl, ?_⟩; with_reducible rfl) | (refine Or.inl ⟨by rfl, ?_⟩; intro wS hSw; go_simp; try with_reducible rfl)
        simp only [Act.put, List.setIfInBounds_toArray, List.set_cons_zero, List.set_cons_succ]
        refine wpAnyH_done (by kernel_rfl) ?_ _
        have HE := Lib.hid (deed_put (l := [(k, n)]) hT8)
        clear hS8 hT8 hK8 hS7 hT7 hV7 hr7
        go_wp2
        go_ret
        exact ⟨rfl, HE.out.out (by simp)⟩
    · have hg9 := one_new wv1 (.cells #[.int .i64 k, .int .i64 n] 79 (0, 0))
      have hS9a := (hg9.1.block _ (lt_of_block hS1)).trans hS1
      go_simp
      refine hK.out _ _ (hS9a) (fun _ => ?_)
      clear hK K
      try simp only [Act.put, List.setIfInBounds_toArray, List.set_cons_zero, List.set_cons_succ]
      refine gen_any (S' := fun wv => wv.heap[X]? = some (.cells #[.int .i64 a, .int .i64 k, .int .i64 n] 54 (0, 0)) ∧ Two B q r w0 wv t M t M ∧ Rq B wv r v M ∧ u.heap.size ≤ wv.heap.size ∧ wv.heap[wv1.heap.size]? = some (.cells #[.int .i64 k, .int .i64 n] 79 (0, 0))) ⟨hS9a, hT1.later hg9.1, hV1.later hg9.1, Nat.le_trans hz1 hg9.1.size, hg9.2⟩ (fun wv9 hF => ?_)
      obtain ⟨hS9, hT9, hV9, hz9, hr9⟩ := hF
      refine wpAnyH_ready (rs := [6]) (by kernel_rfl) (by simp) ?_
      refine AllReadyH.cons (o := ⟨_, _, _, _, _, _⟩) rfl (fun K hK => ?_) AllReadyH.nil
      have hg10 := one_new wv9 (.cells #[.int .i64 k, .int .i64 n] 30 (0, 0))
      have hS10a := (hg10.1.block _ (lt_of_block hS9)).trans hS9
      go_simp
      refine hK.out _ _ (hS10a) (fun _ => ?_)
      clear hK K
      try simp only [Act.put, List.setIfInBounds_toArray, List.set_cons_zero, List.set_cons_succ]
      refine gen_any (S' := fun wv => wv.heap[X]? = some (.cells #[.int .i64 a, .int .i64 k, .int .i64 n] 54 (0, 0)) ∧ Two B q r w0 wv t M t M ∧ Rq B wv r v M ∧ u.heap.size ≤ wv.heap.size ∧ wv.heap[wv9.heap.size]? = some (.cells #[.int .i64 k, .int .i64 n] 30 (0, 0)) ∧ wv.heap[wv1.heap.size]? = some (.cells #[.int .i64 k, .int .i64 n] 79 (0, 0))) ⟨hS10a, hT9.later hg10.1, hV9.later hg10.1, Nat.le_trans hz9 hg10.1.size, hg10.2, (hg10.1.block _ (lt_of_block hr9)).trans hr9⟩ (fun wv10 hF => ?_)
      obtain ⟨hS10, hT10, hV10, hz10, hi10, hr10⟩ := hF
      refine wpAnyH_ready (rs := [7]) (by kernel_rfl) (by simp) ?_
      refine AllReadyH.cons (o := ⟨_, _, _, _, _, _⟩) rfl (fun K hK => ?_) AllReadyH.nil
      go_simp
      refine (two_putQ _ hT10 (it_one hi10) (by simpa using HWf.out) (by simp; omega) (by simp; omega)).mono ?_
      rintro e wv11 ⟨rfl, hT11, hK11, hW11, hL11⟩
      have hS11 := hK11 _ _ _ _ hS10 (by decide)
      have hV11 := hW11 _ hV10
      have hz11 : u.heap.size ≤ wv11.heap.size := Nat.le_trans hz10 hL11
      have hr11 := hK11 _ _ _ _ hr10 (by decide)
      go_wp2_with fail
      refine hK.out _ _ (hS11) (fun _ => ?_)
      clear hK K
      try simp only [Act.put, List.setIfInBounds_toArray, List.set_cons_zero, List.set_cons_succ]
      refine wpAnyH_ready (rs := [15]) (by kernel_rfl) (by simp) ?_
      refine AllReadyH.cons (o := ⟨_, _, _, _, _, _⟩) rfl (fun K hK => ?_) AllReadyH.nil
      go_simp
      refine (two_putR2 (l := [(k, n)]) _ hT11 hV11 (HNr.out _ (by first | exact hz1 | omega)) (HNv.out _ (by first | exact hz1 | omega)) (by simp; omega) (rit_one hr11)).mono ?_
      rintro e wy12 ⟨rfl, hT12, hK12⟩
      have hS12 := hK12 _ _ _ _ hS11 (by decide)
      go_wp2_with fail
      refine hK.out _ _ (hS12) (fun _ => ?_)
      clear hK K
      try simp only [Act.put, List.setIfInBounds_toArray, List.set_cons_zero, List.set_cons_succ]
      refine wpAnyH_take (i := 16) (oi := ⟨_, _, _, _, _, _⟩) (v := ?v17) rfl (by kernel_rfl) (by kernel_rfl) (by kernel_rfl) (fun _ _ _ h => h) ?y17 hS12 ?_
      case y17 => first | (refine Or.inr ⟨by rfl, ?_⟩; with_reducible rfl) | (refine Or.inl ⟨by rfl, ?_⟩; intro wS hSw; go_simp; try with_reducible rfl)
      simp only [Act.put, List.setIfInBounds_toArray, List.set_cons_zero, List.set_cons_succ]
      refine wpAnyH_take (i := 17) (oi := ⟨_, _, _, _, _, _⟩) (v := ?v18) rfl (by kernel_rfl) (by kernel_rfl) (by kernel_rfl) (fun _ _ _ h => h) ?y18 hS12 ?_
      case y18 => first | (refine Or.inr ⟨by rfl, ?_⟩; with_reducible rfl) | (refine Or.inl ⟨by rfl, ?_⟩; intro wS hSw; go_simp; try with_reducible rfl)
      simp only [Act.put, List.setIfInBounds_toArray, List.set_cons_zero, List.set_cons_succ]
      refine wpAnyH_done (by kernel_rfl) ?_ _
      have HE := Lib.hid (deed_put (l := [(k, n)]) hT12)
      clear hS12 hT12 hK12 hS11 hT11 hV11 hr11
      go_wp2
      go_ret
      exact ⟨rfl, HE.out.out (by simp)⟩
  · by_cases hM : M = []
    · subst hM
      obtain ⟨v2, hv2, -⟩ := HTw.out.rq
      have HQ0 := Lib.hid (quTake0 u HTw.out.qu)
      have HV2 := Lib.hid hv2
      clear hv2
      go_wp2_with fail
      refine HPk.out.mono ?_
      rintro e w1 ⟨rfl, rfl⟩
      go_wp2_with fail
      refine HQ0.out.mono ?_
      rintro e wx ⟨rfl, hbx⟩
      have HBx := Lib.hid hbx
      clear hbx x0 x1 x2
      go_upto_region 6 with (fail)
      refine gen_world (S := fun wz => Below wx.heap.size wx wz ∧ wz.heap[wx.heap.size]? = some (.cells #[.int .i64 0, .int .i64 0] 30 (0, 0))) (one_new wx _) (fun wz hz => ?_)
      obtain ⟨hbz, hxz⟩ := hz
      have HBz := Lib.hid (HBx.out.trans (hbz.mono HBx.out.size))
      have HXz := Lib.hid hxz
      clear hbz hxz
      go_wp2_with fail
      refine (rTake0 wz (HV2.out.later HBz.out)).mono ?_
      rintro e wy ⟨rfl, hby⟩
      have HBy := Lib.hid (HBz.out.trans (hby.mono HBz.out.size))
      have hxy := (hby.block _ (lt_of_block HXz.out)).trans HXz.out
      obtain ⟨y0, y1⟩ := two_box hxy
      have hyl := lt_of_block hxy
      have HE := Lib.hid (show Deeded B q r w0 (wy.alloc (.cells #[.int .i64 0, .int .i64 0] 79)) t [] from ⟨t, [], HTw.out.later (HBy.out.alloc HBy.out.size _), by simp, by omega⟩)
      clear hby hxy
      go_wp2
      go_ret
      exact ⟨rfl, HE.out⟩
    · obtain ⟨e, he⟩ := first_ex hM
      have HF := Lib.hid he
      clear he hM
      go_wp2_with fail
      refine HPk.out.mono ?_
      rintro en w1 ⟨rfl, rfl⟩
      go_wp2_with fail
      refine (two_takeQ u HTw.out HF.out).mono ?_
      rintro en wx ⟨rfl, hT1, hK1⟩
      have HT1 := Lib.hid hT1
      clear hT1 hK1 x0 x1 x2
      go_upto_region 6 with (fail)
      refine gen_world (S := fun wz => Below wx.heap.size wx wz ∧ wz.heap[wx.heap.size]? = some (.cells #[.int .i64 e.key, .int .i64 e.name] 30 (0, 0))) (one_new wx _) (fun wz hz => ?_)
      obtain ⟨hbz, hxz⟩ := hz
      have HT2 := Lib.hid (HT1.out.later hbz)
      have HXz := Lib.hid hxz
      clear hbz hxz
      go_wp2_with fail
      refine (two_takeR wz HT2.out HF.out).mono ?_
      rintro en wy ⟨rfl, hT3, hK3⟩
      have hxy := hK3 _ _ _ _ HXz.out (by decide)
      obtain ⟨y0, y1⟩ := two_box hxy
      have hyl := lt_of_block hxy
      have HE := Lib.hid (show Deeded B q r w0 (wy.alloc (.cells #[.int .i64 e.key, .int .i64 e.name] 79)) t M from ⟨t, _, hT3.later ((Below.refl _ _).alloc (Nat.le_refl _) _), Nat.le_trans (List.length_filter_le _ _) (by omega), by omega⟩)
      clear hT3 hK3 hxy
      go_wp2
      go_ret
      exact ⟨rfl, HE.out⟩
  · go_wp2_with fail
    refine HPk.out.mono ?_
    rintro e w1 ⟨rfl, rfl⟩
    clear x0
    go_upto_region 9 with (fail)
    clear x1 x2
    refine wp_region_held_drew (S := fun wq => wq.heap[X]? = some (.cells #[.int .i64 a, .int .i64 k, .int .i64 n] 54 (0, 0))) (by kernel_rfl) HX.out (fun hS => ?_)
    refine wpAnyH_take (i := 0) (oi := ⟨_, _, _, _, _, _⟩) (v := ?v49) rfl (by kernel_rfl) (by kernel_rfl) (by kernel_rfl) (fun _ _ _ h => h) ?y49 hS ?_
    case y49 => first | (refine Or.inr ⟨by rfl, ?_⟩; with_reducible rfl) | (refine Or.inl ⟨by rfl, ?_⟩; intro wS hSw; obtain ⟨x0S, x1S, x2S, -⟩ := three_box hSw; go_simp; try with_reducible rfl)
    simp only [Act.put, List.setIfInBounds_toArray, List.set_cons_zero, List.set_cons_succ]
    refine wpAnyH_take (i := 1) (oi := ⟨_, _, _, _, _, _⟩) (v := ?v50) rfl (by kernel_rfl) (by kernel_rfl) (by kernel_rfl) (fun _ _ _ h => h) ?y50 hS ?_
    case y50 => first | (refine Or.inr ⟨by rfl, ?_⟩; with_reducible rfl) | (refine Or.inl ⟨by rfl, ?_⟩; intro wS hSw; obtain ⟨x0S, x1S, x2S, -⟩ := three_box hSw; go_simp; try with_reducible rfl)
    simp only [Act.put, List.setIfInBounds_toArray, List.set_cons_zero, List.set_cons_succ]
    refine wpAnyH_take (i := 2) (oi := ⟨_, _, _, _, _, _⟩) (v := ?v51) rfl (by kernel_rfl) (by kernel_rfl) (by kernel_rfl) (fun _ _ _ h => h) ?y51 hS ?_
    case y51 => first | (refine Or.inr ⟨by rfl, ?_⟩; with_reducible rfl) | (refine Or.inl ⟨by rfl, ?_⟩; intro wS hSw; obtain ⟨x0S, x1S, x2S, -⟩ := three_box hSw; go_simp; try with_reducible rfl)
    simp only [Act.put, List.setIfInBounds_toArray, List.set_cons_zero, List.set_cons_succ]
    refine wpAnyH_take (i := 4) (oi := ⟨_, _, _, _, _, _⟩) (v := ?v52) rfl (by kernel_rfl) (by kernel_rfl) (by kernel_rfl) (fun _ _ _ h => h) ?y52 hS ?_
    case y52 => first | (refine Or.inr ⟨by rfl, ?_⟩; with_reducible rfl) | (refine Or.inl ⟨by rfl, ?_⟩; intro wS hSw; obtain ⟨x0S, x1S, x2S, -⟩ := three_box hSw; go_simp; try with_reducible rfl)
    simp only [Act.put, List.setIfInBounds_toArray, List.set_cons_zero, List.set_cons_succ]
    refine wpAnyH_take (i := 5) (oi := ⟨_, _, _, _, _, _⟩) (v := ?v53) rfl (by kernel_rfl) (by kernel_rfl) (by kernel_rfl) (fun _ _ _ h => h) ?y53 hS ?_
    case y53 => first | (refine Or.inr ⟨by rfl, ?_⟩; with_reducible rfl) | (refine Or.inl ⟨by rfl, ?_⟩; intro wS hSw; obtain ⟨x0S, x1S, x2S, -⟩ := three_box hSw; go_simp; try with_reducible rfl)
    simp only [Act.put, List.setIfInBounds_toArray, List.set_cons_zero, List.set_cons_succ]
    refine wpAnyH_take (i := 6) (oi := ⟨_, _, _, _, _, _⟩) (v := ?v54) rfl (by kernel_rfl) (by kernel_rfl) (by kernel_rfl) (fun _ _ _ h => h) ?y54 hS ?_
    case y54 => first | (refine Or.inr ⟨by rfl, ?_⟩; with_reducible rfl) | (refine Or.inl ⟨by rfl, ?_⟩; intro wS hSw; obtain ⟨x0S, x1S, x2S, -⟩ := three_box hSw; go_simp; try with_reducible rfl)
    simp only [Act.put, List.setIfInBounds_toArray, List.set_cons_zero, List.set_cons_succ]
    refine wpAnyH_ready (rs := [3]) (by kernel_rfl) (by simp) ?_
    refine AllReadyH.cons (o := ⟨_, _, _, _, _, _⟩) rfl (fun K hK => ?_) AllReadyH.nil
    go_simp
    refine (two_dropQ n _ (HTw.out.later (Below.refl _ _).drew) HWf.out).mono ?_
    rintro e wx ⟨rfl, hT1, hK1⟩
    have hS2 := hK1 _ _ _ _ hS (by decide)
    go_wp2_with fail
    refine hK.out _ _ (hS2) (fun _ => ?_)
    clear hK K
    try simp only [Act.put, List.setIfInBounds_toArray, List.set_cons_zero, List.set_cons_succ]
    refine wpAnyH_ready (rs := [7]) (by kernel_rfl) (by simp) ?_
    refine AllReadyH.cons (o := ⟨_, _, _, _, _, _⟩) rfl (fun K hK => ?_) AllReadyH.nil
    go_simp
    refine (two_dropR n _ hT1).mono ?_
    rintro e wy ⟨rfl, hT2, hK2⟩
    have hS4 := hK2 _ _ _ _ hS2 (by decide)
    go_wp2_with fail
    refine hK.out _ _ (hS4) (fun _ => ?_)
    clear hK K
    try simp only [Act.put, List.setIfInBounds_toArray, List.set_cons_zero, List.set_cons_succ]
    refine wpAnyH_take (i := 8) (oi := ⟨_, _, _, _, _, _⟩) (v := ?v55) rfl (by kernel_rfl) (by kernel_rfl) (by kernel_rfl) (fun _ _ _ h => h) ?y55 hS4 ?_
    case y55 => first | (refine Or.inr ⟨by rfl, ?_⟩; with_reducible rfl) | (refine Or.inl ⟨by rfl, ?_⟩; intro wS hSw; go_simp; try with_reducible rfl)
    simp only [Act.put, List.setIfInBounds_toArray, List.set_cons_zero, List.set_cons_succ]
    refine wpAnyH_take (i := 9) (oi := ⟨_, _, _, _, _, _⟩) (v := ?v56) rfl (by kernel_rfl) (by kernel_rfl) (by kernel_rfl) (fun _ _ _ h => h) ?y56 hS4 ?_
    case y56 => first | (refine Or.inr ⟨by rfl, ?_⟩; with_reducible rfl) | (refine Or.inl ⟨by rfl, ?_⟩; intro wS hSw; go_simp; try with_reducible rfl)
    simp only [Act.put, List.setIfInBounds_toArray, List.set_cons_zero, List.set_cons_succ]
    refine wpAnyH_done (by kernel_rfl) ?_ _
    have HE := Lib.hid (show Deeded B q r w0 wy t M from ⟨t, _, hT2, Nat.le_trans (List.length_filter_le _ _) (by omega), by omega⟩)
    clear hS hS2 hS4 hT1 hT2 hK1 hK2
    go_wp2
    go_ret
    exact ⟨rfl, HE.out⟩
  · go_wp2_with fail
    refine HPk.out.mono ?_
    rintro e w1 ⟨rfl, rfl⟩
    clear x0
    go_upto_region 11 with (fail)
    clear x1 x2
    refine wp_region_held_drew (S := fun wq => wq.heap[X]? = some (.cells #[.int .i64 a, .int .i64 k, .int .i64 n] 54 (0, 0))) (by kernel_rfl) HX.out (fun hS => ?_)
    refine wpAnyH_take (i := 0) (oi := ⟨_, _, _, _, _, _⟩) (v := ?v57) rfl (by kernel_rfl) (by kernel_rfl) (by kernel_rfl) (fun _ _ _ h => h) ?y57 hS ?_
    case y57 => first | (refine Or.inr ⟨by rfl, ?_⟩; with_reducible rfl) | (refine Or.inl ⟨by rfl, ?_⟩; intro wS hSw; obtain ⟨x0S, x1S, x2S, -⟩ := three_box hSw; go_simp; try with_reducible rfl)
    simp only [Act.put, List.setIfInBounds_toArray, List.set_cons_zero, List.set_cons_succ]
    refine wpAnyH_take (i := 1) (oi := ⟨_, _, _, _, _, _⟩) (v := ?v58) rfl (by kernel_rfl) (by kernel_rfl) (by kernel_rfl) (fun _ _ _ h => h) ?y58 hS ?_
    case y58 => first | (refine Or.inr ⟨by rfl, ?_⟩; with_reducible rfl) | (refine Or.inl ⟨by rfl, ?_⟩; intro wS hSw; obtain ⟨x0S, x1S, x2S, -⟩ := three_box hSw; go_simp; try with_reducible rfl)
    simp only [Act.put, List.setIfInBounds_toArray, List.set_cons_zero, List.set_cons_succ]
    refine wpAnyH_take (i := 2) (oi := ⟨_, _, _, _, _, _⟩) (v := ?v59) rfl (by kernel_rfl) (by kernel_rfl) (by kernel_rfl) (fun _ _ _ h => h) ?y59 hS ?_
    case y59 => first | (refine Or.inr ⟨by rfl, ?_⟩; with_reducible rfl) | (refine Or.inl ⟨by rfl, ?_⟩; intro wS hSw; obtain ⟨x0S, x1S, x2S, -⟩ := three_box hSw; go_simp; try with_reducible rfl)
    simp only [Act.put, List.setIfInBounds_toArray, List.set_cons_zero, List.set_cons_succ]
    refine wpAnyH_take (i := 3) (oi := ⟨_, _, _, _, _, _⟩) (v := ?v60) rfl (by kernel_rfl) (by kernel_rfl) (by kernel_rfl) (fun _ _ _ h => h) ?y60 hS ?_
    case y60 => first | (refine Or.inr ⟨by rfl, ?_⟩; with_reducible rfl) | (refine Or.inl ⟨by rfl, ?_⟩; intro wS hSw; obtain ⟨x0S, x1S, x2S, -⟩ := three_box hSw; go_simp; try with_reducible rfl)
    simp only [Act.put, List.setIfInBounds_toArray, List.set_cons_zero, List.set_cons_succ]
    refine wpAnyH_take (i := 4) (oi := ⟨_, _, _, _, _, _⟩) (v := ?v61) rfl (by kernel_rfl) (by kernel_rfl) (by kernel_rfl) (fun _ _ _ h => h) ?y61 hS ?_
    case y61 => first | (refine Or.inr ⟨by rfl, ?_⟩; with_reducible rfl) | (refine Or.inl ⟨by rfl, ?_⟩; intro wS hSw; obtain ⟨x0S, x1S, x2S, -⟩ := three_box hSw; go_simp; try with_reducible rfl)
    simp only [Act.put, List.setIfInBounds_toArray, List.set_cons_zero, List.set_cons_succ]
    refine wpAnyH_take (i := 6) (oi := ⟨_, _, _, _, _, _⟩) (v := ?v62) rfl (by kernel_rfl) (by kernel_rfl) (by kernel_rfl) (fun _ _ _ h => h) ?y62 hS ?_
    case y62 => first | (refine Or.inr ⟨by rfl, ?_⟩; with_reducible rfl) | (refine Or.inl ⟨by rfl, ?_⟩; intro wS hSw; obtain ⟨x0S, x1S, x2S, -⟩ := three_box hSw; go_simp; try with_reducible rfl)
    simp only [Act.put, List.setIfInBounds_toArray, List.set_cons_zero, List.set_cons_succ]
    refine wpAnyH_take (i := 7) (oi := ⟨_, _, _, _, _, _⟩) (v := ?v63) rfl (by kernel_rfl) (by kernel_rfl) (by kernel_rfl) (fun _ _ _ h => h) ?y63 hS ?_
    case y63 => first | (refine Or.inr ⟨by rfl, ?_⟩; with_reducible rfl) | (refine Or.inl ⟨by rfl, ?_⟩; intro wS hSw; obtain ⟨x0S, x1S, x2S, -⟩ := three_box hSw; go_simp; try with_reducible rfl)
    simp only [Act.put, List.setIfInBounds_toArray, List.set_cons_zero, List.set_cons_succ]
    refine wpAnyH_take (i := 8) (oi := ⟨_, _, _, _, _, _⟩) (v := ?v64) rfl (by kernel_rfl) (by kernel_rfl) (by kernel_rfl) (fun _ _ _ h => h) ?y64 hS ?_
    case y64 => first | (refine Or.inr ⟨by rfl, ?_⟩; with_reducible rfl) | (refine Or.inl ⟨by rfl, ?_⟩; intro wS hSw; obtain ⟨x0S, x1S, x2S, -⟩ := three_box hSw; go_simp; try with_reducible rfl)
    simp only [Act.put, List.setIfInBounds_toArray, List.set_cons_zero, List.set_cons_succ]
    refine wpAnyH_take (i := 9) (oi := ⟨_, _, _, _, _, _⟩) (v := ?v65) rfl (by kernel_rfl) (by kernel_rfl) (by kernel_rfl) (fun _ _ _ h => h) ?y65 hS ?_
    case y65 => first | (refine Or.inr ⟨by rfl, ?_⟩; with_reducible rfl) | (refine Or.inl ⟨by rfl, ?_⟩; intro wS hSw; obtain ⟨x0S, x1S, x2S, -⟩ := three_box hSw; go_simp; try with_reducible rfl)
    simp only [Act.put, List.setIfInBounds_toArray, List.set_cons_zero, List.set_cons_succ]
    refine wpAnyH_take (i := 10) (oi := ⟨_, _, _, _, _, _⟩) (v := ?v66) rfl (by kernel_rfl) (by kernel_rfl) (by kernel_rfl) (fun _ _ _ h => h) ?y66 hS ?_
    case y66 => first | (refine Or.inr ⟨by rfl, ?_⟩; with_reducible rfl) | (refine Or.inl ⟨by rfl, ?_⟩; intro wS hSw; obtain ⟨x0S, x1S, x2S, -⟩ := three_box hSw; go_simp; try with_reducible rfl)
    simp only [Act.put, List.setIfInBounds_toArray, List.set_cons_zero, List.set_cons_succ]
    refine wpAnyH_ready (rs := [5]) (by kernel_rfl) (by simp) ?_
    refine AllReadyH.cons (o := ⟨_, _, _, _, _, _⟩) rfl (fun K hK => ?_) AllReadyH.nil
    go_simp
    refine (two_moveQ n k _ (HTw.out.later (Below.refl _ _).drew) HWf.out).mono ?_
    rintro e wx ⟨rfl, hT1, hK1⟩
    have hS2 := hK1 _ _ _ _ hS (by decide)
    go_wp2_with fail
    refine hK.out _ _ (hS2) (fun _ => ?_)
    clear hK K
    try simp only [Act.put, List.setIfInBounds_toArray, List.set_cons_zero, List.set_cons_succ]
    refine wpAnyH_ready (rs := [11]) (by kernel_rfl) (by simp) ?_
    refine AllReadyH.cons (o := ⟨_, _, _, _, _, _⟩) rfl (fun K hK => ?_) AllReadyH.nil
    go_simp
    refine (two_moveR n k _ hT1).mono ?_
    rintro e wy ⟨rfl, hT2, hK2⟩
    have hS4 := hK2 _ _ _ _ hS2 (by decide)
    go_wp2_with fail
    refine hK.out _ _ (hS4) (fun _ => ?_)
    clear hK K
    try simp only [Act.put, List.setIfInBounds_toArray, List.set_cons_zero, List.set_cons_succ]
    refine wpAnyH_take (i := 12) (oi := ⟨_, _, _, _, _, _⟩) (v := ?v67) rfl (by kernel_rfl) (by kernel_rfl) (by kernel_rfl) (fun _ _ _ h => h) ?y67 hS4 ?_
    case y67 => first | (refine Or.inr ⟨by rfl, ?_⟩; with_reducible rfl) | (refine Or.inl ⟨by rfl, ?_⟩; intro wS hSw; go_simp; try with_reducible rfl)
    simp only [Act.put, List.setIfInBounds_toArray, List.set_cons_zero, List.set_cons_succ]
    refine wpAnyH_take (i := 13) (oi := ⟨_, _, _, _, _, _⟩) (v := ?v68) rfl (by kernel_rfl) (by kernel_rfl) (by kernel_rfl) (fun _ _ _ h => h) ?y68 hS4 ?_
    case y68 => first | (refine Or.inr ⟨by rfl, ?_⟩; with_reducible rfl) | (refine Or.inl ⟨by rfl, ?_⟩; intro wS hSw; go_simp; try with_reducible rfl)
    simp only [Act.put, List.setIfInBounds_toArray, List.set_cons_zero, List.set_cons_succ]
    refine wpAnyH_done (by kernel_rfl) ?_ _
    have HE := Lib.hid (show Deeded B q r w0 wy t M from ⟨t, _, hT2, by rw [moveN_len]; omega, by omega⟩)
    clear hS hS2 hS4 hT1 hT2 hK1 hK2
    go_wp2
    go_ret
    exact ⟨rfl, HE.out⟩
  · go_wp2_with fail
    refine HPk.out.mono ?_
    rintro e w1 ⟨rfl, rfl⟩
    have HE := Lib.hid (show Deeded B q r w0 u t M from ⟨t, M, HTw.out, by omega, by omega⟩)
    go_wp2
    go_ret
    exact ⟨rfl, HE.out⟩
  · obtain ⟨z, hz⟩ : ∃ z, IntKind.i64.wrap (n + 1) = z := ⟨_, rfl⟩
    have HWf2 := Lib.hid (show ∀ x ∈ [(k, n), (k, z)], (kx x.2).wf = true from fun x hx => by
      simp only [List.mem_cons, List.not_mem_nil, or_false] at hx
      rcases hx with rfl | rfl
      · exact HWf.out
      · simp only [← hz]
        exact wrap_wf _)
    go_wp2_with fail
    refine HPk.out.mono ?_
    rintro e w1 ⟨rfl, rfl⟩
    clear x0
    go_upto_region 13 with (fail)
    clear x1 x2
    refine wp_region_held_drew (S := fun wq => wq.heap[X]? = some (.cells #[.int .i64 a, .int .i64 k, .int .i64 n] 54 (0, 0))) (by kernel_rfl) HX.out (fun hS => ?_)
    refine wpAnyH_take (i := 0) (oi := ⟨_, _, _, _, _, _⟩) (v := ?v19) rfl (by kernel_rfl) (by kernel_rfl) (by kernel_rfl) (fun _ _ _ h => h) ?y19 hS ?_
    case y19 => first | (refine Or.inr ⟨by rfl, ?_⟩; with_reducible rfl) | (refine Or.inl ⟨by rfl, ?_⟩; intro wS hSw; obtain ⟨x0S, x1S, x2S, -⟩ := three_box hSw; go_simp; try with_reducible rfl)
    simp only [Act.put, List.setIfInBounds_toArray, List.set_cons_zero, List.set_cons_succ]
    refine wpAnyH_take (i := 1) (oi := ⟨_, _, _, _, _, _⟩) (v := ?v20) rfl (by kernel_rfl) (by kernel_rfl) (by kernel_rfl) (fun _ _ _ h => h) ?y20 hS ?_
    case y20 => first | (refine Or.inr ⟨by rfl, ?_⟩; with_reducible rfl) | (refine Or.inl ⟨by rfl, ?_⟩; intro wS hSw; obtain ⟨x0S, x1S, x2S, -⟩ := three_box hSw; go_simp; try with_reducible rfl)
    simp only [Act.put, List.setIfInBounds_toArray, List.set_cons_zero, List.set_cons_succ]
    refine wpAnyH_take (i := 2) (oi := ⟨_, _, _, _, _, _⟩) (v := ?v21) rfl (by kernel_rfl) (by kernel_rfl) (by kernel_rfl) (fun _ _ _ h => h) ?y21 hS ?_
    case y21 => first | (refine Or.inr ⟨by rfl, ?_⟩; with_reducible rfl) | (refine Or.inl ⟨by rfl, ?_⟩; intro wS hSw; obtain ⟨x0S, x1S, x2S, -⟩ := three_box hSw; go_simp; try with_reducible rfl)
    simp only [Act.put, List.setIfInBounds_toArray, List.set_cons_zero, List.set_cons_succ]
    refine wpAnyH_take (i := 3) (oi := ⟨_, _, _, _, _, _⟩) (v := ?v22) rfl (by kernel_rfl) (by kernel_rfl) (by kernel_rfl) (fun _ _ _ h => h) ?y22 hS ?_
    case y22 => first | (refine Or.inr ⟨by rfl, ?_⟩; with_reducible rfl) | (refine Or.inl ⟨by rfl, ?_⟩; intro wS hSw; obtain ⟨x0S, x1S, x2S, -⟩ := three_box hSw; go_simp; try with_reducible rfl)
    simp only [Act.put, List.setIfInBounds_toArray, List.set_cons_zero, List.set_cons_succ]
    refine wpAnyH_take (i := 4) (oi := ⟨_, _, _, _, _, _⟩) (v := ?v23) rfl (by kernel_rfl) (by kernel_rfl) (by kernel_rfl) (fun _ _ _ h => h) ?y23 hS ?_
    case y23 => first | (refine Or.inr ⟨by rfl, ?_⟩; with_reducible rfl) | (refine Or.inl ⟨by rfl, ?_⟩; intro wS hSw; obtain ⟨x0S, x1S, x2S, -⟩ := three_box hSw; go_simp; try with_reducible rfl)
    simp only [Act.put, List.setIfInBounds_toArray, List.set_cons_zero, List.set_cons_succ]
    refine wpAnyH_take (i := 5) (oi := ⟨_, _, _, _, _, _⟩) (v := ?v24) rfl (by kernel_rfl) (by kernel_rfl) (by kernel_rfl) (fun _ _ _ h => h) ?y24 hS ?_
    case y24 => first | (refine Or.inr ⟨by rfl, ?_⟩; with_reducible rfl) | (refine Or.inl ⟨by rfl, ?_⟩; intro wS hSw; obtain ⟨x0S, x1S, x2S, -⟩ := three_box hSw; go_simp; try with_reducible rfl)
    simp only [Act.put, List.setIfInBounds_toArray, List.set_cons_zero, List.set_cons_succ]
    refine wpAnyH_take (i := 6) (oi := ⟨_, _, _, _, _, _⟩) (v := ?v25) rfl (by kernel_rfl) (by kernel_rfl) (by kernel_rfl) (fun _ _ _ h => h) ?y25 hS ?_
    case y25 => first | (refine Or.inr ⟨by rfl, ?_⟩; with_reducible rfl) | (refine Or.inl ⟨by rfl, ?_⟩; intro wS hSw; obtain ⟨x0S, x1S, x2S, -⟩ := three_box hSw; go_simp; try with_reducible rfl)
    simp only [Act.put, List.setIfInBounds_toArray, List.set_cons_zero, List.set_cons_succ]
    refine wpAnyH_take (i := 7) (oi := ⟨_, _, _, _, _, _⟩) (v := ?v26) rfl (by kernel_rfl) (by kernel_rfl) (by kernel_rfl) (fun _ _ _ h => h) ?y26 hS ?_
    case y26 => first | (refine Or.inr ⟨by rfl, ?_⟩; with_reducible rfl) | (refine Or.inl ⟨by rfl, ?_⟩; intro wS hSw; obtain ⟨x0S, x1S, x2S, -⟩ := three_box hSw; go_simp; try with_reducible rfl)
    simp only [Act.put, List.setIfInBounds_toArray, List.set_cons_zero, List.set_cons_succ]
    refine wpAnyH_take (i := 8) (oi := ⟨_, _, _, _, _, _⟩) (v := ?v27) rfl (by kernel_rfl) (by kernel_rfl) (by kernel_rfl) (fun _ _ _ h => h) ?y27 hS ?_
    case y27 => first | (refine Or.inr ⟨by rfl, ?_⟩; with_reducible rfl) | (refine Or.inl ⟨by rfl, ?_⟩; intro wS hSw; obtain ⟨x0S, x1S, x2S, -⟩ := three_box hSw; go_simp; try with_reducible rfl)
    simp only [Act.put, List.setIfInBounds_toArray, List.set_cons_zero, List.set_cons_succ]
    refine wpAnyH_take (i := 9) (oi := ⟨_, _, _, _, _, _⟩) (v := ?v28) rfl (by kernel_rfl) (by kernel_rfl) (by kernel_rfl) (fun _ _ _ h => h) ?y28 hS ?_
    case y28 => first | (refine Or.inr ⟨by rfl, ?_⟩; with_reducible rfl) | (refine Or.inl ⟨by rfl, ?_⟩; intro wS hSw; obtain ⟨x0S, x1S, x2S, -⟩ := three_box hSw; go_simp; try with_reducible rfl)
    simp only [Act.put, List.setIfInBounds_toArray, List.set_cons_zero, List.set_cons_succ]
    refine wpAnyH_take (i := 10) (oi := ⟨_, _, _, _, _, _⟩) (v := ?v29) rfl (by kernel_rfl) (by kernel_rfl) (by kernel_rfl) (fun _ _ _ h => h) ?y29 hS ?_
    case y29 => first | (refine Or.inr ⟨by rfl, ?_⟩; with_reducible rfl) | (refine Or.inl ⟨by rfl, ?_⟩; intro wS hSw; obtain ⟨x0S, x1S, x2S, -⟩ := three_box hSw; go_simp; try with_reducible rfl)
    simp only [Act.put, List.setIfInBounds_toArray, List.set_cons_zero, List.set_cons_succ]
    refine wpAnyH_take (i := 11) (oi := ⟨_, _, _, _, _, _⟩) (v := ?v30) rfl (by kernel_rfl) (by kernel_rfl) (by kernel_rfl) (fun _ _ _ h => h) ?y30 hS ?_
    case y30 => first | (refine Or.inr ⟨by rfl, ?_⟩; with_reducible rfl) | (refine Or.inl ⟨by rfl, ?_⟩; intro wS hSw; obtain ⟨x0S, x1S, x2S, -⟩ := three_box hSw; go_simp; try with_reducible rfl)
    simp only [Act.put, List.setIfInBounds_toArray, List.set_cons_zero, List.set_cons_succ]
    refine wpAnyH_take (i := 14) (oi := ⟨_, _, _, _, _, _⟩) (v := ?v31) rfl (by kernel_rfl) (by kernel_rfl) (by kernel_rfl) (fun _ _ _ h => h) ?y31 hS ?_
    case y31 => first | (refine Or.inr ⟨by rfl, ?_⟩; with_reducible rfl) | (refine Or.inl ⟨by rfl, ?_⟩; intro wS hSw; obtain ⟨x0S, x1S, x2S, -⟩ := three_box hSw; go_simp; try with_reducible rfl)
    simp only [Act.put, List.setIfInBounds_toArray, List.set_cons_zero, List.set_cons_succ]
    refine wpAnyH_take (i := 15) (oi := ⟨_, _, _, _, _, _⟩) (v := ?v32) rfl (by kernel_rfl) (by kernel_rfl) (by kernel_rfl) (fun _ _ _ h => h) ?y32 hS ?_
    case y32 => first | (refine Or.inr ⟨by rfl, ?_⟩; with_reducible rfl) | (refine Or.inl ⟨by rfl, ?_⟩; intro wS hSw; obtain ⟨x0S, x1S, x2S, -⟩ := three_box hSw; go_simp; try with_reducible rfl)
    simp only [Act.put, List.setIfInBounds_toArray, List.set_cons_zero, List.set_cons_succ]
    refine wpAnyH_take (i := 16) (oi := ⟨_, _, _, _, _, _⟩) (v := ?v33) rfl (by kernel_rfl) (by kernel_rfl) (by kernel_rfl) (fun _ _ _ h => h) ?y33 hS ?_
    case y33 => first | (refine Or.inr ⟨by rfl, ?_⟩; with_reducible rfl) | (refine Or.inl ⟨by rfl, ?_⟩; intro wS hSw; obtain ⟨x0S, x1S, x2S, -⟩ := three_box hSw; go_simp; try with_reducible rfl)
    simp only [Act.put, List.setIfInBounds_toArray, List.set_cons_zero, List.set_cons_succ]
    refine wpAnyH_take (i := 17) (oi := ⟨_, _, _, _, _, _⟩) (v := ?v34) rfl (by kernel_rfl) (by kernel_rfl) (by kernel_rfl) (fun _ _ _ h => h) ?y34 hS ?_
    case y34 => first | (refine Or.inr ⟨by rfl, ?_⟩; with_reducible rfl) | (refine Or.inl ⟨by rfl, ?_⟩; intro wS hSw; obtain ⟨x0S, x1S, x2S, -⟩ := three_box hSw; go_simp; try with_reducible rfl)
    simp only [Act.put, List.setIfInBounds_toArray, List.set_cons_zero, List.set_cons_succ]
    refine wpAnyH_take (i := 18) (oi := ⟨_, _, _, _, _, _⟩) (v := ?v35) rfl (by kernel_rfl) (by kernel_rfl) (by kernel_rfl) (fun _ _ _ h => h) ?y35 hS ?_
    case y35 => first | (refine Or.inr ⟨by rfl, ?_⟩; with_reducible rfl) | (refine Or.inl ⟨by rfl, ?_⟩; intro wS hSw; obtain ⟨x0S, x1S, x2S, -⟩ := three_box hSw; go_simp; try with_reducible rfl)
    simp only [Act.put, List.setIfInBounds_toArray, List.set_cons_zero, List.set_cons_succ]
    refine wpAnyH_take (i := 19) (oi := ⟨_, _, _, _, _, _⟩) (v := ?v36) rfl (by kernel_rfl) (by kernel_rfl) (by kernel_rfl) (fun _ _ _ h => h) ?y36 hS ?_
    case y36 => first | (refine Or.inr ⟨by rfl, ?_⟩; with_reducible rfl) | (refine Or.inl ⟨by rfl, ?_⟩; intro wS hSw; obtain ⟨x0S, x1S, x2S, -⟩ := three_box hSw; go_simp; try with_reducible rfl)
    simp only [Act.put, List.setIfInBounds_toArray, List.set_cons_zero, List.set_cons_succ]
    refine wpAnyH_take (i := 20) (oi := ⟨_, _, _, _, _, _⟩) (v := ?v37) rfl (by kernel_rfl) (by kernel_rfl) (by kernel_rfl) (fun _ _ _ h => h) ?y37 hS ?_
    case y37 => first | (refine Or.inr ⟨by rfl, ?_⟩; with_reducible rfl) | (refine Or.inl ⟨by rfl, ?_⟩; intro wS hSw; obtain ⟨x0S, x1S, x2S, -⟩ := three_box hSw; go_simp; try with_reducible rfl)
    simp only [Act.put, List.setIfInBounds_toArray, List.set_cons_zero, List.set_cons_succ]
    refine wpAnyH_take (i := 21) (oi := ⟨_, _, _, _, _, _⟩) (v := ?v38) rfl (by kernel_rfl) (by kernel_rfl) (by kernel_rfl) (fun _ _ _ h => h) ?y38 hS ?_
    case y38 => first | (refine Or.inr ⟨by rfl, ?_⟩; with_reducible rfl) | (refine Or.inl ⟨by rfl, ?_⟩; intro wS hSw; obtain ⟨x0S, x1S, x2S, -⟩ := three_box hSw; go_simp; try with_reducible rfl)
    simp only [Act.put, List.setIfInBounds_toArray, List.set_cons_zero, List.set_cons_succ]
    refine wpAnyH_take (i := 22) (oi := ⟨_, _, _, _, _, _⟩) (v := ?v39) rfl (by kernel_rfl) (by kernel_rfl) (by kernel_rfl) (fun _ _ _ h => h) ?y39 hS ?_
    case y39 => first | (refine Or.inr ⟨by rfl, ?_⟩; with_reducible rfl) | (refine Or.inl ⟨by rfl, ?_⟩; intro wS hSw; obtain ⟨x0S, x1S, x2S, -⟩ := three_box hSw; go_simp; try with_reducible rfl)
    simp only [Act.put, List.setIfInBounds_toArray, List.set_cons_zero, List.set_cons_succ]
    refine wpAnyH_take (i := 23) (oi := ⟨_, _, _, _, _, _⟩) (v := ?v40) rfl (by kernel_rfl) (by kernel_rfl) (by kernel_rfl) (fun _ _ _ h => h) ?y40 hS ?_
    case y40 => first | (refine Or.inr ⟨by rfl, ?_⟩; with_reducible rfl) | (refine Or.inl ⟨by rfl, ?_⟩; intro wS hSw; obtain ⟨x0S, x1S, x2S, -⟩ := three_box hSw; go_simp; try with_reducible rfl)
    simp only [Act.put, List.setIfInBounds_toArray, List.set_cons_zero, List.set_cons_succ]
    refine wpAnyH_take (i := 24) (oi := ⟨_, _, _, _, _, _⟩) (v := ?v41) rfl (by kernel_rfl) (by kernel_rfl) (by kernel_rfl) (fun _ _ _ h => h) ?y41 hS ?_
    case y41 => first | (refine Or.inr ⟨by rfl, ?_⟩; with_reducible rfl) | (refine Or.inl ⟨by rfl, ?_⟩; intro wS hSw; obtain ⟨x0S, x1S, x2S, -⟩ := three_box hSw; go_simp; try with_reducible rfl)
    simp only [Act.put, List.setIfInBounds_toArray, List.set_cons_zero, List.set_cons_succ]
    refine wpAnyH_take (i := 25) (oi := ⟨_, _, _, _, _, _⟩) (v := ?v42) rfl (by kernel_rfl) (by kernel_rfl) (by kernel_rfl) (fun _ _ _ h => h) ?y42 hS ?_
    case y42 => first | (refine Or.inr ⟨by rfl, ?_⟩; with_reducible rfl) | (refine Or.inl ⟨by rfl, ?_⟩; intro wS hSw; obtain ⟨x0S, x1S, x2S, -⟩ := three_box hSw; go_simp; try with_reducible rfl)
    simp only [Act.put, List.setIfInBounds_toArray, List.set_cons_zero, List.set_cons_succ]
    refine gen_any (S' := fun wv => wv.heap[X]? = some (.cells #[.int .i64 a, .int .i64 k, .int .i64 n] 54 (0, 0)) ∧ Two B q r w0 wv t M t M ∧ Rq B wv r v M ∧ u.heap.size ≤ wv.heap.size) ⟨HX.out, HTw.out.later (Below.refl _ _).drew, HV.out.later (Below.refl _ _).drew, Nat.le_refl _⟩ (fun wv13 hF => ?_)
    obtain ⟨hS13, hT13, hV13, hz13⟩ := hF
    refine wpAnyH_ready (rs := [12, 26]) (by kernel_rfl) (by simp) ?_
    refine AllReadyH.cons (o := ⟨_, _, _, _, _, _⟩) rfl (fun K hK => ?_) (AllReadyH.cons (o := ⟨_, _, _, _, _, _⟩) rfl (fun K hK => ?_) AllReadyH.nil)
    · have hg14 := one_new wv13 (.cells #[.int .i64 k, .int .i64 n, .int .i64 k, .int .i64 z] 30 (0, 0))
      have hS14a := (hg14.1.block _ (lt_of_block hS13)).trans hS13
      go_simp
      refine hK.out _ _ (hS14a) (fun _ => ?_)
      clear hK K
      try simp only [Act.put, List.setIfInBounds_toArray, List.set_cons_zero, List.set_cons_succ]
      refine gen_any (S' := fun wv => wv.heap[X]? = some (.cells #[.int .i64 a, .int .i64 k, .int .i64 n] 54 (0, 0)) ∧ Two B q r w0 wv t M t M ∧ Rq B wv r v M ∧ u.heap.size ≤ wv.heap.size ∧ wv.heap[wv13.heap.size]? = some (.cells #[.int .i64 k, .int .i64 n, .int .i64 k, .int .i64 z] 30 (0, 0))) ⟨hS14a, hT13.later hg14.1, hV13.later hg14.1, Nat.le_trans hz13 hg14.1.size, hg14.2⟩ (fun wv14 hF => ?_)
      obtain ⟨hS14, hT14, hV14, hz14, hi14⟩ := hF
      refine wpAnyH_ready (rs := [13, 26]) (by kernel_rfl) (by simp) ?_
      refine AllReadyH.cons (o := ⟨_, _, _, _, _, _⟩) rfl (fun K hK => ?_) (AllReadyH.cons (o := ⟨_, _, _, _, _, _⟩) rfl (fun K hK => ?_) AllReadyH.nil)
      · go_simp
        refine (two_putQ _ hT14 (it_two hi14) HWf2.out (by simp; omega) (by simp; omega)).mono ?_
        rintro e wv15 ⟨rfl, hT15, hK15, hW15, hL15⟩
        have hS15 := hK15 _ _ _ _ hS14 (by decide)
        have hV15 := hW15 _ hV14
        have hz15 : u.heap.size ≤ wv15.heap.size := Nat.le_trans hz14 hL15
        go_wp2_with fail
        refine hK.out _ _ (hS15) (fun _ => ?_)
        clear hK K
        try simp only [Act.put, List.setIfInBounds_toArray, List.set_cons_zero, List.set_cons_succ]
        refine wpAnyH_ready (rs := [26]) (by kernel_rfl) (by simp) ?_
        refine AllReadyH.cons (o := ⟨_, _, _, _, _, _⟩) rfl (fun K hK => ?_) AllReadyH.nil
        have hg16 := one_new wv15 (.cells #[.int .i64 k, .int .i64 n, .int .i64 k, .int .i64 z] 79 (0, 0))
        have hS16a := (hg16.1.block _ (lt_of_block hS15)).trans hS15
        go_simp
        refine hK.out _ _ (hS16a) (fun _ => ?_)
        clear hK K
        try simp only [Act.put, List.setIfInBounds_toArray, List.set_cons_zero, List.set_cons_succ]
        have hT16 := hT15.later hg16.1
        have hV16 := hV15.later hg16.1
        have hr16 := hg16.2
        have hS16 := hS16a
        have hb16 : u.heap.size ≤ wv15.heap.size := hz15
        refine wpAnyH_ready (rs := [27]) (by kernel_rfl) (by simp) ?_
        refine AllReadyH.cons (o := ⟨_, _, _, _, _, _⟩) rfl (fun K hK => ?_) AllReadyH.nil
        go_simp
        refine (two_putR2 (l := [(k, n), (k, z)]) _ hT16 hV16 (HNr.out _ hb16) (HNv.out _ hb16) (by simp; omega) (rit_two hr16)).mono ?_
        rintro e wy17 ⟨rfl, hT17, hK17⟩
        have hS17 := hK17 _ _ _ _ hS16 (by decide)
        go_wp2_with fail
        refine hK.out _ _ (hS17) (fun _ => ?_)
        clear hK K
        try simp only [Act.put, List.setIfInBounds_toArray, List.set_cons_zero, List.set_cons_succ]
        refine wpAnyH_take (i := 28) (oi := ⟨_, _, _, _, _, _⟩) (v := ?v43) rfl (by kernel_rfl) (by kernel_rfl) (by kernel_rfl) (fun _ _ _ h => h) ?y43 hS17 ?_
        case y43 => first | (refine Or.inr ⟨by rfl, ?_⟩; with_reducible rfl) | (refine Or.inl ⟨by rfl, ?_⟩; intro wS hSw; go_simp; try with_reducible rfl)
        simp only [Act.put, List.setIfInBounds_toArray, List.set_cons_zero, List.set_cons_succ]
        refine wpAnyH_take (i := 29) (oi := ⟨_, _, _, _, _, _⟩) (v := ?v44) rfl (by kernel_rfl) (by kernel_rfl) (by kernel_rfl) (fun _ _ _ h => h) ?y44 hS17 ?_
        case y44 => first | (refine Or.inr ⟨by rfl, ?_⟩; with_reducible rfl) | (refine Or.inl ⟨by rfl, ?_⟩; intro wS hSw; go_simp; try with_reducible rfl)
        simp only [Act.put, List.setIfInBounds_toArray, List.set_cons_zero, List.set_cons_succ]
        refine wpAnyH_done (by kernel_rfl) ?_ _
        have HE := Lib.hid (deed_put (l := [(k, n), (k, z)]) hT17)
        clear hS17 hT17 hK17 hS16 hT16 hV16 hr16
        go_wp2
        go_ret
        exact ⟨rfl, HE.out.out (by simp)⟩
      · have hg18 := one_new wv14 (.cells #[.int .i64 k, .int .i64 n, .int .i64 k, .int .i64 z] 79 (0, 0))
        have hS18a := (hg18.1.block _ (lt_of_block hS14)).trans hS14
        go_simp
        refine hK.out _ _ (hS18a) (fun _ => ?_)
        clear hK K
        try simp only [Act.put, List.setIfInBounds_toArray, List.set_cons_zero, List.set_cons_succ]
        refine gen_any (S' := fun wv => wv.heap[X]? = some (.cells #[.int .i64 a, .int .i64 k, .int .i64 n] 54 (0, 0)) ∧ Two B q r w0 wv t M t M ∧ Rq B wv r v M ∧ u.heap.size ≤ wv.heap.size ∧ wv.heap[wv13.heap.size]? = some (.cells #[.int .i64 k, .int .i64 n, .int .i64 k, .int .i64 z] 30 (0, 0)) ∧ wv.heap[wv14.heap.size]? = some (.cells #[.int .i64 k, .int .i64 n, .int .i64 k, .int .i64 z] 79 (0, 0))) ⟨hS18a, hT14.later hg18.1, hV14.later hg18.1, Nat.le_trans hz14 hg18.1.size, (hg18.1.block _ (lt_of_block hi14)).trans hi14, hg18.2⟩ (fun wv18 hF => ?_)
        obtain ⟨hS18, hT18, hV18, hz18, hi18, hr18⟩ := hF
        refine wpAnyH_ready (rs := [13]) (by kernel_rfl) (by simp) ?_
        refine AllReadyH.cons (o := ⟨_, _, _, _, _, _⟩) rfl (fun K hK => ?_) AllReadyH.nil
        go_simp
        refine (two_putQ _ hT18 (it_two hi18) HWf2.out (by simp; omega) (by simp; omega)).mono ?_
        rintro e wv19 ⟨rfl, hT19, hK19, hW19, hL19⟩
        have hS19 := hK19 _ _ _ _ hS18 (by decide)
        have hV19 := hW19 _ hV18
        have hz19 : u.heap.size ≤ wv19.heap.size := Nat.le_trans hz18 hL19
        have hr19 := hK19 _ _ _ _ hr18 (by decide)
        go_wp2_with fail
        refine hK.out _ _ (hS19) (fun _ => ?_)
        clear hK K
        try simp only [Act.put, List.setIfInBounds_toArray, List.set_cons_zero, List.set_cons_succ]
        refine wpAnyH_ready (rs := [27]) (by kernel_rfl) (by simp) ?_
        refine AllReadyH.cons (o := ⟨_, _, _, _, _, _⟩) rfl (fun K hK => ?_) AllReadyH.nil
        go_simp
        refine (two_putR2 (l := [(k, n), (k, z)]) _ hT19 hV19 (HNr.out _ (by first | exact hz14 | omega)) (HNv.out _ (by first | exact hz14 | omega)) (by simp; omega) (rit_two hr19)).mono ?_
        rintro e wy20 ⟨rfl, hT20, hK20⟩
        have hS20 := hK20 _ _ _ _ hS19 (by decide)
        go_wp2_with fail
        refine hK.out _ _ (hS20) (fun _ => ?_)
        clear hK K
        try simp only [Act.put, List.setIfInBounds_toArray, List.set_cons_zero, List.set_cons_succ]
        refine wpAnyH_take (i := 28) (oi := ⟨_, _, _, _, _, _⟩) (v := ?v45) rfl (by kernel_rfl) (by kernel_rfl) (by kernel_rfl) (fun _ _ _ h => h) ?y45 hS20 ?_
        case y45 => first | (refine Or.inr ⟨by rfl, ?_⟩; with_reducible rfl) | (refine Or.inl ⟨by rfl, ?_⟩; intro wS hSw; go_simp; try with_reducible rfl)
        simp only [Act.put, List.setIfInBounds_toArray, List.set_cons_zero, List.set_cons_succ]
        refine wpAnyH_take (i := 29) (oi := ⟨_, _, _, _, _, _⟩) (v := ?v46) rfl (by kernel_rfl) (by kernel_rfl) (by kernel_rfl) (fun _ _ _ h => h) ?y46 hS20 ?_
        case y46 => first | (refine Or.inr ⟨by rfl, ?_⟩; with_reducible rfl) | (refine Or.inl ⟨by rfl, ?_⟩; intro wS hSw; go_simp; try with_reducible rfl)
        simp only [Act.put, List.setIfInBounds_toArray, List.set_cons_zero, List.set_cons_succ]
        refine wpAnyH_done (by kernel_rfl) ?_ _
        have HE := Lib.hid (deed_put (l := [(k, n), (k, z)]) hT20)
        clear hS20 hT20 hK20 hS19 hT19 hV19 hr19
        go_wp2
        go_ret
        exact ⟨rfl, HE.out.out (by simp)⟩
    · have hg21 := one_new wv13 (.cells #[.int .i64 k, .int .i64 n, .int .i64 k, .int .i64 z] 79 (0, 0))
      have hS21a := (hg21.1.block _ (lt_of_block hS13)).trans hS13
      go_simp
      refine hK.out _ _ (hS21a) (fun _ => ?_)
      clear hK K
      try simp only [Act.put, List.setIfInBounds_toArray, List.set_cons_zero, List.set_cons_succ]
      refine gen_any (S' := fun wv => wv.heap[X]? = some (.cells #[.int .i64 a, .int .i64 k, .int .i64 n] 54 (0, 0)) ∧ Two B q r w0 wv t M t M ∧ Rq B wv r v M ∧ u.heap.size ≤ wv.heap.size ∧ wv.heap[wv13.heap.size]? = some (.cells #[.int .i64 k, .int .i64 n, .int .i64 k, .int .i64 z] 79 (0, 0))) ⟨hS21a, hT13.later hg21.1, hV13.later hg21.1, Nat.le_trans hz13 hg21.1.size, hg21.2⟩ (fun wv21 hF => ?_)
      obtain ⟨hS21, hT21, hV21, hz21, hr21⟩ := hF
      refine wpAnyH_ready (rs := [12]) (by kernel_rfl) (by simp) ?_
      refine AllReadyH.cons (o := ⟨_, _, _, _, _, _⟩) rfl (fun K hK => ?_) AllReadyH.nil
      have hg22 := one_new wv21 (.cells #[.int .i64 k, .int .i64 n, .int .i64 k, .int .i64 z] 30 (0, 0))
      have hS22a := (hg22.1.block _ (lt_of_block hS21)).trans hS21
      go_simp
      refine hK.out _ _ (hS22a) (fun _ => ?_)
      clear hK K
      try simp only [Act.put, List.setIfInBounds_toArray, List.set_cons_zero, List.set_cons_succ]
      refine gen_any (S' := fun wv => wv.heap[X]? = some (.cells #[.int .i64 a, .int .i64 k, .int .i64 n] 54 (0, 0)) ∧ Two B q r w0 wv t M t M ∧ Rq B wv r v M ∧ u.heap.size ≤ wv.heap.size ∧ wv.heap[wv21.heap.size]? = some (.cells #[.int .i64 k, .int .i64 n, .int .i64 k, .int .i64 z] 30 (0, 0)) ∧ wv.heap[wv13.heap.size]? = some (.cells #[.int .i64 k, .int .i64 n, .int .i64 k, .int .i64 z] 79 (0, 0))) ⟨hS22a, hT21.later hg22.1, hV21.later hg22.1, Nat.le_trans hz21 hg22.1.size, hg22.2, (hg22.1.block _ (lt_of_block hr21)).trans hr21⟩ (fun wv22 hF => ?_)
      obtain ⟨hS22, hT22, hV22, hz22, hi22, hr22⟩ := hF
      refine wpAnyH_ready (rs := [13]) (by kernel_rfl) (by simp) ?_
      refine AllReadyH.cons (o := ⟨_, _, _, _, _, _⟩) rfl (fun K hK => ?_) AllReadyH.nil
      go_simp
      refine (two_putQ _ hT22 (it_two hi22) HWf2.out (by simp; omega) (by simp; omega)).mono ?_
      rintro e wv23 ⟨rfl, hT23, hK23, hW23, hL23⟩
      have hS23 := hK23 _ _ _ _ hS22 (by decide)
      have hV23 := hW23 _ hV22
      have hz23 : u.heap.size ≤ wv23.heap.size := Nat.le_trans hz22 hL23
      have hr23 := hK23 _ _ _ _ hr22 (by decide)
      go_wp2_with fail
      refine hK.out _ _ (hS23) (fun _ => ?_)
      clear hK K
      try simp only [Act.put, List.setIfInBounds_toArray, List.set_cons_zero, List.set_cons_succ]
      refine wpAnyH_ready (rs := [27]) (by kernel_rfl) (by simp) ?_
      refine AllReadyH.cons (o := ⟨_, _, _, _, _, _⟩) rfl (fun K hK => ?_) AllReadyH.nil
      go_simp
      refine (two_putR2 (l := [(k, n), (k, z)]) _ hT23 hV23 (HNr.out _ (by first | exact hz13 | omega)) (HNv.out _ (by first | exact hz13 | omega)) (by simp; omega) (rit_two hr23)).mono ?_
      rintro e wy24 ⟨rfl, hT24, hK24⟩
      have hS24 := hK24 _ _ _ _ hS23 (by decide)
      go_wp2_with fail
      refine hK.out _ _ (hS24) (fun _ => ?_)
      clear hK K
      try simp only [Act.put, List.setIfInBounds_toArray, List.set_cons_zero, List.set_cons_succ]
      refine wpAnyH_take (i := 28) (oi := ⟨_, _, _, _, _, _⟩) (v := ?v47) rfl (by kernel_rfl) (by kernel_rfl) (by kernel_rfl) (fun _ _ _ h => h) ?y47 hS24 ?_
      case y47 => first | (refine Or.inr ⟨by rfl, ?_⟩; with_reducible rfl) | (refine Or.inl ⟨by rfl, ?_⟩; intro wS hSw; go_simp; try with_reducible rfl)
      simp only [Act.put, List.setIfInBounds_toArray, List.set_cons_zero, List.set_cons_succ]
      refine wpAnyH_take (i := 29) (oi := ⟨_, _, _, _, _, _⟩) (v := ?v48) rfl (by kernel_rfl) (by kernel_rfl) (by kernel_rfl) (fun _ _ _ h => h) ?y48 hS24 ?_
      case y48 => first | (refine Or.inr ⟨by rfl, ?_⟩; with_reducible rfl) | (refine Or.inl ⟨by rfl, ?_⟩; intro wS hSw; go_simp; try with_reducible rfl)
      simp only [Act.put, List.setIfInBounds_toArray, List.set_cons_zero, List.set_cons_succ]
      refine wpAnyH_done (by kernel_rfl) ?_ _
      have HE := Lib.hid (deed_put (l := [(k, n), (k, z)]) hT24)
      clear hS24 hT24 hK24 hS23 hT23 hV23 hr23
      go_wp2
      go_ret
      exact ⟨rfl, HE.out.out (by simp)⟩
end Go.Proofs.Ytcpcgpanmoellaa
