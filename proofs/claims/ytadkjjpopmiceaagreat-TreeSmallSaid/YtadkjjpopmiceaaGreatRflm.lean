import Derived.Test.YtadkjjpopmiceaaGreatRfhm
import Derived.Test.YtadkjjpopmiceaaGreatTbem
import Derived.Test.YtadkjjpopmiceaaGreatRfvm
namespace Go.Proofs.YtadkjjpopmiceaaGreat
open Go.RowKit Go.Lib

def pln (t : Tw) : Tw := ⟨t.rule, 0, t.fr, t.to, t.kids⟩
def plainL (l : List Tw) : List Tw := l.map pln
theorem plain_succ {l : List Tw} {k : Nat} (h : k < l.length) : plainL (l.take (k + 1)) = plainL (l.take k) ++ [pln (atT l k)] := by
  unfold plainL
  rw [List.take_succ_eq_append_getElem h, List.map_append, atT_get l h]
  rfl
theorem plain_len {l : List Tw} {k : Nat} (h : k ≤ l.length) : (plainL (l.take k)).length = k := by simp [plainL]; omega
set_option maxRecDepth 100000 in
set_option maxHeartbeats 2000000 in
theorem rPlain_any (v : Value) (l : List Tw) (w : World) (h : TwAt w v l) (hl : l.length ≤ 1000000) :
    Calls Tryz.prog 19 #[v] w fun e w' => ToldT w (plainL l) e w' := by
  have H := Lib.hid h
  obtain ⟨ao, cap, rfl⟩ := h.val
  obtain ⟨len, hlen⟩ : ∃ len, len = l.length := ⟨_, rfl⟩
  have HLe := Lib.hid hlen
  rw [← hlen] at H hl ⊢
  clear h hlen
  obtain ⟨i0, hi0, hz0, hz1, hz2⟩ := info_parts Tryz.infoTwig
  go_enter Tryz.func19, Tryz.ntmps19
  go_wp2
  go_loopw [3, 4] (fun v i wr => ∃ k : Nat, k ≤ len ∧ i = .int .i64 k ∧ Hid (wr.ownsRow w.heap.size 45 5 v k (tvs (plainL (l.take k)))) ∧ Below w.heap.size w wr) (fun _ i _ => len - (intOf i).toNat)
  case atStart => exact ⟨0, by omega, rfl, Lib.hid (World.ownsRow_nil _ _ _ _), Below.refl _ _⟩
  case round =>
    obtain ⟨k, hk, rfl, HO, hbel⟩ := hrel
    have HB := Lib.hid hbel
    obtain ⟨va, vc, rfl⟩ := own_val HO.out
    by_cases hlt : k < len
    · have hlt' : (k : Int) < len := by omega
      have hkL : k < l.length := by rw [← HLe.out]; exact hlt
      obtain ⟨tb, toff, rfl, -, c0, -, c2, c3, c4⟩ := (H.out.later hbel).cells.2.2.2.2 k hkL
      rw [← atT_get l hkL] at c0 c2 c3 c4
      have hsc := plain_succ hkL
      obtain ⟨ru, hru⟩ : ∃ x, x = (atT l k).rule := ⟨_, rfl⟩
      obtain ⟨fr, hfr⟩ : ∃ x, x = (atT l k).fr := ⟨_, rfl⟩
      obtain ⟨tz, htz⟩ : ∃ x, x = (atT l k).to := ⟨_, rfl⟩
      obtain ⟨kk, hkk⟩ : ∃ x, x = (atT l k).kids := ⟨_, rfl⟩
      unfold pln at hsc
      rw [← hru] at c0 hsc
      rw [← hfr] at c2 hsc
      rw [← htz] at c3 hsc
      rw [← hkk] at c4 hsc
      have HSc := Lib.hid hsc
      clear hru hfr htz hkk hsc hbel
      have HH := Lib.hid (H.out)
      have HC := Lib.hid (show ∀ wS, Below w.heap.size w wS → wS.cell? ⟨tb, toff + k * 5, none⟩ = some (.int .i64 ru) ∧ wS.cell? ⟨tb, toff + k * 5 + 2, none⟩ = some (.int .i64 fr) ∧ wS.cell? ⟨tb, toff + k * 5 + 3, none⟩ = some (.int .i64 tz) ∧ wS.cell? ⟨tb, toff + k * 5 + 4, none⟩ = some (.int .i64 kk) from fun wS h => by
        obtain ⟨tb', toff', he, -, d0, -, d2, d3, d4⟩ := (H.out.later h).cells.2.2.2.2 k hkL
        simp only [Option.some.injEq, Addr.mk.injEq, and_true] at he
        obtain ⟨rfl, rfl⟩ := he
        obtain ⟨tb', toff', he, -, e0, -, e2, e3, e4⟩ := (H.out.later HB.out).cells.2.2.2.2 k hkL
        simp only [Option.some.injEq, Addr.mk.injEq, and_true] at he
        obtain ⟨rfl, rfl⟩ := he
        rw [e0] at c0
        rw [e2] at c2
        rw [e3] at c3
        rw [e4] at c4
        exact ⟨d0.trans c0, d2.trans c2, d3.trans c3, d4.trans c4⟩)
      have HF := HC
      have HBm := Lib.hid (Nat.le_refl w.heap.size)
      clear c0 c2 c3 c4
      go_upto_region 5 with (fail)
      have hOd : wr.drew.ownsRow w.heap.size 45 5 (.slice va k vc) k (tvs (plainL (l.take k))) := row_later HO.out ((Below.refl wr.heap.size wr).drew)
      have HOd := Lib.hid hOd
      clear hOd
      refine wp_region_held_drew (S := fun u2 => Below w.heap.size w u2) (by kernel_rfl) (HB.out.trans (((Below.refl wr.heap.size wr).drew).mono HB.out.size)) (fun hS => ?_)
      refine wpAnyH_take (i := 0) (oi := ⟨_, _, _, _, _, _⟩) (v := ?v1) rfl (by kernel_rfl) (by kernel_rfl) (by kernel_rfl) (fun _ _ _ h => h) ?y1 hS ?_
      case y1 => first | (refine Or.inr ⟨by rfl, ?_⟩; with_reducible rfl) | (refine Or.inl ⟨by rfl, ?_⟩; intro wS hSw; obtain ⟨z0, z1, z2, z3⟩ := HF.out wS hSw; go_simp; try with_reducible rfl)
      simp only [Act.put, List.setIfInBounds_toArray, List.set_cons_zero, List.set_cons_succ]
      refine wpAnyH_take (i := 1) (oi := ⟨_, _, _, _, _, _⟩) (v := ?v2) rfl (by kernel_rfl) (by kernel_rfl) (by kernel_rfl) (fun _ _ _ h => h) ?y2 hS ?_
      case y2 => first | (refine Or.inr ⟨by rfl, ?_⟩; with_reducible rfl) | (refine Or.inl ⟨by rfl, ?_⟩; intro wS hSw; obtain ⟨z0, z1, z2, z3⟩ := HF.out wS hSw; go_simp; try with_reducible rfl)
      simp only [Act.put, List.setIfInBounds_toArray, List.set_cons_zero, List.set_cons_succ]
      refine wpAnyH_take (i := 2) (oi := ⟨_, _, _, _, _, _⟩) (v := ?v3) rfl (by kernel_rfl) (by kernel_rfl) (by kernel_rfl) (fun _ _ _ h => h) ?y3 hS ?_
      case y3 => first | (refine Or.inr ⟨by rfl, ?_⟩; with_reducible rfl) | (refine Or.inl ⟨by rfl, ?_⟩; intro wS hSw; obtain ⟨z0, z1, z2, z3⟩ := HF.out wS hSw; go_simp; try with_reducible rfl)
      simp only [Act.put, List.setIfInBounds_toArray, List.set_cons_zero, List.set_cons_succ]
      refine wpAnyH_take (i := 3) (oi := ⟨_, _, _, _, _, _⟩) (v := ?v4) rfl (by kernel_rfl) (by kernel_rfl) (by kernel_rfl) (fun _ _ _ h => h) ?y4 hS ?_
      case y4 => first | (refine Or.inr ⟨by rfl, ?_⟩; with_reducible rfl) | (refine Or.inl ⟨by rfl, ?_⟩; intro wS hSw; obtain ⟨z0, z1, z2, z3⟩ := HF.out wS hSw; go_simp; try with_reducible rfl)
      simp only [Act.put, List.setIfInBounds_toArray, List.set_cons_zero, List.set_cons_succ]
      refine wpAnyH_take (i := 4) (oi := ⟨_, _, _, _, _, _⟩) (v := ?v5) rfl (by kernel_rfl) (by kernel_rfl) (by kernel_rfl) (fun _ _ _ h => h) ?y5 hS ?_
      case y5 => first | (refine Or.inr ⟨by rfl, ?_⟩; with_reducible rfl) | (refine Or.inl ⟨by rfl, ?_⟩; intro wS hSw; obtain ⟨z0, z1, z2, z3⟩ := HF.out wS hSw; go_simp; try with_reducible rfl)
      simp only [Act.put, List.setIfInBounds_toArray, List.set_cons_zero, List.set_cons_succ]
      refine wpAnyH_take (i := 5) (oi := ⟨_, _, _, _, _, _⟩) (v := ?v6) rfl (by kernel_rfl) (by kernel_rfl) (by kernel_rfl) (fun _ _ _ h => h) ?y6 hS ?_
      case y6 => first | (refine Or.inr ⟨by rfl, ?_⟩; with_reducible rfl) | (refine Or.inl ⟨by rfl, ?_⟩; intro wS hSw; obtain ⟨z0, z1, z2, z3⟩ := HF.out wS hSw; go_simp; try with_reducible rfl)
      simp only [Act.put, List.setIfInBounds_toArray, List.set_cons_zero, List.set_cons_succ]
      refine wpAnyH_take (i := 6) (oi := ⟨_, _, _, _, _, _⟩) (v := ?v7) rfl (by kernel_rfl) (by kernel_rfl) (by kernel_rfl) (fun _ _ _ h => h) ?y7 hS ?_
      case y7 => first | (refine Or.inr ⟨by rfl, ?_⟩; with_reducible rfl) | (refine Or.inl ⟨by rfl, ?_⟩; intro wS hSw; obtain ⟨z0, z1, z2, z3⟩ := HF.out wS hSw; go_simp; try with_reducible rfl)
      simp only [Act.put, List.setIfInBounds_toArray, List.set_cons_zero, List.set_cons_succ]
      refine wpAnyH_take (i := 7) (oi := ⟨_, _, _, _, _, _⟩) (v := ?v8) rfl (by kernel_rfl) (by kernel_rfl) (by kernel_rfl) (fun _ _ _ h => h) ?y8 hS ?_
      case y8 => first | (refine Or.inr ⟨by rfl, ?_⟩; with_reducible rfl) | (refine Or.inl ⟨by rfl, ?_⟩; intro wS hSw; obtain ⟨z0, z1, z2, z3⟩ := HF.out wS hSw; go_simp; try with_reducible rfl)
      simp only [Act.put, List.setIfInBounds_toArray, List.set_cons_zero, List.set_cons_succ]
      refine wpAnyH_take (i := 8) (oi := ⟨_, _, _, _, _, _⟩) (v := ?v9) rfl (by kernel_rfl) (by kernel_rfl) (by kernel_rfl) (fun _ _ _ h => h) ?y9 hS ?_
      case y9 => first | (refine Or.inr ⟨by rfl, ?_⟩; with_reducible rfl) | (refine Or.inl ⟨by rfl, ?_⟩; intro wS hSw; obtain ⟨z0, z1, z2, z3⟩ := HF.out wS hSw; go_simp; try with_reducible rfl)
      simp only [Act.put, List.setIfInBounds_toArray, List.set_cons_zero, List.set_cons_succ]
      refine wpAnyH_take (i := 9) (oi := ⟨_, _, _, _, _, _⟩) (v := ?v10) rfl (by kernel_rfl) (by kernel_rfl) (by kernel_rfl) (fun _ _ _ h => h) ?y10 hS ?_
      case y10 => first | (refine Or.inr ⟨by rfl, ?_⟩; with_reducible rfl) | (refine Or.inl ⟨by rfl, ?_⟩; intro wS hSw; obtain ⟨z0, z1, z2, z3⟩ := HF.out wS hSw; go_simp; try with_reducible rfl)
      simp only [Act.put, List.setIfInBounds_toArray, List.set_cons_zero, List.set_cons_succ]
      refine wpAnyH_take (i := 10) (oi := ⟨_, _, _, _, _, _⟩) (v := ?v11) rfl (by kernel_rfl) (by kernel_rfl) (by kernel_rfl) (fun _ _ _ h => h) ?y11 hS ?_
      case y11 => first | (refine Or.inr ⟨by rfl, ?_⟩; with_reducible rfl) | (refine Or.inl ⟨by rfl, ?_⟩; intro wS hSw; obtain ⟨z0, z1, z2, z3⟩ := HF.out wS hSw; go_simp; try with_reducible rfl)
      simp only [Act.put, List.setIfInBounds_toArray, List.set_cons_zero, List.set_cons_succ]
      refine wpAnyH_take (i := 11) (oi := ⟨_, _, _, _, _, _⟩) (v := ?v12) rfl (by kernel_rfl) (by kernel_rfl) (by kernel_rfl) (fun _ _ _ h => h) ?y12 hS ?_
      case y12 => first | (refine Or.inr ⟨by rfl, ?_⟩; with_reducible rfl) | (refine Or.inl ⟨by rfl, ?_⟩; intro wS hSw; obtain ⟨z0, z1, z2, z3⟩ := HF.out wS hSw; go_simp; try with_reducible rfl)
      simp only [Act.put, List.setIfInBounds_toArray, List.set_cons_zero, List.set_cons_succ]
      refine wpAnyH_take (i := 12) (oi := ⟨_, _, _, _, _, _⟩) (v := ?v13) rfl (by kernel_rfl) (by kernel_rfl) (by kernel_rfl) (fun _ _ _ h => h) ?y13 hS ?_
      case y13 => first | (refine Or.inr ⟨by rfl, ?_⟩; with_reducible rfl) | (refine Or.inl ⟨by rfl, ?_⟩; intro wS hSw; obtain ⟨z0, z1, z2, z3⟩ := HF.out wS hSw; go_simp; try with_reducible rfl)
      simp only [Act.put, List.setIfInBounds_toArray, List.set_cons_zero, List.set_cons_succ]
      refine wpAnyH_take (i := 13) (oi := ⟨_, _, _, _, _, _⟩) (v := ?v14) rfl (by kernel_rfl) (by kernel_rfl) (by kernel_rfl) (fun _ _ _ h => h) ?y14 hS ?_
      case y14 => first | (refine Or.inr ⟨by rfl, ?_⟩; with_reducible rfl) | (refine Or.inl ⟨by rfl, ?_⟩; intro wS hSw; obtain ⟨z0, z1, z2, z3⟩ := HF.out wS hSw; go_simp; try with_reducible rfl)
      simp only [Act.put, List.setIfInBounds_toArray, List.set_cons_zero, List.set_cons_succ]
      refine wpAnyH_take (i := 14) (oi := ⟨_, _, _, _, _, _⟩) (v := ?v15) rfl (by kernel_rfl) (by kernel_rfl) (by kernel_rfl) (fun _ _ _ h => h) ?y15 hS ?_
      case y15 => first | (refine Or.inr ⟨by rfl, ?_⟩; with_reducible rfl) | (refine Or.inl ⟨by rfl, ?_⟩; intro wS hSw; obtain ⟨z0, z1, z2, z3⟩ := HF.out wS hSw; go_simp; try with_reducible rfl)
      simp only [Act.put, List.setIfInBounds_toArray, List.set_cons_zero, List.set_cons_succ]
      refine wpAnyH_take (i := 15) (oi := ⟨_, _, _, _, _, _⟩) (v := ?v16) rfl (by kernel_rfl) (by kernel_rfl) (by kernel_rfl) (fun _ _ _ h => h) ?y16 hS ?_
      case y16 => first | (refine Or.inr ⟨by rfl, ?_⟩; with_reducible rfl) | (refine Or.inl ⟨by rfl, ?_⟩; intro wS hSw; obtain ⟨z0, z1, z2, z3⟩ := HF.out wS hSw; go_simp; try with_reducible rfl)
      simp only [Act.put, List.setIfInBounds_toArray, List.set_cons_zero, List.set_cons_succ]
      refine wpAnyH_take (i := 16) (oi := ⟨_, _, _, _, _, _⟩) (v := ?v17) rfl (by kernel_rfl) (by kernel_rfl) (by kernel_rfl) (fun _ _ _ h => h) ?y17 hS ?_
      case y17 => first | (refine Or.inr ⟨by rfl, ?_⟩; with_reducible rfl) | (refine Or.inl ⟨by rfl, ?_⟩; intro wS hSw; obtain ⟨z0, z1, z2, z3⟩ := HF.out wS hSw; go_simp; try with_reducible rfl)
      simp only [Act.put, List.setIfInBounds_toArray, List.set_cons_zero, List.set_cons_succ]
      refine wpAnyH_ready (rs := [17]) (by kernel_rfl) (by simp) ?_
      refine AllReadyH.cons (o := ⟨_, _, _, _, _, _⟩) rfl (fun K hK => ?_) AllReadyH.nil
      go_simp
      refine hK.out _ _ (hS.alloc hS.size _) (fun hS1 => ?_)
      clear hK K
      try simp only [Act.put, List.setIfInBounds_toArray, List.set_cons_zero, List.set_cons_succ]
      have hb := (one_new wr.drew (.cells #[.int .i64 ru, .int .i64 0, .int .i64 fr, .int .i64 tz, .int .i64 kk] 45)).1
      have hnew := (one_new wr.drew (.cells #[.int .i64 ru, .int .i64 0, .int .i64 fr, .int .i64 tz, .int .i64 kk] 45)).2
      obtain ⟨gD, hg⟩ : ∃ gD, gD = wr.heap.size := ⟨_, rfl⟩
      have hnew2 : (wr.drew.alloc (.cells #[.int .i64 ru, .int .i64 0, .int .i64 fr, .int .i64 tz, .int .i64 kk] 45 (0, 0))).heap[gD]? = some (.cells #[.int .i64 ru, .int .i64 0, .int .i64 fr, .int .i64 tz, .int .i64 kk] 45 (0, 0)) := by rw [hg]; exact hnew
      rw [← hg]
      refine gen_anyH (S2 := fun u => Below w.heap.size w u ∧ u.heap[gD]? = some (.cells #[.int .i64 ru, .int .i64 0, .int .i64 fr, .int .i64 tz, .int .i64 kk] 45 (0, 0)) ∧ u.ownsRow w.heap.size 45 5 (.slice va k vc) k (tvs (plainL (l.take k)))) ⟨hS1, hnew2, row_later HOd.out hb⟩ (fun wv hh => ?_)
      clear hS hb hnew hnew2 hS1 hg
      obtain ⟨hS, hD, hO⟩ := hh
      refine wpAnyH_ready (rs := [18]) (by kernel_rfl) (by simp) ?_
      refine AllReadyH.cons (o := ⟨_, _, _, _, _, _⟩) rfl (fun K hK => ?_) AllReadyH.nil
      have hNw := World.news_of_block hD
      refine step_append_tu (by rfl) _ _ 22 22 (by rfl) w.heap.size 45 45 i0 _ 5 40 Tryz.underlying22 Tryz.underlying22 hi0 hz0 hz1 hz2 rfl (by decide) va k vc (tvs (plainL (l.take k))) (by rfl) hO (some ⟨gD, 0, none⟩) 1 1 (twc ⟨ru, 0, fr, tz, kk⟩) (by rfl) (fun h => by cases h) rfl (fun ad h => by cases h; exact hNw) (twc_one _) (by unfold maxLen; omega) (by omega) hS.size ?_
      intro v5 w5 hown5 hgrow5
      obtain ⟨aE, pE, rfl⟩ := own_val hown5
      refine hK.out _ _ (hS.grown hgrow5 hS.size (fun k hk => (hO.lt k hk).1)) (fun hS5 => ?_)
      clear hK K
      try simp only [Act.put, List.setIfInBounds_toArray, List.set_cons_zero, List.set_cons_succ]
      clear hD hgrow5 hS hO
      refine wpAnyH_take (i := 19) (oi := ⟨_, _, _, _, _, _⟩) (v := ?v18) rfl (by kernel_rfl) (by kernel_rfl) (by kernel_rfl) (fun _ _ _ h => h) ?y18 hS5 ?_
      case y18 => first | (refine Or.inr ⟨by rfl, ?_⟩; with_reducible rfl) | (refine Or.inl ⟨by rfl, ?_⟩; intro wS hSw; go_simp; try with_reducible rfl)
      simp only [Act.put, List.setIfInBounds_toArray, List.set_cons_zero, List.set_cons_succ]
      refine wpAnyH_done (by kernel_rfl) ?_ _
      have HB2 := Lib.hid hS5
      have HO2 := Lib.hid (show w5.ownsRow w.heap.size 45 5 _ (k + 1) (tvs (plainL (l.take (k + 1)))) from by rw [HSc.out, tvs, List.flatMap_append]; exact hown5)
      clear hown5 hS5
      go_wp2
      go_roundw
      case rel => exact ⟨k + 1, by omega, by go_num, HO2, HB2.out⟩
      case measure => simp [intOf]; omega
    · have hlt' : ¬ (k : Int) < len := by omega
      obtain rfl : k = len := by omega
      go_wp2
      go_ret
      refine ⟨_, rfl, ?_, HB.out⟩
      have := HO.out
      rw [List.take_of_length_le (by rw [← HLe.out]; exact Nat.le_refl _)] at this
      unfold TwOwn
      rw [show (plainL l).length = k from by simp [plainL, HLe.out]]
      exact this
end Go.Proofs.YtadkjjpopmiceaaGreat
