/-
  SpanGaps: the walk.
-/
import Derived.Test.YtndminmefacmnaaSnQ
import Derived.Test.YtndminmefacmnaaAtu
namespace Go.Proofs.Ytndminmefacmnaa
open Go.RowKit Go.Lib

theorem wpAnyH_list {P : Program} {md : Region.Mode} {ops : Array Oper} {Q : Exit → Act → World → Prop} {S : World → Prop} {fuel : Nat} {listed L : Array Bool} {a : Act} {w : World} (h : listed = L)
    (H : wpAnyH P md ops Q S fuel L a w) : wpAnyH P md ops Q S fuel listed a w := by rw [h]; exact H
theorem gen_anyH {P : Program} {md : Region.Mode} {ops : Array Oper} {Q : Exit → Act → World → Prop} {S : World → Prop} {fuel : Nat} {listed : Array Bool} {a : Act} {w : World} (S2 : World → Prop) (h : S2 w)
    (k : ∀ w', S2 w' → wpAnyH P md ops Q S fuel listed a w') : wpAnyH P md ops Q S fuel listed a w := k w h
/-- a cut whose statement is found where it is first used; omega does not see it. -/
theorem cut_hid {T G : Prop} (h : Hid T → G) (t : T) : G := h (Lib.hid t)
theorem empty_sg {w : World} {B g : Nat} (h : w.heap[g]? = some (.cells #[] 23 (0, 0))) (hb : B ≤ g) : w.ownsRow B 23 2 (.slice (some ⟨g, 0, none⟩) 0 0) 0 [] :=
  own_shut rfl hb h (Nat.le_refl _) (Nat.zero_le _) rfl rfl
theorem row_later2 {B n : Nat} {w w' : World} {v : Value} {xs : List Value} (h : w.ownsRow B 23 2 v n xs) (hb : Below w.heap.size w w') : w'.ownsRow B 23 2 v n xs := (Keeps.ofNew hb (fun _ => False)).row h (fun _ _ h => h)
theorem flat_one2 (l : List Sg) : ∀ u ∈ l.flatMap sgc, u.oneCell' = true := by
  intro u hu
  obtain ⟨s, _, hs⟩ := List.mem_flatMap.1 hu
  exact sgc_one s u hs
theorem cnt_succ {G : List Sg} {k : Nat} (h : k < G.length) (p : Int) : cntS (G.take (k + 1)) p = cntS (G.take k) p + if hasS G[k] p then 1 else 0 := by
  unfold cntS
  rw [List.take_succ_eq_append_getElem h, List.countP_append]
  congr 1
  cases hh : hasS G[k] p <;> simp [hh]
theorem cov_succ {l : List Sg} {k : Nat} (h : k < l.length) (p : Int) : cov (l.take (k + 1)) p = (cov (l.take k) p || hasS l[k] p) := by
  unfold cov
  rw [List.take_succ_eq_append_getElem h, List.any_append]
  simp
/-- what is told of gaps. -/
theorem gaps_law {fr tz : Int} (h0 : 0 ≤ fr) (l : List Sg) (more : Sg) :
    (∀ i (h : i < (gapsS ⟨fr, tz⟩ l).length), inS (gapsS ⟨fr, tz⟩ l)[i] ⟨fr, tz⟩ = true ∧ (lenS (gapsS ⟨fr, tz⟩ l)[i] == 0) = false ∧ (gapsS ⟨fr, tz⟩ l)[i].to ≤ tz) ∧
    (∀ i (h : i + 1 < (gapsS ⟨fr, tz⟩ l).length), ((gapsS ⟨fr, tz⟩ l)[i]'(by omega)).to < (gapsS ⟨fr, tz⟩ l)[i + 1].fr) ∧
    (∀ p, fr ≤ p → p < tz → cntS (gapsS ⟨fr, tz⟩ l) p = if cov l p then 0 else 1) ∧ ∀ p, fr ≤ p → p < tz → cntS (gapsS ⟨fr, tz⟩ (l ++ [more])) p ≤ cntS (gapsS ⟨fr, tz⟩ l) p := by
  by_cases hr : rightS ⟨fr, tz⟩ = true
  · have hr2 : 0 ≤ fr ∧ fr ≤ tz := by simpa [rightS] using hr
    have hg : ∀ l, gapsS ⟨fr, tz⟩ l = canon l tz fr := fun l => if_pos hr
    obtain ⟨k1, k2, k3, k4⟩ := canon_spec l tz (tz - fr).toNat fr (Int.self_le_toNat _) h0
    obtain ⟨m1, m2, m3, m4⟩ := canon_spec (l ++ [more]) tz (tz - fr).toNat fr (Int.self_le_toNat _) h0
    have hc : ∀ p, fr ≤ p → p < tz → cntS (canon l tz fr) p = if cov l p then 0 else 1 := fun p hp1 hp2 => by
      rw [k4 p]
      cases hcp : cov l p
      · rw [if_pos ⟨hp1, hp2, rfl⟩]; rfl
      · rw [if_neg (by simp)]; rfl
    simp only [hg]
    refine ⟨fun i h => ?_, fun i h => rise_get _ _ k1 i h, hc, fun p hp1 hp2 => ?_⟩
    · obtain ⟨j1, j2, j3⟩ := k2 _ (List.getElem_mem h)
      generalize (canon l tz fr)[i] = a at j1 j2 j3
      obtain ⟨af, at'⟩ := a
      simp only at j1 j2 j3 ⊢
      refine ⟨?_, ?_, j3⟩
      · simp only [inS, rightS, Bool.and_eq_true, decide_eq_true_eq]
        omega
      · have : 0 < lenS ⟨af, at'⟩ := len_pos.2 ⟨by simp only []; omega, j2⟩
        simp
        omega
    · rw [hc p hp1 hp2, m4 p, cov_more]
      cases hcp : cov l p
      · simp only [Bool.false_or]
        split <;> simp
      · simp
  · have hg : ∀ l, gapsS ⟨fr, tz⟩ l = [] := fun l => if_neg hr
    simp only [hg]
    refine ⟨fun i h => by simp at h, fun i h => by simp at h, fun p hp1 hp2 => ?_, fun p _ _ => Nat.le_refl _⟩
    exfalso
    apply hr
    simp [rightS]
    omega
set_option maxRecDepth 100000 in
set_option maxHeartbeats 16000000 in
theorem spanGaps_main (a b c d : Int) (v : Value) (l : List Sg) (w : World) (h : SgsAt w v l) (hok : ∀ s ∈ l, s.to ≤ 9223372036854775807) (hl0 : l.length ≤ 140737488355328) (hb' : b ≤ 9223372036854775807) :
    Calls Try.prog 3 #[.agg #[.int .i64 a, .int .i64 b], v, .agg #[.int .i64 c, .int .i64 d]] w fun e w' => e = .returned (.bool true) ∧ Below w.heap.size w w' := by
  have HAw := Lib.hid (fun u => awake_any u)
  have H := Lib.hid h
  have HOk := Lib.hid hok
  have HLn := Lib.hid (fun u => sLen_any a b u hb')
  have HGp := Lib.hid (fun (v : Value) (l : List Sg) (u : World) (h : SgsAt u v l) (hl : l.length ≤ 100000) => gaps_any a b v l u h hl hb')
  obtain ⟨ao, cap, rfl⟩ := h.val
  have hcc := h.cells
  obtain ⟨-, hc1, hc2, hnil, -⟩ := hcc
  obtain ⟨len, hlen⟩ : ∃ len, len = l.length := ⟨_, rfl⟩
  have HLe := Lib.hid hlen
  rw [← hlen] at H hl0 hc1 hnil ⊢
  obtain ⟨i0, hi0, hzz0, hz1, hz2⟩ := info_parts Try.infoSpan
  clear h hok hlen hnil
  go_enter Try.func3, Try.ntmps3
  go_upto_region 1 with (fail)
  refine gen_world (S := fun u => Below w.heap.size w u ∧ u.heap[w.heap.size]? = some (.cells #[.int .i64 a, .int .i64 b] 23 (0, 0)) ∧ u.heap[w.heap.size + 1]? = some (.cells #[.int .i64 c, .int .i64 d] 23 (0, 0))) (two_new w _ _) (fun u hu => ?_)
  obtain ⟨hb0, hx, hy⟩ := hu
  obtain ⟨x0, x1⟩ := two_box hx
  obtain ⟨y0, y1⟩ := two_box hy
  have HX := Lib.hid hx
  have HY := Lib.hid hy
  have HB := Lib.hid hb0
  obtain ⟨X, hX⟩ : ∃ X, X = w.heap.size := ⟨_, rfl⟩
  rw [← hX] at x0 x1 y0 y1 HX HY ⊢
  clear hb0 hx hy hX
  go_wp2_with fail
  refine (HAw.out _).mono ?_
  rintro e uu ⟨rfl, hb⟩
  have hx := (hb.block _ (lt_of_block HX.out)).trans HX.out
  have hy := (hb.block _ (lt_of_block HY.out)).trans HY.out
  have hb0 := HB.out.trans (hb.mono HB.out.size)
  clear x0 x1 y0 y1 HX HB hb HY
  obtain ⟨x0, x1⟩ := two_box hx
  have HX := Lib.hid hx
  have HB := Lib.hid hb0
  clear hx hb0
  obtain ⟨y0, y1⟩ := two_box hy
  have HY := Lib.hid hy
  clear hy
  by_cases h60 : len ≤ 60
  rotate_left
  · have h60' : (60 : Int) < len := by omega
    go_wp2
    go_ret
    exact ⟨rfl, HB.out⟩
  have h60' : ¬ (60 : Int) < len := by omega
  by_cases ha0 : a < 0
  · go_wp2
    go_ret
    exact ⟨rfl, HB.out⟩
  by_cases ha1 : 1099511627776 < a
  · go_wp2
    go_ret
    exact ⟨rfl, HB.out⟩
  have HZ := Lib.hid (show a < b → lenS ⟨a, b⟩ = b - a from fun h => if_pos (by simp [rightS]; omega))
  generalize lenS ⟨a, b⟩ = z at HLn HZ
  go_wp2_with fail
  refine (HLn.out _).mono ?_
  rintro e uu ⟨rfl, hb⟩
  have hx := (hb.block _ (lt_of_block HX.out)).trans HX.out
  have hy := (hb.block _ (lt_of_block HY.out)).trans HY.out
  have hb0 := HB.out.trans (hb.mono HB.out.size)
  clear x0 x1 y0 y1 HX HB hb HY
  obtain ⟨x0, x1⟩ := two_box hx
  have HX := Lib.hid hx
  have HB := Lib.hid hb0
  clear hx hb0
  obtain ⟨y0, y1⟩ := two_box hy
  have HY := Lib.hid hy
  clear hy
  by_cases hz200 : 200 < z
  · go_wp2
    go_ret
    exact ⟨rfl, HB.out⟩
  have hge : 0 ≤ a := by omega
  have hab : a < b → b ≤ a + 200 := fun h => by have := HZ.out h; omega
  have HLaw := Lib.hid (gaps_law (tz := b) hge l ⟨c, d⟩)
  have HGn := Lib.hid (And.intro (gapsS_len ⟨a, b⟩ l) (gapsS_len ⟨a, b⟩ (l ++ [⟨c, d⟩])))
  clear HZ
  go_wp2_with fail
  refine (HGp.out _ l _ (H.out.later HB.out) (by rw [← HLe.out]; omega)).mono ?_
  rintro e w5 ⟨vG, rfl, ho, hb⟩
  have HX5 := Lib.hid ((hb.block _ (lt_of_block HX.out)).trans HX.out)
  have HY5 := Lib.hid ((hb.block _ (lt_of_block HY.out)).trans HY.out)
  have HB5 := Lib.hid (HB.out.trans (hb.mono HB.out.size))
  have hgat := ho.at
  obtain ⟨ga, gc, rfl⟩ := hgat.val
  obtain ⟨nG, hnG⟩ : ∃ nG, nG = (gapsS ⟨a, b⟩ l).length := ⟨_, rfl⟩
  have HNG := Lib.hid hnG
  rw [← hnG] at hgat ⊢
  have HG5 := Lib.hid hgat
  have hnG61 : nG ≤ 61 := by have := HGn.out.1; have := HLe.out; omega
  clear ho hb hgat hnG x0 x1 y0 y1 HX HY HB
  obtain ⟨x0, x1⟩ := two_box HX5.out
  obtain ⟨y0, y1⟩ := two_box HY5.out
  go_upto_region 6 with (fail)
  obtain ⟨B0, hB0⟩ : ∃ B0, B0 = w5.heap.size := ⟨_, rfl⟩
  have HF := Lib.hid (show ∀ wS, Below B0 w5 wS → wS.cell? ⟨X, 0, none⟩ = some (.int .i64 a) ∧ wS.cell? ⟨X, 1, none⟩ = some (.int .i64 b) ∧ wS.cell? ⟨X + 1, 0, none⟩ = some (.int .i64 c) ∧ wS.cell? ⟨X + 1, 1, none⟩ = some (.int .i64 d) from fun wS h => by
    rw [hB0] at h
    exact ⟨cell_later h (two_box HX5.out).1, cell_later h (two_box HX5.out).2, cell_later h (two_box HY5.out).1, cell_later h (two_box HY5.out).2⟩)
  have HSz := Lib.hid (show ∀ u, Below B0 w5 u → B0 ≤ u.heap.size from fun u h => by rw [hB0]; exact h.size)
  have HBm := Lib.hid (show w.heap.size ≤ B0 from by rw [hB0]; exact HB5.out.size)
  have HXl := Lib.hid (show X < B0 ∧ X + 1 < B0 from by rw [hB0]; exact ⟨lt_of_block HX5.out, lt_of_block HY5.out⟩)
  have HGl := Lib.hid (show ∀ u, Below B0 w5 u → SgsAt u (.slice ga nG gc) (gapsS ⟨a, b⟩ l) from fun u h => by rw [hB0] at h; exact HG5.out.later h)
  have hSr : Below B0 w5 w5.drew := by rw [hB0]; exact (Below.refl w5.heap.size w5).drew
  have HSr := Lib.hid hSr
  clear hB0 hSr x0 x1 y0 y1
  apply cut_hid
  · intro keyF1
    apply cut_hid
    · intro keyH1
      refine wp_region_held_drew (S := fun u2 => Below B0 w5 u2) (by kernel_rfl) HSr.out (fun hS => ?_)
      refine wpAnyH_take (i := 0) (oi := ⟨_, _, _, _, _, _⟩) (v := ?v63) rfl (by kernel_rfl) (by kernel_rfl) (by kernel_rfl) (fun _ _ _ h => h) ?y63 hS ?_
      case y63 => first | (refine Or.inr ⟨by rfl, ?_⟩; with_reducible rfl) | (refine Or.inl ⟨by rfl, ?_⟩; intro wS hSw; obtain ⟨z0, z1, z2, z3⟩ := HF.out wS hSw; go_simp; try with_reducible rfl)
      simp only [Act.put, List.setIfInBounds_toArray, List.set_cons_zero, List.set_cons_succ]
      refine wpAnyH_take (i := 2) (oi := ⟨_, _, _, _, _, _⟩) (v := ?v64) rfl (by kernel_rfl) (by kernel_rfl) (by kernel_rfl) (fun _ _ _ h => h) ?y64 hS ?_
      case y64 => first | (refine Or.inr ⟨by rfl, ?_⟩; with_reducible rfl) | (refine Or.inl ⟨by rfl, ?_⟩; intro wS hSw; obtain ⟨z0, z1, z2, z3⟩ := HF.out wS hSw; go_simp; try with_reducible rfl)
      simp only [Act.put, List.setIfInBounds_toArray, List.set_cons_zero, List.set_cons_succ]
      refine wpAnyH_take (i := 4) (oi := ⟨_, _, _, _, _, _⟩) (v := ?v65) rfl (by kernel_rfl) (by kernel_rfl) (by kernel_rfl) (fun _ _ _ h => h) ?y65 hS ?_
      case y65 => first | (refine Or.inr ⟨by rfl, ?_⟩; with_reducible rfl) | (refine Or.inl ⟨by rfl, ?_⟩; intro wS hSw; obtain ⟨z0, z1, z2, z3⟩ := HF.out wS hSw; go_simp; try with_reducible rfl)
      simp only [Act.put, List.setIfInBounds_toArray, List.set_cons_zero, List.set_cons_succ]
      refine wpAnyH_ready (rs := [1, 5]) (by kernel_rfl) (by simp) ?_
      refine AllReadyH.cons (o := ⟨_, _, _, _, _, _⟩) rfl (fun K hK => ?_) (AllReadyH.cons (o := ⟨_, _, _, _, _, _⟩) rfl (fun K hK => ?_) AllReadyH.nil)
      · go_simp
        refine hK.out _ _ (hS.alloc (HSz.out _ hS) _) (fun hS1 => ?_)
        clear hK K
        try simp only [Act.put, List.setIfInBounds_toArray, List.set_cons_zero, List.set_cons_succ]
        have hb := (one_new w5 (.cells #[] 23)).1
        have hnew := (one_new w5 (.cells #[] 23)).2
        have hle := HSz.out _ hS
        obtain ⟨gA, hg⟩ : ∃ gA, gA = w5.heap.size := ⟨_, rfl⟩
        rw [← hg] at hnew ⊢
        refine gen_anyH (S2 := fun u => Below B0 w5 u ∧ (u.heap[gA]? = some (.cells #[] 23 (0, 0)) ∧ B0 ≤ gA)) ⟨hS1, ⟨hnew, by rw [hg]; exact hle⟩⟩ (fun wv hh => ?_)
        clear hS 
        obtain ⟨hS, hA⟩ := hh
        clear hle hb hnew hS1
        clear hg
        refine wpAnyH_ready (rs := [3, 5]) (by kernel_rfl) (by simp) ?_
        refine AllReadyH.cons (o := ⟨_, _, _, _, _, _⟩) rfl (fun K hK => ?_) (AllReadyH.cons (o := ⟨_, _, _, _, _, _⟩) rfl (fun K hK => ?_) AllReadyH.nil)
        · have hRw := rows_news sgc_len (by omega) (H.out.later (HB5.out.trans (hS.mono HBm.out)))
          refine step_append_tu (by rfl) _ _ 24 24 (by rfl) B0 23 23 i0 _ 2 16 Try.underlying24 Try.underlying24 hi0 hzz0 hz1 hz2 rfl (by decide) (some ⟨gA, 0, none⟩) 0 0 [] (by rfl) (empty_sg hA.1 hA.2) ao len cap (l.flatMap sgc) (by rfl) (fun h => (hRw.2.2.2.1 h).1) (by rw [flat_len sgc_len, HLe.out]) hRw.2.2.2.2 (flat_one2 _) (by unfold maxLen; omega) (by omega) (HSz.out _ hS) ?_
          intro v3 w3 hown3 hgrow3
          simp only [Nat.zero_add, List.nil_append] at hown3
          obtain ⟨aB, pB, rfl⟩ := own_val hown3
          refine hK.out _ _ (hS.grown hgrow3 (HSz.out _ hS) (fun k hk => by cases hk; exact hA.2)) (fun hS3 => ?_)
          clear hK K
          try simp only [Act.put, List.setIfInBounds_toArray, List.set_cons_zero, List.set_cons_succ]
          refine gen_anyH (S2 := fun u => Below B0 w5 u ∧ (u.ownsRow B0 23 2 (.slice aB len pB) len (l.flatMap sgc))) ⟨hS3, hown3⟩ (fun wv hh => ?_)
          clear hS hA
          obtain ⟨hS, hB⟩ := hh
          clear hown3 hgrow3 hRw hS3
          refine wpAnyH_ready (rs := [5]) (by kernel_rfl) (by simp) ?_
          refine AllReadyH.cons (o := ⟨_, _, _, _, _, _⟩) rfl (fun K hK => ?_) AllReadyH.nil
          go_simp
          refine hK.out _ _ (hS.alloc (HSz.out _ hS) _) (fun hS1 => ?_)
          clear hK K
          try simp only [Act.put, List.setIfInBounds_toArray, List.set_cons_zero, List.set_cons_succ]
          have hb := (one_new wv (.cells #[.int .i64 c, .int .i64 d] 23)).1
          have hnew := (one_new wv (.cells #[.int .i64 c, .int .i64 d] 23)).2
          have hle := HSz.out _ hS
          obtain ⟨gD, hg⟩ : ∃ gD, gD = wv.heap.size := ⟨_, rfl⟩
          rw [← hg] at hnew ⊢
          refine gen_anyH (S2 := fun u => Below B0 w5 u ∧ (u.ownsRow B0 23 2 (.slice aB len pB) len (l.flatMap sgc)) ∧ (u.heap[gD]? = some (.cells #[.int .i64 c, .int .i64 d] 23 (0, 0)))) ⟨hS1, row_later2 hB hb, hnew⟩ (fun wv hh => ?_)
          clear hS hB
          obtain ⟨hS, hB, hD⟩ := hh
          clear hle hb hnew hS1
          clear hg
          refine wpAnyH_list (L := #[true, true, true, true, true, true, false, false, false]) (by kernel_rfl) ?_
          revert hD
          revert hB
          revert pB
          revert aB
          revert gD
          revert gA
          revert hS
          revert wv
          exact keyF1.out
        · go_simp
          refine hK.out _ _ (hS.alloc (HSz.out _ hS) _) (fun hS1 => ?_)
          clear hK K
          try simp only [Act.put, List.setIfInBounds_toArray, List.set_cons_zero, List.set_cons_succ]
          have hb := (one_new wv (.cells #[.int .i64 c, .int .i64 d] 23)).1
          have hnew := (one_new wv (.cells #[.int .i64 c, .int .i64 d] 23)).2
          have hle := HSz.out _ hS
          obtain ⟨gD, hg⟩ : ∃ gD, gD = wv.heap.size := ⟨_, rfl⟩
          rw [← hg] at hnew ⊢
          refine gen_anyH (S2 := fun u => Below B0 w5 u ∧ (u.heap[gA]? = some (.cells #[] 23 (0, 0)) ∧ B0 ≤ gA) ∧ (u.heap[gD]? = some (.cells #[.int .i64 c, .int .i64 d] 23 (0, 0)))) ⟨hS1, ⟨(hb.block _ (lt_of_block hA.1)).trans hA.1, hA.2⟩, hnew⟩ (fun wv hh => ?_)
          clear hS hA
          obtain ⟨hS, hA, hD⟩ := hh
          clear hle hb hnew hS1
          clear hg
          refine wpAnyH_list (L := #[true, true, true, false, true, true, false, false, false]) (by kernel_rfl) ?_
          revert hD
          revert hA
          revert gD
          revert gA
          revert hS
          revert wv
          exact keyH1.out
      · go_simp
        refine hK.out _ _ (hS.alloc (HSz.out _ hS) _) (fun hS1 => ?_)
        clear hK K
        try simp only [Act.put, List.setIfInBounds_toArray, List.set_cons_zero, List.set_cons_succ]
        have hb := (one_new w5 (.cells #[.int .i64 c, .int .i64 d] 23)).1
        have hnew := (one_new w5 (.cells #[.int .i64 c, .int .i64 d] 23)).2
        have hle := HSz.out _ hS
        obtain ⟨gD, hg⟩ : ∃ gD, gD = w5.heap.size := ⟨_, rfl⟩
        rw [← hg] at hnew ⊢
        refine gen_anyH (S2 := fun u => Below B0 w5 u ∧ (u.heap[gD]? = some (.cells #[.int .i64 c, .int .i64 d] 23 (0, 0)))) ⟨hS1, hnew⟩ (fun wv hh => ?_)
        clear hS 
        obtain ⟨hS, hD⟩ := hh
        clear hle hb hnew hS1
        clear hg
        refine wpAnyH_ready (rs := [1]) (by kernel_rfl) (by simp) ?_
        refine AllReadyH.cons (o := ⟨_, _, _, _, _, _⟩) rfl (fun K hK => ?_) AllReadyH.nil
        go_simp
        refine hK.out _ _ (hS.alloc (HSz.out _ hS) _) (fun hS1 => ?_)
        clear hK K
        try simp only [Act.put, List.setIfInBounds_toArray, List.set_cons_zero, List.set_cons_succ]
        have hb := (one_new wv (.cells #[] 23)).1
        have hnew := (one_new wv (.cells #[] 23)).2
        have hle := HSz.out _ hS
        obtain ⟨gA, hg⟩ : ∃ gA, gA = wv.heap.size := ⟨_, rfl⟩
        rw [← hg] at hnew ⊢
        refine gen_anyH (S2 := fun u => Below B0 w5 u ∧ (u.heap[gA]? = some (.cells #[] 23 (0, 0)) ∧ B0 ≤ gA) ∧ (u.heap[gD]? = some (.cells #[.int .i64 c, .int .i64 d] 23 (0, 0)))) ⟨hS1, ⟨hnew, by rw [hg]; exact hle⟩, (hb.block _ (lt_of_block hD)).trans hD⟩ (fun wv hh => ?_)
        clear hS hD
        obtain ⟨hS, hA, hD⟩ := hh
        clear hle hb hnew hS1
        clear hg
        refine wpAnyH_list (L := #[true, true, true, false, true, true, false, false, false]) (by kernel_rfl) ?_
        revert hD
        revert hA
        revert gD
        revert gA
        revert hS
        revert wv
        exact keyH1.out
    · intro wv hS gA gD hA hD
      refine wpAnyH_ready (rs := [3]) (by kernel_rfl) (by simp) ?_
      refine AllReadyH.cons (o := ⟨_, _, _, _, _, _⟩) rfl (fun K hK => ?_) AllReadyH.nil
      have hRw := rows_news sgc_len (by omega) (H.out.later (HB5.out.trans (hS.mono HBm.out)))
      refine step_append_tu (by rfl) _ _ 24 24 (by rfl) B0 23 23 i0 _ 2 16 Try.underlying24 Try.underlying24 hi0 hzz0 hz1 hz2 rfl (by decide) (some ⟨gA, 0, none⟩) 0 0 [] (by rfl) (empty_sg hA.1 hA.2) ao len cap (l.flatMap sgc) (by rfl) (fun h => (hRw.2.2.2.1 h).1) (by rw [flat_len sgc_len, HLe.out]) hRw.2.2.2.2 (flat_one2 _) (by unfold maxLen; omega) (by omega) (HSz.out _ hS) ?_
      intro v3 w3 hown3 hgrow3
      simp only [Nat.zero_add, List.nil_append] at hown3
      obtain ⟨aB, pB, rfl⟩ := own_val hown3
      refine hK.out _ _ (hS.grown hgrow3 (HSz.out _ hS) (fun k hk => by cases hk; exact hA.2)) (fun hS3 => ?_)
      clear hK K
      try simp only [Act.put, List.setIfInBounds_toArray, List.set_cons_zero, List.set_cons_succ]
      have hne : gD ≠ gA := fun e => by
        have h1 := hD
        rw [e, hA.1] at h1
        simp at h1
      have hD3 := (hgrow3.block gD (lt_of_block hD) (fun h => hne (by cases h; rfl))).trans hD
      refine gen_anyH (S2 := fun u => Below B0 w5 u ∧ (u.ownsRow B0 23 2 (.slice aB len pB) len (l.flatMap sgc)) ∧ (u.heap[gD]? = some (.cells #[.int .i64 c, .int .i64 d] 23 (0, 0)))) ⟨hS3, hown3, hD3⟩ (fun wv hh => ?_)
      clear hS hA hD
      obtain ⟨hS, hB, hD⟩ := hh
      clear hown3 hgrow3 hRw hS3 hne hD3
      refine wpAnyH_list (L := #[true, true, true, true, true, true, false, false, false]) (by kernel_rfl) ?_
      revert hD
      revert hB
      revert pB
      revert aB
      revert gD
      revert gA
      revert hS
      revert wv
      exact keyF1.out
  · intro wv hS gA gD aB pB hB hD
    refine wpAnyH_ready (rs := [6]) (by kernel_rfl) (by simp) ?_
    refine AllReadyH.cons (o := ⟨_, _, _, _, _, _⟩) rfl (fun K hK => ?_) AllReadyH.nil
    have hNw := World.news_of_block hD
    refine step_append_tu (by rfl) _ _ 24 24 (by rfl) B0 23 23 i0 _ 2 16 Try.underlying24 Try.underlying24 hi0 hzz0 hz1 hz2 rfl (by decide) aB len pB (l.flatMap sgc) (by rfl) hB (some ⟨gD, 0, none⟩) 1 1 (sgc ⟨c, d⟩) (by rfl) (fun h => by cases h) rfl (fun ad h => by cases h; exact hNw) (sgc_one _) (by unfold maxLen; omega) (by omega) (HSz.out _ hS) ?_
    intro v5 w6 hown5 hgrow5
    obtain ⟨aE, pE, rfl⟩ := own_val hown5
    refine hK.out _ _ (hS.grown hgrow5 (HSz.out _ hS) (fun k hk => (hB.lt k hk).1)) (fun hS5 => ?_)
    clear hK K
    try simp only [Act.put, List.setIfInBounds_toArray, List.set_cons_zero, List.set_cons_succ]
    clear hB hD hgrow5 hS
    have hE : SgsAt w6 (.slice aE (len + 1) pE) (l ++ [(⟨c, d⟩ : Sg)]) := by
      have h : SgOwn B0 w6 (.slice aE (len + 1) pE) (l ++ [(⟨c, d⟩ : Sg)]) := by
        unfold SgOwn
        rw [List.length_append, List.length_singleton, ← HLe.out, List.flatMap_append]
        simpa using hown5
      exact h.at
    refine wpAnyH_ready (rs := [7]) (by kernel_rfl) (by simp) ?_
    refine AllReadyH.cons (o := ⟨_, _, _, _, _, _⟩) rfl (fun K hK => ?_) AllReadyH.nil
    go_simp
    refine (HGp.out _ (l ++ [⟨c, d⟩]) w6 hE (by rw [List.length_append, ← HLe.out, List.length_singleton]; omega)).mono ?_
    rintro e w7 ⟨vH, rfl, ho, hb⟩
    go_wp2_with fail
    have hS7 : Below B0 w5 w7 := hS5.trans (hb.mono (HSz.out _ hS5))
    have hhat := ho.at
    refine hK.out _ _ hS7 (fun _ => ?_)
    clear hK K
    try simp only [Act.put, List.setIfInBounds_toArray, List.set_cons_zero, List.set_cons_succ]
    refine wpAnyH_take (i := 8) (oi := ⟨_, _, _, _, _, _⟩) (v := ?v66) rfl (by kernel_rfl) (by kernel_rfl) (by kernel_rfl) (fun _ _ _ h => h) ?y66 hS7 ?_
    case y66 => first | (refine Or.inr ⟨by rfl, ?_⟩; with_reducible rfl) | (refine Or.inl ⟨by rfl, ?_⟩; intro wS hSw; go_simp; try with_reducible rfl)
    simp only [Act.put, List.setIfInBounds_toArray, List.set_cons_zero, List.set_cons_succ]
    refine wpAnyH_done (by kernel_rfl) ?_ _
    have HB7 := Lib.hid (HB5.out.trans (hS7.mono HBm.out))
    have HG7 := Lib.hid (HGl.out _ hS7)
    have HH7 := Lib.hid hhat
    have HX7 := Lib.hid ((hS7.block X HXl.out.1).trans HX5.out)
    clear hown5 hS5 hE ho hb hS7 hhat HX5 HY5 HB5 HF HSz HGl HSr HG5
    obtain ⟨ha, hc, rfl⟩ := HH7.out.val
    obtain ⟨nH, hnH⟩ : ∃ nH, nH = (gapsS ⟨a, b⟩ (l ++ [⟨c, d⟩])).length := ⟨_, rfl⟩
    have HNH := Lib.hid hnH
    rw [← hnH] at HH7 ⊢
    have hnH62 : nH ≤ 62 := by have h1 := HGn.out.2; have := HLe.out; rw [List.length_append, List.length_singleton] at h1; omega
    clear hnH
    go_wp2
    go_loopw [9] (fun i wr => ∃ i' : Nat, i' ≤ nG ∧ i = .int .i64 i' ∧ Hid (wr.heap[X]? = some (.cells #[.int .i64 a, .int .i64 b] 23 (0, 0))) ∧ Hid (Below w.heap.size w wr) ∧ Hid (SgsAt wr (.slice ga nG gc) (gapsS ⟨a, b⟩ l)) ∧ Hid (SgsAt wr (.slice ha nH hc) (gapsS ⟨a, b⟩ (l ++ [⟨c, d⟩])))) (fun i _ => nG - (intOf i).toNat)
    case atStart => exact ⟨0, by omega, rfl, HX7, HB7, HG7, HH7⟩
    case round =>
      clear HX7 HB7 HG7 HH7
      obtain ⟨i, hi, rfl, HX, HB, HG, HH⟩ := hrel
      by_cases hlt : i < nG
      · have hlt' : (i : Int) < nG := by omega
        have hiG : i < (gapsS ⟨a, b⟩ l).length := by rw [← HNG.out]; exact hlt
        obtain ⟨hl1, hl2, hl3⟩ := HLaw.out.1 i hiG
        obtain ⟨tb, toff, rfl, -, c0, c1⟩ := HG.out.cells.2.2.2.2 i hiG
        have hrise := HLaw.out.2.1
        obtain ⟨x0, x1⟩ := two_box HX.out
        by_cases hi0 : i = 0
        · have q0 : decide ((0 : Int) < (i : Int)) = false := by simp; omega
          have q0' : ¬ (0 : Int) < (i : Int) := by omega
          have q1 : decide (0 < i) = false := by simp; omega
          obtain ⟨⟨gf, gt⟩, hs⟩ : ∃ s, s = (gapsS ⟨a, b⟩ l)[i] := ⟨_, rfl⟩
          rw [← hs] at c0 c1 hl1 hl2 hl3
          simp only at c0 c1 hl3
          have L1 := Lib.hid (lift_below (w := wr) (fun u => sIn_any gf gt a b u))
          have L2 := Lib.hid (lift_below (w := wr) (fun u => sLen_any gf gt u (by omega)))
          rw [siB_eq, hl1] at L1
          generalize lenS ⟨gf, gt⟩ = zl at L2 hl2
          clear hs hl1 hl3 hrise hi0
          go_upto_region 10 with (fail)
          refine wp_region_held_drew (S := fun u => Below wr.heap.size wr u) (by kernel_rfl) ((Below.refl wr.heap.size wr).drew) (fun hS => ?_)
          refine wpAnyH_take (i := 0) (oi := ⟨_, _, _, _, _, _⟩) (v := ?v1) rfl (by kernel_rfl) (by kernel_rfl) (by kernel_rfl) (fun _ _ _ h => h) ?y1 hS ?_
          case y1 => first | (refine Or.inr ⟨by rfl, ?_⟩; with_reducible rfl) | (refine Or.inl ⟨by rfl, ?_⟩; intro wS hSw; have z0 := cell_later hSw c0; have z1 := cell_later hSw c1; have z2 := cell_later hSw x0; have z3 := cell_later hSw x1; go_simp; try with_reducible rfl)
          simp only [Act.put, List.setIfInBounds_toArray, List.set_cons_zero, List.set_cons_succ]
          refine wpAnyH_take (i := 1) (oi := ⟨_, _, _, _, _, _⟩) (v := ?v2) rfl (by kernel_rfl) (by kernel_rfl) (by kernel_rfl) (fun _ _ _ h => h) ?y2 hS ?_
          case y2 => first | (refine Or.inr ⟨by rfl, ?_⟩; with_reducible rfl) | (refine Or.inl ⟨by rfl, ?_⟩; intro wS hSw; have z0 := cell_later hSw c0; have z1 := cell_later hSw c1; have z2 := cell_later hSw x0; have z3 := cell_later hSw x1; go_simp; try with_reducible rfl)
          simp only [Act.put, List.setIfInBounds_toArray, List.set_cons_zero, List.set_cons_succ]
          refine wpAnyH_take (i := 2) (oi := ⟨_, _, _, _, _, _⟩) (v := ?v3) rfl (by kernel_rfl) (by kernel_rfl) (by kernel_rfl) (fun _ _ _ h => h) ?y3 hS ?_
          case y3 => first | (refine Or.inr ⟨by rfl, ?_⟩; with_reducible rfl) | (refine Or.inl ⟨by rfl, ?_⟩; intro wS hSw; have z0 := cell_later hSw c0; have z1 := cell_later hSw c1; have z2 := cell_later hSw x0; have z3 := cell_later hSw x1; go_simp; try with_reducible rfl)
          simp only [Act.put, List.setIfInBounds_toArray, List.set_cons_zero, List.set_cons_succ]
          refine wpAnyH_take (i := 3) (oi := ⟨_, _, _, _, _, _⟩) (v := ?v4) rfl (by kernel_rfl) (by kernel_rfl) (by kernel_rfl) (fun _ _ _ h => h) ?y4 hS ?_
          case y4 => first | (refine Or.inr ⟨by rfl, ?_⟩; with_reducible rfl) | (refine Or.inl ⟨by rfl, ?_⟩; intro wS hSw; have z0 := cell_later hSw c0; have z1 := cell_later hSw c1; have z2 := cell_later hSw x0; have z3 := cell_later hSw x1; go_simp; try with_reducible rfl)
          simp only [Act.put, List.setIfInBounds_toArray, List.set_cons_zero, List.set_cons_succ]
          refine wpAnyH_take (i := 4) (oi := ⟨_, _, _, _, _, _⟩) (v := ?v5) rfl (by kernel_rfl) (by kernel_rfl) (by kernel_rfl) (fun _ _ _ h => h) ?y5 hS ?_
          case y5 => first | (refine Or.inr ⟨by rfl, ?_⟩; with_reducible rfl) | (refine Or.inl ⟨by rfl, ?_⟩; intro wS hSw; have z0 := cell_later hSw c0; have z1 := cell_later hSw c1; have z2 := cell_later hSw x0; have z3 := cell_later hSw x1; go_simp; try with_reducible rfl)
          simp only [Act.put, List.setIfInBounds_toArray, List.set_cons_zero, List.set_cons_succ]
          refine wpAnyH_ready (rs := [5]) (by kernel_rfl) (by simp) ?_
          refine AllReadyH.cons (o := ⟨_, _, _, _, _, _⟩) rfl (fun K hK => ?_) AllReadyH.nil
          go_simp
          refine (L1.out _ hS).mono ?_
          rintro e wx ⟨rfl, hS⟩
          go_wp2_with fail
          refine hK.out _ _ hS (fun _ => ?_)
          clear hK K
          try simp only [Act.put, List.setIfInBounds_toArray, List.set_cons_zero, List.set_cons_succ]
          refine wpAnyH_take (i := 6) (oi := ⟨_, _, _, _, _, _⟩) (v := ?v6) rfl (by kernel_rfl) (by kernel_rfl) (by kernel_rfl) (fun _ _ _ h => h) ?y6 hS ?_
          case y6 => first | (refine Or.inr ⟨by rfl, ?_⟩; with_reducible rfl) | (refine Or.inl ⟨by rfl, ?_⟩; intro wS hSw; have z0 := cell_later hSw c0; have z1 := cell_later hSw c1; have z2 := cell_later hSw x0; have z3 := cell_later hSw x1; go_simp; try with_reducible rfl)
          simp only [Act.put, List.setIfInBounds_toArray, List.set_cons_zero, List.set_cons_succ]
          refine wpAnyH_take (i := 7) (oi := ⟨_, _, _, _, _, _⟩) (v := ?v7) rfl (by kernel_rfl) (by kernel_rfl) (by kernel_rfl) (fun _ _ _ h => h) ?y7 hS ?_
          case y7 => first | (refine Or.inr ⟨by rfl, ?_⟩; with_reducible rfl) | (refine Or.inl ⟨by rfl, ?_⟩; intro wS hSw; have z0 := cell_later hSw c0; have z1 := cell_later hSw c1; have z2 := cell_later hSw x0; have z3 := cell_later hSw x1; go_simp; try with_reducible rfl)
          simp only [Act.put, List.setIfInBounds_toArray, List.set_cons_zero, List.set_cons_succ]
          refine wpAnyH_take (i := 8) (oi := ⟨_, _, _, _, _, _⟩) (v := ?v8) rfl (by kernel_rfl) (by kernel_rfl) (by kernel_rfl) (fun _ _ _ h => h) ?y8 hS ?_
          case y8 => first | (refine Or.inr ⟨by rfl, ?_⟩; with_reducible rfl) | (refine Or.inl ⟨by rfl, ?_⟩; intro wS hSw; have z0 := cell_later hSw c0; have z1 := cell_later hSw c1; have z2 := cell_later hSw x0; have z3 := cell_later hSw x1; go_simp; try with_reducible rfl)
          simp only [Act.put, List.setIfInBounds_toArray, List.set_cons_zero, List.set_cons_succ]
          refine wpAnyH_take (i := 9) (oi := ⟨_, _, _, _, _, _⟩) (v := ?v9) rfl (by kernel_rfl) (by kernel_rfl) (by kernel_rfl) (fun _ _ _ h => h) ?y9 hS ?_
          case y9 => first | (refine Or.inr ⟨by rfl, ?_⟩; with_reducible rfl) | (refine Or.inl ⟨by rfl, ?_⟩; intro wS hSw; have z0 := cell_later hSw c0; have z1 := cell_later hSw c1; have z2 := cell_later hSw x0; have z3 := cell_later hSw x1; go_simp; try with_reducible rfl)
          simp only [Act.put, List.setIfInBounds_toArray, List.set_cons_zero, List.set_cons_succ]
          refine wpAnyH_take (i := 10) (oi := ⟨_, _, _, _, _, _⟩) (v := ?v10) rfl (by kernel_rfl) (by kernel_rfl) (by kernel_rfl) (fun _ _ _ h => h) ?y10 hS ?_
          case y10 => first | (refine Or.inr ⟨by rfl, ?_⟩; with_reducible rfl) | (refine Or.inl ⟨by rfl, ?_⟩; intro wS hSw; have z0 := cell_later hSw c0; have z1 := cell_later hSw c1; have z2 := cell_later hSw x0; have z3 := cell_later hSw x1; go_simp; try with_reducible rfl)
          simp only [Act.put, List.setIfInBounds_toArray, List.set_cons_zero, List.set_cons_succ]
          refine wpAnyH_take (i := 11) (oi := ⟨_, _, _, _, _, _⟩) (v := ?v11) rfl (by kernel_rfl) (by kernel_rfl) (by kernel_rfl) (fun _ _ _ h => h) ?y11 hS ?_
          case y11 => first | (refine Or.inr ⟨by rfl, ?_⟩; with_reducible rfl) | (refine Or.inl ⟨by rfl, ?_⟩; intro wS hSw; have z0 := cell_later hSw c0; have z1 := cell_later hSw c1; have z2 := cell_later hSw x0; have z3 := cell_later hSw x1; go_simp; try with_reducible rfl)
          simp only [Act.put, List.setIfInBounds_toArray, List.set_cons_zero, List.set_cons_succ]
          refine wpAnyH_ready (rs := [12]) (by kernel_rfl) (by simp) ?_
          refine AllReadyH.cons (o := ⟨_, _, _, _, _, _⟩) rfl (fun K hK => ?_) AllReadyH.nil
          go_simp
          refine (L2.out _ hS).mono ?_
          rintro e wx ⟨rfl, hS⟩
          go_wp2_with fail
          refine hK.out _ _ hS (fun _ => ?_)
          clear hK K
          try simp only [Act.put, List.setIfInBounds_toArray, List.set_cons_zero, List.set_cons_succ]
          refine wpAnyH_take (i := 13) (oi := ⟨_, _, _, _, _, _⟩) (v := ?v12) rfl (by kernel_rfl) (by kernel_rfl) (by kernel_rfl) (fun _ _ _ h => h) ?y12 hS ?_
          case y12 => first | (refine Or.inr ⟨by rfl, ?_⟩; with_reducible rfl) | (refine Or.inl ⟨by rfl, ?_⟩; intro wS hSw; have z0 := cell_later hSw c0; have z1 := cell_later hSw c1; have z2 := cell_later hSw x0; have z3 := cell_later hSw x1; go_simp; try with_reducible rfl)
          simp only [Act.put, List.setIfInBounds_toArray, List.set_cons_zero, List.set_cons_succ]
          refine wpAnyH_take (i := 14) (oi := ⟨_, _, _, _, _, _⟩) (v := ?v13) rfl (by kernel_rfl) (by kernel_rfl) (by kernel_rfl) (fun _ _ _ h => h) ?y13 hS ?_
          case y13 => first | (refine Or.inr ⟨by rfl, ?_⟩; with_reducible rfl) | (refine Or.inl ⟨by rfl, ?_⟩; intro wS hSw; have z0 := cell_later hSw c0; have z1 := cell_later hSw c1; have z2 := cell_later hSw x0; have z3 := cell_later hSw x1; go_simp; try with_reducible rfl)
          simp only [Act.put, List.setIfInBounds_toArray, List.set_cons_zero, List.set_cons_succ]
          refine wpAnyH_take (i := 15) (oi := ⟨_, _, _, _, _, _⟩) (v := ?v14) rfl (by kernel_rfl) (by kernel_rfl) (by kernel_rfl) (fun _ _ _ h => h) ?y14 hS ?_
          case y14 => first | (refine Or.inr ⟨by rfl, ?_⟩; with_reducible rfl) | (refine Or.inl ⟨by rfl, ?_⟩; intro wS hSw; have z0 := cell_later hSw c0; have z1 := cell_later hSw c1; have z2 := cell_later hSw x0; have z3 := cell_later hSw x1; go_simp; try with_reducible rfl)
          simp only [Act.put, List.setIfInBounds_toArray, List.set_cons_zero, List.set_cons_succ]
          refine wpAnyH_take (i := 16) (oi := ⟨_, _, _, _, _, _⟩) (v := ?v15) rfl (by kernel_rfl) (by kernel_rfl) (by kernel_rfl) (fun _ _ _ h => h) ?y15 hS ?_
          case y15 => first | (refine Or.inr ⟨by rfl, ?_⟩; with_reducible rfl) | (refine Or.inl ⟨by rfl, ?_⟩; intro wS hSw; have z0 := cell_later hSw c0; have z1 := cell_later hSw c1; have z2 := cell_later hSw x0; have z3 := cell_later hSw x1; go_simp; try with_reducible rfl)
          simp only [Act.put, List.setIfInBounds_toArray, List.set_cons_zero, List.set_cons_succ]
          refine wpAnyH_take (i := 17) (oi := ⟨_, _, _, _, _, _⟩) (v := ?v16) rfl (by kernel_rfl) (by kernel_rfl) (by kernel_rfl) (fun _ _ _ h => h) ?y16 hS ?_
          case y16 => first | (refine Or.inr ⟨by rfl, ?_⟩; with_reducible rfl) | (refine Or.inl ⟨by rfl, ?_⟩; intro wS hSw; have z0 := cell_later hSw c0; have z1 := cell_later hSw c1; have z2 := cell_later hSw x0; have z3 := cell_later hSw x1; go_simp; try with_reducible rfl)
          simp only [Act.put, List.setIfInBounds_toArray, List.set_cons_zero, List.set_cons_succ]
          refine wpAnyH_take (i := 18) (oi := ⟨_, _, _, _, _, _⟩) (v := ?v17) rfl (by kernel_rfl) (by kernel_rfl) (by kernel_rfl) (fun _ _ _ h => h) ?y17 hS ?_
          case y17 => first | (refine Or.inr ⟨by rfl, ?_⟩; with_reducible rfl) | (refine Or.inl ⟨by rfl, ?_⟩; intro wS hSw; have z0 := cell_later hSw c0; have z1 := cell_later hSw c1; have z2 := cell_later hSw x0; have z3 := cell_later hSw x1; go_simp; try with_reducible rfl)
          simp only [Act.put, List.setIfInBounds_toArray, List.set_cons_zero, List.set_cons_succ]
          refine wpAnyH_take (i := 19) (oi := ⟨_, _, _, _, _, _⟩) (v := ?v18) rfl (by kernel_rfl) (by kernel_rfl) (by kernel_rfl) (fun _ _ _ h => h) ?y18 hS ?_
          case y18 => first | (refine Or.inr ⟨by rfl, ?_⟩; with_reducible rfl) | (refine Or.inl ⟨by rfl, ?_⟩; intro wS hSw; have z0 := cell_later hSw c0; have z1 := cell_later hSw c1; have z2 := cell_later hSw x0; have z3 := cell_later hSw x1; go_simp; try with_reducible rfl)
          simp only [Act.put, List.setIfInBounds_toArray, List.set_cons_zero, List.set_cons_succ]
          refine wpAnyH_take (i := 20) (oi := ⟨_, _, _, _, _, _⟩) (v := ?v19) rfl (by kernel_rfl) (by kernel_rfl) (by kernel_rfl) (fun _ _ _ h => h) ?y19 hS ?_
          case y19 => first | (refine Or.inr ⟨by rfl, ?_⟩; with_reducible rfl) | (refine Or.inl ⟨by rfl, ?_⟩; intro wS hSw; have z0 := cell_later hSw c0; have z1 := cell_later hSw c1; have z2 := cell_later hSw x0; have z3 := cell_later hSw x1; go_simp; try with_reducible rfl)
          simp only [Act.put, List.setIfInBounds_toArray, List.set_cons_zero, List.set_cons_succ]
          refine wpAnyH_take (i := 21) (oi := ⟨_, _, _, _, _, _⟩) (v := ?v20) rfl (by kernel_rfl) (by kernel_rfl) (by kernel_rfl) (fun _ _ _ h => h) ?y20 hS ?_
          case y20 => first | (refine Or.inr ⟨by rfl, ?_⟩; with_reducible rfl) | (refine Or.inl ⟨by rfl, ?_⟩; intro wS hSw; have z0 := cell_later hSw c0; have z1 := cell_later hSw c1; have z2 := cell_later hSw x0; have z3 := cell_later hSw x1; go_simp; try with_reducible rfl)
          simp only [Act.put, List.setIfInBounds_toArray, List.set_cons_zero, List.set_cons_succ]
          refine wpAnyH_take (i := 22) (oi := ⟨_, _, _, _, _, _⟩) (v := ?v21) rfl (by kernel_rfl) (by kernel_rfl) (by kernel_rfl) (fun _ _ _ h => h) ?y21 hS ?_
          case y21 => first | (refine Or.inr ⟨by rfl, ?_⟩; with_reducible rfl) | (refine Or.inl ⟨by rfl, ?_⟩; intro wS hSw; have z0 := cell_later hSw c0; have z1 := cell_later hSw c1; have z2 := cell_later hSw x0; have z3 := cell_later hSw x1; go_simp; try with_reducible rfl)
          simp only [Act.put, List.setIfInBounds_toArray, List.set_cons_zero, List.set_cons_succ]
          refine wpAnyH_take (i := 23) (oi := ⟨_, _, _, _, _, _⟩) (v := ?v22) rfl (by kernel_rfl) (by kernel_rfl) (by kernel_rfl) (fun _ _ _ h => h) ?y22 hS ?_
          case y22 => first | (refine Or.inr ⟨by rfl, ?_⟩; with_reducible rfl) | (refine Or.inl ⟨by rfl, ?_⟩; intro wS hSw; have z0 := cell_later hSw c0; have z1 := cell_later hSw c1; have z2 := cell_later hSw x0; have z3 := cell_later hSw x1; go_simp; try with_reducible rfl)
          simp only [Act.put, List.setIfInBounds_toArray, List.set_cons_zero, List.set_cons_succ]
          refine wpAnyH_take (i := 24) (oi := ⟨_, _, _, _, _, _⟩) (v := ?v23) rfl (by kernel_rfl) (by kernel_rfl) (by kernel_rfl) (fun _ _ _ h => h) ?y23 hS ?_
          case y23 => first | (refine Or.inr ⟨by rfl, ?_⟩; with_reducible rfl) | (refine Or.inl ⟨by rfl, ?_⟩; intro wS hSw; have z0 := cell_later hSw c0; have z1 := cell_later hSw c1; have z2 := cell_later hSw x0; have z3 := cell_later hSw x1; go_simp; try with_reducible rfl)
          simp only [Act.put, List.setIfInBounds_toArray, List.set_cons_zero, List.set_cons_succ]
          refine wpAnyH_take (i := 25) (oi := ⟨_, _, _, _, _, _⟩) (v := ?v24) rfl (by kernel_rfl) (by kernel_rfl) (by kernel_rfl) (fun _ _ _ h => h) ?y24 hS ?_
          case y24 => first | (refine Or.inr ⟨by rfl, ?_⟩; with_reducible rfl) | (refine Or.inl ⟨by rfl, ?_⟩; intro wS hSw; have z0 := cell_later hSw c0; have z1 := cell_later hSw c1; have z2 := cell_later hSw x0; have z3 := cell_later hSw x1; go_simp; try with_reducible rfl)
          simp only [Act.put, List.setIfInBounds_toArray, List.set_cons_zero, List.set_cons_succ]
          refine wpAnyH_take (i := 26) (oi := ⟨_, _, _, _, _, _⟩) (v := ?v25) rfl (by kernel_rfl) (by kernel_rfl) (by kernel_rfl) (fun _ _ _ h => h) ?y25 hS ?_
          case y25 => first | (refine Or.inr ⟨by rfl, ?_⟩; with_reducible rfl) | (refine Or.inl ⟨by rfl, ?_⟩; intro wS hSw; have z0 := cell_later hSw c0; have z1 := cell_later hSw c1; have z2 := cell_later hSw x0; have z3 := cell_later hSw x1; go_simp; try with_reducible rfl)
          simp only [Act.put, List.setIfInBounds_toArray, List.set_cons_zero, List.set_cons_succ]
          refine wpAnyH_take (i := 27) (oi := ⟨_, _, _, _, _, _⟩) (v := ?v26) rfl (by kernel_rfl) (by kernel_rfl) (by kernel_rfl) (fun _ _ _ h => h) ?y26 hS ?_
          case y26 => first | (refine Or.inr ⟨by rfl, ?_⟩; with_reducible rfl) | (refine Or.inl ⟨by rfl, ?_⟩; intro wS hSw; have z0 := cell_later hSw c0; have z1 := cell_later hSw c1; have z2 := cell_later hSw x0; have z3 := cell_later hSw x1; go_simp; try with_reducible rfl)
          simp only [Act.put, List.setIfInBounds_toArray, List.set_cons_zero, List.set_cons_succ]
          refine wpAnyH_take (i := 28) (oi := ⟨_, _, _, _, _, _⟩) (v := ?v27) rfl (by kernel_rfl) (by kernel_rfl) (by kernel_rfl) (fun _ _ _ h => h) ?y27 hS ?_
          case y27 => first | (refine Or.inr ⟨by rfl, ?_⟩; with_reducible rfl) | (refine Or.inl ⟨by rfl, ?_⟩; intro wS hSw; have z0 := cell_later hSw c0; have z1 := cell_later hSw c1; have z2 := cell_later hSw x0; have z3 := cell_later hSw x1; go_simp; try with_reducible rfl)
          simp only [Act.put, List.setIfInBounds_toArray, List.set_cons_zero, List.set_cons_succ]
          refine wpAnyH_take (i := 29) (oi := ⟨_, _, _, _, _, _⟩) (v := ?v28) rfl (by kernel_rfl) (by kernel_rfl) (by kernel_rfl) (fun _ _ _ h => h) ?y28 hS ?_
          case y28 => first | (refine Or.inr ⟨by rfl, ?_⟩; with_reducible rfl) | (refine Or.inl ⟨by rfl, ?_⟩; intro wS hSw; have z0 := cell_later hSw c0; have z1 := cell_later hSw c1; have z2 := cell_later hSw x0; have z3 := cell_later hSw x1; go_simp; try with_reducible rfl)
          simp only [Act.put, List.setIfInBounds_toArray, List.set_cons_zero, List.set_cons_succ]
          refine wpAnyH_take (i := 30) (oi := ⟨_, _, _, _, _, _⟩) (v := ?v29) rfl (by kernel_rfl) (by kernel_rfl) (by kernel_rfl) (fun _ _ _ h => h) ?y29 hS ?_
          case y29 => first | (refine Or.inr ⟨by rfl, ?_⟩; with_reducible rfl) | (refine Or.inl ⟨by rfl, ?_⟩; intro wS hSw; have z0 := cell_later hSw c0; have z1 := cell_later hSw c1; have z2 := cell_later hSw x0; have z3 := cell_later hSw x1; go_simp; try with_reducible rfl)
          simp only [Act.put, List.setIfInBounds_toArray, List.set_cons_zero, List.set_cons_succ]
          refine wpAnyH_take (i := 31) (oi := ⟨_, _, _, _, _, _⟩) (v := ?v30) rfl (by kernel_rfl) (by kernel_rfl) (by kernel_rfl) (fun _ _ _ h => h) ?y30 hS ?_
          case y30 => first | (refine Or.inr ⟨by rfl, ?_⟩; with_reducible rfl) | (refine Or.inl ⟨by rfl, ?_⟩; intro wS hSw; have z0 := cell_later hSw c0; have z1 := cell_later hSw c1; have z2 := cell_later hSw x0; have z3 := cell_later hSw x1; go_simp; try with_reducible rfl)
          simp only [Act.put, List.setIfInBounds_toArray, List.set_cons_zero, List.set_cons_succ]
          refine wpAnyH_take (i := 32) (oi := ⟨_, _, _, _, _, _⟩) (v := ?v31) rfl (by kernel_rfl) (by kernel_rfl) (by kernel_rfl) (fun _ _ _ h => h) ?y31 hS ?_
          case y31 => first | (refine Or.inr ⟨by rfl, ?_⟩; with_reducible rfl) | (refine Or.inl ⟨by rfl, ?_⟩; intro wS hSw; have z0 := cell_later hSw c0; have z1 := cell_later hSw c1; have z2 := cell_later hSw x0; have z3 := cell_later hSw x1; go_simp; try with_reducible rfl)
          simp only [Act.put, List.setIfInBounds_toArray, List.set_cons_zero, List.set_cons_succ]
          refine wpAnyH_done (by kernel_rfl) ?_ _
          have HB2 := Lib.hid (HB.out.trans (hS.mono HB.out.size))
          have HX2 := Lib.hid ((hS.block _ (lt_of_block HX.out)).trans HX.out)
          have HG2 := Lib.hid (HG.out.later hS)
          have HH2 := Lib.hid (HH.out.later hS)
          clear hS c0 c1 x0 x1 L1 L2 HX HB HG HH 
          go_wp2
          go_roundw
          case rel => exact ⟨i + 1, by omega, by go_num, HX2, HB2, HG2, HH2⟩
          case measure => simp [intOf]; omega
        · obtain ⟨j, hj⟩ : ∃ j, i = j + 1 := ⟨i - 1, by omega⟩
          have hjG : j < (gapsS ⟨a, b⟩ l).length := by omega
          have hjr := hrise j (by rw [← hj]; exact hiG)
          obtain ⟨tb', toff', he, -, -, d1⟩ := HG.out.cells.2.2.2.2 j hjG
          simp only [Option.some.injEq, Addr.mk.injEq, and_true] at he
          obtain ⟨rfl, rfl⟩ := he
          have hji : (gapsS ⟨a, b⟩ l)[j + 1]'(by rw [← hj]; exact hiG) = (gapsS ⟨a, b⟩ l)[i] := by
            subst hj
            rfl
          rw [hji] at hjr
          obtain ⟨pt, hpt⟩ : ∃ pt, pt = ((gapsS ⟨a, b⟩ l)[j]).to := ⟨_, rfl⟩
          rw [← hpt] at hjr d1
          obtain ⟨⟨gf, gt⟩, hs⟩ : ∃ s, s = (gapsS ⟨a, b⟩ l)[i] := ⟨_, rfl⟩
          rw [← hs] at c0 c1 hl1 hl2 hl3 hjr
          simp only at c0 c1 hl3 hjr
          have L1 := Lib.hid (lift_below (w := wr) (fun u => sIn_any gf gt a b u))
          have L2 := Lib.hid (lift_below (w := wr) (fun u => sLen_any gf gt u (by omega)))
          rw [siB_eq, hl1] at L1
          generalize lenS ⟨gf, gt⟩ = zl at L2 hl2
          have hjw : IntKind.i64.wrap ((i : Int) - 1) = (j : Int) := by rw [hj]; exact IntWalk.i64_in _ (by omega) |>.trans (by omega)
          have hj2 : (j : Int) < nG := by omega
          have hj3 : (0 : Int) < (i : Int) := by omega
          have hj6 : decide (0 < i) = true := by simp; omega
          have hj5 : decide ((0 : Int) < (i : Int)) = true := by simp; omega
          have hj4 : decide (gf ≤ pt) = false := by simp; omega
          have HJ := Lib.hid hj
          clear hs hl1 hl3 hrise hji hpt hjr hj
          go_upto_region 10 with (fail)
          refine wp_region_held_drew (S := fun u => Below wr.heap.size wr u) (by kernel_rfl) ((Below.refl wr.heap.size wr).drew) (fun hS => ?_)
          refine wpAnyH_take (i := 0) (oi := ⟨_, _, _, _, _, _⟩) (v := ?v32) rfl (by kernel_rfl) (by kernel_rfl) (by kernel_rfl) (fun _ _ _ h => h) ?y32 hS ?_
          case y32 => first | (refine Or.inr ⟨by rfl, ?_⟩; with_reducible rfl) | (refine Or.inl ⟨by rfl, ?_⟩; intro wS hSw; have z0 := cell_later hSw c0; have z1 := cell_later hSw c1; have z2 := cell_later hSw x0; have z3 := cell_later hSw x1; have z4 := cell_later hSw d1; go_simp; try with_reducible rfl)
          simp only [Act.put, List.setIfInBounds_toArray, List.set_cons_zero, List.set_cons_succ]
          refine wpAnyH_take (i := 1) (oi := ⟨_, _, _, _, _, _⟩) (v := ?v33) rfl (by kernel_rfl) (by kernel_rfl) (by kernel_rfl) (fun _ _ _ h => h) ?y33 hS ?_
          case y33 => first | (refine Or.inr ⟨by rfl, ?_⟩; with_reducible rfl) | (refine Or.inl ⟨by rfl, ?_⟩; intro wS hSw; have z0 := cell_later hSw c0; have z1 := cell_later hSw c1; have z2 := cell_later hSw x0; have z3 := cell_later hSw x1; have z4 := cell_later hSw d1; go_simp; try with_reducible rfl)
          simp only [Act.put, List.setIfInBounds_toArray, List.set_cons_zero, List.set_cons_succ]
          refine wpAnyH_take (i := 2) (oi := ⟨_, _, _, _, _, _⟩) (v := ?v34) rfl (by kernel_rfl) (by kernel_rfl) (by kernel_rfl) (fun _ _ _ h => h) ?y34 hS ?_
          case y34 => first | (refine Or.inr ⟨by rfl, ?_⟩; with_reducible rfl) | (refine Or.inl ⟨by rfl, ?_⟩; intro wS hSw; have z0 := cell_later hSw c0; have z1 := cell_later hSw c1; have z2 := cell_later hSw x0; have z3 := cell_later hSw x1; have z4 := cell_later hSw d1; go_simp; try with_reducible rfl)
          simp only [Act.put, List.setIfInBounds_toArray, List.set_cons_zero, List.set_cons_succ]
          refine wpAnyH_take (i := 3) (oi := ⟨_, _, _, _, _, _⟩) (v := ?v35) rfl (by kernel_rfl) (by kernel_rfl) (by kernel_rfl) (fun _ _ _ h => h) ?y35 hS ?_
          case y35 => first | (refine Or.inr ⟨by rfl, ?_⟩; with_reducible rfl) | (refine Or.inl ⟨by rfl, ?_⟩; intro wS hSw; have z0 := cell_later hSw c0; have z1 := cell_later hSw c1; have z2 := cell_later hSw x0; have z3 := cell_later hSw x1; have z4 := cell_later hSw d1; go_simp; try with_reducible rfl)
          simp only [Act.put, List.setIfInBounds_toArray, List.set_cons_zero, List.set_cons_succ]
          refine wpAnyH_take (i := 4) (oi := ⟨_, _, _, _, _, _⟩) (v := ?v36) rfl (by kernel_rfl) (by kernel_rfl) (by kernel_rfl) (fun _ _ _ h => h) ?y36 hS ?_
          case y36 => first | (refine Or.inr ⟨by rfl, ?_⟩; with_reducible rfl) | (refine Or.inl ⟨by rfl, ?_⟩; intro wS hSw; have z0 := cell_later hSw c0; have z1 := cell_later hSw c1; have z2 := cell_later hSw x0; have z3 := cell_later hSw x1; have z4 := cell_later hSw d1; go_simp; try with_reducible rfl)
          simp only [Act.put, List.setIfInBounds_toArray, List.set_cons_zero, List.set_cons_succ]
          refine wpAnyH_ready (rs := [5]) (by kernel_rfl) (by simp) ?_
          refine AllReadyH.cons (o := ⟨_, _, _, _, _, _⟩) rfl (fun K hK => ?_) AllReadyH.nil
          go_simp
          refine (L1.out _ hS).mono ?_
          rintro e wx ⟨rfl, hS⟩
          go_wp2_with fail
          refine hK.out _ _ hS (fun _ => ?_)
          clear hK K
          try simp only [Act.put, List.setIfInBounds_toArray, List.set_cons_zero, List.set_cons_succ]
          refine wpAnyH_take (i := 6) (oi := ⟨_, _, _, _, _, _⟩) (v := ?v37) rfl (by kernel_rfl) (by kernel_rfl) (by kernel_rfl) (fun _ _ _ h => h) ?y37 hS ?_
          case y37 => first | (refine Or.inr ⟨by rfl, ?_⟩; with_reducible rfl) | (refine Or.inl ⟨by rfl, ?_⟩; intro wS hSw; have z0 := cell_later hSw c0; have z1 := cell_later hSw c1; have z2 := cell_later hSw x0; have z3 := cell_later hSw x1; have z4 := cell_later hSw d1; go_simp; try with_reducible rfl)
          simp only [Act.put, List.setIfInBounds_toArray, List.set_cons_zero, List.set_cons_succ]
          refine wpAnyH_take (i := 7) (oi := ⟨_, _, _, _, _, _⟩) (v := ?v38) rfl (by kernel_rfl) (by kernel_rfl) (by kernel_rfl) (fun _ _ _ h => h) ?y38 hS ?_
          case y38 => first | (refine Or.inr ⟨by rfl, ?_⟩; with_reducible rfl) | (refine Or.inl ⟨by rfl, ?_⟩; intro wS hSw; have z0 := cell_later hSw c0; have z1 := cell_later hSw c1; have z2 := cell_later hSw x0; have z3 := cell_later hSw x1; have z4 := cell_later hSw d1; go_simp; try with_reducible rfl)
          simp only [Act.put, List.setIfInBounds_toArray, List.set_cons_zero, List.set_cons_succ]
          refine wpAnyH_take (i := 8) (oi := ⟨_, _, _, _, _, _⟩) (v := ?v39) rfl (by kernel_rfl) (by kernel_rfl) (by kernel_rfl) (fun _ _ _ h => h) ?y39 hS ?_
          case y39 => first | (refine Or.inr ⟨by rfl, ?_⟩; with_reducible rfl) | (refine Or.inl ⟨by rfl, ?_⟩; intro wS hSw; have z0 := cell_later hSw c0; have z1 := cell_later hSw c1; have z2 := cell_later hSw x0; have z3 := cell_later hSw x1; have z4 := cell_later hSw d1; go_simp; try with_reducible rfl)
          simp only [Act.put, List.setIfInBounds_toArray, List.set_cons_zero, List.set_cons_succ]
          refine wpAnyH_take (i := 9) (oi := ⟨_, _, _, _, _, _⟩) (v := ?v40) rfl (by kernel_rfl) (by kernel_rfl) (by kernel_rfl) (fun _ _ _ h => h) ?y40 hS ?_
          case y40 => first | (refine Or.inr ⟨by rfl, ?_⟩; with_reducible rfl) | (refine Or.inl ⟨by rfl, ?_⟩; intro wS hSw; have z0 := cell_later hSw c0; have z1 := cell_later hSw c1; have z2 := cell_later hSw x0; have z3 := cell_later hSw x1; have z4 := cell_later hSw d1; go_simp; try with_reducible rfl)
          simp only [Act.put, List.setIfInBounds_toArray, List.set_cons_zero, List.set_cons_succ]
          refine wpAnyH_take (i := 10) (oi := ⟨_, _, _, _, _, _⟩) (v := ?v41) rfl (by kernel_rfl) (by kernel_rfl) (by kernel_rfl) (fun _ _ _ h => h) ?y41 hS ?_
          case y41 => first | (refine Or.inr ⟨by rfl, ?_⟩; with_reducible rfl) | (refine Or.inl ⟨by rfl, ?_⟩; intro wS hSw; have z0 := cell_later hSw c0; have z1 := cell_later hSw c1; have z2 := cell_later hSw x0; have z3 := cell_later hSw x1; have z4 := cell_later hSw d1; go_simp; try with_reducible rfl)
          simp only [Act.put, List.setIfInBounds_toArray, List.set_cons_zero, List.set_cons_succ]
          refine wpAnyH_take (i := 11) (oi := ⟨_, _, _, _, _, _⟩) (v := ?v42) rfl (by kernel_rfl) (by kernel_rfl) (by kernel_rfl) (fun _ _ _ h => h) ?y42 hS ?_
          case y42 => first | (refine Or.inr ⟨by rfl, ?_⟩; with_reducible rfl) | (refine Or.inl ⟨by rfl, ?_⟩; intro wS hSw; have z0 := cell_later hSw c0; have z1 := cell_later hSw c1; have z2 := cell_later hSw x0; have z3 := cell_later hSw x1; have z4 := cell_later hSw d1; go_simp; try with_reducible rfl)
          simp only [Act.put, List.setIfInBounds_toArray, List.set_cons_zero, List.set_cons_succ]
          refine wpAnyH_ready (rs := [12]) (by kernel_rfl) (by simp) ?_
          refine AllReadyH.cons (o := ⟨_, _, _, _, _, _⟩) rfl (fun K hK => ?_) AllReadyH.nil
          go_simp
          refine (L2.out _ hS).mono ?_
          rintro e wx ⟨rfl, hS⟩
          go_wp2_with fail
          refine hK.out _ _ hS (fun _ => ?_)
          clear hK K
          try simp only [Act.put, List.setIfInBounds_toArray, List.set_cons_zero, List.set_cons_succ]
          refine wpAnyH_take (i := 13) (oi := ⟨_, _, _, _, _, _⟩) (v := ?v43) rfl (by kernel_rfl) (by kernel_rfl) (by kernel_rfl) (fun _ _ _ h => h) ?y43 hS ?_
          case y43 => first | (refine Or.inr ⟨by rfl, ?_⟩; with_reducible rfl) | (refine Or.inl ⟨by rfl, ?_⟩; intro wS hSw; have z0 := cell_later hSw c0; have z1 := cell_later hSw c1; have z2 := cell_later hSw x0; have z3 := cell_later hSw x1; have z4 := cell_later hSw d1; go_simp; try with_reducible rfl)
          simp only [Act.put, List.setIfInBounds_toArray, List.set_cons_zero, List.set_cons_succ]
          refine wpAnyH_take (i := 14) (oi := ⟨_, _, _, _, _, _⟩) (v := ?v44) rfl (by kernel_rfl) (by kernel_rfl) (by kernel_rfl) (fun _ _ _ h => h) ?y44 hS ?_
          case y44 => first | (refine Or.inr ⟨by rfl, ?_⟩; with_reducible rfl) | (refine Or.inl ⟨by rfl, ?_⟩; intro wS hSw; have z0 := cell_later hSw c0; have z1 := cell_later hSw c1; have z2 := cell_later hSw x0; have z3 := cell_later hSw x1; have z4 := cell_later hSw d1; go_simp; try with_reducible rfl)
          simp only [Act.put, List.setIfInBounds_toArray, List.set_cons_zero, List.set_cons_succ]
          refine wpAnyH_take (i := 15) (oi := ⟨_, _, _, _, _, _⟩) (v := ?v45) rfl (by kernel_rfl) (by kernel_rfl) (by kernel_rfl) (fun _ _ _ h => h) ?y45 hS ?_
          case y45 => first | (refine Or.inr ⟨by rfl, ?_⟩; with_reducible rfl) | (refine Or.inl ⟨by rfl, ?_⟩; intro wS hSw; have z0 := cell_later hSw c0; have z1 := cell_later hSw c1; have z2 := cell_later hSw x0; have z3 := cell_later hSw x1; have z4 := cell_later hSw d1; go_simp; try with_reducible rfl)
          simp only [Act.put, List.setIfInBounds_toArray, List.set_cons_zero, List.set_cons_succ]
          refine wpAnyH_take (i := 16) (oi := ⟨_, _, _, _, _, _⟩) (v := ?v46) rfl (by kernel_rfl) (by kernel_rfl) (by kernel_rfl) (fun _ _ _ h => h) ?y46 hS ?_
          case y46 => first | (refine Or.inr ⟨by rfl, ?_⟩; with_reducible rfl) | (refine Or.inl ⟨by rfl, ?_⟩; intro wS hSw; have z0 := cell_later hSw c0; have z1 := cell_later hSw c1; have z2 := cell_later hSw x0; have z3 := cell_later hSw x1; have z4 := cell_later hSw d1; go_simp; try with_reducible rfl)
          simp only [Act.put, List.setIfInBounds_toArray, List.set_cons_zero, List.set_cons_succ]
          refine wpAnyH_take (i := 17) (oi := ⟨_, _, _, _, _, _⟩) (v := ?v47) rfl (by kernel_rfl) (by kernel_rfl) (by kernel_rfl) (fun _ _ _ h => h) ?y47 hS ?_
          case y47 => first | (refine Or.inr ⟨by rfl, ?_⟩; with_reducible rfl) | (refine Or.inl ⟨by rfl, ?_⟩; intro wS hSw; have z0 := cell_later hSw c0; have z1 := cell_later hSw c1; have z2 := cell_later hSw x0; have z3 := cell_later hSw x1; have z4 := cell_later hSw d1; go_simp; try with_reducible rfl)
          simp only [Act.put, List.setIfInBounds_toArray, List.set_cons_zero, List.set_cons_succ]
          refine wpAnyH_take (i := 18) (oi := ⟨_, _, _, _, _, _⟩) (v := ?v48) rfl (by kernel_rfl) (by kernel_rfl) (by kernel_rfl) (fun _ _ _ h => h) ?y48 hS ?_
          case y48 => first | (refine Or.inr ⟨by rfl, ?_⟩; with_reducible rfl) | (refine Or.inl ⟨by rfl, ?_⟩; intro wS hSw; have z0 := cell_later hSw c0; have z1 := cell_later hSw c1; have z2 := cell_later hSw x0; have z3 := cell_later hSw x1; have z4 := cell_later hSw d1; go_simp; try with_reducible rfl)
          simp only [Act.put, List.setIfInBounds_toArray, List.set_cons_zero, List.set_cons_succ]
          refine wpAnyH_take (i := 19) (oi := ⟨_, _, _, _, _, _⟩) (v := ?v49) rfl (by kernel_rfl) (by kernel_rfl) (by kernel_rfl) (fun _ _ _ h => h) ?y49 hS ?_
          case y49 => first | (refine Or.inr ⟨by rfl, ?_⟩; with_reducible rfl) | (refine Or.inl ⟨by rfl, ?_⟩; intro wS hSw; have z0 := cell_later hSw c0; have z1 := cell_later hSw c1; have z2 := cell_later hSw x0; have z3 := cell_later hSw x1; have z4 := cell_later hSw d1; go_simp; try with_reducible rfl)
          simp only [Act.put, List.setIfInBounds_toArray, List.set_cons_zero, List.set_cons_succ]
          refine wpAnyH_take (i := 20) (oi := ⟨_, _, _, _, _, _⟩) (v := ?v50) rfl (by kernel_rfl) (by kernel_rfl) (by kernel_rfl) (fun _ _ _ h => h) ?y50 hS ?_
          case y50 => first | (refine Or.inr ⟨by rfl, ?_⟩; with_reducible rfl) | (refine Or.inl ⟨by rfl, ?_⟩; intro wS hSw; have z0 := cell_later hSw c0; have z1 := cell_later hSw c1; have z2 := cell_later hSw x0; have z3 := cell_later hSw x1; have z4 := cell_later hSw d1; go_simp; try with_reducible rfl)
          simp only [Act.put, List.setIfInBounds_toArray, List.set_cons_zero, List.set_cons_succ]
          refine wpAnyH_take (i := 21) (oi := ⟨_, _, _, _, _, _⟩) (v := ?v51) rfl (by kernel_rfl) (by kernel_rfl) (by kernel_rfl) (fun _ _ _ h => h) ?y51 hS ?_
          case y51 => first | (refine Or.inr ⟨by rfl, ?_⟩; with_reducible rfl) | (refine Or.inl ⟨by rfl, ?_⟩; intro wS hSw; have z0 := cell_later hSw c0; have z1 := cell_later hSw c1; have z2 := cell_later hSw x0; have z3 := cell_later hSw x1; have z4 := cell_later hSw d1; go_simp; try with_reducible rfl)
          simp only [Act.put, List.setIfInBounds_toArray, List.set_cons_zero, List.set_cons_succ]
          refine wpAnyH_take (i := 22) (oi := ⟨_, _, _, _, _, _⟩) (v := ?v52) rfl (by kernel_rfl) (by kernel_rfl) (by kernel_rfl) (fun _ _ _ h => h) ?y52 hS ?_
          case y52 => first | (refine Or.inr ⟨by rfl, ?_⟩; with_reducible rfl) | (refine Or.inl ⟨by rfl, ?_⟩; intro wS hSw; have z0 := cell_later hSw c0; have z1 := cell_later hSw c1; have z2 := cell_later hSw x0; have z3 := cell_later hSw x1; have z4 := cell_later hSw d1; go_simp; try with_reducible rfl)
          simp only [Act.put, List.setIfInBounds_toArray, List.set_cons_zero, List.set_cons_succ]
          refine wpAnyH_take (i := 23) (oi := ⟨_, _, _, _, _, _⟩) (v := ?v53) rfl (by kernel_rfl) (by kernel_rfl) (by kernel_rfl) (fun _ _ _ h => h) ?y53 hS ?_
          case y53 => first | (refine Or.inr ⟨by rfl, ?_⟩; with_reducible rfl) | (refine Or.inl ⟨by rfl, ?_⟩; intro wS hSw; have z0 := cell_later hSw c0; have z1 := cell_later hSw c1; have z2 := cell_later hSw x0; have z3 := cell_later hSw x1; have z4 := cell_later hSw d1; go_simp; try with_reducible rfl)
          simp only [Act.put, List.setIfInBounds_toArray, List.set_cons_zero, List.set_cons_succ]
          refine wpAnyH_take (i := 24) (oi := ⟨_, _, _, _, _, _⟩) (v := ?v54) rfl (by kernel_rfl) (by kernel_rfl) (by kernel_rfl) (fun _ _ _ h => h) ?y54 hS ?_
          case y54 => first | (refine Or.inr ⟨by rfl, ?_⟩; with_reducible rfl) | (refine Or.inl ⟨by rfl, ?_⟩; intro wS hSw; have z0 := cell_later hSw c0; have z1 := cell_later hSw c1; have z2 := cell_later hSw x0; have z3 := cell_later hSw x1; have z4 := cell_later hSw d1; go_simp; try with_reducible rfl)
          simp only [Act.put, List.setIfInBounds_toArray, List.set_cons_zero, List.set_cons_succ]
          refine wpAnyH_take (i := 25) (oi := ⟨_, _, _, _, _, _⟩) (v := ?v55) rfl (by kernel_rfl) (by kernel_rfl) (by kernel_rfl) (fun _ _ _ h => h) ?y55 hS ?_
          case y55 => first | (refine Or.inr ⟨by rfl, ?_⟩; with_reducible rfl) | (refine Or.inl ⟨by rfl, ?_⟩; intro wS hSw; have z0 := cell_later hSw c0; have z1 := cell_later hSw c1; have z2 := cell_later hSw x0; have z3 := cell_later hSw x1; have z4 := cell_later hSw d1; go_simp; try with_reducible rfl)
          simp only [Act.put, List.setIfInBounds_toArray, List.set_cons_zero, List.set_cons_succ]
          refine wpAnyH_take (i := 26) (oi := ⟨_, _, _, _, _, _⟩) (v := ?v56) rfl (by kernel_rfl) (by kernel_rfl) (by kernel_rfl) (fun _ _ _ h => h) ?y56 hS ?_
          case y56 => first | (refine Or.inr ⟨by rfl, ?_⟩; with_reducible rfl) | (refine Or.inl ⟨by rfl, ?_⟩; intro wS hSw; have z0 := cell_later hSw c0; have z1 := cell_later hSw c1; have z2 := cell_later hSw x0; have z3 := cell_later hSw x1; have z4 := cell_later hSw d1; go_simp; try with_reducible rfl)
          simp only [Act.put, List.setIfInBounds_toArray, List.set_cons_zero, List.set_cons_succ]
          refine wpAnyH_take (i := 27) (oi := ⟨_, _, _, _, _, _⟩) (v := ?v57) rfl (by kernel_rfl) (by kernel_rfl) (by kernel_rfl) (fun _ _ _ h => h) ?y57 hS ?_
          case y57 => first | (refine Or.inr ⟨by rfl, ?_⟩; with_reducible rfl) | (refine Or.inl ⟨by rfl, ?_⟩; intro wS hSw; have z0 := cell_later hSw c0; have z1 := cell_later hSw c1; have z2 := cell_later hSw x0; have z3 := cell_later hSw x1; have z4 := cell_later hSw d1; go_simp; try with_reducible rfl)
          simp only [Act.put, List.setIfInBounds_toArray, List.set_cons_zero, List.set_cons_succ]
          refine wpAnyH_take (i := 28) (oi := ⟨_, _, _, _, _, _⟩) (v := ?v58) rfl (by kernel_rfl) (by kernel_rfl) (by kernel_rfl) (fun _ _ _ h => h) ?y58 hS ?_
          case y58 => first | (refine Or.inr ⟨by rfl, ?_⟩; with_reducible rfl) | (refine Or.inl ⟨by rfl, ?_⟩; intro wS hSw; have z0 := cell_later hSw c0; have z1 := cell_later hSw c1; have z2 := cell_later hSw x0; have z3 := cell_later hSw x1; have z4 := cell_later hSw d1; go_simp; try with_reducible rfl)
          simp only [Act.put, List.setIfInBounds_toArray, List.set_cons_zero, List.set_cons_succ]
          refine wpAnyH_take (i := 29) (oi := ⟨_, _, _, _, _, _⟩) (v := ?v59) rfl (by kernel_rfl) (by kernel_rfl) (by kernel_rfl) (fun _ _ _ h => h) ?y59 hS ?_
          case y59 => first | (refine Or.inr ⟨by rfl, ?_⟩; with_reducible rfl) | (refine Or.inl ⟨by rfl, ?_⟩; intro wS hSw; have z0 := cell_later hSw c0; have z1 := cell_later hSw c1; have z2 := cell_later hSw x0; have z3 := cell_later hSw x1; have z4 := cell_later hSw d1; go_simp; try with_reducible rfl)
          simp only [Act.put, List.setIfInBounds_toArray, List.set_cons_zero, List.set_cons_succ]
          refine wpAnyH_take (i := 30) (oi := ⟨_, _, _, _, _, _⟩) (v := ?v60) rfl (by kernel_rfl) (by kernel_rfl) (by kernel_rfl) (fun _ _ _ h => h) ?y60 hS ?_
          case y60 => first | (refine Or.inr ⟨by rfl, ?_⟩; with_reducible rfl) | (refine Or.inl ⟨by rfl, ?_⟩; intro wS hSw; have z0 := cell_later hSw c0; have z1 := cell_later hSw c1; have z2 := cell_later hSw x0; have z3 := cell_later hSw x1; have z4 := cell_later hSw d1; go_simp; try with_reducible rfl)
          simp only [Act.put, List.setIfInBounds_toArray, List.set_cons_zero, List.set_cons_succ]
          refine wpAnyH_take (i := 31) (oi := ⟨_, _, _, _, _, _⟩) (v := ?v61) rfl (by kernel_rfl) (by kernel_rfl) (by kernel_rfl) (fun _ _ _ h => h) ?y61 hS ?_
          case y61 => first | (refine Or.inr ⟨by rfl, ?_⟩; with_reducible rfl) | (refine Or.inl ⟨by rfl, ?_⟩; intro wS hSw; have z0 := cell_later hSw c0; have z1 := cell_later hSw c1; have z2 := cell_later hSw x0; have z3 := cell_later hSw x1; have z4 := cell_later hSw d1; go_simp; try with_reducible rfl)
          simp only [Act.put, List.setIfInBounds_toArray, List.set_cons_zero, List.set_cons_succ]
          refine wpAnyH_take (i := 32) (oi := ⟨_, _, _, _, _, _⟩) (v := ?v62) rfl (by kernel_rfl) (by kernel_rfl) (by kernel_rfl) (fun _ _ _ h => h) ?y62 hS ?_
          case y62 => first | (refine Or.inr ⟨by rfl, ?_⟩; with_reducible rfl) | (refine Or.inl ⟨by rfl, ?_⟩; intro wS hSw; have z0 := cell_later hSw c0; have z1 := cell_later hSw c1; have z2 := cell_later hSw x0; have z3 := cell_later hSw x1; have z4 := cell_later hSw d1; go_simp; try with_reducible rfl)
          simp only [Act.put, List.setIfInBounds_toArray, List.set_cons_zero, List.set_cons_succ]
          refine wpAnyH_done (by kernel_rfl) ?_ _
          have HB2 := Lib.hid (HB.out.trans (hS.mono HB.out.size))
          have HX2 := Lib.hid ((hS.block _ (lt_of_block HX.out)).trans HX.out)
          have HG2 := Lib.hid (HG.out.later hS)
          have HH2 := Lib.hid (HH.out.later hS)
          clear hS c0 c1 x0 x1 L1 L2 HX HB HG HH d1
          go_wp2
          go_roundw
          case rel => exact ⟨i + 1, by omega, by go_num, HX2, HB2, HG2, HH2⟩
          case measure => simp [intOf]; omega
      · have hlt' : ¬ (i : Int) < nG := by omega
        obtain ⟨x0, x1⟩ := two_box HX.out
        go_wp2
        clear x0 x1
        go_loopw [10] (fun v wr => ∃ p : Int, v = .int .i64 p ∧ a ≤ p ∧ (a < p → p ≤ b) ∧ Hid (wr.heap[X]? = some (.cells #[.int .i64 a, .int .i64 b] 23 (0, 0))) ∧ Hid (Below w.heap.size w wr) ∧ Hid (SgsAt wr (.slice ga nG gc) (gapsS ⟨a, b⟩ l)) ∧ Hid (SgsAt wr (.slice ha nH hc) (gapsS ⟨a, b⟩ (l ++ [⟨c, d⟩])))) (fun v _ => (b - intOf v).toNat)
        case atStart => exact ⟨a, rfl, by omega, by omega, HX, HB, HG, HH⟩
        case round =>
          clear HX HB HG HH
          obtain ⟨p, rfl, hp0, hp1, HX, HB, HG, HH⟩ := hrel
          obtain ⟨x0, x1⟩ := two_box HX.out
          by_cases hpb : p < b
          · have hpw : b ≤ a + 200 := hab (by omega)
            go_wp2
            clear x0 x1
            go_loopw [11, 14] (fun o i wr => ∃ k : Nat, k ≤ len ∧ i = .int .i64 k ∧ o = .bool (cov (l.take k) p) ∧ Hid (wr.heap[X]? = some (.cells #[.int .i64 a, .int .i64 b] 23 (0, 0))) ∧ Hid (Below w.heap.size w wr) ∧ Hid (SgsAt wr (.slice ga nG gc) (gapsS ⟨a, b⟩ l)) ∧ Hid (SgsAt wr (.slice ha nH hc) (gapsS ⟨a, b⟩ (l ++ [⟨c, d⟩])))) (fun _ i _ => len - (intOf i).toNat)
            case atStart => exact ⟨0, by omega, rfl, rfl, HX, HB, HG, HH⟩
            case round =>
              clear HX HB HG HH
              obtain ⟨k, hk, rfl, rfl, HX, HB, HG, HH⟩ := hrel
              by_cases hlt : k < len
              · have hlt' : (k : Int) < len := by omega
                have hkL : k < l.length := by rw [← HLe.out]; exact hlt
                obtain ⟨tb, toff, rfl, -, c0, c1⟩ := (H.out.later HB.out).cells.2.2.2.2 k hkL
                have hcs := cov_succ hkL p
                obtain ⟨⟨gf, gt⟩, hs⟩ : ∃ s, s = l[k] := ⟨_, rfl⟩
                rw [← hs] at c0 c1 hcs
                simp only at c0 c1
                have HS := Lib.hid hcs
                have HHs := Lib.hid (fun u => sHas_any gf gt p u)
                rw [shB_eq] at HHs
                generalize hasS ⟨gf, gt⟩ p = hb1 at HHs HS
                clear hs hcs
                cases hq : cov (l.take k) p
                · have HN := Lib.hid (show cov (l.take (k + 1)) p = hb1 from by rw [HS.out, hq, Bool.false_or])
                  clear hq HS
                  go_wp2_with fail
                  refine (HHs.out _).mono ?_
                  rintro e u2 ⟨rfl, hb⟩
                  have HX2 := Lib.hid ((hb.block _ (lt_of_block HX.out)).trans HX.out)
                  have HB2 := Lib.hid (HB.out.trans (hb.mono HB.out.size))
                  have HG2 := Lib.hid (HG.out.later hb)
                  have HH2 := Lib.hid (HH.out.later hb)
                  clear hb c0 c1 HX HB HG HH HHs
                  go_wp2
                  go_roundw
                  case rel => exact ⟨k + 1, by omega, by go_num, by rw [HN.out], HX2, HB2, HG2, HH2⟩
                  case measure => simp [intOf]; omega
                · have HN := Lib.hid (show cov (l.take (k + 1)) p = true from by rw [HS.out, hq, Bool.true_or])
                  clear hq HS c0 c1
                  go_wp2
                  go_roundw
                  case rel => exact ⟨k + 1, by omega, by go_num, by rw [HN.out], HX, HB, HG, HH⟩
                  case measure => simp [intOf]; omega
              · have hlt' : ¬ (k : Int) < len := by omega
                rw [List.take_of_length_le (by rw [← HLe.out]; omega)]
                go_wp2
                go_loopw [12, 15] (fun o i wr => ∃ k : Nat, k ≤ nG ∧ i = .int .i64 k ∧ o = .int .i64 (cntS ((gapsS ⟨a, b⟩ l).take k) p) ∧ Hid (wr.heap[X]? = some (.cells #[.int .i64 a, .int .i64 b] 23 (0, 0))) ∧ Hid (Below w.heap.size w wr) ∧ Hid (SgsAt wr (.slice ga nG gc) (gapsS ⟨a, b⟩ l)) ∧ Hid (SgsAt wr (.slice ha nH hc) (gapsS ⟨a, b⟩ (l ++ [⟨c, d⟩])))) (fun _ i _ => nG - (intOf i).toNat)
                case atStart => exact ⟨0, by omega, rfl, rfl, HX, HB, HG, HH⟩
                case round =>
                  clear HX HB HG HH
                  obtain ⟨k, hk, rfl, rfl, HX, HB, HG, HH⟩ := hrel
                  by_cases hlt : k < nG
                  · have hlt' : (k : Int) < nG := by omega
                    have hkG : k < (gapsS ⟨a, b⟩ l).length := by rw [← HNG.out]; exact hlt
                    have hcs := cnt_succ hkG p
                    have hcl : cntS ((gapsS ⟨a, b⟩ l).take k) p ≤ k := Nat.le_trans List.countP_le_length (by simp; omega)
                    obtain ⟨tb, toff, rfl, -, c0, c1⟩ := HG.out.cells.2.2.2.2 k hkG
                    obtain ⟨⟨gf, gt⟩, hs⟩ : ∃ s, s = (gapsS ⟨a, b⟩ l)[k] := ⟨_, rfl⟩
                    rw [← hs] at c0 c1 hcs
                    simp only at c0 c1
                    have HS := Lib.hid hcs
                    have HHs := Lib.hid (fun u => sHas_any gf gt p u)
                    rw [shB_eq] at HHs
                    generalize cntS ((gapsS ⟨a, b⟩ l).take k) p = cn at hcl HS
                    clear hs hcs
                    go_wp2_with fail
                    refine (HHs.out _).mono ?_
                    rintro e u2 ⟨rfl, hb⟩
                    have HX2 := Lib.hid ((hb.block _ (lt_of_block HX.out)).trans HX.out)
                    have HB2 := Lib.hid (HB.out.trans (hb.mono HB.out.size))
                    have HG2 := Lib.hid (HG.out.later hb)
                    have HH2 := Lib.hid (HH.out.later hb)
                    clear hb c0 c1 HX HB HG HH HHs
                    cases hq : hasS ⟨gf, gt⟩ p
                    · have HN := Lib.hid (show cntS ((gapsS ⟨a, b⟩ l).take (k + 1)) p = cn from by rw [HS.out, hq]; rfl)
                      go_wp2
                      go_roundw
                      case rel => exact ⟨k + 1, by omega, by go_num, by rw [HN.out], HX2, HB2, HG2, HH2⟩
                      case measure => simp [intOf]; omega
                    · have HN := Lib.hid (show cntS ((gapsS ⟨a, b⟩ l).take (k + 1)) p = cn + 1 from by rw [HS.out, hq]; rfl)
                      go_wp2
                      go_roundw
                      case rel => exact ⟨k + 1, by omega, by go_num, by rw [HN.out]; go_num, HX2, HB2, HG2, HH2⟩
                      case measure => simp [intOf]; omega
                  · have hlt' : ¬ (k : Int) < nG := by omega
                    rw [List.take_of_length_le (by rw [← HNG.out]; omega)]
                    go_wp2
                    go_loopw [13, 16] (fun o i wr => ∃ k : Nat, k ≤ nH ∧ i = .int .i64 k ∧ o = .int .i64 (cntS ((gapsS ⟨a, b⟩ (l ++ [(⟨c, d⟩ : Sg)])).take k) p) ∧ Hid (wr.heap[X]? = some (.cells #[.int .i64 a, .int .i64 b] 23 (0, 0))) ∧ Hid (Below w.heap.size w wr) ∧ Hid (SgsAt wr (.slice ga nG gc) (gapsS ⟨a, b⟩ l)) ∧ Hid (SgsAt wr (.slice ha nH hc) (gapsS ⟨a, b⟩ (l ++ [⟨c, d⟩])))) (fun _ i _ => nH - (intOf i).toNat)
                    case atStart => exact ⟨0, by omega, rfl, rfl, HX, HB, HG, HH⟩
                    case round =>
                      clear HX HB HG HH
                      obtain ⟨k, hk, rfl, rfl, HX, HB, HG, HH⟩ := hrel
                      by_cases hlt : k < nH
                      · have hlt' : (k : Int) < nH := by omega
                        have hkG : k < (gapsS ⟨a, b⟩ (l ++ [(⟨c, d⟩ : Sg)])).length := by rw [← HNH.out]; exact hlt
                        have hcs := cnt_succ hkG p
                        have hcl : cntS ((gapsS ⟨a, b⟩ (l ++ [(⟨c, d⟩ : Sg)])).take k) p ≤ k := Nat.le_trans List.countP_le_length (by simp; omega)
                        obtain ⟨tb, toff, rfl, -, c0, c1⟩ := HH.out.cells.2.2.2.2 k hkG
                        obtain ⟨⟨gf, gt⟩, hs⟩ : ∃ s, s = (gapsS ⟨a, b⟩ (l ++ [(⟨c, d⟩ : Sg)]))[k] := ⟨_, rfl⟩
                        rw [← hs] at c0 c1 hcs
                        simp only at c0 c1
                        have HS := Lib.hid hcs
                        have HHs := Lib.hid (fun u => sHas_any gf gt p u)
                        rw [shB_eq] at HHs
                        generalize cntS ((gapsS ⟨a, b⟩ (l ++ [(⟨c, d⟩ : Sg)])).take k) p = cn at hcl HS
                        clear hs hcs
                        go_wp2_with fail
                        refine (HHs.out _).mono ?_
                        rintro e u2 ⟨rfl, hb⟩
                        have HX2 := Lib.hid ((hb.block _ (lt_of_block HX.out)).trans HX.out)
                        have HB2 := Lib.hid (HB.out.trans (hb.mono HB.out.size))
                        have HG2 := Lib.hid (HG.out.later hb)
                        have HH2 := Lib.hid (HH.out.later hb)
                        clear hb c0 c1 HX HB HG HH HHs
                        cases hq : hasS ⟨gf, gt⟩ p
                        · have HN := Lib.hid (show cntS ((gapsS ⟨a, b⟩ (l ++ [(⟨c, d⟩ : Sg)])).take (k + 1)) p = cn from by rw [HS.out, hq]; rfl)
                          go_wp2
                          go_roundw
                          case rel => exact ⟨k + 1, by omega, by go_num, by rw [HN.out], HX2, HB2, HG2, HH2⟩
                          case measure => simp [intOf]; omega
                        · have HN := Lib.hid (show cntS ((gapsS ⟨a, b⟩ (l ++ [(⟨c, d⟩ : Sg)])).take (k + 1)) p = cn + 1 from by rw [HS.out, hq]; rfl)
                          go_wp2
                          go_roundw
                          case rel => exact ⟨k + 1, by omega, by go_num, by rw [HN.out]; go_num, HX2, HB2, HG2, HH2⟩
                          case measure => simp [intOf]; omega
                      · have hlt' : ¬ (k : Int) < nH := by omega
                        rw [List.take_of_length_le (by rw [← HNH.out]; omega)]
                        have HC := Lib.hid (HLaw.out.2.2.1 p hp0 hpb)
                        have HF := Lib.hid (HLaw.out.2.2.2 p hp0 hpb)
                        generalize cntS (gapsS ⟨a, b⟩ l) p = n1 at HC HF ⊢
                        generalize cntS (gapsS ⟨a, b⟩ (l ++ [⟨c, d⟩])) p = n2 at HF ⊢
                        have hf := HF.out
                        have hc := HC.out
                        cases hq : cov l p
                        · rw [hq] at hc
                          have hn1 : n1 = 1 := hc
                          subst hn1
                          have hf1 : ¬ (1 : Int) < (n2 : Int) := by omega
                          have hf2 : decide ((1 : Int) < (n2 : Int)) = false := by simpa using hf1
                          clear hc HC HF
                          go_wp2
                          go_roundw
                          case rel => exact ⟨p + 1, by go_num, by omega, by omega, HX, HB, HG, HH⟩
                          case measure => simp [intOf]; omega
                        · rw [hq] at hc
                          have hn1 : n1 = 0 := hc
                          subst hn1
                          have hf1 : ¬ (0 : Int) < (n2 : Int) := by omega
                          have hf2 : decide ((0 : Int) < (n2 : Int)) = false := by simpa using hf1
                          clear hc HC HF
                          go_wp2
                          go_roundw
                          case rel => exact ⟨p + 1, by go_num, by omega, by omega, HX, HB, HG, HH⟩
                          case measure => simp [intOf]; omega
          · go_wp2
            go_ret
            exact ⟨rfl, HB.out⟩
end Go.Proofs.Ytndminmefacmnaa
